/- What is proved: rows that begin anywhere in their block; maps of lists as functions. No condition beyond those in each statement. -/
import Derived.Test.YtahjgdikjaakbaaC
import Derived.Maps.Keyed
import Derived.DeepKeys4
import Derived.ProofKit
import Derived.Laws.OwnMore
import Derived.Below
namespace Go.Proofs.Ytahjgdikjaakbaa
open Go.RowKit

/-- A slice whose elements are values of one cell, wherever it begins in its block. -/
def Row (w : World) (e : TypeId) (g off cap : Nat) (xs : List Value) : Prop :=
  ∃ cur, w.heap[g]? = some (.cells cur e (0, 0)) ∧ xs.length ≤ cap ∧ cap ≤ maxLen ∧ off + cap ≤ cur.size ∧ (cur.toList.drop off).take xs.length = xs
theorem Row.same {w w' : World} {e : TypeId} {g off cap : Nat} {xs : List Value} (h : Row w e g off cap xs) (he : w'.heap[g]? = w.heap[g]?) : Row w' e g off cap xs := by
  obtain ⟨cur, h1, h2⟩ := h
  exact ⟨cur, he.trans h1, h2⟩
theorem Row.lt {w : World} {e : TypeId} {g off cap : Nat} {xs : List Value} (h : Row w e g off cap xs) : g < w.heap.size := by
  obtain ⟨cur, h1, _⟩ := h
  exact (Array.getElem?_eq_some_iff.1 h1).1
theorem Row.at {w : World} {e : TypeId} {g off cap : Nat} {xs : List Value} (h : Row w e g off cap xs) (i : Nat) (hi : i < xs.length) : w.cell? ⟨g, off + i, none⟩ = some xs[i] := by
  obtain ⟨cur, h1, _, _, h4, h5⟩ := h
  rw [cell_of_row w g (off + i) cur e (0, 0) h1]
  have : ((cur.toList.drop off).take xs.length)[i]? = xs[i]? := by rw [h5]
  rw [List.getElem?_take, if_pos hi, List.getElem?_drop] at this
  rw [← Array.getElem?_toList, this]
  simp [hi]
theorem Row.free {w : World} {e : TypeId} {g off cap : Nat} {xs : List Value} (h : Row w e g off cap xs) (i : Nat) : w.frozen? ⟨g, i, none⟩ = false := by
  obtain ⟨cur, h1, _⟩ := h
  simp [World.frozen?, h1]
theorem Row.tail {w : World} {e : TypeId} {g off cap : Nat} {x : Value} {xs : List Value} (h : Row w e g off (cap + 1) (x :: xs)) : Row w e g (off + 1) cap xs := by
  obtain ⟨cur, h1, h2, h3, h4, h5⟩ := h
  refine ⟨cur, h1, by simpa using h2, by omega, by omega, ?_⟩
  have h6 : ((cur.toList.drop off).take (xs.length + 1)).drop 1 = xs := by
    have : (cur.toList.drop off).take (xs.length + 1) = x :: xs := h5
    rw [this]; rfl
  rw [← h6, List.drop_take]
  simp [List.drop_drop]
theorem run_append_room_off {P : Program} (w : World) (t ty e : TypeId) (i : TypeInfo) (ht : P.underlying t = some (.slice e)) (hi : P.info? e = some i) (hs1 : i.size = 1)
    (g off sLen sCap : Nat) (cur : Array Value) (hg : w.heap[g]? = some (.cells cur e (0, 0)))
    (a : Addr) (m c : Nat) (news : List Value) (hl : news.length = m) (hnews : ∀ j u, news[j]? = some u → w.cell? (a.add j) = some u) (h1 : ∀ u ∈ news, u.oneCell' = true)
    (hroom : sLen + m ≤ sCap) (hfit : off + sLen + m ≤ cur.size) :
    (Builtin.append_ #[t, t] ty #[.slice (some ⟨g, off, none⟩) sLen sCap, .slice (some a) m c]).run P w =
      .ok (.slice (some ⟨g, off, none⟩) (sLen + m) sCap) (w.setRow g (cur.toList.take (off + sLen) ++ news ++ cur.toList.drop (off + sLen + m)).toArray) := by
  subst hl
  have hf := run_firstCells_some (P := P) w i.size news.length a news.length c news (by rw [hs1, Nat.mul_one]) hnews
  have hst := run_storeCells_at P g (off + sLen) e news 0 cur w hg (by simpa using hfit) h1
  simp only [Nat.add_zero] at hst
  have ha : (⟨g, off, none⟩ : Addr).add sLen = ⟨g, off + sLen, none⟩ := by unfold Addr.add; split <;> simp_all
  rw [hs1] at hf
  simp [Builtin.append_, run_underlying ht, sizeOf, typeInfo, hi, hs1, Builtin.lenOf, hroom, hf, ha, hst]
/-- An append of one value to a row of the tower's own. -/
theorem row_push {P : Program} (w : World) (t ty e : TypeId) (i : TypeInfo) (z : Value) (ht : P.underlying t = some (.slice e)) (hi : P.info? e = some i) (hz : i.zero = some z) (hs1 : i.size = 1) (hby : i.bytes ≤ 32) (hzs : z.cells.size = 1)
    {g off cap n : Nat} {xs : List Value} (hn : n = xs.length) (h : Row w e g off cap xs) (hl : xs.length ≤ 100000) (a : Addr) (c : Nat) (x : Value) (hx : w.cell? a = some x) (h1 : x.oneCell' = true) :
    ∃ g' off' cap' w', (Builtin.append_ #[t, t] ty #[.slice (some ⟨g, off, none⟩) n cap, .slice (some a) 1 c]).run P w = .ok (.slice (some ⟨g', off', none⟩) (n + 1) cap') w' ∧
      Row w' e g' off' cap' (xs ++ [x]) ∧ w.grownBy w' (some g) ∧ (g' = g ∨ w.heap.size ≤ g') := by
  subst hn
  obtain ⟨cur, hg, h2, h3, h4, h5⟩ := h
  have hnews : ∀ j u, ([x] : List Value)[j]? = some u → w.cell? (a.add j) = some u := by
    intro j u hj
    match j, hj with
    | 0, hj => cases hj; simpa [Addr.add] using hx
  by_cases hroom : xs.length + 1 ≤ cap
  · have hr := run_append_room_off w t ty e i ht hi hs1 g off xs.length cap cur hg a 1 c [x] rfl hnews (by simpa using h1) hroom (by omega)
    refine ⟨g, off, cap, _, hr, ⟨_, setRow_heap w g cur _ e _ hg, by simpa using hroom, h3, ?_, ?_⟩, ⟨rfl, rfl, rfl, by simp, fun k _ hk => setRow_other w g k _ (fun e => hk (by rw [e]))⟩, .inl rfl⟩
    · simp only [List.size_toArray, List.length_append, List.length_take, List.length_drop, Array.length_toList, List.length_cons, List.length_nil]
      omega
    · have e1 : (cur.toList.take (off + xs.length)).drop off = xs := by
        rw [List.drop_take]
        rw [show off + xs.length - off = xs.length by omega]
        exact h5
      have hle : (cur.toList.take (off + xs.length)).length = off + xs.length := by rw [List.length_take]; have e9 : cur.toList.length = cur.size := Array.length_toList; omega
      show ((cur.toList.take (off + xs.length) ++ [x] ++ cur.toList.drop (off + xs.length + 1)).drop off).take (xs ++ [x]).length = xs ++ [x]
      rw [List.append_assoc, List.drop_append_of_le_length (by rw [hle]; omega), e1, ← List.append_assoc]
      exact List.take_left
  · have holds : ∀ j u, xs[j]? = some u → w.cell? ((⟨g, off, none⟩ : Addr).add j) = some u := by
      intro j u hj
      obtain ⟨hj1, hj2⟩ := List.getElem?_eq_some_iff.1 hj
      have ha : (⟨g, off, none⟩ : Addr).add j = ⟨g, off + j, none⟩ := by unfold Addr.add; split <;> simp_all
      rw [ha, (show Row w e g off cap xs from ⟨cur, hg, h2, h3, h4, h5⟩).at j hj1, hj2]
    have hr := run_append_grow (P := P) w t ty e i z ht hi hz ⟨g, off, none⟩ xs.length cap xs (by rw [hs1, Nat.mul_one]) holds a 1 c [x] (by rw [hs1]; rfl) hnews (by omega) (by omega) (growslice_fits (by omega) (by
      have : (xs.length + 1) * i.bytes ≤ 100001 * 32 := Nat.mul_le_mul (by omega) hby
      omega))
    have hge := grownCap_ge w (xs.length + 1) cap e
    have hcm : grownCap w (xs.length + 1) cap e ≤ maxLen := grownCap_le_maxLen w (xs.length + 1) cap e (by simp [maxLen]; omega)
    refine ⟨_, 0, _, _, hr, ⟨_, heap_alloc_new w.drew _, by simpa using hge, hcm, ?_, ?_⟩, ⟨rfl, rfl, rfl, by simp, fun k hk _ => _root_.Go.heap_alloc_old w.drew _ hk⟩, .inr (Nat.le_refl _)⟩
    · simp only [Array.size_append, List.size_toArray, size_zeroCells, hzs, List.length_cons, List.length_nil]
      omega
    · simp only [Array.toList_append, List.drop_zero]
      exact List.take_left
section
open Go.ChangeMaps Go.MapKept
open Go.Maps (Keyed)
def keyV (i j : Nat) : Value := .agg #[.int .i64 i, .int .i64 j]
theorem keyV_inj {i j i' j' : Nat} (h : keyV i j = keyV i' j') : i = i' ∧ j = j' := by
  simp [keyV] at h
  omega
def nilV : Value := .slice none 0 0
def upd (f : Nat → Nat → Value) (i j : Nat) (v : Value) : Nat → Nat → Value := fun a b => if a = i ∧ b = j then v else f a b
theorem upd_same (f : Nat → Nat → Value) (i j : Nat) (v : Value) : upd f i j v i j = v := by simp [upd]
theorem upd_other {f : Nat → Nat → Value} {i j a b : Nat} {v : Value} (h : ¬ (a = i ∧ b = j)) : upd f i j v a b = f a b := by simp [upd, h]
/-- A map of lists of messages, as a function. -/
def FlE (n : Nat) (f : Nat → Nat → Value) (es : Array MapEntry) (clock : Nat) : Prop :=
  Stamped es clock ∧ (∀ x ∈ es.toList, ∃ i j, i < n ∧ j < n ∧ x.key = keyV i j ∧ x.val = f i j) ∧ (∀ i j, i < n → j < n → (∀ x ∈ es.toList, x.key ≠ keyV i j) → f i j = nilV)
def FlAt (w : World) (b n : Nat) (f : Nat → Nat → Value) : Prop := ∃ es clock, w.heap[b]? = some (.map es clock) ∧ FlE n f es clock
theorem FlAt.same {w w' : World} {b n : Nat} {f : Nat → Nat → Value} (h : FlAt w b n f) (e : w'.heap[b]? = w.heap[b]?) : FlAt w' b n f := by
  obtain ⟨es, clock, h1, h2⟩ := h
  exact ⟨es, clock, e.trans h1, h2⟩
theorem FlAt.lt {w : World} {b n : Nat} {f : Nat → Nat → Value} (h : FlAt w b n f) : b < w.heap.size := by
  obtain ⟨es, clock, h1, _⟩ := h
  exact (Array.getElem?_eq_some_iff.1 h1).1
theorem fl_made (w : World) (n : Nat) : FlAt (w.alloc (.map #[] 0)) w.heap.size n (fun _ _ => nilV) :=
  ⟨#[], 0, by show (w.heap.push _)[w.heap.size]? = _; simp, stamped_empty 0, by simp, fun _ _ _ _ _ => rfl⟩
section
variable {P : Program} {k e t : TypeId} {n : Nat}
/-- What the laws ask of the program: keys of two small numbers are keys. -/
def KeysOk (P : Program) (k n : Nat) : Prop := ∀ i j, i < n → j < n → ∃ l, keyOf P k (keyV i j) = some l
theorem FlE.keys {n : Nat} {f : Nat → Nat → Value} {es : Array MapEntry} {clock : Nat} (h : FlE n f es clock) (H : KeysOk P k n) : ∀ x ∈ es.toList, ∃ l, keyOf P k x.key = some l := by
  intro x hx
  obtain ⟨i, j, hi, hj, e, _⟩ := h.2.1 x hx
  rw [e]
  exact H i j hi hj
theorem fl_lookup (K : Keyed P k) (ht : P.underlying t = some (.map k e)) (H : KeysOk P k n) {w : World} {b : Nat} {f : Nat → Nat → Value} (hz : (zeroValue e).run P w = .ok nilV w) (h : FlAt w b n f) {i j : Nat} (hi : i < n) (hj : j < n) :
    (Instr.lookup t (.map (some b)) (keyV i j) false).run P w = .ok (f i j) w := by
  obtain ⟨es, clock, hb, hE⟩ := h
  obtain ⟨l, hkey⟩ := H i j hi hj
  rcases K.find w hkey es.toList (hE.keys H) with ⟨h1, h2⟩ | ⟨q, e0, h1, h2, h3⟩
  · rw [hE.2.2 i j hi hj h2]
    simp [Instr.lookup, run_underlying ht, MapKept.run_getObj_map hb, K.check w _ hkey, h1, hz, Result.andThen]
  · obtain ⟨i', j', _, _, ek, ev⟩ := hE.2.1 e0 (List.mem_of_getElem? h2)
    obtain ⟨rfl, rfl⟩ := keyV_inj (ek.symm.trans h3)
    rw [← ev]
    simp [Instr.lookup, run_underlying ht, MapKept.run_getObj_map hb, K.check w _ hkey, h1, Result.andThen]
theorem fle_push {n : Nat} {f : Nat → Nat → Value} {es : Array MapEntry} {clock : Nat} (hE : FlE n f es clock) {i j : Nat} (hi : i < n) (hj : j < n) (h2 : ∀ x ∈ es.toList, x.key ≠ keyV i j) (v : Value) :
    FlE n (upd f i j v) (es.push ⟨keyV i j, v, clock⟩) (clock + 1) := by
  refine ⟨stamped_push hE.1 h2, ?_, ?_⟩
  · intro x hx
    simp only [Array.toList_push, List.mem_append, List.mem_singleton] at hx
    rcases hx with hx | rfl
    · obtain ⟨a, b, ha, hb, e1, e2⟩ := hE.2.1 x hx
      refine ⟨a, b, ha, hb, e1, ?_⟩
      rw [upd_other (fun h => h2 x hx (by rw [e1, h.1, h.2]))]
      exact e2
    · exact ⟨i, j, hi, hj, rfl, (upd_same f i j v).symm⟩
  · intro a b ha hb hno
    have hne : ¬ (a = i ∧ b = j) := by
      rintro ⟨rfl, rfl⟩
      exact hno ⟨keyV a b, v, clock⟩ (by simp) rfl
    rw [upd_other hne]
    exact hE.2.2 a b ha hb fun x hx => hno x (by simp [hx])
theorem mem_modify {es : Array MapEntry} {q : Nat} {g : MapEntry → MapEntry} {x : MapEntry} (h : x ∈ (es.modify q g).toList) : ∃ p e, es[p]? = some e ∧ x = if q = p then g e else e := by
  rw [Array.mem_toList_iff, Array.mem_iff_getElem?] at h
  obtain ⟨p, hp⟩ := h
  rw [Array.getElem?_modify] at hp
  split at hp
  · rename_i hq
    cases he : es[p]? with
    | none => rw [he] at hp; cases hp
    | some e => rw [he] at hp; exact ⟨p, e, he, by rw [if_pos hq]; cases hp; rfl⟩
  · rename_i hq
    exact ⟨p, x, hp, by rw [if_neg hq]⟩
theorem fle_modify {n : Nat} {f : Nat → Nat → Value} {es : Array MapEntry} {clock : Nat} (hE : FlE n f es clock) {i j q : Nat} (hi : i < n) (hj : j < n) {e0 : MapEntry} (h2 : es[q]? = some e0) (h3 : e0.key = keyV i j) (v : Value) :
    FlE n (upd f i j v) (es.modify q fun e => { e with key := keyV i j, val := v }) clock := by
  have hst := stamped_modify hE.1 q (fun e => { e with key := keyV i j, val := v }) (fun _ _ => rfl) (fun e' _ he' => by rw [h2] at he'; cases he'; exact h3.symm)
  have hkk : (es.toList.map (·.key)).Nodup := hE.1.2.2
  have uniq : ∀ p e, es[p]? = some e → e.key = keyV i j → p = q := by
    intro p e hp hk
    obtain ⟨hp1, hp2⟩ := Array.getElem?_eq_some_iff.1 hp
    obtain ⟨hq1, hq2⟩ := Array.getElem?_eq_some_iff.1 h2
    have hl1 : p < (es.toList.map (·.key)).length := by simpa using hp1
    have hl2 : q < (es.toList.map (·.key)).length := by simpa using hq1
    have e1 : (es.toList.map (·.key))[p] = (es.toList.map (·.key))[q] := by
      simp [hp2, hq2, hk, h3]
    exact (List.getElem_inj hkk).1 e1
  refine ⟨hst, ?_, ?_⟩
  · intro x hx
    obtain ⟨p, e, hp, rfl⟩ := mem_modify hx
    by_cases hqp : q = p
    · rw [if_pos hqp]
      exact ⟨i, j, hi, hj, rfl, (upd_same f i j v).symm⟩
    · rw [if_neg hqp]
      obtain ⟨a, b, ha, hb, e1, e2⟩ := hE.2.1 e (by rw [Array.mem_toList_iff]; exact Array.mem_of_getElem? hp)
      refine ⟨a, b, ha, hb, e1, ?_⟩
      rw [upd_other (fun h => hqp (uniq p e hp (by rw [e1, h.1, h.2])).symm)]
      exact e2
  · intro a b ha hb hno
    have hmem : ({ e0 with key := keyV i j, val := v } : MapEntry) ∈ (es.modify q fun e => { e with key := keyV i j, val := v }).toList := by
      rw [Array.mem_toList_iff, Array.mem_iff_getElem?]
      exact ⟨q, by rw [Array.getElem?_modify, if_pos rfl, h2]; rfl⟩
    have hne : ¬ (a = i ∧ b = j) := by
      rintro ⟨rfl, rfl⟩
      exact hno _ hmem rfl
    rw [upd_other hne]
    refine hE.2.2 a b ha hb fun x hx hk => ?_
    rw [Array.mem_toList_iff, Array.mem_iff_getElem?] at hx
    obtain ⟨p, hp⟩ := hx
    have hqp : q ≠ p := by
      rintro rfl
      rw [h2] at hp
      cases hp
      exact hne (keyV_inj (hk.symm.trans h3))
    exact hno x (by rw [Array.mem_toList_iff, Array.mem_iff_getElem?]; exact ⟨p, by rw [Array.getElem?_modify, if_neg hqp]; exact hp⟩) hk
theorem fl_update (K : Keyed P k) (ht : P.underlying t = some (.map k e)) (H : KeysOk P k n) {w : World} {b : Nat} {f : Nat → Nat → Value} (h : FlAt w b n f) {i j : Nat} (hi : i < n) (hj : j < n) (v : Value) :
    ∃ w', (Instr.mapUpdate t (.map (some b)) (keyV i j) v).run P w = .ok () w' ∧ FlAt w' b n (upd f i j v) ∧ w.grownBy w' (some b) := by
  obtain ⟨es, clock, hb, hE⟩ := h
  obtain ⟨l, hkey⟩ := H i j hi hj
  have hgr : ∀ o, w.grownBy (setBlock w b o) (some b) := fun o => ⟨rfl, rfl, rfl, by simp [setBlock], fun a _ ha => heap_setBlock_other hb _ (fun e => ha (by rw [e]))⟩
  rcases K.find w hkey es.toList (hE.keys H) with ⟨h1, h2⟩ | ⟨q, e0, h1, h2, h3⟩
  · refine ⟨setBlock w b (.map (es.push ⟨keyV i j, v, clock⟩) (clock + 1)), ?_, ⟨_, _, heap_setBlock_same hb _, fle_push hE hi hj h2 v⟩, hgr _⟩
    simp [Instr.mapUpdate, run_underlying ht, MapKept.run_getObj_map hb, K.check w false hkey, h1, MapKept.run_setObj_map _ hb, Result.andThen, setBlock]
  · have h2' : es[q]? = some e0 := by simpa using h2
    have hs := K.stays w hkey
    refine ⟨setBlock w b (.map (es.modify q fun e => { e with key := keyV i j, val := v }) clock), ?_, ⟨_, _, heap_setBlock_same hb _, fle_modify hE hi hj h2' h3 v⟩, hgr _⟩
    simp [Instr.mapUpdate, run_underlying ht, MapKept.run_getObj_map hb, K.check w false hkey, h1, h2', h3, hs, MapKept.run_setObj_map _ hb, Result.andThen, setBlock]
/-- Between mapEntry and entryStore: the entry is there, and the stamp is its own. -/
def FlP (w : World) (b n : Nat) (f : Nat → Nat → Value) (i j st : Nat) : Prop :=
  ∃ es clock, w.heap[b]? = some (.map es clock) ∧ FlE n f es clock ∧ ∃ (q : Nat) (e0 : MapEntry), es[q]? = some e0 ∧ e0.key = keyV i j ∧ e0.born = st
theorem FlP.same {w w' : World} {b n i j st : Nat} {f : Nat → Nat → Value} (h : FlP w b n f i j st) (e : w'.heap[b]? = w.heap[b]?) : FlP w' b n f i j st := by
  obtain ⟨es, clock, h1, h2⟩ := h
  exact ⟨es, clock, e.trans h1, h2⟩
theorem FlP.at {w : World} {b n i j st : Nat} {f : Nat → Nat → Value} (h : FlP w b n f i j st) : FlAt w b n f := by
  obtain ⟨es, clock, h1, h2, _⟩ := h
  exact ⟨es, clock, h1, h2⟩
theorem fle_congr {f f' : Nat → Nat → Value} {es : Array MapEntry} {clock : Nat} (h : FlE n f es clock) (e : ∀ i j, f i j = f' i j) : FlE n f' es clock :=
  ⟨h.1, fun x hx => by
    obtain ⟨i, j, hi, hj, h1, h2⟩ := h.2.1 x hx
    exact ⟨i, j, hi, hj, h1, by rw [← e]; exact h2⟩, fun i j hi hj hx => by rw [← e]; exact h.2.2 i j hi hj hx⟩
theorem upd_id (f : Nat → Nat → Value) (i j a b : Nat) : upd f i j (f i j) a b = f a b := by
  unfold upd
  split
  · rename_i h
    rw [h.1, h.2]
  · rfl
theorem fl_entry (K : Keyed P k) (ht : P.underlying t = some (.map k e)) (H : KeysOk P k n) {w : World} {b : Nat} {f : Nat → Nat → Value} (hz : (zeroValue e).run P w = .ok nilV w) (h : FlAt w b n f) {i j : Nat} (hi : i < n) (hj : j < n) :
    ∃ (st : Nat) (w' : World), (Instr.mapEntry t (.map (some b)) (keyV i j)).run P w = .ok (.tuple #[f i j, goInt st]) w' ∧ FlP w' b n f i j st ∧ w.grownBy w' (some b) := by
  obtain ⟨es, clock, hb, hE⟩ := h
  obtain ⟨l, hkey⟩ := H i j hi hj
  have hgr : ∀ o, w.grownBy (setBlock w b o) (some b) := fun o => ⟨rfl, rfl, rfl, by simp [setBlock], fun a _ ha => heap_setBlock_other hb _ (fun e => ha (by rw [e]))⟩
  rcases K.find w hkey es.toList (hE.keys H) with ⟨h1, h2⟩ | ⟨q, e0, h1, h2, h3⟩
  · have hn := hE.2.2 i j hi hj h2
    have hE2 : FlE n f (es.push ⟨keyV i j, nilV, clock⟩) (clock + 1) := fle_congr (fle_push hE hi hj h2 nilV) (fun a c => by rw [← hn]; exact upd_id f i j a c)
    refine ⟨clock, setBlock w b (.map (es.push ⟨keyV i j, nilV, clock⟩) (clock + 1)), ?_, ⟨_, _, heap_setBlock_same hb _, hE2, es.size, ⟨keyV i j, nilV, clock⟩, by simp, rfl, rfl⟩, hgr _⟩
    rw [hn]
    simp [Instr.mapEntry, run_underlying ht, MapKept.run_getObj_map hb, K.check w false hkey, h1, hz, MapKept.run_setObj_map _ hb, Result.andThen, setBlock]
  · have h2' : es[q]? = some e0 := by simpa using h2
    have hs := K.stays w hkey
    obtain ⟨i', j', _, _, ek, ev⟩ := hE.2.1 e0 (List.mem_of_getElem? h2)
    obtain ⟨rfl, rfl⟩ := keyV_inj (ek.symm.trans h3)
    have hmod : (es.modify q fun e => { e with key := keyV i' j' }) = es := by
      apply Array.ext_getElem?
      intro p
      rw [Array.getElem?_modify]
      split
      · rename_i hqp
        subst hqp
        rw [h2']
        simp [← h3]
      · rfl
    refine ⟨e0.born, w, ?_, ⟨_, _, hb, hE, q, e0, h2', h3, rfl⟩, ⟨rfl, rfl, rfl, Nat.le_refl _, fun _ _ _ => rfl⟩⟩
    rw [← ev]
    have hw : setBlock w b (.map es clock) = w := by
      unfold setBlock
      congr 1
      apply Array.ext_getElem?
      intro p
      by_cases hp : p = b
      · subst hp
        rw [(heap_set hb).1, hb]
      · rw [(heap_set hb).2 p hp]
    have hrun : (Instr.mapEntry t (.map (some b)) (keyV i' j')).run P w = .ok (.tuple #[e0.val, goInt e0.born]) (setBlock w b (.map (es.modify q fun e => { e with key := keyV i' j' }) clock)) := by
      simp [Instr.mapEntry, run_underlying ht, MapKept.run_getObj_map hb, K.check w false hkey, h1, h2', h3, hs, MapKept.run_setObj_map _ hb, Result.andThen, setBlock]
    rw [hrun, hmod, hw]
theorem fl_store {w : World} {b i j st : Nat} {f : Nat → Nat → Value} (h : FlP w b n f i j st) (hi : i < n) (hj : j < n) (v : Value) :
    ∃ w', (Instr.entryStore t (.map (some b)) (goInt st) v).run P w = .ok () w' ∧ FlAt w' b n (upd f i j v) ∧ w.grownBy w' (some b) := by
  obtain ⟨es, clock, hb, hE, q, e0, h2, h3, h4⟩ := h
  have hgr : ∀ o, w.grownBy (setBlock w b o) (some b) := fun o => ⟨rfl, rfl, rfl, by simp [setBlock], fun a _ ha => heap_setBlock_other hb _ (fun e => ha (by rw [e]))⟩
  have hborn : (es.toList.map (·.born)).Nodup := hE.1.2.1
  obtain ⟨hq1, hq2⟩ := Array.getElem?_eq_some_iff.1 h2
  have hfi : es.findIdx? (fun e => (e.born : Int) == (st : Int)) = some q := by
    rw [Array.findIdx?_eq_some_iff_getElem]
    refine ⟨hq1, by rw [hq2, h4]; simp, fun p hp => ?_⟩
    have hp1 : p < es.size := by omega
    intro hpe
    have hpe' : es[p].born = es[q].born := by
      have h9 : ((es[p].born : Nat) : Int) = (st : Int) := by simpa using hpe
      rw [hq2, h4]; omega
    have hl1 : p < (es.toList.map (·.born)).length := by simpa using hp1
    have hl2 : q < (es.toList.map (·.born)).length := by simpa using hq1
    have e1 : (es.toList.map (·.born))[p] = (es.toList.map (·.born))[q] := by simpa using hpe'
    have := (List.getElem_inj hborn).1 e1
    omega
  have hmod : (es.modify q fun e => { e with val := v }) = (es.modify q fun e => { e with key := keyV i j, val := v }) := by
    apply Array.ext_getElem?
    intro p
    rw [Array.getElem?_modify, Array.getElem?_modify]
    split
    · rename_i hqp
      subst hqp
      rw [h2]
      simp [← h3]
    · rfl
  refine ⟨setBlock w b (.map (es.modify q fun e => { e with val := v }) clock), ?_, ⟨_, _, heap_setBlock_same hb _, by rw [hmod]; exact fle_modify hE hi hj h2 h3 v⟩, hgr _⟩
  simp [Instr.entryStore, MapKept.run_getObj_map hb, asInt, asIntOf, goInt, hfi, MapKept.run_setObj_map _ hb, Result.andThen, setBlock]
end
end
theorem laidOut : laidOutB Try.prog = true := by kernel_rfl
theorem row68 : (68 : Nat) < Try.prog.types.size := of_decide_eq_true (by kernel_rfl)
theorem law68 : Go.Maps.Keyed Try.prog 68 := Go.Maps.Keyed.of_law (deep_law_laid laidOut (m := 2) (by omega) row68 (by kernel_rfl) (by rw [Try.underlying68]))
theorem keysOk6 : KeysOk Try.prog 68 6 := by
  have h : ∀ i, i < 6 → ∀ j, j < 6 → (keyOf Try.prog 68 (keyV i j)).isSome = true := by decide +kernel
  intro i j hi hj
  exact Option.isSome_iff_exists.1 (h i hi j hj)
theorem zero67 (w : World) : (zeroValue 67).run Try.prog w = .ok nilV w := by kernel_rfl
end Go.Proofs.Ytahjgdikjaakbaa
