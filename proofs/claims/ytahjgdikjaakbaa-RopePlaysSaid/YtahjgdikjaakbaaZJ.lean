/- What is proved: a tower that is being cloned. No condition beyond those in each statement. -/
import Derived.Test.YtahjgdikjaakbaaZI
namespace Go.Proofs.Ytahjgdikjaakbaa
open Go.RowKit

/-- A clone with the messages G so far. -/
structure Par0 (w : World) (t : TS) (T : Nat) (c2 c3 : Value) (G : Nat → Nat → List Msg) (s : LS) (wr : World) : Prop where
  low : Low wr T s
  en : s.n = t.n
  em : s.mood = t.mood
  ek : s.known = t.known
  eh : s.holder = t.holder
  ee : s.sent = t.sent
  e2 : s.c2 = c2
  e3 : s.c3 = c3
  ms : ∀ i j, i < t.n → j < t.n → s.ms i j = (G i j).map (enc s.tsv s.tqv)
  found : (t.holder ≠ -1 ∨ ∃ i j, i < t.n ∧ j < t.n ∧ .tok ∈ G i j) → s.served = t.served ∧ s.queue = t.queue
  hold : t.holder ≠ -1 → s.tsv = c2 ∧ s.tqv = c3
  fps : ∀ g, fp T s g → w.heap.size ≤ g
  bel : Below w.heap.size w wr
section
variable {w wr w1 x : World} {t : TS} {T : Nat} {c2 c3 : Value} {G : Nat → Nat → List Msg} {s : LS}
theorem Par0.below (P : Par0 w t T c2 c3 G s wr) (hb : Below wr.heap.size wr w1) : Par0 w t T c2 c3 G s w1 :=
  ⟨P.low.below hb, P.en, P.em, P.ek, P.eh, P.ee, P.e2, P.e3, P.ms, P.found, P.hold, P.fps, P.bel.trans (hb.mono P.bel.size)⟩
theorem Par0.congr {G' : Nat → Nat → List Msg} (P : Par0 w t T c2 c3 G s wr) (e : ∀ i j, i < t.n → j < t.n → G i j = G' i j) : Par0 w t T c2 c3 G' s wr :=
  ⟨P.low, P.en, P.em, P.ek, P.eh, P.ee, P.e2, P.e3, fun i j hi hj => by rw [← e i j hi hj]; exact P.ms i j hi hj, fun h => P.found (h.imp id fun ⟨i, j, hi, hj, h⟩ => ⟨i, j, hi, hj, by rw [e i j hi hj]; exact h⟩), P.hold, P.fps, P.bel⟩
theorem Par0.same (P : Par0 w t T c2 c3 G s wr) (e : ∀ g, fp T s g → w1.heap[g]? = wr.heap[g]?) (hb : Below w.heap.size w w1) : Par0 w t T c2 c3 G s w1 :=
  ⟨P.low.same fun y g hy => e g ⟨y, hy⟩, P.en, P.em, P.ek, P.eh, P.ee, P.e2, P.e3, P.ms, P.found, P.hold, P.fps, hb⟩
/-- No token so far. -/
theorem par_same_no {t : TS} (I : Inv t) {i j k : Nat} (hi : i < t.n) (hj : j < t.n) (hk : k < (t.fl i j).length) (hm : (t.fl i j)[k] = .tok) (G : Nat → Nat → List Msg) (hG : ∀ a b, a < t.n → b < t.n → G a b = [] ∨ G a b = t.fl a b) :
    t.holder = -1 ∧ ∀ a b, a < t.n → b < t.n → .tok ∉ updF G i j ((t.fl i j).take k) a b := by
  have hmem : Msg.tok ∈ t.fl i j := by rw [← hm]; exact List.getElem_mem hk
  have hh : t.holder = -1 := by
    by_cases e : t.holder = -1
    · exact e
    · exact absurd hmem (I.tk0 e i j hi hj)
  obtain ⟨a0, b0, ha0, hb0, _, _, h5, h6⟩ := I.tk hh
  have hab : i = a0 ∧ j = b0 := by
    by_cases e : i = a0 ∧ j = b0
    · exact e
    · exact absurd hmem (h6 i j hi hj e)
  obtain ⟨rfl, rfl⟩ := hab
  refine ⟨hh, fun a b ha hb => ?_⟩
  by_cases e : a = i ∧ b = j
  · obtain ⟨rfl, rfl⟩ := e
    rw [updF_same]
    intro h
    have h1 : 0 < ((t.fl a b).take k).count .tok := List.count_pos_iff.2 h
    have h2 : t.fl a b = (t.fl a b).take k ++ (t.fl a b)[k] :: (t.fl a b).drop (k + 1) := by
      rw [← List.drop_eq_getElem_cons hk, List.take_append_drop]
    rw [h2, List.count_append, hm, List.count_cons_self] at h5
    omega
  · rw [updF_other e]
    rcases hG a b ha hb with h | h
    · rw [h]; simp
    · rw [h]; exact h6 a b ha hb e
/-- A message more. -/
theorem par_push {i j : Nat} {v' : Value} {m : Msg} (P : Par0 w t T c2 c3 G s wr) (hi : i < t.n) (hj : j < t.n) (hm : m = .tok → s.served = t.served ∧ s.queue = t.queue)
    (r1 : FlAt x s.M s.n (upd s.F i j v')) (r2 : Sl1 x 70 v' (s.ms i j ++ [enc s.tsv s.tqv m])) (r3 : ∀ g, v'.ownBlock = some g → (s.F i j).ownBlock = some g ∨ wr.heap.size ≤ g)
    (r4 : Off (fun k => k = s.M ∨ (s.F i j).ownBlock = some k) wr x) : Par0 w t T c2 c3 (updF G i j (G i j ++ [m])) (putF s i j v' (s.ms i j ++ [enc s.tsv s.tqv m]) s.sent) x ∧ Mv T s wr (putF s i j v' (s.ms i j ++ [enc s.tsv s.tqv m]) s.sent) x := by
  have hi' : i < s.n := by rw [P.en]; exact hi
  have hj' : j < s.n := by rw [P.en]; exact hj
  have m0 := low_msg P.low hi' hj' r1 r2 r3 r4
  refine ⟨⟨m0.low, P.en, P.em, P.ek, P.eh, P.ee, P.e2, P.e3, ?_, ?_, P.hold, ?_, ?_⟩, m0⟩
  · intro a b ha hb
    show updM s.ms i j (s.ms i j ++ [enc s.tsv s.tqv m]) a b = (updF G i j (G i j ++ [m]) a b).map (enc s.tsv s.tqv)
    by_cases e : a = i ∧ b = j
    · obtain ⟨rfl, rfl⟩ := e
      rw [updM_same, updF_same, List.map_append, P.ms a b ha hb]
      rfl
    · rw [updM_other e, updF_other e]
      exact P.ms a b ha hb
  · intro h
    show s.served = t.served ∧ s.queue = t.queue
    rcases h with h | ⟨a, b, ha, hb, h⟩
    · exact P.found (.inl h)
    · by_cases e : a = i ∧ b = j
      · obtain ⟨rfl, rfl⟩ := e
        rw [updF_same, List.mem_append] at h
        rcases h with h | h
        · exact P.found (.inr ⟨a, b, ha, hb, h⟩)
        · exact hm (List.mem_singleton.1 h).symm
      · rw [updF_other e] at h
        exact P.found (.inr ⟨a, b, ha, hb, h⟩)
  · intro g hg
    rcases m0.sub g hg with h | h
    · exact P.fps g h
    · exact Nat.le_trans P.bel.size h
  · exact P.bel.trans (m0.off.below (P.bel.size) P.fps)
/-- The token is found. -/
theorem par_found {a b : Value} (P : Par0 w t T c2 c3 G s wr) (hh : t.holder = -1) (hno : ∀ i j, i < t.n → j < t.n → .tok ∉ G i j) (hw : Below wr.heap.size wr w1) (hsa : Sl1 w1 3 a (intsV t.served)) (hsb : Sl1 w1 3 b (intsV t.queue))
    (ha : ∀ g, a.ownBlock = some g → wr.heap.size ≤ g) (hb : ∀ g, b.ownBlock = some g → wr.heap.size ≤ g) (hab : ∀ g, a.ownBlock = some g → b.ownBlock ≠ some g) : Par0 w t T c2 c3 G (putTk s a b t.served t.queue) w1 ∧ Mv T s wr (putTk s a b t.served t.queue) w1 := by
  have hL := low_Tk P.low hw hsa hsb ha hb hab
  have hsub : ∀ g, fp T (putTk s a b t.served t.queue) g → fp T s g ∨ wr.heap.size ≤ g := by
    rintro g ⟨y, hy⟩
    cases y with
    | S => exact .inr (ha g hy)
    | Q => exact .inr (hb g hy)
    | T => exact .inl ⟨.T, hy⟩
    | R => exact .inl ⟨.R, hy⟩
    | M => exact .inl ⟨.M, hy⟩
    | K i => exact .inl ⟨.K i, hy⟩
    | F i j => exact .inl ⟨.F i j, hy⟩
  refine ⟨⟨hL, P.en, P.em, P.ek, P.eh, P.ee, P.e2, P.e3, ?_, fun _ => ⟨rfl, rfl⟩, fun h => absurd hh h, ?_, P.bel.trans (hw.mono P.bel.size)⟩, ⟨hL, ⟨hw.os, hw.tape, hw.output, hw.size, fun k hk _ => hw.block k hk⟩, hsub⟩⟩
  · intro i j hi hj
    show s.ms i j = (G i j).map (enc a b)
    rw [P.ms i j hi hj]
    refine List.map_congr_left fun m hm => ?_
    cases m with
    | req no => rfl
    | tok => exact absurd hm (hno i j hi hj)
  · intro g hg
    rcases hsub g hg with h | h
    · exact P.fps g h
    · exact Nat.le_trans P.bel.size h
theorem par_end (P : Par0 w t T c2 c3 t.fl s wr) (I : Inv t) (h2 : t.holder = -1 → c2 = nilV ∧ c3 = nilV) : Up wr T s t := by
  have hf : s.served = t.served ∧ s.queue = t.queue := by
    refine P.found ?_
    by_cases e : t.holder = -1
    · obtain ⟨a, b, ha, hb, _, _, h5, _⟩ := I.tk e
      exact .inr ⟨a, b, ha, hb, List.count_pos_iff.1 (by omega)⟩
    · exact .inl e
  refine ⟨P.low, P.en, P.em, P.ek, P.eh, hf.1, hf.2, P.ee, P.ms, ?_, ?_⟩
  · intro h
    obtain ⟨h3, h4⟩ := P.hold h
    exact ⟨P.e2.trans h3.symm, P.e3.trans h4.symm⟩
  · intro h
    obtain ⟨h3, h4⟩ := h2 h
    exact ⟨P.e2.trans h3, P.e3.trans h4⟩
end
/-- What a tower's own token cells hold. -/
def svC (t : TS) : List Int := if t.holder = -1 then [] else t.served
def quC (t : TS) : List Int := if t.holder = -1 then [] else t.queue
theorem up_cells {w : World} {T : Nat} {s : LS} {t : TS} (U : Up w T s t) : Sl1 w 3 s.c2 (intsV (svC t)) ∧ Sl1 w 3 s.c3 (intsV (quC t)) := by
  unfold svC quC
  by_cases e : t.holder = -1
  · obtain ⟨h1, h2⟩ := U.hno e
    rw [if_pos e, if_pos e, h1, h2]
    exact ⟨.inl ⟨rfl, rfl⟩, .inl ⟨rfl, rfl⟩⟩
  · obtain ⟨h1, h2⟩ := U.hc e
    rw [if_neg e, if_neg e, h1, h2, ← U.es, ← U.eq]
    exact ⟨U.low.hS, U.low.hQ⟩
end Go.Proofs.Ytahjgdikjaakbaa
