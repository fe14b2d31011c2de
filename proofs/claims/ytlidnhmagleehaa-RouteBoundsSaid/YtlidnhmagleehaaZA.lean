/- What is proved: the reference's places, cuts and measures of an order. No condition beyond those in each statement. -/
import Derived.Test.YtlidnhmagleehaaZ
namespace Go.Proofs.Ytlidnhmagleehaa
open Go.RowKit

theorem getD_set {l : List Int} {u v : Nat} {a : Int} (hu : u < l.length) : (l.set u a).getD v 0 = if u = v then a else l.getD v 0 := by
  rw [List.getD_eq_getElem?_getD, List.getElem?_set]
  by_cases h : u = v
  · subst h; simp [hu]
  · simp [h]
theorem pos_built {k : Nat} {o out : List Int} (ho : IsOrd k o) (hl : out.length = k) (h : ∀ t : Nat, t < k → out.getD (o.getD t 0).toNat 0 = t) : out = posF o := by
  apply List.ext_getElem
  · rw [posF_len, ho.len, hl]
  · intro v h1 h2
    obtain ⟨p, hp, e1, e2⟩ := pos_of ho (v := (v : Int)) ⟨by omega, by omega⟩
    have e3 := h p hp
    rw [e1] at e3
    rw [Int.toNat_natCast] at e2 e3
    rw [getD_lt _ () h1] at e3
    rw [getD_lt _ () h2] at e2
    rw [e3, e2]
theorem pos_put {k p : Nat} {o out : List Int} (ho : IsOrd k o) (hp : p < k) (hl : out.length = k) (h : ∀ t : Nat, t < p → out.getD (o.getD t 0).toNat 0 = t) :
    ∀ t : Nat, t < p + 1 → (out.set (o.getD p 0).toNat (p : Int)).getD (o.getD t 0).toNat 0 = t := by
  intro t ht
  have r1 := ord_at ho hp
  have r2 := ord_at ho (p := t) (by omega)
  rw [getD_set (by omega)]
  by_cases e : t = p
  · subst e; rw [if_pos rfl]
  · rw [if_neg, h t (by omega)]
    intro he
    have h1 := idx_at ho hp
    have h2 := idx_at ho (p := t) (by omega)
    have h3 : o.getD p 0 = o.getD t 0 := by omega
    rw [h3] at h1
    omega
def PlcI (w : World) (k g : Nat) (o : List Int) (q : Value) (wr : World) : Prop :=
  ∃ (p : Nat) (out : List Int), q = .int .i64 p ∧ p ≤ k ∧ out.length = k ∧ Hid (∀ t : Nat, t < p → out.getD (o.getD t 0).toNat 0 = t) ∧ Hid (Arr wr w.heap.size g k out) ∧ Hid (Below w.heap.size w wr)
set_option maxHeartbeats 2000000 in
theorem rplaces_calls (k : Nat) (hk : 1 ≤ k ∧ k ≤ 8) (A : Option Addr) (m c : Nat) (o : List Int) (w : World) (hm : m = k) (ho : IsOrd k o) (hA : Rd w A o) (_hl : m ≤ c) (_hc : c ≤ 9223372036854775807) :
    Calls Try.prog 44 #[.slice A m c] w fun e w' => ∃ g, e = .returned (.slice (some ⟨g, 0, none⟩) k k) ∧ Arr w' w.heap.size g k (posF o) ∧ Below w.heap.size w w' := by
  subst hm
  obtain ⟨w0, hmk, harr, hB0⟩ := arr_made m (by omega) w
  have HA := Lib.hid hA
  have HO := Lib.hid ho
  obtain ⟨N, hN⟩ : ∃ N, N = w.heap.size := ⟨_, rfl⟩
  rw [← hN] at hmk
  have HAR := Lib.hid harr
  have HB0 := Lib.hid hB0
  have HN := Lib.hid hN
  clear harr hB0 hA ho hN
  go_enter Try.func44, Try.ntmps44
  go_wp2_with fail
  clear hmk
  go_loopw [4] (PlcI w m N o) (fun q _ => m - (intOf q).toNat)
  case atStart => exact ⟨0, List.replicate m 0, rfl, Nat.zero_le _, by simp, Lib.hid (fun t ht => absurd ht (by omega)), by have h := HAR; rw [← HN.out] at h ⊢; exact h, HB0⟩
  case round =>
    obtain ⟨p, out, rfl, hp, hol, HT, HAr, HBr⟩ := hrel
    by_cases hlt : p < m
    · have hpl : p < o.length := by have := HO.out.len; omega
      obtain ⟨b, off, rfl, hb, hc1⟩ := HA.out.at p hpl
      have d1 := (HBr.out.cell (p := ⟨b, off + p, none⟩) hb).trans hc1
      have hr := ord_at HO.out hlt
      have hnext := pos_put HO.out hlt hol HT.out
      rw [← getD_lt (0 : Int) () hpl] at d1
      obtain ⟨u, hu⟩ : ∃ u : Nat, o.getD p 0 = u := ⟨(o.getD p 0).toNat, by omega⟩
      rw [hu] at d1 hr hnext
      rw [Int.toNat_natCast] at hnext
      have hum : u < m := by omega
      have hul : u < out.length := by omega
      have d2 := HAr.out.at u hul
      have d3 := HAr.out.free u
      have hset := HAr.out.set u (p : Int)
      have HS := Lib.hid hset
      have HNX := Lib.hid hnext
      have wi : IntKind.i64.wrap ((p : Int) + 1) = (p : Int) + 1 := IntWalk.i64_in _ (by omega)
      clear hc1 hset hu hnext
      go_wp2_with fail
      go_roundw
      case rel => exact ⟨p + 1, out.set u (p : Int), by go_num, by omega, by rw [List.length_set]; exact hol, HNX, Lib.hid HS.out.1, Lib.hid (HBr.out.trans HS.out.2)⟩
      case measure => simp [intOf]; omega
    · have e : p = m := by omega
      subst e
      have hfin := pos_built HO.out hol HT.out
      have HF : Hid (Arr wr w.heap.size N p (posF o)) := by rw [← hfin]; exact HAr
      clear hol hfin
      go_wp2_with fail
      go_ret
      exact ⟨N, rfl, HF.out, HBr.out⟩

def cntF (pl : List Int) (es : List (Int × Int)) (p i : Nat) : Nat := ((es.take i).filter (overB pl p)).length
theorem cnt_step {pl : List Int} {es : List (Int × Int)} {p i : Nat} (hi : i < es.length) : cntF pl es p (i + 1) = cntF pl es p i + if overB pl p es[i] then 1 else 0 := by
  unfold cntF
  rw [List.take_succ_eq_append_getElem hi, List.filter_append, List.length_append]
  by_cases h : overB pl p es[i]
  · simp [h]
  · simp [h]
theorem cnt_le (pl : List Int) (es : List (Int × Int)) (p i : Nat) : cntF pl es p i ≤ es.length := by
  unfold cntF
  have h1 := List.length_filter_le (overB pl p) (es.take i)
  have h2 : (es.take i).length ≤ es.length := by rw [List.length_take]; omega
  omega
def CntI (w : World) (pl : List Int) (es : List (Int × Int)) (ne p : Nat) (s q : Value) (wr : World) : Prop :=
  ∃ (i : Nat), q = .int .i64 i ∧ i ≤ ne ∧ s = .int .i64 (cntF pl es p i) ∧ Hid (Below w.heap.size w wr)
def rowF (pl : List Int) (es : List (Int × Int)) (p : Nat) : List Int := (List.range p).map fun p => (cntF pl es p es.length : Int)
theorem rowF_succ (pl : List Int) (es : List (Int × Int)) (p : Nat) : rowF pl es (p + 1) = rowF pl es p ++ [(cntF pl es p es.length : Int)] := by simp [rowF, List.range_succ]
theorem rowF_cuts (pl : List Int) (es : List (Int × Int)) : rowF pl es (pl.length - 1) = cutsF pl es := by simp [rowF, cutsF, cntF]
theorem rowF_len (pl : List Int) (es : List (Int × Int)) (p : Nat) : (rowF pl es p).length = p := by simp [rowF]
def RowI (w1 : World) (pl : List Int) (es : List (Int × Int)) (k : Nat) (s q : Value) (wr : World) : Prop :=
  ∃ (p g c : Nat), q = .int .i64 p ∧ p + 1 ≤ k ∧ s = .slice (some ⟨g, 0, none⟩) p c ∧ Hid (Arr wr w1.heap.size g c (rowF pl es p)) ∧ Hid (Below w1.heap.size w1 wr)
set_option maxHeartbeats 4000000 in
theorem rcuts_calls (k : Nat) (hk : 1 ≤ k ∧ k ≤ 8) (B : Option Addr) (ne ce : Nat) (es : List (Int × Int)) (A : Option Addr) (m c : Nat) (o : List Int) (w : World) (hne : ne = es.length) (h30 : ne ≤ 100) (hg : IsG k es) (hB : RdE w B es) (hle : ne ≤ ce) (hce : ce ≤ 9223372036854775807) (hm : m = k) (ho : IsOrd k o) (hA : Rd w A o) (hl : m ≤ c) (hc : c ≤ 9223372036854775807) :
    Calls Try.prog 32 #[.slice B ne ce, .slice A m c] w fun e w' => ∃ g c', e = .returned (.slice (some ⟨g, 0, none⟩) (k - 1 : Nat) c') ∧ Arr w' w.heap.size g c' (cutsF (posF o) es) ∧ Below w.heap.size w w' := by
  have CP := Lib.hid (rplaces_calls k hk A m c o w hm ho hA hl hc)
  subst hm
  have HO := Lib.hid ho
  have HG := Lib.hid hg
  have HB := Lib.hid hB
  have HNE := Lib.hid hne
  have HPL : Hid ((posF o).length = m) := by show _ = _; rw [posF_len, ho.len]
  clear ho hg hB hne hA
  go_enter Try.func32, Try.ntmps32
  go_wp2_with fail
  refine CP.out.mono ?_
  rintro e w1 ⟨gp, rfl, har, hB1⟩
  have HPR := Lib.hid har
  have HE := Lib.hid (HB.out.below hB1)
  have HS1 := Lib.hid hB1.size
  have HW := Lib.hid hB1
  clear har hB1
  go_wp2_with fail
  go_loopw [6, 7] (RowI w1 (posF o) es m) (fun _ q _ => m - (intOf q).toNat)
  case atStart => exact ⟨0, w1.heap.size, 0, rfl, by omega, rfl, Lib.hid (arr_newE w1 _ _ (Nat.le_refl _) rfl), Lib.hid ((Below.refl _ _).alloc (Nat.le_refl _) _)⟩
  case round =>
    obtain ⟨p, g, cg, rfl, hp, rfl, HAr, HBr⟩ := hrel
    obtain ⟨W3, hW3⟩ : ∃ q, q = wr := ⟨_, rfl⟩
    rw [← hW3] at HAr HBr ⊢
    clear hW3
    have wp1 : IntKind.i64.wrap ((p : Int) + 1) = (p : Int) + 1 := IntWalk.i64_in _ (by omega)
    by_cases hlt : p + 1 < m
    · have t1 : decide ((p : Int) + 1 < (m : Int)) = true := decide_eq_true (by omega)
      go_wp2_with fail
      go_loopw [8, 9] (CntI W3 (posF o) es ne p) (fun _ q _ => ne - (intOf q).toNat)
      case atStart => exact ⟨0, rfl, Nat.zero_le _, rfl, Lib.hid (Below.refl _ _)⟩
      case round =>
        obtain ⟨i, rfl, hi, rfl, HB4⟩ := hrel
        by_cases hli : i < ne
        · have hil : i < es.length := by have := HNE.out; omega
          obtain ⟨b, off, rfl, hb, hc1, hc2⟩ := HE.out.at i hil
          have hcl := cnt_le (posF o) es p i
          have hcs := cnt_step (pl := posF o) (p := p) hil
          have hge := HG.out es[i] (List.getElem_mem hil)
          obtain ⟨x, hx⟩ : ∃ x : Nat, es[i].1 = x := ⟨es[i].1.toNat, by omega⟩
          obtain ⟨y, hy⟩ : ∃ x : Nat, es[i].2 = x := ⟨es[i].2.toNat, by omega⟩
          have hBB := HBr.out.trans (HB4.out.mono HBr.out.size)
          have d1 := (hBB.cell (p := ⟨b, off + i * 2, none⟩) hb).trans hc1
          have d2 := (hBB.cell (p := ⟨b, off + i * 2 + 1, none⟩) hb).trans hc2
          rw [hx] at d1 hge
          rw [hy] at d2 hge
          have hxm : x < m := by omega
          have hym : y < m := by omega
          have d3 := (HPR.out.below hBB).at x (by rw [HPL.out]; exact hxm)
          have d4 := (HPR.out.below hBB).at y (by rw [HPL.out]; exact hym)
          rw [← getD_lt (0 : Int) () (by rw [HPL.out]; omega)] at d3 d4
          have hov : overB (posF o) p es[i] = (decide (min ((posF o).getD x 0) ((posF o).getD y 0) ≤ p) && decide ((p : Int) < max ((posF o).getD x 0) ((posF o).getD y 0))) := by
            unfold overB; rw [hx, hy, Int.toNat_natCast, Int.toNat_natCast]
          rw [hov] at hcs
          obtain ⟨X, hX⟩ : ∃ X, X = (posF o).getD x 0 := ⟨_, rfl⟩
          obtain ⟨Y, hY⟩ : ∃ X, X = (posF o).getD y 0 := ⟨_, rfl⟩
          rw [← hX] at d3 hcs
          rw [← hY] at d4 hcs
          obtain ⟨n, hn⟩ : ∃ n, n = cntF (posF o) es p i := ⟨_, rfl⟩
          rw [← hn] at hcl hcs ⊢
          have hn100 : n ≤ 100 := by have := HNE.out; omega
          have z1 : (0 : Int) ≤ (i : Int) ∧ (i : Int) < ne := by omega
          have z2 : (0 : Int) ≤ (x : Int) ∧ (x : Int) < m := by omega
          have z3 : (0 : Int) ≤ (y : Int) ∧ (y : Int) < m := by omega
          have wi : IntKind.i64.wrap ((i : Int) + 1) = (i : Int) + 1 := IntWalk.i64_in _ (by omega)
          have wn : IntKind.i64.wrap ((n : Int) + 1) = (n : Int) + 1 := IntWalk.i64_in _ (by omega)
          clear hc1 hc2 hx hy hge hov hX hY hn hBB
          cases e1 : decide (X ≤ (p : Int)) <;> cases e2 : decide (Y ≤ (p : Int))
          all_goals
            have c1 := e1
            have c2 := e2
            simp only [decide_eq_false_iff_not, decide_eq_true_eq] at c1 c2
            have hc9 : cntF (posF o) es p (i + 1) = n ∨ cntF (posF o) es p (i + 1) = n + 1 := by
              rw [hcs]; split
              · exact .inr rfl
              · exact .inl rfl
            first
            | (have h9 : cntF (posF o) es p (i + 1) = n := by
                 rw [hcs, if_neg (by simp only [Bool.and_eq_true, decide_eq_true_eq]; omega)]; rfl
               have HCS := Lib.hid h9
               clear hcs hc9 h9
               go_wp2_with fail
               go_quiet (fail)
               go_wp2_with fail
               exact ⟨⟨i + 1, by go_num, by omega, by rw [HCS.out], Lib.hid (below_drewN HB4.out _)⟩, by simp [intOf]; omega⟩)
            | (have h9 : cntF (posF o) es p (i + 1) = n + 1 := by
                 rw [hcs, if_pos (by simp only [Bool.and_eq_true, decide_eq_true_eq]; omega)]
               have HCS := Lib.hid h9
               clear hcs hc9 h9
               go_wp2_with fail
               go_quiet (fail)
               go_wp2_with fail
               exact ⟨⟨i + 1, by go_num, by omega, by rw [HCS.out]; rfl, Lib.hid (below_drewN HB4.out _)⟩, by simp [intOf]; omega⟩)
        · have e : i = es.length := by have := HNE.out; omega
          rw [e]
          have hsuc := rowF_succ (posF o) es p
          have hcl := cnt_le (posF o) es p es.length
          have hA4 := HAr.out.below HB4.out
          obtain ⟨n, hn⟩ : ∃ n, n = cntF (posF o) es p es.length := ⟨_, rfl⟩
          rw [← hn] at hsuc hcl ⊢
          obtain ⟨g', c', w', hrun, hor, hb'⟩ := arr_push (n : Int) (n := p) (rowF_len _ _ _).symm hA4 (Nat.le_trans HBr.out.size HB4.out.size) (by rw [rowF_len]; omega)
          rw [← hsuc] at hor
          have HRUN := Lib.hid hrun
          have HO2 := Lib.hid hor
          have HB2 := Lib.hid ((HBr.out.trans (HB4.out.mono HBr.out.size)).trans hb')
          have HEL := Lib.hid e
          rw [← e]
          clear hsuc hA4 hn hrun hor hb' e hcl
          go_wp2_with (at_builtin; refine wpList_app rfl (.tmp 49) (.tmp 51) 27 27 rfl rfl _ _ rfl rfl HRUN.out ?_)
          go_roundw
          case rel => exact ⟨p + 1, g', c', by go_num, by omega, rfl, HO2, HB2⟩
          case measure => simp [intOf]; omega
    · have e : p = m - 1 := by omega
      subst e
      have t1 : decide ((((m - 1 : Nat) : Int)) + 1 < (m : Int)) = false := decide_eq_false (by omega)
      have hf := rowF_cuts (posF o) es
      rw [HPL.out] at hf
      have HF : Hid (Arr W3 w1.heap.size g cg (cutsF (posF o) es)) := by rw [← hf]; exact HAr
      clear hf
      go_wp2_with fail
      go_ret
      exact ⟨g, cg, rfl, HF.out.weaken HS1.out, HW.out.trans (HBr.out.mono HS1.out)⟩
end Go.Proofs.Ytlidnhmagleehaa
