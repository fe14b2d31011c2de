/- What is proved: made, least. No condition beyond those in each statement. -/
import Derived.Test.YtlidnhmagleehaaR
import Derived.Deep.DeepCutAuto
namespace Go.Proofs.Ytlidnhmagleehaa
open Go.RowKit

/-- A row of pairs of bytes. -/
def RdP (w : World) (A : Option Addr) (ps : List (Int × Int)) : Prop :=
  ps ≠ [] → ∃ b o, A = some ⟨b, o, none⟩ ∧ b < w.heap.size ∧ ∀ i (hi : i < ps.length), w.cell? ⟨b, o + i * 2, none⟩ = some (.int .u8 ps[i].1) ∧ w.cell? ⟨b, o + i * 2 + 1, none⟩ = some (.int .u8 ps[i].2)
theorem RdP.below {w w' : World} {A : Option Addr} {es : List (Int × Int)} (h : RdP w A es) (hb : Below w.heap.size w w') : RdP w' A es := fun hne => by
  obtain ⟨b, o, e, hlt, hc⟩ := h hne
  exact ⟨b, o, e, Nat.lt_of_lt_of_le hlt hb.size, fun i hi => ⟨(hb.cell (p := ⟨b, o + i * 2, none⟩) hlt).trans (hc i hi).1, (hb.cell (p := ⟨b, o + i * 2 + 1, none⟩) hlt).trans (hc i hi).2⟩⟩
theorem RdP.at {w : World} {A : Option Addr} {es : List (Int × Int)} (h : RdP w A es) (i : Nat) (hi : i < es.length) :
    ∃ b o, A = some ⟨b, o, none⟩ ∧ b < w.heap.size ∧ w.cell? ⟨b, o + i * 2, none⟩ = some (.int .u8 es[i].1) ∧ w.cell? ⟨b, o + i * 2 + 1, none⟩ = some (.int .u8 es[i].2) := by
  obtain ⟨b, o, e, hlt, hc⟩ := h (fun e => by subst e; simp at hi)
  exact ⟨b, o, e, hlt, hc i hi⟩

def pairC (es : List (Int × Int)) : List Value := es.flatMap fun e => [.int .i64 e.1, .int .i64 e.2]
theorem pairC_snoc (es : List (Int × Int)) (e : Int × Int) : pairC (es ++ [e]) = pairC es ++ [.int .i64 e.1, .int .i64 e.2] := by simp [pairC]
theorem pairC_len (es : List (Int × Int)) : (pairC es).length = es.length * 2 := by
  induction es with
  | nil => rfl
  | cons e es ih => simp only [pairC, List.flatMap_cons, List.length_append] at *; rw [ih]; simp; omega
theorem pairC_get : ∀ (es : List (Int × Int)) (i : Nat) (hi : i < es.length), (pairC es)[i * 2]? = some (.int .i64 es[i].1) ∧ (pairC es)[i * 2 + 1]? = some (.int .i64 es[i].2)
  | [], i, hi => by simp at hi
  | e :: es, 0, _ => ⟨rfl, rfl⟩
  | e :: es, i + 1, hi => by
    have := pairC_get es i (by simpa using hi)
    have h2 : pairC (e :: es) = .int .i64 e.1 :: .int .i64 e.2 :: pairC es := rfl
    rw [h2, show (i + 1) * 2 = i * 2 + 1 + 1 by omega, List.getElem?_cons_succ, List.getElem?_cons_succ, List.getElem?_cons_succ, List.getElem?_cons_succ]
    exact this
/-- A row of edges of the call's own. -/
def OwE (w : World) (base g c : Nat) (es : List (Int × Int)) : Prop := w.ownsRow base 55 2 (.slice (some ⟨g, 0, none⟩) es.length c) es.length (pairC es)
theorem OwE.rd {w : World} {base g c : Nat} {es : List (Int × Int)} (h : OwE w base g c es) : RdE w (some ⟨g, 0, none⟩) es := fun _ => by
  refine ⟨g, 0, rfl, (World.ownsRow.lt h g rfl).2, fun i hi => ?_⟩
  obtain ⟨h1, h2⟩ := pairC_get es i hi
  rw [Nat.zero_add]
  exact ⟨by rw [World.ownsRow.cellAt h (i * 2) (by omega)]; exact h1, by rw [World.ownsRow.cellAt h (i * 2 + 1) (by omega)]; exact h2⟩
theorem OwE.bd {w : World} {base g c : Nat} {es : List (Int × Int)} (h : OwE w base g c es) : es.length ≤ c ∧ c ≤ 9223372036854775807 := by
  rcases h.2 with ⟨h', _⟩ | ⟨g', cap', cur, h', _, _, hnc, hcm, _⟩
  · cases h'
  · cases h'; exact ⟨hnc, by simpa [maxLen] using hcm⟩
theorem info55 : (Try.prog.info? 55).map (fun i => (i.zero, i.size, i.bytes)) = some (some (.agg #[.int .i64 0, .int .i64 0]), 2, 16) := by kernel_rfl
theorem owe_new (w : World) (base : Nat) (hb : base ≤ w.heap.size) : OwE (w.alloc (.cells #[] 55)) base w.heap.size 0 [] :=
  ⟨rfl, .inr ⟨w.heap.size, 0, #[], rfl, hb, World.alloc_heap_new w _, Nat.le_refl _, by simp, rfl, rfl⟩⟩
theorem owe_push {w : World} {base g c : Nat} {es : List (Int × Int)} (x y : Int) (h : OwE w base g c es) (hb : base ≤ w.heap.size) (hl : es.length ≤ 1000) :
    ∃ g' c' w', (Builtin.append_ #[22, 22] 22 #[.slice (some ⟨g, 0, none⟩) es.length c, .slice (some ⟨w.heap.size, 0, none⟩) 1 1]).run Try.prog (w.alloc (.cells #[.int .i64 x, .int .i64 y] 55)) = .ok (.slice (some ⟨g', 0, none⟩) (es.length + 1) c') w' ∧ OwE w' base g' c' (es ++ [(x, y)]) ∧ Below base w w' := by
  obtain ⟨i0, hi, hz0, hz1, hz2⟩ := info_parts info55
  have hn2 : ∀ j u, ([.int .i64 x, .int .i64 y] : List Value)[j]? = some u → (w.alloc (.cells #[.int .i64 x, .int .i64 y] 55)).cell? ((⟨w.heap.size, 0, none⟩ : Addr).add j) = some u := by
    intro j u hj
    rw [addr_add, Nat.zero_add, World.cell?_alloc_at _ _ _ _ rfl]
    simpa using hj
  obtain ⟨v', w', hrun, r1, r2, r3⟩ := run_append_own (P := Try.prog) (w.alloc (.cells #[.int .i64 x, .int .i64 y] 55)) base 22 22 55 i0 (.agg #[.int .i64 0, .int .i64 0]) 2 16 Try.underlying22 hi hz0 hz1 hz2 rfl (by decide) _ es.length (pairC es) (World.ownsRow.alloc h _) ⟨w.heap.size, 0, none⟩ 1 1 [.int .i64 x, .int .i64 y] rfl hn2 (by simp [Value.oneCell']) (by simp [maxLen]; omega) (by omega) (by simp; omega)
  have hB : Below base w w' := ((Below.refl _ w).alloc hb _).grown r2 (by simp; omega) (fun k hk => (World.ownsRow.lt h k hk).1)
  rcases r1.2 with ⟨h', h''⟩ | ⟨g', cap, cur, e, hr⟩
  · exact absurd (r3.1 h').1 (by simp)
  · subst e
    refine ⟨g', cap, w', hrun, ?_, hB⟩
    unfold OwE
    rw [List.length_append, pairC_snoc]
    exact r1

/-- What made returns. -/
def MadeR (w0 : World) (most : Nat) (e : Ending) (w' : World) : Prop :=
  ∃ (k : Nat) (es : List (Int × Int)) (g c : Nat), (1 ≤ k ∧ k ≤ most) ∧ es.length ≤ 20 ∧ IsG k es ∧ e = .returned (.tuple #[.int .i64 k, .slice (some ⟨g, 0, none⟩) es.length c]) ∧ OwE w' w0.heap.size g c es ∧ Below w0.heap.size w0 w'
def MadeI (w : World) (k : Nat) (m : Nat) (s q : Value) (wr : World) : Prop :=
  ∃ (es : List (Int × Int)) (g c : Nat), q = .int .i64 es.length ∧ es.length ≤ m ∧ es.length ≤ 20 ∧ s = .slice (some ⟨g, 0, none⟩) es.length c ∧ Hid (IsG k es) ∧ Hid (OwE wr w.heap.size g c es) ∧ Hid (Below w.heap.size w wr)

set_option maxHeartbeats 8000000 in
theorem made_calls (x : Int) (A : Option Addr) (m c : Nat) (ps : List (Int × Int)) (most : Nat) (w : World) (hx : 0 ≤ x ∧ x ≤ 255) (hmost : 1 ≤ most ∧ most ≤ 8) (hm : m = ps.length) (hA : RdP w A ps) (hl : m ≤ c) (hc : c ≤ 9223372036854775807) (hps : ∀ p ∈ ps, (0 ≤ p.1 ∧ p.1 ≤ 255) ∧ (0 ≤ p.2 ∧ p.2 ≤ 255)) :
    Calls Try.prog 23 #[.int .u8 x, .slice A m c, .int .i64 most] w (MadeR w most) := by
  have HM := Lib.hid hm
  have HA := Lib.hid hA
  have HPS := Lib.hid hps
  have hm63 : (m : Int) ≤ 9223372036854775807 := by omega
  obtain ⟨k, hk⟩ : ∃ k : Nat, x % most + 1 = (k : Int) := ⟨(x % most + 1).toNat, by have := Int.emod_nonneg x (by omega : (most : Int) ≠ 0); omega⟩
  have hk1 : 1 ≤ k ∧ k ≤ most := by
    have h1 := Int.emod_nonneg x (by omega : (most : Int) ≠ 0)
    have h2 := Int.emod_lt_of_pos x (by omega : 0 < (most : Int))
    omega
  have hz : ((most : Int) == 0) = false := by rw [beq_eq_false_iff_ne]; omega
  have hkz : ((k : Int) == 0) = false := by rw [beq_eq_false_iff_ne]; omega
  obtain ⟨r, hr⟩ : ∃ r : Int, x % most = r := ⟨_, rfl⟩
  have htm : Int.tmod x most = r := by rw [← hr]; exact Int.tmod_eq_emod_of_nonneg hx.1
  rw [hr] at hk
  have hr2 : 0 ≤ r ∧ r ≤ 8 := by omega
  clear hm hA hps
  go_enter Try.func23, Try.ntmps23
  go_wp2_with fail
  clear hr htm hz
  go_loopw [9, 10] (MadeI w k m) (fun _ q _ => m - (intOf q).toNat)
  case atStart => exact ⟨[], w.heap.size, 0, rfl, Nat.zero_le _, by simp, rfl, (fun e he => by cases he), owe_new w _ (Nat.le_refl _), (Below.refl _ _).alloc (Nat.le_refl _) _⟩
  case round =>
    obtain ⟨es, g, cg, rfl, hem, he20, rfl, HG, HO, HB⟩ := hrel
    obtain ⟨i, hi⟩ : ∃ i, i = es.length := ⟨_, rfl⟩
    rw [← hi] at hem he20 ⊢
    by_cases hcond : i < m ∧ i < 20 ∧ 1 < k
    · obtain ⟨h1, h2, h3⟩ := hcond
      have hil : i < ps.length := by have := HM.out; omega
      obtain ⟨b, o, rfl, hb, hc1, hc2⟩ := HA.out.at i hil
      have d1 := (HB.out.cell (p := ⟨b, o + i * 2, none⟩) hb).trans hc1
      have d2 := (HB.out.cell (p := ⟨b, o + i * 2 + 1, none⟩) hb).trans hc2
      have hp := HPS.out ps[i] (List.getElem_mem hil)
      obtain ⟨p1, hp1⟩ : ∃ z, z = ps[i].1 := ⟨_, rfl⟩
      obtain ⟨p2, hp2⟩ : ∃ z, z = ps[i].2 := ⟨_, rfl⟩
      rw [← hp1] at d1 hp
      rw [← hp2] at d2 hp
      obtain ⟨⟨q1, q2⟩, q3, q4⟩ := hp
      have a1 := Int.emod_nonneg p1 (by omega : (k : Int) ≠ 0)
      have a2 := Int.emod_lt_of_pos p1 (by omega : 0 < (k : Int))
      obtain ⟨a, ha⟩ : ∃ a : Int, p1 % k = a := ⟨_, rfl⟩
      rw [ha] at a1 a2
      have b1 := Int.emod_nonneg p2 (by omega : (k : Int) - 1 ≠ 0)
      have b2 := Int.emod_lt_of_pos p2 (by omega : 0 < (k : Int) - 1)
      obtain ⟨bb, hbb⟩ : ∃ a : Int, p2 % ((k : Int) - 1) = a := ⟨_, rfl⟩
      rw [hbb] at b1 b2
      have c1 := Int.emod_nonneg (a + 1 + bb) (by omega : (k : Int) ≠ 0)
      have c2 := Int.emod_lt_of_pos (a + 1 + bb) (by omega : 0 < (k : Int))
      obtain ⟨cc, hcc⟩ : ∃ z : Int, (a + 1 + bb) % k = z := ⟨_, rfl⟩
      have hne : a ≠ cc := by
        rw [← hcc]
        by_cases hlt : a + 1 + bb < k
        · rw [Int.emod_eq_of_lt (by omega) hlt]; omega
        · rw [show (a + 1 + bb) % k = (a + 1 + bb - k) % k by rw [Int.sub_emod_right], Int.emod_eq_of_lt (by omega) (by omega)]; omega
      rw [hcc] at c1 c2
      have t1 : Int.tmod p1 k = a := by rw [← ha]; exact Int.tmod_eq_emod_of_nonneg q1
      have t2 : Int.tmod p2 ((k : Int) - 1) = bb := by rw [← hbb]; exact Int.tmod_eq_emod_of_nonneg q3
      have t3 : Int.tmod (a + 1 + bb) k = cc := by rw [← hcc]; exact Int.tmod_eq_emod_of_nonneg (by omega)
      have hk1z : ((k : Int) - 1 == 0) = false := by rw [beq_eq_false_iff_ne]; omega
      obtain ⟨g', c', w', hrun, ho, hb'⟩ := owe_push a cc HO.out HB.out.size (by omega)
      rw [← hi] at hrun
      have HRUN := Lib.hid hrun
      have HO2 := Lib.hid ho
      have HB2 := Lib.hid (HB.out.trans hb')
      have HI := Lib.hid hi
      have HG2 : Hid (IsG k (es ++ [(a, cc)])) := by
        intro e he
        rcases List.mem_append.1 he with he | he
        · exact HG.out e he
        · have : e = (a, cc) := by simpa using he
          subst this
          exact ⟨⟨a1, a2⟩, ⟨c1, c2⟩, hne⟩
      clear hrun ho hb' hc1 hc2 hp1 hp2 hi
      go_wp2_with (at_builtin; refine wpList_app rfl (.tmp 40) (.tmp 57) 22 22 rfl rfl _ _ rfl rfl HRUN.out ?_)
      go_roundw
      case rel =>
        have hl2 : (es ++ [(a, cc)]).length = i + 1 := by rw [List.length_append, ← HI.out]; rfl
        exact ⟨es ++ [(a, cc)], g', c', by rw [hl2]; go_num, by omega, by omega, by rw [hl2], HG2, HO2, HB2⟩
      case measure => simp [intOf]; omega
    · have HI := Lib.hid hi
      clear hi
      obtain ⟨W2, hW2⟩ : ∃ q, q = wr := ⟨_, rfl⟩
      rw [← hW2] at HO HB ⊢
      clear hW2
      go_upto_region 3 with fail
      go_cut [29] (fun q wx => q = .bool false ∧ W2 = wx)
      case first =>
        by_cases h1 : i < m
        · by_cases h2 : i < 20
          · have h3 : decide ((k : Int) > 1) = false := decide_eq_false (by omega)
            have h3' : decide (1 < k) = false := decide_eq_false (by omega)
            clear hcond
            go_wp2_with fail
            go_meet
            exact ⟨rfl, rfl⟩
          · have h2' : decide ((i : Int) < 20) = false := decide_eq_false (by omega)
            clear hcond
            go_wp2_with fail
            go_meet
            exact ⟨rfl, rfl⟩
        · clear hcond
          go_wp2_with fail
          go_meet
          exact ⟨rfl, rfl⟩
      case rest =>
        obtain ⟨rfl, rfl⟩ := hcut
        go_wp2_with fail
        go_ret2
        exact ⟨k, es, g, cg, hk1, by have := HI.out; omega, HG.out, by rw [← HI.out]; rfl, HO.out, HB.out⟩
end Go.Proofs.Ytlidnhmagleehaa
