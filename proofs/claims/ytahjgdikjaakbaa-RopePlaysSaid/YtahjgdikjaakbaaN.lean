/- What is proved: Leave. No condition beyond those in each statement. -/
import Derived.Test.YtahjgdikjaakbaaM
namespace Go.Proofs.Ytahjgdikjaakbaa
open Go.RowKit

def queF (kn sv : List Int) (q : List Int) : Nat → List Int
  | 0 => q
  | k + 1 => if kn.getD k 0 = sv.getD k 0 + 1 ∧ (k : Int) ∉ queF kn sv q k then queF kn sv q k ++ [(k : Int)] else queF kn sv q k
theorem queF_len (kn sv q : List Int) (k : Nat) : (queF kn sv q k).length ≤ q.length + k := by
  induction k with
  | zero => exact Nat.le_refl _
  | succ k ih =>
    unfold queF
    split
    · rw [List.length_append, List.length_singleton]; omega
    · omega
theorem queF_mem (kn sv q : List Int) (n : Nat) (hq : ∀ x, x ∈ q → ∃ a : Nat, x = a ∧ a < n) (k : Nat) (hk : k ≤ n) : ∀ x, x ∈ queF kn sv q k → ∃ a : Nat, x = a ∧ a < n := by
  induction k with
  | zero => exact hq
  | succ k ih =>
    unfold queF
    intro x hx
    split at hx
    · rw [List.mem_append] at hx
      rcases hx with hx | hx
      · exact ih (by omega) x hx
      · exact ⟨k, List.mem_singleton.1 hx, by omega⟩
    · exact ih (by omega) x hx
theorem asks_mv {w : World} {T : Nat} {s : LS} (h : Low w T s) {i b : Nat} (hi : i < s.n) (hb : b < s.n) (h2 : s.c2 = s.tsv) (hsl : s.served.length = s.n) (hy : 0 ≤ s.served.getD i 0 ∧ s.served.getD i 0 ≤ 100000) :
    Calls Try.prog 54 #[.pointer (some ⟨T, 0, none⟩), .int .i64 i, .int .i64 b] w fun e w' => e = .returned (.bool (decide ((s.known.getD b []).getD i 0 = s.served.getD i 0 + 1))) ∧ Mv T s w s w' := by
  obtain ⟨g, off, c, hv, cS, _⟩ := h.cS (i := i) (by omega)
  have c2 := h.cells.2.2.1
  rw [h2, hv] at c2
  refine (asks_low i b h.cells.1 (h.cR hb).1 (h.cK hb hi) c2 cS hi hb (by omega) (by omega)).mono ?_
  rintro e w' ⟨he, q, rfl⟩
  exact ⟨he, (Mv.refl h).drewN q⟩
theorem Low.popQ {w : World} {T : Nat} {s : LS} (h : Low w T s) {v : Value} {q : List Int} (hs : Sl1 w 3 v (intsV q)) (hn : v.ownBlock = s.tqv.ownBlock) : Low (w.setCell ⟨T, 3, none⟩ v) T (setQ s v q) :=
  h.pushQ hs ⟨rfl, rfl, rfl, Nat.le_refl _, fun _ _ _ => rfl⟩ (fun g hg => .inl (by rw [← hn]; exact hg))
theorem setQ_self (s : LS) (h : s.c3 = s.tqv) : setQ s s.tqv s.queue = s := by
  cases s
  simp only at h
  subst h
  rfl
theorem pushJ {T : Nat} {s0 S : LS} {w0 W : World} (m : Mv T s0 w0 S W) (hc : S.c3 = S.tqv) (j : Int) (hl : S.queue.length ≤ 1000) :
    ∃ A n c, ∃ v' w', v' = Value.slice (some A) n c ∧ (Builtin.append_ #[36, 36] 36 #[S.tqv, .slice (some ⟨W.heap.size, 0, none⟩) 1 1]).run Try.prog (W.alloc (.cells #[.int .i64 j] 3)) = .ok v' w' ∧ Mv T s0 w0 (setQ S v' (S.queue ++ [j])) (w'.setCell ⟨T, 3, none⟩ v') ∧ w'.cell? ⟨T, 3, none⟩ = some S.tqv ∧ w'.frozen? ⟨T, 3, none⟩ = false := by
  obtain ⟨i0, hi, hz0, hz1, hz2⟩ := info_parts info3'
  have hx : (W.alloc (.cells #[.int .i64 j] 3)).cell? ⟨W.heap.size, 0, none⟩ = some (.int .i64 j) := World.cell?_alloc_at _ _ _ _ rfl
  have hb : Below W.heap.size W (W.alloc (.cells #[.int .i64 j] 3)) := (Below.refl _ _).alloc (Nat.le_refl _) _
  have hL := m.low.below hb
  obtain ⟨v', w', hr, h2, h3, h4⟩ := sl_push (P := Try.prog) (W.alloc (.cells #[.int .i64 j] 3)) 36 36 3 i0 (.int .i64 0) Try.underlying36 hi hz0 hz1 (by omega) rfl hL.hQ (by rw [intsV_len]; omega) ⟨W.heap.size, 0, none⟩ 1 (.int .i64 j) hx rfl
  have e : intsV S.queue ++ [.int .i64 j] = intsV (S.queue ++ [j]) := by simp [intsV]
  rw [e] at h2
  have hn : ∀ g, v'.ownBlock = some g → S.tqv.ownBlock = some g ∨ (W.alloc (.cells #[.int .i64 j] 3)).heap.size ≤ g := by
    intro g hg
    obtain ⟨g', e1, e2⟩ := h4
    rw [hg] at e1
    cases e1
    exact e2
  have hTQ : some T ≠ S.tqv.ownBlock := fun e => m.low.ne (x := .T) (y := .Q) rfl e.symm (by simp) rfl
  have hTl : T < (W.alloc (.cells #[.int .i64 j] 3)).heap.size := hL.lt .T T rfl
  obtain ⟨A, n, c, hv⟩ : ∃ A n c, v' = Value.slice (some A) n c := by
    rcases h2 with ⟨_, e⟩ | ⟨g, off, c, e, _⟩
    · have : (intsV (S.queue ++ [j])).length = 0 := by rw [e]; rfl
      rw [intsV_len, List.length_append] at this
      simp at this
    · exact ⟨_, _, _, e⟩
  refine ⟨A, n, c, v', w', hv, hr, ⟨hL.pushQ h2 h3 hn, ?_, ?_⟩, ?_, ?_⟩
  · have h5 : Off (fp T S) W w' := ((Off.refl _ _).alloc _).grown h3 (fun k hk => .inl ⟨.Q, hk⟩)
    exact m.off.step (h5.setCell (p := ⟨T, 3, none⟩) ⟨.T, rfl⟩ v') m.sub
  · rintro g ⟨x, hx⟩
    by_cases hxq : x = .Q
    · subst hxq
      rcases hn g hx with h5 | h5
      · exact m.sub g ⟨.Q, h5⟩
      · right
        have := m.off.size
        simp at h5
        omega
    · have : blk T S x = some g := by
        cases x <;> first | exact hx | exact absurd rfl hxq
      exact m.sub g ⟨x, this⟩
  · rw [World.cell?_of_block (a := ⟨T, 3, none⟩) (h3.block T hTl hTQ)]
    rw [← hc]
    exact hL.cells.2.2.2.1
  · exact (World.frozen?_of_block (a := ⟨T, 3, none⟩) (h3.block T hTl hTQ)).trans (hL.fT 3)
theorem leave_out {w : World} {T : Nat} {i : Int} {s : LS} (h : Low w T s) (hi : thereB s.n i = false) : Calls Try.prog 34 #[.pointer (some ⟨T, 0, none⟩), .int .i64 i] w fun e w' => e = .returned (.int .i64 1) ∧ w = w' := by
  have C1 := Lib.hid (check_out h hi)
  clear h hi
  go_enter Try.func34, Try.ntmps34
  go_wp2_with fail
  refine C1.out.mono ?_
  rintro e w1 ⟨rfl, rfl⟩
  go_wp2_with fail
  go_ret
  exact ⟨rfl, rfl⟩
theorem leave_none {w : World} {T i : Nat} {s : LS} (h : Low w T s) (hi : i < s.n) (hm : s.mood.getD i 0 ≠ 2) : Calls Try.prog 34 #[.pointer (some ⟨T, 0, none⟩), .int .i64 i] w fun e w' => e = .returned (.int .i64 5) ∧ w = w' := by
  have C1 := Lib.hid (check_in h hi)
  have c0 := h.cells.1
  have c1 := (h.cR hi).2
  have z1 : (0 : Int) ≤ (i : Int) ∧ (i : Int) < s.n := by omega
  obtain ⟨m, hm'⟩ : ∃ m, m = s.mood.getD i 0 := ⟨_, rfl⟩
  rw [← hm'] at c1 hm
  clear h hm'
  go_enter Try.func34, Try.ntmps34
  go_wp2_with fail
  refine C1.out.mono ?_
  rintro e w1 ⟨rfl, rfl⟩
  go_wp2_with fail
  go_ret
  exact ⟨rfl, rfl⟩
theorem row_pop {w : World} {e : TypeId} {g off cap : Nat} {x : Value} {xs : List Value} (h : Row w e g off cap (x :: xs)) : Row w e g (if cap = 1 then off else off + 1) (cap - 1) xs := by
  have hc : xs.length + 1 ≤ cap := by obtain ⟨_, _, h1, _⟩ := h; exact h1
  obtain ⟨c, rfl⟩ : ∃ c, cap = c + 1 := ⟨cap - 1, by omega⟩
  have ht := h.tail
  rw [Nat.add_sub_cancel]
  by_cases e1 : c + 1 = 1
  · rw [if_pos e1]
    have hx : xs = [] := List.eq_nil_of_length_eq_zero (by omega)
    subst hx
    obtain ⟨cur, h1, h2, h3, h4, h5⟩ := ht
    exact ⟨cur, h1, h2, h3, by omega, by simp⟩
  · rw [if_neg e1]
    exact ht
theorem popJ {T : Nat} {s0 S : LS} {w0 W : World} (m : Mv T s0 w0 S W) {x : Int} {rest : List Int} {g off cap : Nat} (hr : Row W 3 g off cap (intsV (x :: rest))) (hv : S.tqv.ownBlock = some g) (v : Value) (h : v = .slice (some ⟨g, if cap = 1 then off else off + 1, none⟩) rest.length (cap - 1)) :
    Mv T s0 w0 (setQ S v rest) (W.setCell ⟨T, 3, none⟩ v) := by
  have hs : Sl1 W 3 v (intsV rest) := .inr ⟨g, _, _, by rw [h, intsV_len], row_pop hr⟩
  have ho : v.ownBlock = S.tqv.ownBlock := by rw [hv, h]; rfl
  refine ⟨m.low.popQ hs ho, m.off.step ((Off.refl _ _).setCell (p := ⟨T, 3, none⟩) ⟨.T, rfl⟩ v) m.sub, fun k hk => m.sub k ?_⟩
  obtain ⟨y, hy⟩ := hk
  refine ⟨y, ?_⟩
  cases y <;> first | exact hy | exact ho.symm.trans hy
def LvRel (T : Nat) (s : LS) (w : World) (S1 : LS) (kn : List Int) (v : Value) (wr : World) : Prop := ∃ (k : Nat) (q : Value), v = .int .i64 k ∧ k ≤ s.n ∧ Mv T s w (setQ S1 q (queF kn S1.served S1.queue k)) wr
/-- A ringer has left, before the token goes on. -/
def left (s : LS) (i : Nat) : LS := setSv (setMd s i 0) i ((s.known.getD i []).getD i 0)
set_option maxHeartbeats 4000000 in
theorem leave_ok {w : World} {T i : Nat} {s : LS} (h : Low w T s) (hi : i < s.n) (hm : s.mood.getD i 0 = 2) (hh : s.holder = i) (h2 : s.c2 = s.tsv) (h3 : s.c3 = s.tqv) (hsl : s.served.length = s.n) (hq : ∀ x, x ∈ s.queue → ∃ a : Nat, x = a ∧ a < s.n) (hql : s.queue.length ≤ 500)
    (hsv : ∀ k, k < s.n → 0 ≤ s.served.getD k 0 ∧ s.served.getD k 0 ≤ 100000) (hl : ∀ a b, a < s.n → b < s.n → (s.ms a b).length ≤ 90000) (hs : 0 ≤ s.sent ∧ s.sent ≤ 100000) (hk : 0 ≤ (s.known.getD i []).getD i 0 ∧ (s.known.getD i []).getD i 0 ≤ 100000) :
    Calls Try.prog 34 #[.pointer (some ⟨T, 0, none⟩), .int .i64 i] w fun e w' => e = .returned (.int .i64 0) ∧
      ((queF (s.known.getD i []) (left s i).served s.queue s.n = [] ∧ ∃ v, Mv T s w (setQ (left s i) v []) w') ∨ ∃ (to : Nat) (rest : List Int) (v fv : Value), queF (s.known.getD i []) (left s i).served s.queue s.n = (to : Int) :: rest ∧ Mv T s w (gave (setQ (left s i) v rest) i to fv) w') := by
  obtain ⟨S1, hS1⟩ : ∃ S, S = left s i := ⟨_, rfl⟩
  obtain ⟨kn, hkn⟩ : ∃ l, l = s.known.getD i [] := ⟨_, rfl⟩
  obtain ⟨g, off, c, hv, cS, fS⟩ := h.cS (i := i) (by omega)
  obtain ⟨y, hy⟩ : ∃ y, y = (s.known.getD i []).getD i 0 := ⟨_, rfl⟩
  rw [← hS1, ← hkn]
  have hn6 := h.hn
  have C1 := Lib.hid (check_in h hi)
  have c0 := h.cells.1
  have c1 := (h.cR hi).2
  have c2 := h.cells.2.2.1
  have c3 := (h.cR hi).1
  have c4 := h.cK hi hi
  have f1 := h.fR (i * 2 + 1)
  have z1 : (0 : Int) ≤ (i : Int) ∧ (i : Int) < s.n := by omega
  rw [← hy] at c4 hk
  rw [hm] at c1
  rw [h2, hv, hsl] at c2
  have hbS : blk T s .S = some g := by show s.tsv.ownBlock = _; rw [hv]; rfl
  obtain ⟨W1, hW1⟩ : ∃ W1, W1 = w.setCell ⟨s.R, i * 2 + 1, none⟩ (.int .i64 0) := ⟨_, rfl⟩
  have m1 : Mv T s w (setMd s i 0) W1 := by
    rw [hW1]
    exact mv_same (h.setMd hi 0) ((Off.refl _ _).setCell (p := ⟨s.R, i * 2 + 1, none⟩) ⟨.R, rfl⟩ _) (blk_setMd _ _ _ _)
  have HM2 : Hid (Mv T s w S1 (W1.drew.setCell ⟨g, off + i, none⟩ (.int .i64 y))) := by
    have h5 : Low (W1.drew.setCell ⟨g, off + i, none⟩ (.int .i64 y)) T (setSv (setMd s i 0) i y) := (m1.low.drewN 1).setSv hv (by show i < s.served.length; omega) y
    have e : S1 = setSv (setMd s i 0) i y := by rw [hS1, hy]; rfl
    rw [e]
    exact ⟨h5, (m1.off.drew).setCell (p := ⟨g, off + i, none⟩) ⟨.S, hbS⟩ _, fun k hk => m1.sub k (blk_fp (blk_setSv _ _ _ _) k hk)⟩
  have d0 : W1.cell? ⟨T, 0, none⟩ = some (.slice (some ⟨s.R, 0, none⟩) s.n s.rc) := m1.low.cells.1
  have d2 : W1.cell? ⟨T, 2, none⟩ = some (.slice (some ⟨g, off, none⟩) s.n c) := by rw [← c2, h.cells.2.2.1]; exact m1.low.cells.2.2.1
  have d3 : W1.cell? ⟨s.R, i * 2, none⟩ = some (.slice (some ⟨s.K i, 0, none⟩) s.n (s.Kc i)) := (m1.low.cR hi).1
  have d4 : W1.cell? ⟨s.K i, i, none⟩ = some (.int .i64 y) := by rw [hy]; exact m1.low.cK hi hi
  obtain ⟨x, hx⟩ : ∃ x, x = s.served.getD i 0 := ⟨_, rfl⟩
  have d5 : W1.cell? ⟨g, off + i, none⟩ = some (.int .i64 x) := by
    rw [hW1, hx, ← cS]
    exact World.cell?_of_block (heap_setCell_other w ⟨s.R, i * 2 + 1, none⟩ g _ (h.ne hbS (y := .R) rfl (by simp)))
  have f5 : W1.frozen? ⟨g, off + i, none⟩ = false := by
    rw [hW1, World.frozen?_of_block (a := ⟨g, off + i, none⟩) (heap_setCell_other w ⟨s.R, i * 2 + 1, none⟩ g _ (h.ne hbS (y := .R) rfl (by simp)))]
    exact fS _
  have HW1 := Lib.hid hW1
  have H := Lib.hid h
  have HS1 := Lib.hid hS1
  have HKN := Lib.hid hkn
  have HY := Lib.hid hy
  have HV := Lib.hid hv
  have HSL := Lib.hid hsl
  have HH := Lib.hid hh
  have H3 := Lib.hid h3
  have H2 := Lib.hid h2
  have HQ := Lib.hid hq
  have HSV := Lib.hid hsv
  have HL := Lib.hid hl
  clear h hS1 hkn hy hv hsl hm hh h2 h3 hW1 hx cS fS hbS c4 c3 m1 hq hsv hl
  go_enter Try.func34, Try.ntmps34
  go_wp2_with fail
  refine C1.out.mono ?_
  rintro e w1 ⟨rfl, rfl⟩
  go_wp2_with fail
  have hW1 := HW1.out
  rw [← hW1]
  clear hW1 c0 c1 c2 f1 C1
  go_region
  obtain ⟨w2, hw2⟩ : ∃ w2, w2 = (W1.setCell ⟨g, off + i, none⟩ (.int .i64 y)).drew := ⟨_, rfl⟩
  have hM2 : Mv T s w S1 (W1.setCell ⟨g, off + i, none⟩ (.int .i64 y)).drew := HM2.out
  rw [← hw2] at hM2 ⊢
  have e1 := HS1.out
  have hn : S1.n = s.n := by rw [e1]; rfl
  have h3 : S1.c3 = S1.tqv := by rw [e1]; exact H3.out
  have hkn : S1.known.getD i [] = kn := by rw [e1, HKN.out]; rfl
  have h2 : S1.c2 = S1.tsv := by rw [e1]; exact H2.out
  have hR : S1.R = s.R := by rw [e1]; rfl
  have hqu : S1.queue = s.queue := by rw [e1]; rfl
  have hms : S1.ms = s.ms := by rw [e1]; rfl
  have hse : S1.sent = s.sent := by rw [e1]; rfl
  have hho : S1.holder = i := by rw [e1]; exact HH.out
  have hsl : S1.served.length = S1.n := by rw [e1]; show (s.served.set i _).length = s.n; rw [List.length_set]; exact HSL.out
  have hsv : ∀ k, k < s.n → 0 ≤ S1.served.getD k 0 ∧ S1.served.getD k 0 ≤ 100000 := by
    intro k hk'
    rw [e1]
    show 0 ≤ (s.served.set i _).getD k 0 ∧ (s.served.set i _).getD k 0 ≤ 100000
    by_cases e : i = k
    · subst e
      rw [getD_set_same _ _ _ _ (by have := HSL.out; omega), ← HY.out]
      exact hk
    · rw [getD_set_ne _ _ _ e]
      exact HSV.out k hk'
  have HN := Lib.hid hn
  have HC3 := Lib.hid h3
  have HC2 := Lib.hid h2
  have HKB := Lib.hid hkn
  have HQU := Lib.hid hqu
  have HMS := Lib.hid hms
  have HSE := Lib.hid hse
  have HHO := Lib.hid hho
  have HSL1 := Lib.hid hsl
  have HSV1 := Lib.hid hsv
  have HM := Lib.hid hM2
  have g0 : w2.cell? ⟨T, 0, none⟩ = some (.slice (some ⟨s.R, 0, none⟩) s.n S1.rc) := by rw [← hn, ← hR]; exact hM2.low.cells.1
  clear hw2 hM2 e1 hn h3 hkn h2 hR hqu hms hse hho hsl hsv HM2 d0 d2 d3 d4 d5 f5 HSV HSL HY HV HH H3 H2 HS1 HKN HW1
  go_wp2_with fail
  go_loopw [49] (fun v wr => LvRel T s w S1 kn v wr) (fun v _ => s.n - (intOf v).toNat)
  case atStart => exact ⟨0, S1.tqv, rfl, Nat.zero_le _, by unfold queF; rw [setQ_self S1 HC3.out]; exact HM.out⟩
  case round =>
    clear g0
    obtain ⟨k, q, rfl, hk, m⟩ := hrel
    have HMM := Lib.hid m
    have hlen : (queF kn S1.served S1.queue k).length ≤ 600 := by have := queF_len kn S1.served S1.queue k; rw [HQU.out] at this ⊢; omega
    by_cases hlt : k < s.n
    · have CA : Hid (Calls Try.prog 54 #[.pointer (some ⟨T, 0, none⟩), .int .i64 k, .int .i64 i] wr fun e w' => e = .returned (.bool (decide (kn.getD k 0 = S1.served.getD k 0 + 1))) ∧ Mv T s w (setQ S1 q (queF kn S1.served S1.queue k)) w') := by
        have hn := HN.out
        refine (asks_mv m.low (i := k) (b := i) (by show k < S1.n; omega) (by show i < S1.n; omega) HC2.out HSL1.out (HSV1.out k hlt)).mono ?_
        rintro e w' ⟨he, hm⟩
        refine ⟨?_, m.trans hm⟩
        rw [he]
        show Ending.returned (.bool (decide ((S1.known.getD i []).getD k 0 = S1.served.getD k 0 + 1))) = _
        rw [HKB.out]
      clear m
      by_cases hask : kn.getD k 0 = S1.served.getD k 0 + 1
      · rw [decide_eq_true hask] at CA
        have HASK := Lib.hid hask
        clear hask
        go_wp2_with fail
        refine CA.out.mono ?_
        rintro e w3 ⟨rfl, m3⟩
        have e3 : w3.cell? ⟨T, 3, none⟩ = some q := m3.low.cells.2.2.2.1
        have e3f : w3.frozen? ⟨T, 3, none⟩ = false := m3.low.fT 3
        have CC : Hid (Calls Try.prog 55 #[q, .int .i64 k] w3 fun e w' => e = .returned (.bool (decide ((k : Int) ∈ queF kn S1.served S1.queue k))) ∧ w3 = w') := contains_calls m3.low.hQ (by show (queF kn S1.served S1.queue k).length ≤ 100000; omega) k
        have HM3 := Lib.hid m3
        clear m3 HMM CA
        by_cases hin : (k : Int) ∈ queF kn S1.served S1.queue k
        · rw [decide_eq_true hin] at CC
          have HIN := Lib.hid hin
          clear hin
          go_wp2_with fail
          refine CC.out.mono ?_
          rintro e w4 ⟨rfl, rfl⟩
          go_wp2_with fail
          go_roundw
          case rel => exact ⟨k + 1, q, by go_num, by omega, by unfold queF; rw [if_neg (fun h => h.2 HIN.out)]; exact HM3.out⟩
          case measure => simp [intOf]; omega
        · rw [decide_eq_false hin] at CC
          obtain ⟨A, nA, cA, v', w5, rfl, hrun, m5, c5, f5⟩ := pushJ HM3.out rfl (k : Int) (by show (queF kn S1.served S1.queue k).length ≤ 1000; omega)
          have HRUN : Hid ((Builtin.append_ #[36, 36] 36 #[q, .slice (some ⟨w3.heap.size, 0, none⟩) 1 1]).run Try.prog (w3.alloc (.cells #[.int .i64 k] 3)) = .ok (.slice (some A) nA cA) w5) := hrun
          have HM5 : Hid (Mv T s w (setQ S1 (.slice (some A) nA cA) (queF kn S1.served S1.queue k ++ [(k : Int)])) (w5.setCell ⟨T, 3, none⟩ (.slice (some A) nA cA))) := m5
          have c5' : w5.cell? ⟨T, 3, none⟩ = some q := c5
          have HIN := Lib.hid hin
          clear hin hrun m5 c5
          go_wp2_with fail
          refine CC.out.mono ?_
          rintro e w4 ⟨rfl, rfl⟩
          go_wp2_with (at_builtin; refine wpList_app rfl (.tmp 71) (.tmp 73) 36 36 rfl rfl _ _ rfl rfl HRUN.out ?_)
          go_roundw
          case rel => exact ⟨k + 1, _, by go_num, by omega, by unfold queF; rw [if_pos ⟨HASK.out, HIN.out⟩]; exact HM5.out⟩
          case measure => simp [intOf]; omega
      · rw [decide_eq_false hask] at CA
        have HASK := Lib.hid hask
        clear hask
        go_wp2_with fail
        refine CA.out.mono ?_
        rintro e w3 ⟨rfl, m3⟩
        have HM3 := Lib.hid m3
        clear m3 HMM CA
        go_wp2_with fail
        go_roundw
        case rel => exact ⟨k + 1, q, by go_num, by omega, by unfold queF; rw [if_neg (fun h => HASK.out h.1)]; exact HM3.out⟩
        case measure => simp [intOf]; omega
    · have hkn : k = s.n := by omega
      subst hkn
      obtain ⟨Q, hQ⟩ : ∃ Q, Q = queF kn S1.served S1.queue s.n := ⟨_, rfl⟩
      have hmem : ∀ x, x ∈ Q → ∃ a : Nat, x = a ∧ a < s.n := by
        rw [hQ]
        exact queF_mem kn S1.served S1.queue s.n (by rw [HQU.out]; exact HQ.out) s.n (Nat.le_refl _)
      rw [← hQ] at HMM hlen m
      have hQ2 : queF kn S1.served s.queue s.n = Q := by rw [hQ, HQU.out]
      have HQ2 := Lib.hid hQ2
      have c3 : wr.cell? ⟨T, 3, none⟩ = some q := m.low.cells.2.2.2.1
      have f3 : wr.frozen? ⟨T, 3, none⟩ = false := m.low.fT 3
      have hS : Sl1 wr 3 q (intsV Q) := m.low.hQ
      clear hQ hQ2 HQ m
      cases Q with
      | nil =>
        clear hmem
        rcases hS with ⟨rfl, _⟩ | ⟨g2, off2, cap, rfl, _⟩
        · unfold nilV at c3
          go_wp2_with fail
          go_ret
          exact ⟨rfl, .inl ⟨HQ2.out, _, HMM.out⟩⟩
        · have c3 : wr.cell? ⟨T, 3, none⟩ = some (.slice (some ⟨g2, off2, none⟩) 0 cap) := c3
          go_wp2_with fail
          go_ret
          exact ⟨rfl, .inl ⟨HQ2.out, _, HMM.out⟩⟩
      | cons x rest =>
        obtain ⟨to, rfl, hto⟩ := hmem x (List.mem_cons_self ..)
        have HS := Lib.hid hS
        rcases hS with ⟨_, e2⟩ | ⟨g2, off2, cap, rfl, hrow⟩
        · simp [intsV] at e2
        · have c4 : wr.cell? ⟨g2, off2, none⟩ = some (.int .i64 to) := by
            have := hrow.at 0 (by rw [intsV_len]; simp)
            rw [Nat.add_zero] at this
            rw [this]
            rfl
          replace c3 : wr.cell? ⟨T, 3, none⟩ = some (.slice (some ⟨g2, off2, none⟩) (rest.length + 1) cap) := by rw [c3, intsV_len]; rfl
          have HROW := Lib.hid hrow
          have hcap : rest.length + 1 ≤ cap := by obtain ⟨_, _, h1, _⟩ := hrow; rw [intsV_len] at h1; exact h1
          have hcm : cap ≤ 9223372036854775807 := by obtain ⟨_, _, _, h1, _⟩ := hrow; simpa [maxLen] using h1
          have z3 : (0 : Int) ≤ 1 ∧ (1 : Int) ≤ rest.length + 1 ∧ (rest.length : Int) + 1 ≤ cap := by omega
          have HP := popJ HMM.out hrow rfl
          have HG : Hid (∀ v W, v = Value.slice (some ⟨g2, if cap = 1 then off2 else off2 + 1, none⟩) rest.length (cap - 1) → W = wr.setCell ⟨T, 3, none⟩ v → Calls Try.prog 56 #[.pointer (some ⟨T, 0, none⟩), .int .i64 to] W fun e w' => e = .returned (.tuple #[]) ∧ ∃ v' fv, Mv T s w (gave (setQ S1 v' rest) i to fv) w') := by
            intro v W hv hW
            have m6 := HP v hv
            rw [← hW] at m6
            refine (give_mv m6.low i to HHO.out (by show i < S1.n; rw [HN.out]; exact hi) (by show to < S1.n; rw [HN.out]; exact hto) (by show (S1.ms i to).length ≤ 100000; rw [HMS.out]; have := HL.out i to hi hto; omega) (by show -4611686018427387904 ≤ S1.sent ∧ S1.sent ≤ 4611686018427387904; rw [HSE.out]; omega)).mono ?_
            rintro e w' ⟨he, fv, m7⟩
            exact ⟨he, v, fv, m6.trans m7⟩
          clear hrow hmem HP HROW HS HMM
          by_cases hc1 : cap = 1
          · subst hc1
            have hr0 : rest.length = 0 := by omega
            rw [hr0] at c3
            have CG := Lib.hid (HG.out _ _ rfl rfl)
            rw [hr0, if_pos rfl] at CG
            clear HG hcap hcm
            go_wp2_with fail
            refine CG.out.mono ?_
            rintro e w6 ⟨rfl, v', fv, m7⟩
            have HM7 := Lib.hid m7
            clear m7 CG
            go_wp2_with fail
            go_ret
            exact ⟨rfl, .inr ⟨to, rest, v', fv, HQ2.out, HM7.out⟩⟩
          · have CG := Lib.hid (HG.out _ _ rfl rfl)
            rw [if_neg hc1] at CG
            clear HG
            go_wp2_with fail
            refine CG.out.mono ?_
            rintro e w6 ⟨rfl, v', fv, m7⟩
            have HM7 := Lib.hid m7
            clear m7 CG
            go_wp2_with fail
            go_ret
            exact ⟨rfl, .inr ⟨to, rest, v', fv, HQ2.out, HM7.out⟩⟩
end Go.Proofs.Ytahjgdikjaakbaa
