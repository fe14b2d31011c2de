/- What is proved: RopeCloned. No condition beyond those in each statement. -/
import Derived.Test.YtahjgdikjaakbaaZM
namespace Go.Proofs.Ytahjgdikjaakbaa
open Go.RowKit

/-- Towers that have no block in common, all made of new blocks. -/
structure Fam (w0 : World) (L : List (Nat × TS)) (X : Nat → Nat → Prop) (w : World) : Prop where
  tw : ∀ i T t, L[i]? = some (T, t) → Tw w T t (X i)
  dis : ∀ i j g, i < L.length → j < L.length → i ≠ j → X i g → ¬ X j g
  new : ∀ i g, i < L.length → X i g → w0.heap.size ≤ g
  bel : Below w0.heap.size w0 w
theorem Fam.below {w0 w w' : World} {L : List (Nat × TS)} {X : Nat → Nat → Prop} (F : Fam w0 L X w) (hb : Below w.heap.size w w') : Fam w0 L X w' :=
  ⟨fun i T t h => (F.tw i T t h).below hb, F.dis, F.new, F.bel.trans (hb.mono F.bel.size)⟩
theorem Fam.lt {w0 w : World} {L : List (Nat × TS)} {X : Nat → Nat → Prop} (F : Fam w0 L X w) {i g : Nat} (hi : i < L.length) (hg : X i g) : g < w.heap.size := by
  have := F.tw i L[i].1 L[i].2 (by rw [List.getElem?_eq_getElem hi])
  exact this.lt g hg
theorem Fam.add {w0 w w' : World} {L : List (Nat × TS)} {X : Nat → Nat → Prop} {T : Nat} {t : TS} {Y : Nat → Prop} (F : Fam w0 L X w) (h : Tw w' T t Y) (hY : ∀ g, Y g → w.heap.size ≤ g) (hb : Below w.heap.size w w') : Fam w0 (L ++ [(T, t)]) (fun i => if i < L.length then X i else Y) w' := by
  refine ⟨fun i T' t' hi => ?_, fun i j g hi hj hij hx hy => ?_, fun i g hi hx => ?_, F.bel.trans (hb.mono F.bel.size)⟩
  · by_cases e : i < L.length
    · rw [List.getElem?_append_left e] at hi
      show Tw w' T' t' (if i < L.length then X i else Y)
      rw [if_pos e]
      exact (F.tw i T' t' hi).below hb
    · rw [List.getElem?_append_right (by omega)] at hi
      have : i - L.length = 0 := by
        cases hk : i - L.length with
        | zero => rfl
        | succ k => rw [hk] at hi; cases hi
      rw [this] at hi
      cases hi
      show Tw w' T t (if i < L.length then X i else Y)
      rw [if_neg e]
      exact h
  · rw [List.length_append, List.length_singleton] at hi hj
    have hx : (if i < L.length then X i else Y) g := hx
    have hy : (if j < L.length then X j else Y) g := hy
    by_cases e1 : i < L.length
    · rw [if_pos e1] at hx
      by_cases e2 : j < L.length
      · rw [if_pos e2] at hy; exact F.dis i j g e1 e2 hij hx hy
      · rw [if_neg e2] at hy
        have := F.lt e1 hx
        have := hY g hy
        omega
    · rw [if_neg e1] at hx
      by_cases e2 : j < L.length
      · rw [if_pos e2] at hy
        have := F.lt e2 hy
        have := hY g hx
        omega
      · omega
  · have hx : (if i < L.length then X i else Y) g := hx
    by_cases e1 : i < L.length
    · rw [if_pos e1] at hx; exact F.new i g e1 hx
    · rw [if_neg e1] at hx; exact Nat.le_trans F.bel.size (hY g hx)
theorem Fam.step {w0 w w' : World} {L : List (Nat × TS)} {X : Nat → Nat → Prop} {i T : Nat} {t t' : TS} (F : Fam w0 L X w) (hi : L[i]? = some (T, t)) (k : Stp T (X i) w t' w') : ∃ X', Fam w0 (L.set i (T, t')) X' w' := by
  obtain ⟨Y, k1, k2, k3⟩ := k
  have hil : i < L.length := (List.getElem?_eq_some_iff.1 hi).1
  refine ⟨fun j => if j = i then Y else X j, fun j T' u hj => ?_, fun a b g ha hb hab hx hy => ?_, fun a g ha hx => ?_, ?_⟩
  · by_cases e : j = i
    · subst e
      rw [List.getElem?_set_self hil] at hj
      cases hj
      show Tw w' T t' (if j = j then Y else X j)
      rw [if_pos rfl]
      exact k1
    · rw [List.getElem?_set_ne (fun h => e h.symm)] at hj
      show Tw w' T' u (if j = i then Y else X j)
      rw [if_neg e]
      have hjl : j < L.length := (List.getElem?_eq_some_iff.1 hj).1
      exact (F.tw j T' u hj).off k2 (fun g hg hg2 => F.dis j i g hjl hil e hg hg2)
  · rw [List.length_set] at ha hb
    have hx : (if a = i then Y else X a) g := hx
    have hy : (if b = i then Y else X b) g := hy
    by_cases e1 : a = i
    · rw [if_pos e1] at hx
      have e2 : b ≠ i := fun e => hab (e1.trans e.symm)
      rw [if_neg e2] at hy
      rcases k3 g hx with h | h
      · exact F.dis i b g hil hb (fun e => e2 e.symm) h hy
      · have := F.lt hb hy; omega
    · rw [if_neg e1] at hx
      by_cases e2 : b = i
      · rw [if_pos e2] at hy
        rcases k3 g hy with h | h
        · exact F.dis i a g hil ha (fun e => e1 e.symm) h hx
        · have := F.lt ha hx; omega
      · rw [if_neg e2] at hy
        exact F.dis a b g ha hb hab hx hy
  · rw [List.length_set] at ha
    have hx : (if a = i then Y else X a) g := hx
    by_cases e1 : a = i
    · rw [if_pos e1] at hx
      rcases k3 g hx with h | h
      · exact F.new i g hil h
      · exact Nat.le_trans F.bel.size h
    · rw [if_neg e1] at hx; exact F.new a g ha hx
  · exact F.bel.trans (k2.below F.bel.size (fun g hg => F.new i g hil hg))
def Fm (w0 : World) (L : List (Nat × TS)) (w : World) : Prop := ∃ X, Fam w0 L X w
theorem Fm.bel {w0 w : World} {L : List (Nat × TS)} (h : Fm w0 L w) : Below w0.heap.size w0 w := by
  obtain ⟨X, F⟩ := h; exact F.bel
theorem Fm.below {w0 w w' : World} {L : List (Nat × TS)} (h : Fm w0 L w) (hb : Below w.heap.size w w') : Fm w0 L w' := by
  obtain ⟨X, F⟩ := h; exact ⟨X, F.below hb⟩
theorem fm_act {w0 w : World} {L : List (Nat × TS)} {T n k : Nat} {t : TS} (h : Fm w0 L w) (i : Nat) (hi : L[i]? = some (T, t)) (O : Ok t k) (hk : k ≤ 10000) (hn : t.n = n) (x : Int) (hx : 0 ≤ x ∧ x ≤ 255) :
    Calls Try.prog 15 #[.pointer (some ⟨T, 0, none⟩), .int .i64 n, .int .u8 x] w fun e w' => e = .returned (.bool (t.actB x)) ∧ Fm w0 (L.set i (T, t.act x)) w' := by
  subst hn
  obtain ⟨X, F⟩ := h
  exact (tw_act (F.tw i T t hi) O hk x hx).mono fun _ _ ⟨he, hs⟩ => ⟨he, F.step hi hs⟩
theorem fm_made {w0 w : World} {L : List (Nat × TS)} (h : Fm w0 L w) (x y : Int) (hx : 0 ≤ x ∧ x ≤ 255) (hy : 0 ≤ y ∧ y ≤ 255) : Calls Try.prog 13 #[.agg #[.int .u8 x, .int .u8 y]] w fun e w' => ∃ T, e = .returned (.tuple #[.pointer (some ⟨T, 0, none⟩), .int .i64 (mdN x)]) ∧ Fm w0 (L ++ [(T, mdT x y)]) w' := by
  obtain ⟨X, F⟩ := h
  refine (tmade_calls w w (Below.refl _ _) x y hx hy).mono ?_
  rintro e w' ⟨T, rfl, ho⟩
  have hb := ho.bel
  obtain ⟨Y, h1, h2, _⟩ := ho
  exact ⟨T, rfl, _, F.add h1 (fun g hg => Nat.le_of_not_lt fun h => h2 g h hg) hb⟩
theorem fm_clone {w0 w : World} {L : List (Nat × TS)} {T k : Nat} {t : TS} (h : Fm w0 L w) (i : Nat) (hi : L[i]? = some (T, t)) (O : Ok t k) (hk : k ≤ 10000) :
    Calls Try.prog 31 #[.pointer (some ⟨T, 0, none⟩)] w fun e w' => ∃ T2, e = .returned (.pointer (some ⟨T2, 0, none⟩)) ∧ Fm w0 (L ++ [(T2, t)]) w' := by
  obtain ⟨X, F⟩ := h
  refine (tw_clone (F.tw i T t hi) O hk).mono ?_
  rintro e w' ⟨T2, X2, rfl, h2, hf, hb⟩
  exact ⟨T2, rfl, _, F.add h2 hf hb⟩
theorem fm_alike {w0 w : World} {L : List (Nat × TS)} {T U n k : Nat} {t : TS} (h : Fm w0 L w) (i j : Nat) (hi : L[i]? = some (T, t)) (hj : L[j]? = some (U, t)) (O : Ok t k) (hk : k ≤ 10000) (hn : t.n = n) :
    Calls Try.prog 39 #[.pointer (some ⟨T, 0, none⟩), .pointer (some ⟨U, 0, none⟩), .int .i64 n] w fun e w' => e = .returned (.bool true) ∧ Fm w0 L w' := by
  obtain ⟨X, F⟩ := h
  exact (alike_calls (F.tw i T t hi) (F.tw j U t hj) O hk hn).mono fun _ _ ⟨he, hb⟩ => ⟨he, X, F.below hb⟩
def Cd1 (w : World) (T0 T1 T2 n H : Nat) (v : Value) (wr : World) : Prop := ∃ (i : Nat) (t : TS), v = .int .i64 i ∧ i ≤ H ∧ Fm w [(T0, t), (T1, t), (T2, t)] wr ∧ Ok t i ∧ t.n = n
def Cd2 (w : World) (T0 T1 T2 T3 n : Nat) (v : Value) (wr : World) : Prop := ∃ (i : Nat) (a b : TS), v = .int .i64 i ∧ i ≤ 80 ∧ Fm w [(T0, a), (T1, a), (T2, b), (T3, b)] wr ∧ Ok a i ∧ Ok b i ∧ a.n = n ∧ b.n = n
set_option maxRecDepth 100000 in
set_option maxHeartbeats 16000000 in
theorem cloned_calls (x y : Int) (A : Option Addr) (L c : Nat) (xs : List Int) (w : World) (hx : 0 ≤ x ∧ x ≤ 255) (hy : 0 ≤ y ∧ y ≤ 255) (hL : L = xs.length) (hA : RdU w A xs) (_hl : L ≤ c) (hc : c ≤ 9223372036854775807) (hxs : ∀ b ∈ xs, 0 ≤ b ∧ b ≤ 255) :
    Calls Try.prog 11 #[.agg #[.int .u8 x, .int .u8 y], .slice A L c] w fun e w' => e = .returned (.bool true) ∧ Below w.heap.size w w' := by
  obtain ⟨n, hn⟩ : ∃ n, n = mdN x := ⟨_, rfl⟩
  obtain ⟨W0, hW0⟩ : ∃ W0, W0 = w.alloc (.cells #[.int .u8 x, .int .u8 y] 22) := ⟨_, rfl⟩
  have hbW : Below w.heap.size w W0 := by rw [hW0]; exact (Below.refl _ _).alloc (Nat.le_refl _) _
  obtain ⟨B, hB⟩ : ∃ B, B = w.heap.size := ⟨_, rfl⟩
  have c0 : W0.cell? ⟨B, 0, none⟩ = some (.int .u8 x) := by rw [hW0, hB]; exact World.cell?_alloc_at _ _ _ _ rfl
  have c1 : W0.cell? ⟨B, 1, none⟩ = some (.int .u8 y) := by rw [hW0, hB]; exact World.cell?_alloc_at _ _ _ _ rfl
  have hBl : B < W0.heap.size := World.block_lt_of_cell? _ _ c0
  have CM : Hid (∀ w1 F, Fm W0 F w1 → Calls Try.prog 13 #[.agg #[.int .u8 x, .int .u8 y]] w1 fun e w' => ∃ T, e = .returned (.tuple #[.pointer (some ⟨T, 0, none⟩), .int .i64 n]) ∧ Fm W0 (F ++ [(T, mdT x y)]) w') := fun w1 F hF => by rw [hn]; exact fm_made hF x y hx hy
  have H0 : Hid (Fm W0 [] W0) := ⟨fun _ _ => False, fun i T t h => (by cases h), fun i j g hi => absurd hi (Nat.not_lt_zero i), fun i g hi => absurd hi (Nat.not_lt_zero i), Below.refl _ _⟩
  have CL := Lib.hid (fun w1 => lives_calls w1)
  have HA := Lib.hid (hA.below hbW)
  have HL := Lib.hid hL
  have HXS := Lib.hid hxs
  have HM : Hid (Ok (mdT x y) 0 ∧ (mdT x y).n = n) := ⟨mdT_ok x y, hn.symm⟩
  have hLc : (L : Int) ≤ 9223372036854775807 := by omega
  obtain ⟨H, hH⟩ : ∃ H : Nat, H = min L 80 / 2 := ⟨_, rfl⟩
  have hHL : H ≤ L ∧ H ≤ 40 := by omega
  have h80 : (L ≤ 80 ∧ (L : Int) / 2 = H) ∨ (¬ L ≤ 80 ∧ H = 40) := by omega
  have HBW := Lib.hid hbW
  have HW0 := Lib.hid hW0
  have HB := Lib.hid hB
  clear hA hL hxs hn hH hbW hW0 hB
  rcases h80 with ⟨h80, hd⟩ | ⟨h80, rfl⟩
  · clear hHL
    have hHL : H ≤ L ∧ H ≤ 40 := by omega
    go_enter Try.func11, Try.ntmps11
    go_wp2_with fail
    have hW0 := HW0.out
    have hB := HB.out
    rw [← hW0, ← hB]
    clear hW0 hB
    refine (CM.out _ _ H0.out).mono ?_
    rintro e w1 ⟨T0, rfl, h1⟩
    have H1 := Lib.hid h1
    have d0 := (h1.bel.cell (p := ⟨B, 0, none⟩) hBl).trans c0
    have d1 := (h1.bel.cell (p := ⟨B, 1, none⟩) hBl).trans c1
    clear h1 H0
    go_wp2_with fail
    refine (CM.out _ _ H1.out).mono ?_
    rintro e w2 ⟨T1, rfl, h2⟩
    have H2 := Lib.hid h2
    have d2 := (h2.bel.cell (p := ⟨B, 0, none⟩) hBl).trans c0
    have d3 := (h2.bel.cell (p := ⟨B, 1, none⟩) hBl).trans c1
    clear h2 H1 d0 d1
    go_wp2_with fail
    refine (CM.out _ _ H2.out).mono ?_
    rintro e w3 ⟨T2, rfl, h3⟩
    have H3 := Lib.hid h3
    clear h3 H2 CM d2 d3 c0 c1
    go_wp2_with fail
    refine (CL.out _).mono ?_
    rintro e w4 ⟨rfl, hb⟩
    have H4 : Hid (Fm W0 [(T0, mdT x y), (T1, mdT x y), (T2, mdT x y)] w4) := H3.out.below hb
    clear hb CL H3
    go_wp2_with fail
    go_loopw [12] (fun v wr => Cd1 W0 T0 T1 T2 n H v wr) (fun v _ => H - (intOf v).toNat)
    case atStart => exact ⟨0, mdT x y, rfl, Nat.zero_le _, H4.out, HM.out.1, HM.out.2⟩
    case round =>
      obtain ⟨i, t, rfl, hiH, hF, hO, htn⟩ := hrel
      have HF := Lib.hid hF
      have HOO := Lib.hid (And.intro hO htn)
      by_cases hlt : i < H
      · have hiL : i < L := by omega
        have hil : i < xs.length := by have := HL.out; omega
        obtain ⟨b, o, rfl, hb, hcell⟩ := HA.out.at i hil
        have g0 := (hF.bel.cell (p := ⟨b, o + i, none⟩) hb).trans hcell
        have hxi := HXS.out xs[i] (List.getElem_mem hil)
        obtain ⟨xi, hxi2⟩ : ∃ xi, xi = xs[i] := ⟨_, rfl⟩
        rw [← hxi2] at g0 hxi hcell
        have CA : Hid (∀ F w1, Fm W0 F w1 → ∀ (j T : Nat), F[j]? = some (T, t) → Calls Try.prog 15 #[.pointer (some ⟨T, 0, none⟩), .int .i64 n, .int .u8 xi] w1 fun e w' => (∃ r, e = .returned (.bool r)) ∧ Fm W0 (F.set j (T, t.act xi)) w') := fun F w1 h1 j T hj => (fm_act h1 j hj hO (by omega) htn xi hxi).mono fun _ _ ⟨he, hf⟩ => ⟨⟨_, he⟩, hf⟩
        have z1 : (0 : Int) ≤ (i : Int) ∧ (i : Int) < L := by omega
        clear hF hO htn hxi hxi2
        go_wp2_with fail
        refine (CA.out _ _ HF.out 0 T0 rfl).mono ?_
        rintro e w5 ⟨⟨r5, rfl⟩, h5⟩
        have H5 : Hid (Fm W0 [(T0, t.act xi), (T1, t), (T2, t)] w5) := h5
        have g5 := (h5.bel.cell (p := ⟨b, o + i, none⟩) hb).trans hcell
        clear h5
        go_wp2_with fail
        refine (CA.out _ _ H5.out 1 T1 rfl).mono ?_
        rintro e w6 ⟨⟨r6, rfl⟩, h6⟩
        have H6 : Hid (Fm W0 [(T0, t.act xi), (T1, t.act xi), (T2, t)] w6) := h6
        have g6 := (h6.bel.cell (p := ⟨b, o + i, none⟩) hb).trans hcell
        clear h6 H5 g5
        go_wp2_with fail
        refine (CA.out _ _ H6.out 2 T2 rfl).mono ?_
        rintro e w7 ⟨⟨r7, rfl⟩, h7⟩
        have H7 : Hid (Fm W0 [(T0, t.act xi), (T1, t.act xi), (T2, t.act xi)] w7) := h7
        clear h7 H6 g6 CA
        go_wp2_with fail
        go_roundw
        case rel => exact ⟨i + 1, t.act xi, by go_num, hlt, H7.out, HOO.out.1.act xi, by rw [act_n]; exact HOO.out.2⟩
        case measure => simp [intOf]; omega
      · have CC : Hid (∀ w1, Fm W0 [(T0, t), (T1, t), (T2, t)] w1 → Calls Try.prog 31 #[.pointer (some ⟨T0, 0, none⟩)] w1 fun e w' => ∃ T3, e = .returned (.pointer (some ⟨T3, 0, none⟩)) ∧ Fm W0 [(T0, t), (T1, t), (T2, t), (T3, t)] w') := fun w1 h1 => fm_clone h1 0 rfl hO (by omega)
        have hiE : i = H := by omega
        clear hF hO htn
        go_wp2_with fail
        refine (CC.out _ HF.out).mono ?_
        rintro e w5 ⟨T3, rfl, h5⟩
        have H5 : Hid (Cd2 W0 T0 T1 T2 T3 n (.int .i64 H) w5) := ⟨i, t, t, by subst hiE; rfl, by omega, h5, HOO.out.1, HOO.out.1, HOO.out.2, HOO.out.2⟩
        clear h5 CC hiE hiH
        go_wp2_with fail
        go_loopw [14] (fun v wr => Cd2 W0 T0 T1 T2 T3 n v wr) (fun v _ => L - (intOf v).toNat)
        case atStart => exact H5.out
        case round =>
          obtain ⟨j, a, b, rfl, hj8, hF, hOa, hOb, hna, hnb⟩ := hrel
          have HF := Lib.hid hF
          have HOO := Lib.hid (And.intro hOa (And.intro hOb (And.intro hna hnb)))
          have CK : Hid (∀ w1 F (p q P Q : Nat) (o : TS), Ok o (j + 1) ∨ Ok o j → o.n = n → Fm W0 F w1 → F[p]? = some (P, o) → F[q]? = some (Q, o) → Calls Try.prog 39 #[.pointer (some ⟨P, 0, none⟩), .pointer (some ⟨Q, 0, none⟩), .int .i64 n] w1 fun e w' => e = .returned (.bool true) ∧ Fm W0 F w') := by
            intro w1 F p q P Q o ho hn h1 hp hq
            rcases ho with ho | ho
            · exact fm_alike h1 p q hp hq ho (by omega) hn
            · exact fm_alike h1 p q hp hq ho (by omega) hn
          by_cases hcond : j < L ∧ j < 80
          · obtain ⟨h1, h2⟩ := hcond
            have hil : j < xs.length := by have := HL.out; omega
            obtain ⟨bb, o, rfl, hb, hcell⟩ := HA.out.at j hil
            have g0 := (hF.bel.cell (p := ⟨bb, o + j, none⟩) hb).trans hcell
            have hxi := HXS.out xs[j] (List.getElem_mem hil)
            obtain ⟨xi, hxi2⟩ : ∃ xi, xi = xs[j] := ⟨_, rfl⟩
            rw [← hxi2] at g0 hxi
            have CA : Hid (∀ F w1 (y : Int) (t : TS), 0 ≤ y ∧ y ≤ 255 → Ok t j → t.n = n → Fm W0 F w1 → ∀ (p T : Nat), F[p]? = some (T, t) → Calls Try.prog 15 #[.pointer (some ⟨T, 0, none⟩), .int .i64 n, .int .u8 y] w1 fun e w' => (∃ r, e = .returned (.bool r)) ∧ Fm W0 (F.set p (T, t.act y)) w') := fun F w1 y t hy ho hn h1 p T hp => (fm_act h1 p hp ho (by omega) hn y hy).mono fun _ _ ⟨he, hf⟩ => ⟨⟨_, he⟩, hf⟩
            have z1 : (0 : Int) ≤ (j : Int) ∧ (j : Int) < L := by omega
            have wsu : IntKind.u8.wrap (255 - xi) = 255 - xi := by simp [IntKind.wrap, IntKind.signed, IntKind.bits]; omega
            have hy2 : 0 ≤ 255 - xi ∧ 255 - xi ≤ 255 := by omega
            have HXI := Lib.hid (And.intro hxi hy2)
            clear hF hOa hOb hna hnb hxi2 hcell hy2
            go_wp2_with fail
            go_quiet (fail)
            go_wp2_with fail
            refine (CA.out _ _ xi a HXI.out.1 HOO.out.1 HOO.out.2.2.1 (HF.out.below (below_drewN (Below.refl _ _) _)) 0 T0 rfl).mono ?_
            rintro e w6 ⟨⟨r6, rfl⟩, h6⟩
            have H6 : Hid (Fm W0 [(T0, a.act xi), (T1, a), (T2, b), (T3, b)] w6) := h6
            clear h6
            go_wp2_with fail
            refine (CA.out _ _ (255 - xi) b HXI.out.2 HOO.out.2.1 HOO.out.2.2.2 H6.out 3 T3 rfl).mono ?_
            rintro e w7 ⟨⟨r7, rfl⟩, h7⟩
            have H7 : Hid (Fm W0 [(T0, a.act xi), (T1, a), (T2, b), (T3, b.act (255 - xi))] w7) := h7
            clear h7 H6
            go_wp2_with fail
            refine (CA.out _ _ xi a HXI.out.1 HOO.out.1 HOO.out.2.2.1 H7.out 1 T1 rfl).mono ?_
            rintro e w8 ⟨⟨r8, rfl⟩, h8⟩
            have H8 : Hid (Fm W0 [(T0, a.act xi), (T1, a.act xi), (T2, b), (T3, b.act (255 - xi))] w8) := h8
            clear h8 H7
            go_wp2_with fail
            refine (CA.out _ _ (255 - xi) b HXI.out.2 HOO.out.2.1 HOO.out.2.2.2 H8.out 2 T2 rfl).mono ?_
            rintro e w9 ⟨⟨r9, rfl⟩, h9⟩
            have H9 : Hid (Fm W0 [(T0, a.act xi), (T1, a.act xi), (T2, b.act (255 - xi)), (T3, b.act (255 - xi))] w9) := h9
            clear h9 H8 CA
            have HO1 : Hid (Ok (a.act xi) (j + 1) ∧ (a.act xi).n = n) := ⟨HOO.out.1.act xi, by rw [act_n]; exact HOO.out.2.2.1⟩
            have HO2 : Hid (Ok (b.act (255 - xi)) (j + 1) ∧ (b.act (255 - xi)).n = n) := ⟨HOO.out.2.1.act _, by rw [act_n]; exact HOO.out.2.2.2⟩
            go_wp2_with fail
            refine (CK.out _ _ 0 1 T0 T1 (a.act xi) (.inl HO1.out.1) HO1.out.2 H9.out rfl rfl).mono ?_
            rintro e w10 ⟨rfl, h10⟩
            have H10 := Lib.hid h10
            clear h10 H9
            go_wp2_with fail
            refine (CK.out _ _ 3 2 T3 T2 (b.act (255 - xi)) (.inl HO2.out.1) HO2.out.2 H10.out rfl rfl).mono ?_
            rintro e w11 ⟨rfl, h11⟩
            have H11 := Lib.hid h11
            clear h11 H10
            go_wp2_with fail
            go_roundw
            case rel => exact ⟨j + 1, a.act xi, b.act (255 - xi), by go_num, by omega, H11.out, HO1.out.1, HO2.out.1, HO1.out.2, HO2.out.2⟩
            case measure => simp [intOf]; omega
          · have hdone : ¬ j < L ∨ ¬ j < 80 := by omega
            clear hF hOa hOb hna hnb
            by_cases h1 : j < L
            · exfalso; omega
            · clear hcond hdone
              go_wp2_with fail
              refine (CK.out _ _ 0 1 T0 T1 a (.inr HOO.out.1) HOO.out.2.2.1 HF.out rfl rfl).mono ?_
              rintro e w6 ⟨rfl, h6⟩
              have H6 := Lib.hid h6
              clear h6
              go_wp2_with fail
              refine (CK.out _ _ 3 2 T3 T2 b (.inr HOO.out.2.1) HOO.out.2.2.2 H6.out rfl rfl).mono ?_
              rintro e w7 ⟨rfl, h7⟩
              have H7 := Lib.hid h7
              clear h7 H6
              go_wp2_with fail
              go_ret
              exact ⟨rfl, HBW.out.trans (H7.out.bel.mono HBW.out.size)⟩
  · go_enter Try.func11, Try.ntmps11
    go_wp2_with fail
    have hW0 := HW0.out
    have hB := HB.out
    rw [← hW0, ← hB]
    clear hW0 hB
    refine (CM.out _ _ H0.out).mono ?_
    rintro e w1 ⟨T0, rfl, h1⟩
    have H1 := Lib.hid h1
    have d0 := (h1.bel.cell (p := ⟨B, 0, none⟩) hBl).trans c0
    have d1 := (h1.bel.cell (p := ⟨B, 1, none⟩) hBl).trans c1
    clear h1 H0
    go_wp2_with fail
    refine (CM.out _ _ H1.out).mono ?_
    rintro e w2 ⟨T1, rfl, h2⟩
    have H2 := Lib.hid h2
    have d2 := (h2.bel.cell (p := ⟨B, 0, none⟩) hBl).trans c0
    have d3 := (h2.bel.cell (p := ⟨B, 1, none⟩) hBl).trans c1
    clear h2 H1 d0 d1
    go_wp2_with fail
    refine (CM.out _ _ H2.out).mono ?_
    rintro e w3 ⟨T2, rfl, h3⟩
    have H3 := Lib.hid h3
    clear h3 H2 CM d2 d3 c0 c1
    go_wp2_with fail
    refine (CL.out _).mono ?_
    rintro e w4 ⟨rfl, hb⟩
    have H4 : Hid (Fm W0 [(T0, mdT x y), (T1, mdT x y), (T2, mdT x y)] w4) := H3.out.below hb
    clear hb CL H3
    go_wp2_with fail
    go_loopw [12] (fun v wr => Cd1 W0 T0 T1 T2 n 40 v wr) (fun v _ => 40 - (intOf v).toNat)
    case atStart => exact ⟨0, mdT x y, rfl, Nat.zero_le _, H4.out, HM.out.1, HM.out.2⟩
    case round =>
      obtain ⟨i, t, rfl, hiH, hF, hO, htn⟩ := hrel
      have HF := Lib.hid hF
      have HOO := Lib.hid (And.intro hO htn)
      by_cases hlt : i < 40
      · have hiL : i < L := by omega
        have hil : i < xs.length := by have := HL.out; omega
        obtain ⟨b, o, rfl, hb, hcell⟩ := HA.out.at i hil
        have g0 := (hF.bel.cell (p := ⟨b, o + i, none⟩) hb).trans hcell
        have hxi := HXS.out xs[i] (List.getElem_mem hil)
        obtain ⟨xi, hxi2⟩ : ∃ xi, xi = xs[i] := ⟨_, rfl⟩
        rw [← hxi2] at g0 hxi hcell
        have CA : Hid (∀ F w1, Fm W0 F w1 → ∀ (j T : Nat), F[j]? = some (T, t) → Calls Try.prog 15 #[.pointer (some ⟨T, 0, none⟩), .int .i64 n, .int .u8 xi] w1 fun e w' => (∃ r, e = .returned (.bool r)) ∧ Fm W0 (F.set j (T, t.act xi)) w') := fun F w1 h1 j T hj => (fm_act h1 j hj hO (by omega) htn xi hxi).mono fun _ _ ⟨he, hf⟩ => ⟨⟨_, he⟩, hf⟩
        have z1 : (0 : Int) ≤ (i : Int) ∧ (i : Int) < L := by omega
        clear hF hO htn hxi hxi2
        go_wp2_with fail
        refine (CA.out _ _ HF.out 0 T0 rfl).mono ?_
        rintro e w5 ⟨⟨r5, rfl⟩, h5⟩
        have H5 : Hid (Fm W0 [(T0, t.act xi), (T1, t), (T2, t)] w5) := h5
        have g5 := (h5.bel.cell (p := ⟨b, o + i, none⟩) hb).trans hcell
        clear h5
        go_wp2_with fail
        refine (CA.out _ _ H5.out 1 T1 rfl).mono ?_
        rintro e w6 ⟨⟨r6, rfl⟩, h6⟩
        have H6 : Hid (Fm W0 [(T0, t.act xi), (T1, t.act xi), (T2, t)] w6) := h6
        have g6 := (h6.bel.cell (p := ⟨b, o + i, none⟩) hb).trans hcell
        clear h6 H5 g5
        go_wp2_with fail
        refine (CA.out _ _ H6.out 2 T2 rfl).mono ?_
        rintro e w7 ⟨⟨r7, rfl⟩, h7⟩
        have H7 : Hid (Fm W0 [(T0, t.act xi), (T1, t.act xi), (T2, t.act xi)] w7) := h7
        clear h7 H6 g6 CA
        go_wp2_with fail
        go_roundw
        case rel => exact ⟨i + 1, t.act xi, by go_num, hlt, H7.out, HOO.out.1.act xi, by rw [act_n]; exact HOO.out.2⟩
        case measure => simp [intOf]; omega
      · have CC : Hid (∀ w1, Fm W0 [(T0, t), (T1, t), (T2, t)] w1 → Calls Try.prog 31 #[.pointer (some ⟨T0, 0, none⟩)] w1 fun e w' => ∃ T3, e = .returned (.pointer (some ⟨T3, 0, none⟩)) ∧ Fm W0 [(T0, t), (T1, t), (T2, t), (T3, t)] w') := fun w1 h1 => fm_clone h1 0 rfl hO (by omega)
        have hiE : i = 40 := by omega
        clear hF hO htn
        go_wp2_with fail
        refine (CC.out _ HF.out).mono ?_
        rintro e w5 ⟨T3, rfl, h5⟩
        have H5 : Hid (Cd2 W0 T0 T1 T2 T3 n (.int .i64 40) w5) := ⟨i, t, t, by subst hiE; rfl, by omega, h5, HOO.out.1, HOO.out.1, HOO.out.2, HOO.out.2⟩
        clear h5 CC hiE hiH
        go_wp2_with fail
        go_loopw [14] (fun v wr => Cd2 W0 T0 T1 T2 T3 n v wr) (fun v _ => L - (intOf v).toNat)
        case atStart => exact H5.out
        case round =>
          obtain ⟨j, a, b, rfl, hj8, hF, hOa, hOb, hna, hnb⟩ := hrel
          have HF := Lib.hid hF
          have HOO := Lib.hid (And.intro hOa (And.intro hOb (And.intro hna hnb)))
          have CK : Hid (∀ w1 F (p q P Q : Nat) (o : TS), Ok o (j + 1) ∨ Ok o j → o.n = n → Fm W0 F w1 → F[p]? = some (P, o) → F[q]? = some (Q, o) → Calls Try.prog 39 #[.pointer (some ⟨P, 0, none⟩), .pointer (some ⟨Q, 0, none⟩), .int .i64 n] w1 fun e w' => e = .returned (.bool true) ∧ Fm W0 F w') := by
            intro w1 F p q P Q o ho hn h1 hp hq
            rcases ho with ho | ho
            · exact fm_alike h1 p q hp hq ho (by omega) hn
            · exact fm_alike h1 p q hp hq ho (by omega) hn
          by_cases hcond : j < L ∧ j < 80
          · obtain ⟨h1, h2⟩ := hcond
            have hil : j < xs.length := by have := HL.out; omega
            obtain ⟨bb, o, rfl, hb, hcell⟩ := HA.out.at j hil
            have g0 := (hF.bel.cell (p := ⟨bb, o + j, none⟩) hb).trans hcell
            have hxi := HXS.out xs[j] (List.getElem_mem hil)
            obtain ⟨xi, hxi2⟩ : ∃ xi, xi = xs[j] := ⟨_, rfl⟩
            rw [← hxi2] at g0 hxi
            have CA : Hid (∀ F w1 (y : Int) (t : TS), 0 ≤ y ∧ y ≤ 255 → Ok t j → t.n = n → Fm W0 F w1 → ∀ (p T : Nat), F[p]? = some (T, t) → Calls Try.prog 15 #[.pointer (some ⟨T, 0, none⟩), .int .i64 n, .int .u8 y] w1 fun e w' => (∃ r, e = .returned (.bool r)) ∧ Fm W0 (F.set p (T, t.act y)) w') := fun F w1 y t hy ho hn h1 p T hp => (fm_act h1 p hp ho (by omega) hn y hy).mono fun _ _ ⟨he, hf⟩ => ⟨⟨_, he⟩, hf⟩
            have z1 : (0 : Int) ≤ (j : Int) ∧ (j : Int) < L := by omega
            have wsu : IntKind.u8.wrap (255 - xi) = 255 - xi := by simp [IntKind.wrap, IntKind.signed, IntKind.bits]; omega
            have hy2 : 0 ≤ 255 - xi ∧ 255 - xi ≤ 255 := by omega
            have HXI := Lib.hid (And.intro hxi hy2)
            clear hF hOa hOb hna hnb hxi2 hcell hy2
            go_wp2_with fail
            go_quiet (fail)
            go_wp2_with fail
            refine (CA.out _ _ xi a HXI.out.1 HOO.out.1 HOO.out.2.2.1 (HF.out.below (below_drewN (Below.refl _ _) _)) 0 T0 rfl).mono ?_
            rintro e w6 ⟨⟨r6, rfl⟩, h6⟩
            have H6 : Hid (Fm W0 [(T0, a.act xi), (T1, a), (T2, b), (T3, b)] w6) := h6
            clear h6
            go_wp2_with fail
            refine (CA.out _ _ (255 - xi) b HXI.out.2 HOO.out.2.1 HOO.out.2.2.2 H6.out 3 T3 rfl).mono ?_
            rintro e w7 ⟨⟨r7, rfl⟩, h7⟩
            have H7 : Hid (Fm W0 [(T0, a.act xi), (T1, a), (T2, b), (T3, b.act (255 - xi))] w7) := h7
            clear h7 H6
            go_wp2_with fail
            refine (CA.out _ _ xi a HXI.out.1 HOO.out.1 HOO.out.2.2.1 H7.out 1 T1 rfl).mono ?_
            rintro e w8 ⟨⟨r8, rfl⟩, h8⟩
            have H8 : Hid (Fm W0 [(T0, a.act xi), (T1, a.act xi), (T2, b), (T3, b.act (255 - xi))] w8) := h8
            clear h8 H7
            go_wp2_with fail
            refine (CA.out _ _ (255 - xi) b HXI.out.2 HOO.out.2.1 HOO.out.2.2.2 H8.out 2 T2 rfl).mono ?_
            rintro e w9 ⟨⟨r9, rfl⟩, h9⟩
            have H9 : Hid (Fm W0 [(T0, a.act xi), (T1, a.act xi), (T2, b.act (255 - xi)), (T3, b.act (255 - xi))] w9) := h9
            clear h9 H8 CA
            have HO1 : Hid (Ok (a.act xi) (j + 1) ∧ (a.act xi).n = n) := ⟨HOO.out.1.act xi, by rw [act_n]; exact HOO.out.2.2.1⟩
            have HO2 : Hid (Ok (b.act (255 - xi)) (j + 1) ∧ (b.act (255 - xi)).n = n) := ⟨HOO.out.2.1.act _, by rw [act_n]; exact HOO.out.2.2.2⟩
            go_wp2_with fail
            refine (CK.out _ _ 0 1 T0 T1 (a.act xi) (.inl HO1.out.1) HO1.out.2 H9.out rfl rfl).mono ?_
            rintro e w10 ⟨rfl, h10⟩
            have H10 := Lib.hid h10
            clear h10 H9
            go_wp2_with fail
            refine (CK.out _ _ 3 2 T3 T2 (b.act (255 - xi)) (.inl HO2.out.1) HO2.out.2 H10.out rfl rfl).mono ?_
            rintro e w11 ⟨rfl, h11⟩
            have H11 := Lib.hid h11
            clear h11 H10
            go_wp2_with fail
            go_roundw
            case rel => exact ⟨j + 1, a.act xi, b.act (255 - xi), by go_num, by omega, H11.out, HO1.out.1, HO2.out.1, HO1.out.2, HO2.out.2⟩
            case measure => simp [intOf]; omega
          · have hdone : ¬ j < L ∨ ¬ j < 80 := by omega
            clear hF hOa hOb hna hnb
            by_cases h1 : j < L
            · have h2 : ¬ j < 80 := fun h => hcond ⟨h1, h⟩
              clear hcond hdone
              go_wp2_with fail
              refine (CK.out _ _ 0 1 T0 T1 a (.inr HOO.out.1) HOO.out.2.2.1 HF.out rfl rfl).mono ?_
              rintro e w6 ⟨rfl, h6⟩
              have H6 := Lib.hid h6
              clear h6
              go_wp2_with fail
              refine (CK.out _ _ 3 2 T3 T2 b (.inr HOO.out.2.1) HOO.out.2.2.2 H6.out rfl rfl).mono ?_
              rintro e w7 ⟨rfl, h7⟩
              have H7 := Lib.hid h7
              clear h7 H6
              go_wp2_with fail
              go_ret
              exact ⟨rfl, HBW.out.trans (H7.out.bel.mono HBW.out.size)⟩
            · clear hcond hdone
              go_wp2_with fail
              refine (CK.out _ _ 0 1 T0 T1 a (.inr HOO.out.1) HOO.out.2.2.1 HF.out rfl rfl).mono ?_
              rintro e w6 ⟨rfl, h6⟩
              have H6 := Lib.hid h6
              clear h6
              go_wp2_with fail
              refine (CK.out _ _ 3 2 T3 T2 b (.inr HOO.out.2.1) HOO.out.2.2.2 H6.out rfl rfl).mono ?_
              rintro e w7 ⟨rfl, h7⟩
              have H7 := Lib.hid h7
              clear h7 H6
              go_wp2_with fail
              go_ret
              exact ⟨rfl, HBW.out.trans (H7.out.bel.mono HBW.out.size)⟩
end Go.Proofs.Ytahjgdikjaakbaa
