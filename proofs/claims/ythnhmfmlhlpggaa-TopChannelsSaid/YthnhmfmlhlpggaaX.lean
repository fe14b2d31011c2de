/- What is proved: the machine of Accepts on the expression of lives. No condition beyond those in each statement. -/
import Derived.Test.YthnhmfmlhlpggaaW
import Derived.Lib.Strings
import Derived.Lib.Slices
import Derived.Lib.Walk
import Derived.Lib.Bytealg
namespace Go.Proofs.Ythnhmfmlhlpggaa
open Go.RowKit
set_option maxRecDepth 100000

set_option maxHeartbeats 1000000 in
theorem ib117_calls (s : ByteArray) (c : Int) (w : World) :
    Calls Try.prog 117 #[.string s, .int .u8 c] w fun e w' => e = .returned (.int .i64 (Lib.indexByte s.data.toList c.toNat.toUInt8)) ∧ w' = w := by
  go_enter Try.func117, Try.ntmps117
  go_wp2
  rw [run_callFunc_extern Try.func120 (by kernel_rfl) (by kernel_rfl) (by kernel_rfl) (e := Extern.BytealgIndexByte.indexByte) (by kernel_rfl), Lib.run_indexByteString]
  simp only [Result.andThen]
  rw [Oper.upon_value]
  go_wp2
  go_ret
  exact ⟨rfl, rfl⟩
set_option maxHeartbeats 1000000 in
theorem ib108_calls (s : ByteArray) (c : Int) (z : Int) (hz : Lib.indexByte s.data.toList c.toNat.toUInt8 = z) (w : World) :
    Calls Try.prog 108 #[.string s, .int .u8 c] w fun e w' => e = .returned (.int .i64 z) ∧ w = w' := by
  subst hz
  go_enter Try.func108, Try.ntmps108
  go_wp2_with (go_at_call 117; refine (ib117_calls _ _ _).mono ?_; rintro e w' ⟨rfl, rfl⟩)
  go_ret
  exact ⟨rfl, rfl⟩
/-- A row of maps of the call's own. -/
def OwM (w : World) (base : Nat) (v : Value) (xs : List Nat) : Prop := w.ownsRow base 116 1 v xs.length (xs.map fun m => Value.map (some m))
theorem info116 : (Try.prog.info? 116).map (fun i => (i.zero, i.size, i.bytes)) = some (some (.map none), 1, 8) := by kernel_rfl
theorem OwM.below {w w' : World} {base : Nat} {v : Value} {xs : List Nat} (h : OwM w base v xs) (hb : Below w.heap.size w w') : OwM w' base v xs := by
  refine World.ownsRow.kept h (row := none) ⟨hb.os, hb.tape, hb.output, hb.size, fun k hk _ => hb.block k hk⟩ ?_
  cases v.ownBlock <;> simp
theorem om_push {w : World} {base : Nat} {v : Value} {xs : List Nat} (x : Nat) (h : OwM w base v xs) (hb : base ≤ w.heap.size) (hl : xs.length ≤ 1000) :
    ∃ g c w', (Builtin.append_ #[145, 145] 145 #[v, .slice (some ⟨w.heap.size, 0, none⟩) 1 1]).run Try.prog (w.alloc (.cells #[.map (some x)] 116)) = .ok (.slice (some ⟨g, 0, none⟩) (xs.length + 1) c) w' ∧ OwM w' base (.slice (some ⟨g, 0, none⟩) (xs.length + 1) c) (xs ++ [x]) ∧ Below base w w' ∧ (xs.length + 1 ≤ c) ∧ ∀ m ks, Mp w m ks → Mp w' m ks := by
  obtain ⟨i0, hi, hz0, hz1, hz2⟩ := info_parts info116
  have hn2 : ∀ j u, ([.map (some x)] : List Value)[j]? = some u → (w.alloc (.cells #[.map (some x)] 116)).cell? ((⟨w.heap.size, 0, none⟩ : Addr).add j) = some u := by
    intro j u hj
    rw [addr_add, Nat.zero_add, World.cell?_alloc_at _ _ _ _ rfl]
    simpa using hj
  obtain ⟨v', w', hrun, r1, r2, r3⟩ := run_append_own (P := Try.prog) (w.alloc (.cells #[.map (some x)] 116)) base 145 145 116 i0 (.map none) 1 8 Try.underlying145 hi hz0 hz1 hz2 rfl (by decide) v xs.length (xs.map fun m => Value.map (some m)) (World.ownsRow.alloc h _) ⟨w.heap.size, 0, none⟩ 1 1 [.map (some x)] rfl hn2 (by simp [Value.oneCell']) (by simp [maxLen]; omega) (by omega) (by simp; omega)
  have hb0 : Below w.heap.size w (w.alloc (.cells #[.map (some x)] 116)) := (Below.refl _ w).alloc (Nat.le_refl _) _
  have hB : Below base w w' := ((Below.refl _ w).alloc hb _).grown r2 (by simp; omega) (fun k hk => (World.ownsRow.lt h k hk).1)
  have ho : OwM w' base v' (xs ++ [x]) := by unfold OwM; rw [List.length_append, List.map_append]; exact r1
  have hmp : ∀ m ks, Mp w m ks → Mp w' m ks := by
    intro m ks hm
    have hml := hm.lt
    refine hm.same ((r2.block m (by simp; omega) ?_).trans (hb0.block m hml))
    intro e
    obtain ⟨es, clock, hh, _⟩ := hm
    rcases h.2 with ⟨rfl, _⟩ | ⟨g, cap, cur, rfl, _, hg, _⟩
    · cases e
    · have e1 : m = g := by simpa [Value.ownBlock] using e
      subst e1
      rw [hh] at hg
      cases hg
  rcases ho.2 with ⟨_, h0⟩ | ⟨g, cap, cur, rfl, q⟩
  · simp at h0
  · rw [List.length_append, List.length_singleton] at hrun q ho
    exact ⟨g, cap, w', hrun, ho, hB, q.2.2.1, hmp⟩
theorem OwM.cut {w : World} {base g n c k : Nat} {xs : List Nat} (h : OwM w base (.slice (some ⟨g, 0, none⟩) n c) xs) (hk : k ≤ xs.length) : OwM w base (.slice (some ⟨g, 0, none⟩) k c) (xs.take k) := by
  have hl : (xs.take k).length = k := by rw [List.length_take]; omega
  rcases h.2 with ⟨h', _⟩ | ⟨g', cap, cur, e, h1, h2, h3, h4, h5, h6⟩
  · cases h'
  · cases e
    refine ⟨by simp, .inr ⟨g, c, cur, by rw [hl], h1, h2, by omega, h4, h5, ?_⟩⟩
    rw [hl, List.map_take, ← h6, List.take_take, Nat.mul_one, Nat.mul_one, Nat.min_eq_left hk]
theorem OwM.at {w : World} {base g n c : Nat} {xs : List Nat} (h : OwM w base (.slice (some ⟨g, 0, none⟩) n c) xs) (i : Nat) (hi : i < xs.length) : w.cell? ⟨g, i, none⟩ = some (.map (some xs[i])) := by
  rcases h.2 with ⟨h', _⟩ | ⟨g', cap, cur, e, _⟩
  · cases h'
  · cases e
    rw [World.ownsRow.cellAt h i (by omega)]
    simp [hi]
def machV (Y : Nat) : Value := .agg #[.func (.func 76) #[] #[.pointer (some ⟨Y, 0, none⟩)], .func (.func 78) #[] #[.pointer (some ⟨Y, 0, none⟩)], .func (.func 80) #[] #[], .func (.func 81) #[] #[.pointer (some ⟨Y, 0, none⟩)]]
set_option maxHeartbeats 8000000 in
theorem run_calls {w : World} {Y : Nat} (h : Mst w Y) : Calls Try.prog 82 #[machV Y, .string ⟨#[97, 42, 98, 43]⟩] w fun e w' => ∃ m, e = .returned (.tuple #[.map (some m), .bool true]) ∧ Mp w' m [0, 2] ∧ w.heap.size ≤ m ∧ Below w.heap.size w w' := by
  obtain ⟨B, hB⟩ : ∃ B, B = w.heap.size := ⟨_, rfl⟩
  have I1 : Hid (∀ c z, (c = 97 ∧ z = -1) ∨ (c = 42 ∧ z = 0) ∨ (c = 98 ∧ z = -1) ∨ (c = 43 ∧ z = -1) → ∀ w1, Calls Try.prog 108 #[.string ⟨#[42]⟩, .int .u8 c] w1 fun e w' => e = .returned (.int .i64 z) ∧ w1 = w') := fun c z hc w1 => ib108_calls _ _ z (by rcases hc with ⟨rfl, rfl⟩ | ⟨rfl, rfl⟩ | ⟨rfl, rfl⟩ | ⟨rfl, rfl⟩ <;> decide) w1
  have I2 : Hid (∀ c z, (c = 97 ∧ z = -1) ∨ (c = 42 ∧ z = -1) ∨ (c = 98 ∧ z = -1) ∨ (c = 43 ∧ z = -1) → ∀ w1, Calls Try.prog 108 #[.string ⟨#[46]⟩, .int .u8 c] w1 fun e w' => e = .returned (.int .i64 z) ∧ w1 = w') := fun c z hc w1 => ib108_calls _ _ z (by rcases hc with ⟨rfl, rfl⟩ | ⟨rfl, rfl⟩ | ⟨rfl, rfl⟩ | ⟨rfl, rfl⟩ <;> decide) w1
  have I3 : Hid (∀ c z, (c = 97 ∧ z = -1) ∨ (c = 42 ∧ z = -1) ∨ (c = 98 ∧ z = -1) ∨ (c = 43 ∧ z = 0) → ∀ w1, Calls Try.prog 108 #[.string ⟨#[43]⟩, .int .u8 c] w1 fun e w' => e = .returned (.int .i64 z) ∧ w1 = w') := fun c z hc w1 => ib108_calls _ _ z (by rcases hc with ⟨rfl, rfl⟩ | ⟨rfl, rfl⟩ | ⟨rfl, rfl⟩ | ⟨rfl, rfl⟩ <;> decide) w1
  have H := Lib.hid h
  clear h
  unfold machV
  obtain ⟨W0, hW0⟩ : ∃ W0, W0 = w.alloc (.cells #[.func (.func 76) #[] #[.pointer (some ⟨Y, 0, none⟩)], .func (.func 78) #[] #[.pointer (some ⟨Y, 0, none⟩)], .func (.func 80) #[] #[], .func (.func 81) #[] #[.pointer (some ⟨Y, 0, none⟩)]] 122) := ⟨_, rfl⟩
  have hB0 : Below w.heap.size w W0 := by rw [hW0]; exact (Below.refl _ _).alloc (Nat.le_refl _) _
  have hs0 : W0.heap.size = B + 1 := by rw [hW0, hB]; simp
  have HM : Hid (∀ w', Below W0.heap.size W0 w' → (w'.cell? ⟨B, 0, none⟩ = some (.func (.func 76) #[] #[.pointer (some ⟨Y, 0, none⟩)]) ∧ w'.cell? ⟨B, 2, none⟩ = some (.func (.func 80) #[] #[]) ∧ w'.cell? ⟨B, 3, none⟩ = some (.func (.func 81) #[] #[.pointer (some ⟨Y, 0, none⟩)])) ∧ Mst w' Y) := fun w' hb => by
    have hl : B < W0.heap.size := by omega
    refine ⟨⟨(hb.cell (p := ⟨B, 0, none⟩) hl).trans ?_, (hb.cell (p := ⟨B, 2, none⟩) hl).trans ?_, (hb.cell (p := ⟨B, 3, none⟩) hl).trans ?_⟩, (H.out.below hB0).below hb⟩
    all_goals (rw [hW0, hB]; exact World.cell?_alloc_at _ _ _ _ rfl)
  have HW0 := Lib.hid (And.intro hW0 hB)
  have HB0 := Lib.hid (And.intro hB0 hs0)
  clear hW0 hB hB0 hs0
  go_enter Try.func82, Try.ntmps82
  go_wp2_with fail
  have hw := HW0.out
  rw [← hw.1, ← hw.2]
  clear hw
  refine wp_loop_rounds 5 ?_
  obtain ⟨⟨m0, m2, m3⟩, hY⟩ := HM.out W0 (Below.refl _ _)
  have HY := Lib.hid hY
  clear hY
  have k0 : (({ data := #[97, 42, 98, 43] } : ByteArray)[0]'(by decide)).toNat = 97 := rfl
  have k1 : (({ data := #[97, 42, 98, 43] } : ByteArray)[1]'(by decide)).toNat = 42 := rfl
  have k2 : (({ data := #[97, 42, 98, 43] } : ByteArray)[2]'(by decide)).toNat = 98 := rfl
  have k3 : (({ data := #[97, 42, 98, 43] } : ByteArray)[3]'(by decide)).toNat = 43 := rfl
  have h0 : OwM W0 W0.heap.size (.slice none 0 0) [] := ⟨rfl, .inl ⟨rfl, rfl⟩⟩
  rw [rounds_succ]
  go_wp2_with (first
    | (go_at_call 108; refine (I1.out 97 (-1) (by simp) _).mono ?_; rintro e w' ⟨rfl, rfl⟩)
    | (go_at_call 108; refine (I2.out 97 (-1) (by simp) _).mono ?_; rintro e w' ⟨rfl, rfl⟩)
    | (go_at_call 108; refine (I3.out 97 (-1) (by simp) _).mono ?_; rintro e w' ⟨rfl, rfl⟩))
  go_quiet (fail)
  have b1 : Below W0.heap.size W0 (W0.drewN nq) := below_drewN (Below.refl _ _) _
  obtain ⟨W1, hW1⟩ : ∃ W1, W1 = W0.drewN nq := ⟨_, rfl⟩
  rw [← hW1] at b1 ⊢
  clear hW1 m0 m2 m3
  obtain ⟨⟨m0, _, _⟩, hY1⟩ := HM.out W1 b1
  have C1 := Lib.hid (letter0_calls hY1)
  have h0 := Lib.hid (h0.below b1)
  have HB1 := Lib.hid b1
  clear hY1 b1
  go_wp2_with fail
  refine C1.out.mono ?_
  rintro e w2 ⟨x1, rfl, hx1, _, hb2⟩
  have b2 := HB1.out.trans (hb2.mono HB1.out.size)
  obtain ⟨g1, c1, w3, hrun, ho3, hb3, hc1, hmp3⟩ := om_push x1 (h0.out.below hb2) b2.size (by simp)
  have HB3 := Lib.hid (b2.trans hb3)
  have HO3 := Lib.hid ho3
  have HX1 := Lib.hid (hmp3 x1 _ hx1)
  have HRUN := Lib.hid hrun
  clear hx1 hb2 b2 hrun ho3 hb3 hmp3 m0 C1 h0 HB1
  go_wp2_with (at_builtin; refine wpList_app rfl (.tmp 97) (.tmp 99) 145 145 rfl rfl _ _ rfl rfl HRUN.out ?_)
  clear HRUN
  rw [rounds_succ]
  go_wp2_with (first
    | (go_at_call 108; refine (I1.out 42 (0) (by simp) _).mono ?_; rintro e w' ⟨rfl, rfl⟩)
    | (go_at_call 108; refine (I2.out 42 (-1) (by simp) _).mono ?_; rintro e w' ⟨rfl, rfl⟩)
    | (go_at_call 108; refine (I3.out 42 (-1) (by simp) _).mono ?_; rintro e w' ⟨rfl, rfl⟩))
  go_quiet (fail)
  have b4 : Below w3.heap.size w3 (w3.drewN nq) := below_drewN (Below.refl _ _) _
  obtain ⟨W4, hW4⟩ : ∃ W4, W4 = w3.drewN nq := ⟨_, rfl⟩
  rw [← hW4] at b4 ⊢
  clear hW4
  have HB4 := Lib.hid (HB3.out.trans (b4.mono HB3.out.size))
  have HO4 := Lib.hid (HO3.out.below b4)
  have HX1 := Lib.hid (HX1.out.below b4)
  have hg1 : g1 < W4.heap.size := (World.ownsRow.lt HO4.out g1 rfl).2
  have CS := Lib.hid (fun w5 (hb : Below W4.heap.size W4 w5) => (star_calls (HM.out w5 (HB4.out.trans (hb.mono HB4.out.size))).2 (HX1.out.below hb)).mono fun e w' h => (show (∃ m, e = .returned (.map (some m)) ∧ Mp w' m [0] ∧ Below W4.heap.size W4 w') from by obtain ⟨m, he, hm, _, hb2⟩ := h; exact ⟨m, he, hm, hb.trans (hb2.mono hb.size)⟩))
  have HS : Hid (∀ w', Below W4.heap.size W4 w' → w'.cell? ⟨B, 3, none⟩ = some (.func (.func 81) #[] #[.pointer (some ⟨Y, 0, none⟩)]) ∧ w'.cell? ⟨g1, 0, none⟩ = some (.map (some x1))) := fun w' hb => ⟨(HM.out w' (HB4.out.trans (hb.mono HB4.out.size))).1.2.2, (hb.cell (p := ⟨g1, 0, none⟩) hg1).trans (HO4.out.at 0 (by simp))⟩
  clear b4 HB3 HO3 hg1
  go_wp2_with fail
  go_region_held3 (fun w' => w'.cell? ⟨B, 3, none⟩ = some (.func (.func 81) #[] #[.pointer (some ⟨Y, 0, none⟩)]) ∧ w'.cell? ⟨g1, 0, none⟩ = some (.map (some x1)))
    ((first | exact HS.out _ (Below.refl _ _).drew | exact HS.out _ (by assumption)))
    ((go_at_call 81; (with_reducible refine (CS.out _ (Below.refl _ _).drew).mono ?_); rintro e w5 ⟨x2, rfl, hx2, hb5⟩))
  clear CS HS
  obtain ⟨g2, c2, w6, hrun, ho6, hb6, hc2, hmp6⟩ := om_push x2 ((HO4.out.below hb5).cut (k := 0) (by simp)) (HB4.out.trans (hb5.mono HB4.out.size)).size (by simp)
  have HB6 := Lib.hid ((HB4.out.trans (hb5.mono HB4.out.size)).trans hb6)
  have HO6 := Lib.hid ho6
  have HX2 := Lib.hid (hmp6 x2 _ hx2)
  have HRUN := Lib.hid hrun
  clear hx2 hb5 hrun ho6 hb6 hmp6 HB4 HO4 HX1
  go_wp2_with (at_builtin; refine wpList_app rfl (.tmp 97) (.tmp 99) 145 145 rfl rfl _ _ rfl rfl HRUN.out ?_)
  clear HRUN
  rw [rounds_succ]
  go_wp2_with (first
    | (go_at_call 108; refine (I1.out 98 (-1) (by simp) _).mono ?_; rintro e w' ⟨rfl, rfl⟩)
    | (go_at_call 108; refine (I2.out 98 (-1) (by simp) _).mono ?_; rintro e w' ⟨rfl, rfl⟩)
    | (go_at_call 108; refine (I3.out 98 (-1) (by simp) _).mono ?_; rintro e w' ⟨rfl, rfl⟩))
  go_quiet (fail)
  have b7 : Below w6.heap.size w6 (w6.drewN nq) := below_drewN (Below.refl _ _) _
  obtain ⟨W7, hW7⟩ : ∃ W7, W7 = w6.drewN nq := ⟨_, rfl⟩
  rw [← hW7] at b7 ⊢
  clear hW7
  obtain ⟨P7, hP7⟩ : ∃ P7 : Option Addr, P7 = (if c2 = 1 then some ⟨g2, 0, none⟩ else some ⟨g2, 1, none⟩) := ⟨_, rfl⟩
  rw [← hP7]
  clear hP7
  have HB7 := Lib.hid (HB6.out.trans (b7.mono HB6.out.size))
  have HO7 := Lib.hid (HO6.out.below b7)
  have HX2 := Lib.hid (HX2.out.below b7)
  obtain ⟨⟨m0, _, _⟩, hY7⟩ := HM.out W7 HB7.out
  have C7 := Lib.hid (letter1_calls hY7)
  clear b7 HB6 HO6 hY7
  go_wp2_with fail
  refine C7.out.mono ?_
  rintro e w8 ⟨x3, rfl, hx3, _, hb8⟩
  obtain ⟨g3, c3, w9, hrun, ho9, hb9, hc3, hmp9⟩ := om_push x3 (HO7.out.below hb8) (HB7.out.trans (hb8.mono HB7.out.size)).size (by simp)
  have HB9 := Lib.hid ((HB7.out.trans (hb8.mono HB7.out.size)).trans hb9)
  have HO9 := Lib.hid ho9
  have HX3 := Lib.hid (hmp9 x3 _ hx3)
  have HX2 := Lib.hid (hmp9 x2 _ (HX2.out.below hb8))
  have HRUN := Lib.hid hrun
  clear hx3 hb8 hrun ho9 hb9 hmp9 m0 C7 HB7 HO7
  go_wp2_with (at_builtin; refine wpList_app rfl (.tmp 97) (.tmp 99) 145 145 rfl rfl _ _ rfl rfl HRUN.out ?_)
  clear HRUN
  rw [rounds_succ]
  go_wp2_with (first
    | (go_at_call 108; refine (I1.out 43 (-1) (by simp) _).mono ?_; rintro e w' ⟨rfl, rfl⟩)
    | (go_at_call 108; refine (I2.out 43 (-1) (by simp) _).mono ?_; rintro e w' ⟨rfl, rfl⟩)
    | (go_at_call 108; refine (I3.out 43 (0) (by simp) _).mono ?_; rintro e w' ⟨rfl, rfl⟩))
  go_quiet (fail)
  have b10 : Below w9.heap.size w9 (w9.drewN nq) := below_drewN (Below.refl _ _) _
  obtain ⟨W10, hW10⟩ : ∃ W10, W10 = w9.drewN nq := ⟨_, rfl⟩
  rw [← hW10] at b10 ⊢
  clear hW10
  have HB10 := Lib.hid (HB9.out.trans (b10.mono HB9.out.size))
  have HO10 := Lib.hid (HO9.out.below b10)
  have HX2 := Lib.hid (HX2.out.below b10)
  have HX3 := Lib.hid (HX3.out.below b10)
  have hg3 : g3 < W10.heap.size := (World.ownsRow.lt HO10.out g3 rfl).2
  have CT := Lib.hid (fun w5 (hb : Below W10.heap.size W10 w5) => (both_two (HX2.out.below hb) (HX3.out.below hb)).mono fun e w' h => (show (∃ m, e = .returned (.map (some m)) ∧ (Mp w' m [0, 2] ∧ W10.heap.size ≤ m) ∧ Below W10.heap.size W10 w') from by obtain ⟨m, he, hm, hms, hb2⟩ := h; exact ⟨m, he, ⟨hm, Nat.le_trans hb.size hms⟩, hb.trans (hb2.mono hb.size)⟩))
  have HS : Hid (∀ w', Below W10.heap.size W10 w' → w'.cell? ⟨B, 2, none⟩ = some (.func (.func 80) #[] #[]) ∧ w'.cell? ⟨g3, 0, none⟩ = some (.map (some x2)) ∧ w'.cell? ⟨g3, 1, none⟩ = some (.map (some x3))) := fun w' hb => ⟨(HM.out w' (HB10.out.trans (hb.mono HB10.out.size))).1.2.1, (hb.cell (p := ⟨g3, 0, none⟩) hg3).trans (HO10.out.at 0 (by simp)), (hb.cell (p := ⟨g3, 1, none⟩) hg3).trans (HO10.out.at 1 (by simp))⟩
  clear b10 HB9 HO9 hg3
  go_wp2_with fail
  go_region_held3 (fun w' => w'.cell? ⟨B, 2, none⟩ = some (.func (.func 80) #[] #[]) ∧ w'.cell? ⟨g3, 0, none⟩ = some (.map (some x2)) ∧ w'.cell? ⟨g3, 1, none⟩ = some (.map (some x3)))
    ((first | exact HS.out _ (Below.refl _ _).drew | exact HS.out _ (by assumption)))
    ((go_at_call 80; (with_reducible refine (CT.out _ (Below.refl _ _).drew).mono ?_); rintro e w11 ⟨x4, rfl, hx4, hb11⟩))
  clear CT HS
  obtain ⟨g4, c4, w12, hrun, ho12, hb12, hc4, hmp12⟩ := om_push x4 ((HO10.out.below hb11).cut (k := 0) (by simp)) (HB10.out.trans (hb11.mono HB10.out.size)).size (by simp)
  have HB12 := Lib.hid ((HB10.out.trans (hb11.mono HB10.out.size)).trans hb12)
  have c40 : w12.cell? ⟨g4, 0, none⟩ = some (.map (some x4)) := ho12.at 0 (by simp)
  have HX4 : Hid (Mp w12 x4 [0, 2] ∧ w.heap.size ≤ x4) := ⟨hmp12 x4 _ hx4.1, by have := hx4.2; have := HB10.out.size; have := HB0.out.1.size; omega⟩
  have HRUN := Lib.hid hrun
  clear hx4 hb11 hrun ho12 hb12 hmp12 HB10 HO10 HX2 HX3
  go_wp2_with (at_builtin; refine wpList_app rfl (.tmp 97) (.tmp 99) 145 145 rfl rfl _ _ rfl rfl HRUN.out ?_)
  clear HRUN
  rw [rounds_succ]
  go_wp2_with fail
  go_ret2
  exact ⟨x4, rfl, HX4.out.1, HX4.out.2, HB0.out.1.trans (HB12.out.mono HB0.out.1.size)⟩
end Go.Proofs.Ythnhmfmlhlpggaa
