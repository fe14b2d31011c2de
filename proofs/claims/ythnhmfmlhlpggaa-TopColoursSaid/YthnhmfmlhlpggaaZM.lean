/- What is proved: patch.Colors (contracts of functions of patch, and what they need). No condition beyond those in each statement. -/
import Derived.Test.YthnhmfmlhlpggaaZL
import Derived.Deep.RegionHeld3
namespace Go.Proofs.Ythnhmfmlhlpggaa
open Go.RowKit Kn
set_option maxRecDepth 100000

/-- A list in a slice. -/
def ColPost (w0 : World) (xs : List Int) (e : Ending) (w' : World) : Prop := ∃ A k c, e = .returned (.slice A k c) ∧ k = xs.length ∧ k ≤ c ∧ c ≤ 9223372036854775807 ∧ Rd w' A xs ∧ Below w0.heap.size w0 w'

theorem mkS (m : Nat) (hm : m ≤ 1000) (w : World) : ∃ w', (Instr.makeSlice 27 (.int .i64 0) (.int .i64 m)).run Try.prog w = .ok (.slice (some ⟨w.heap.size, 0, none⟩) 0 m) w' ∧ Arr w' w.heap.size w.heap.size m [] ∧ Below w.heap.size w w' := by
  obtain ⟨i0, hi, hz0, hz1, hz2⟩ := info_parts info3'
  obtain ⟨w', hrun, hown, hg⟩ := run_makeSlice_owned (P := Try.prog) (w := w) w.heap.size 27 3 i0 (.int .i64 0) 1 Try.underlying27 hi hz0 hz1 .i64 .i64 m (by omega) (by rw [hz2]; omega) (by simp [maxLen]; omega) (Nat.le_refl _)
  exact ⟨w', hrun, hown, (Below.refl _ _).grown hg (Nat.le_refl _) (fun k e => by cases e)⟩

set_option maxHeartbeats 4000000 in
theorem colors_calls (es : List (Int × Int)) (hsm : EsSm es) (hes : es.length ≤ 12) (A : Option Addr) (m c : Nat) (hm : m = es.length) (hl : m ≤ c) (hc : c ≤ 9223372036854775807) (w : World) (hA : RdE w A es) (xs : List Int) (hxs : colF es = some xs) :
    Calls Try.prog 30 #[.slice A m c, .int .i64 (degS es es.length)] w (ColPost w xs) := by
  obtain ⟨W1, hW1⟩ : ∃ W1, W1 = (w.alloc (.cells #[.slice A m c] 23)).alloc (.cells #[.int .i64 (degS es es.length)] 3) := ⟨_, rfl⟩
  have hb1 : Below w.heap.size w W1 := by rw [hW1]; exact ((Below.refl _ _).alloc (Nat.le_refl _) _).alloc (by simp) _
  have hs1 : W1.heap.size = w.heap.size + 2 := by rw [hW1]; simp
  have hc1 : W1.cell? ⟨w.heap.size, 0, none⟩ = some (.slice A m c) := by rw [hW1]; go_simp
  have hc2 : W1.cell? ⟨w.heap.size + 1, 0, none⟩ = some (.int .i64 (degS es es.length)) := by rw [hW1]; go_simp
  have CD : Hid (∀ w', Below W1.heap.size W1 w' → Calls Try.prog 31 #[.slice A m c] w' fun e w'' => e = .returned (.int .i64 (degS es es.length)) ∧ Below W1.heap.size W1 w'') := fun w' hb =>
    (degree_calls es hsm A m c hm (by omega) hl hc w' ((hA.below hb1).below hb)).mono fun e w'' h => ⟨h.1, hb.trans (h.2.mono hb.size)⟩
  have HSS : Hid (∀ w', Below W1.heap.size W1 w' → w'.cell? ⟨w.heap.size, 0, none⟩ = some (.slice A m c) ∧ w'.cell? ⟨w.heap.size + 1, 0, none⟩ = some (.int .i64 (degS es es.length))) := fun w' hb =>
    ⟨(hb.cell (p := ⟨w.heap.size, 0, none⟩) (by rw [hs1]; simp)).trans hc1, (hb.cell (p := ⟨w.heap.size + 1, 0, none⟩) (by rw [hs1]; simp)).trans hc2⟩
  have HM := Lib.hid hm
  have HA := Lib.hid (hA.below hb1)
  have HB1 := Lib.hid hb1
  have HS1 := Lib.hid hs1
  have HXS := Lib.hid hxs
  have HD := Lib.hid (degS_le es es.length)
  obtain ⟨dg, hdg⟩ : ∃ d, d = degS es es.length := ⟨_, rfl⟩
  have HDG := Lib.hid hdg
  rw [← hdg] at hc2 hW1 CD HSS
  rw [← hdg]
  have HW1 := Lib.hid hW1
  clear hsm hm hA hb1 hs1 hxs hdg hW1
  go_enter Try.func30, Try.ntmps30
  go_wp2_with fail
  rw [← HW1.out]
  go_region_held3 (fun w' => w'.cell? ⟨w.heap.size, 0, none⟩ = some (.slice A m c) ∧ w'.cell? ⟨w.heap.size + 1, 0, none⟩ = some (.int .i64 dg))
    ((first | exact HSS.out _ (Below.refl _ _).drew | exact HSS.out _ (by assumption)))
    ((go_at_call 31; (with_reducible refine (CD.out _ (Below.refl _ _).drew).mono ?_); rintro e w2 ⟨rfl, hb2⟩))
  have HB2 := Lib.hid hb2
  have HC2 := Lib.hid (HSS.out w2 hb2)
  have hf1 := (HSS.out w2 hb2).1
  have hf2 := (HSS.out w2 hb2).2
  clear hb2 HSS CD hc1 hc2
  obtain ⟨w3, hmk, harr, hb3⟩ := mkS m (by have := HM.out; omega) w2
  have HARR := Lib.hid harr
  have HB3 := Lib.hid hb3
  have hs3 := harr.lt.2
  clear harr hb3
  go_wp2_with fail
  obtain ⟨W5, hW5⟩ : ∃ W5, W5 = ((w3.alloc (.cells #[.slice (some ⟨w2.heap.size, 0, none⟩) 0 m] 27)).alloc
      (.cells #[.func (.func 69) #[] #[.pointer (some ⟨w3.heap.size, 0, none⟩), .pointer (some ⟨w.heap.size, 0, none⟩), .pointer (some ⟨w.heap.size + 1, 0, none⟩), .pointer (some ⟨w3.heap.size + 1, 0, none⟩)]] 33)) := ⟨_, rfl⟩
  rw [← hW5]
  have hb5 : Below w3.heap.size w3 W5 := by rw [hW5]; exact ((Below.refl _ _).alloc (Nat.le_refl _) _).alloc (by simp) _
  have z1 := HS1.out
  have z2 := HB2.out.size
  have HB5 : Hid (Below w2.heap.size w2 W5) := HB3.out.trans (hb5.mono (by omega))
  have q1 : W5.cell? ⟨w3.heap.size, 0, none⟩ = some (.slice (some ⟨w2.heap.size, 0, none⟩) 0 m) := by rw [hW5]; go_simp
  have q2 : W5.frozen? ⟨w3.heap.size, 0, none⟩ = false := by rw [hW5]; go_simp
  have q3 : W5.cell? ⟨w3.heap.size + 1, 0, none⟩ = some (.func (.func 69) #[] #[.pointer (some ⟨w3.heap.size, 0, none⟩), .pointer (some ⟨w.heap.size, 0, none⟩), .pointer (some ⟨w.heap.size + 1, 0, none⟩), .pointer (some ⟨w3.heap.size + 1, 0, none⟩)]) := by rw [hW5]; go_simp
  have q4 := (HB5.out.cell (p := ⟨w.heap.size, 0, none⟩) (by show w.heap.size < _; omega)).trans hf1
  have q5 := (HB5.out.cell (p := ⟨w.heap.size + 1, 0, none⟩) (by show w.heap.size + 1 < _; omega)).trans hf2
  have hra : RdE W5 A es := (HA.out.below HB2.out).below (HB5.out.mono (by omega))
  have henv : CoEnv es w3.heap.size w.heap.size (w.heap.size + 1) (w3.heap.size + 1) w2.heap.size A c dg W5 :=
    ⟨by rw [← HM.out]; exact q4, q5, q3, ⟨hra, fun hne a ha => by
      obtain ⟨b, o, e, hb, _⟩ := HA.out hne
      rw [ha] at e
      cases e
      show b ≠ _ ∧ b ≠ _
      omega⟩, by omega⟩
  have hout : OutS W5 w3.heap.size w2.heap.size es.length [] := ⟨by rw [← HM.out]; exact q1, q2, by rw [← HM.out]; exact HARR.out.below hb5⟩
  have hbase : Below w.heap.size w W5 := (HB1.out.trans (HB2.out.mono (by omega))).trans (HB5.out.mono (by omega))
  have CC := Lib.hid (colors1_calls es (by omega) w3.heap.size w.heap.size (w.heap.size + 1) (w3.heap.size + 1) w2.heap.size A c dg (by rw [← HM.out]; exact hl) hc (by have := HD.out; have := HDG.out; omega) es.length [] W5 (by simp) henv hout)
  have HBASE := Lib.hid hbase
  have HLE : Hid (w.heap.size ≤ w2.heap.size ∧ w2.heap.size < w3.heap.size) := by show _ ∧ _; omega
  have HCF : Hid (colG (clashF es) dg es.length [] = some xs) := by
    show _ = _
    rw [HDG.out]; exact HXS.out
  clear hW5 hb5 HB5 q1 q2 q3 q4 q5 hra henv hout hbase z1 z2
  refine CC.out.mono ?_
  rintro e w6 ⟨l', hO, hOU, ⟨rfl, hs⟩ | ⟨rfl, hs, _⟩⟩
  · have hxl : xs = l' := by rw [HCF.out] at hs; injection hs
    subst hxl
    have HO := Lib.hid hO
    have HOU := Lib.hid hOU
    have d1 := hOU.cell
    clear hO hOU hs
    go_wp2_with fail
    go_ret
    have hbd := HOU.out.arr.bd
    refine ⟨_, _, _, rfl, rfl, hbd.1, hbd.2, HOU.out.arr.rd, HBASE.out.trans (HO.out.below (B := w.heap.size) HBASE.out.size (fun k hk => by have := HLE.out; rcases hk with e | e <;> omega))⟩
  · rw [HCF.out] at hs
    cases hs

/-- A list in a slice, with no error. -/
def ColsPost (w0 : World) (xs : List Int) (e : Ending) (w' : World) : Prop := ∃ A k c, e = .returned (.tuple #[.slice A k c, .int .i64 0]) ∧ k = xs.length ∧ k ≤ c ∧ c ≤ 9223372036854775807 ∧ Rd w' A xs ∧ Below w0.heap.size w0 w'
theorem enters29 : ∀ args w, (callFunc 29 args).run Try.prog w = .ok (.enter 29 args) w := fun _ _ => rfl
theorem any_false {α : Type} (l : List α) : (l.any fun _ => false) = false := List.any_eq_false.2 (fun _ _ => Bool.false_ne_true)

set_option maxHeartbeats 4000000 in
theorem Colors_calls (a b : Int) (ha : 1 ≤ a ∧ a ≤ 4) (hb : 1 ≤ b ∧ b ≤ 4) (es : List (Int × Int)) (hin : ∀ e ∈ es, (0 ≤ e.1 ∧ e.1 < a) ∧ (0 ≤ e.2 ∧ e.2 < b)) (hes : es.length ≤ 12) (A : Option Addr) (m c : Nat) (hm : m = es.length) (hl : m ≤ c) (hc : c ≤ 9223372036854775807) (w : World) (hA : RdE w A es) (xs : List Int) (hxs : colF es = some xs) :
    Calls Try.prog 8 #[.int .i64 a, .int .i64 b, .slice A m c] w (ColsPost w xs) := by
  obtain ⟨W1, hW1⟩ : ∃ W1, W1 = (w.alloc (.cells #[.int .i64 a] 3)).alloc (.cells #[.int .i64 b] 3) := ⟨_, rfl⟩
  have hb1 : Below w.heap.size w W1 := by rw [hW1]; exact ((Below.refl _ _).alloc (Nat.le_refl _) _).alloc (by simp) _
  have hs1 : W1.heap.size = w.heap.size + 2 := by rw [hW1]; simp
  have hc1 : W1.cell? ⟨w.heap.size, 0, none⟩ = some (.int .i64 a) := by rw [hW1]; go_simp
  have hc2 : W1.cell? ⟨w.heap.size + 1, 0, none⟩ = some (.int .i64 b) := by rw [hW1]; go_simp
  have hsm : EsSm es := fun e he => by have := hin e he; omega
  subst hm
  have CP := Lib.hid (containsPair_calls 29 #[.pointer (some ⟨w.heap.size, 0, none⟩), .pointer (some ⟨w.heap.size + 1, 0, none⟩)] enters29 (fun _ => false) A c es W1 (hA.below hb1) hl hc (fun i W hi hbw => by
    have hq := hin _ (List.getElem_mem hi)
    exact pair29_calls a b _ _ _ _ hq.1 hq.2 W ((hbw.cell (p := ⟨w.heap.size, 0, none⟩) (by rw [hs1]; simp)).trans hc1) ((hbw.cell (p := ⟨w.heap.size + 1, 0, none⟩) (by rw [hs1]; simp)).trans hc2)))
  rw [any_false] at CP
  have CD : Hid (∀ w', Below W1.heap.size W1 w' → Calls Try.prog 31 #[.slice A es.length c] w' fun e w'' => e = .returned (.int .i64 (degS es es.length)) ∧ Below W1.heap.size W1 w'') := fun w' hb =>
    (degree_calls es hsm A es.length c rfl (by omega) hl hc w' ((hA.below hb1).below hb)).mono fun e w'' h => ⟨h.1, hb.trans (h.2.mono hb.size)⟩
  have CC : Hid (∀ w', Below W1.heap.size W1 w' → Calls Try.prog 30 #[.slice A es.length c, .int .i64 (degS es es.length)] w' (ColPost w' xs)) := fun w' hb =>
    colors_calls es hsm hes A es.length c rfl hl hc w' ((hA.below hb1).below hb) xs hxs
  have HB1 := Lib.hid hb1
  have HS1 := Lib.hid hs1
  have HW1 := Lib.hid hW1
  obtain ⟨m, hm⟩ : ∃ m, m = es.length := ⟨_, rfl⟩
  obtain ⟨dg, hdg⟩ : ∃ d, d = degS es es.length := ⟨_, rfl⟩
  rw [← hdg] at CD CC
  rw [← hm] at CP CD CC hl hes
  rw [← hm]
  obtain ⟨a0, a1⟩ := ha
  obtain ⟨b0, b1⟩ := hb
  clear hin hxs hA hsm hb1 hs1 hm hdg
  have hd1 : (w.alloc (.cells #[.int .i64 a] 3)).alloc (.cells #[.int .i64 b] 3) = W1 := hW1.symm
  clear hW1
  rcases Int.lt_trichotomy a b with hab | rfl | hab
  all_goals
    go_enter Try.func8, Try.ntmps8
    go_wp2_with fail
    refine CP.out.mono ?_
    rintro e w2 ⟨rfl, hb2⟩
    have HB2 := Lib.hid hb2
    clear hb2
    go_wp2_with fail
    refine (CD.out w2 HB2.out).mono ?_
    rintro e w3 ⟨rfl, hb3⟩
    have HB3 := Lib.hid hb3
    clear hb3
    go_wp2_with fail
    refine (CC.out w3 HB3.out).mono ?_
    rintro e w4 ⟨B, k, d, rfl, h1, h2, h3, h4, hb4⟩
    have H1 := Lib.hid h1
    have H4 := Lib.hid h4
    have HB4 := Lib.hid (HB1.out.trans ((HB3.out.trans (hb4.mono HB3.out.size)).mono HB1.out.size))
    clear h1 h4 hb4
    go_wp2_with fail
    go_ret2
    exact ⟨B, k, d, rfl, H1.out, h2, h3, H4.out, HB4.out⟩
end Go.Proofs.Ythnhmfmlhlpggaa
