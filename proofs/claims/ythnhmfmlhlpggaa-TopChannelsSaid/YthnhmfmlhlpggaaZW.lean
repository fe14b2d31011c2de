/- What is proved: common, overlap, First Fit. No condition beyond those in each statement. -/
import Derived.Test.YthnhmfmlhlpggaaZV
import Derived.Laws.EntriesVeiled
namespace Go.Proofs.Ythnhmfmlhlpggaa
open Go.RowKit
set_option maxRecDepth 100000

/-- What two spans have in common. -/
def comZ (a b : Int × Int) : Int × Int := if max a.1 b.1 ≥ min a.2 b.2 then (0, 0) else (max a.1 b.1, min a.2 b.2)
set_option maxHeartbeats 2000000 in
theorem common_calls (a1 a2 b1 b2 : Int) (w : World) :
    Calls Try.prog 105 #[.agg #[.int .i64 a1, .int .i64 a2], .agg #[.int .i64 b1, .int .i64 b2]] w fun e w' => e = .returned (.agg #[.int .i64 (comZ (a1, a2) (b1, b2)).1, .int .i64 (comZ (a1, a2) (b1, b2)).2]) ∧ Below w.heap.size w w' := by
  rcases Int.lt_or_le a1 b1 with h1 | h1 <;> rcases Int.lt_or_le b2 a2 with h2 | h2
  all_goals
    go_enter Try.func105, Try.ntmps105
    go_wp2_with fail
    all_goals
      refine bodyPost_ret (v := .agg #[.int .i64 (comZ (a1, a2) (b1, b2)).1, .int .i64 (comZ (a1, a2) (b1, b2)).2]) ?_ rfl ⟨rfl, ?_⟩
      · have hc : comZ (a1, a2) (b1, b2) = if max a1 b1 ≥ min a2 b2 then (0, 0) else (max a1 b1, min a2 b2) := rfl
        rw [hc]
        split
        all_goals
          first
          | (simp [results, Try.results105, go_sem]; done)
          | (simp [results, Try.results105, go_sem]; omega)
      · repeat (first | exact Below.refl _ _ | refine Below.alloc ?_ (by first | (simp; done) | (simp; omega)) _ | refine Below.setCell ?_ (by first | (simp; done) | (simp; omega)) _)
/-- Two spans overlap. -/
def ovB (a b : Int × Int) : Bool := decide (max a.1 b.1 < min a.2 b.2)
theorem com_ov {a b : Int × Int} (ha : 0 ≤ a.1 ∧ a.1 < a.2) (hb : 0 ≤ b.1 ∧ b.1 < b.2) : ((comZ a b).1 == 0 && (comZ a b).2 == 0) = !ovB a b := by
  unfold comZ ovB
  split
  · rename_i h
    rw [decide_eq_false (by omega)]; rfl
  · rename_i h
    rw [decide_eq_true (by omega), Bool.not_true, Bool.and_eq_false_iff]
    right
    rw [beq_eq_false_iff_ne]
    show min a.2 b.2 ≠ 0
    omega
set_option maxHeartbeats 2000000 in
theorem overlap_calls (a1 a2 b1 b2 : Int) (ha : 0 ≤ a1 ∧ a1 < a2) (hb : 0 ≤ b1 ∧ b1 < b2) (w : World) :
    Calls Try.prog 63 #[.agg #[.int .i64 a1, .int .i64 a2], .agg #[.int .i64 b1, .int .i64 b2]] w fun e w' => e = .returned (.bool (ovB (a1, a2) (b1, b2))) ∧ Below w.heap.size w w' := by
  have HC := Lib.hid (com_ov (a := (a1, a2)) (b := (b1, b2)) ha hb)
  have CP := Lib.hid (fun W => common_calls a1 a2 b1 b2 W)
  generalize (comZ (a1, a2) (b1, b2)).1 = x at HC CP
  generalize (comZ (a1, a2) (b1, b2)).2 = y at HC CP
  clear ha hb
  go_enter Try.func63, Try.ntmps63
  go_wp2_with fail
  refine (CP.out _).mono ?_
  rintro e w3 ⟨rfl, hb3⟩
  have HB3 : Hid (Below w.heap.size w w3) := (((Below.refl _ _).alloc (Nat.le_refl _) _).alloc (by simp) _).trans (hb3.mono (by simp; omega))
  clear hb3
  go_wp2_with fail
  all_goals
    have hc := HC.out
    go_ret
    refine ⟨ret_bool ?_, HB3.out⟩
    cases hq : ovB (a1, a2) (b1, b2) <;> rw [hq] at hc <;> simp_all

theorem zero_calls (i : Int) (w : World) : Calls Try.prog 102 #[.int .i64 i] w fun e w' => e = .returned (.int .i64 0) ∧ w = w' := by
  go_enter Try.func102, Try.ntmps102
  go_wp2_with fail
  go_ret
  exact ⟨rfl, rfl⟩
theorem true_calls (i j : Int) (w : World) : Calls Try.prog 103 #[.int .i64 i, .int .i64 j] w fun e w' => e = .returned (.bool true) ∧ w = w' := by
  go_enter Try.func103, Try.ntmps103
  go_wp2_with fail
  go_ret
  exact ⟨rfl, rfl⟩
theorem neg_calls (i : Int) (w : World) : Calls Try.prog 62 #[.int .i64 i] w fun e w' => e = .returned (.bool (decide (i < 0))) ∧ Below w.heap.size w w' := by
  go_enter Try.func62, Try.ntmps62
  go_wp2_with fail
  go_ret
  exact ⟨rfl, Below.refl _ _⟩

/-- What the search for a number sees. -/
structure FitE (bo bc bm bi bs bp : Nat) (G : Option Addr) (oc : Nat) (out : List Int) (cv iv : Int) (s : Int × Int) (A : Option Addr) (c : Nat) (es : List (Int × Int)) (w : World) : Prop where
  co : w.cell? ⟨bo, 0, none⟩ = some (.slice G out.length oc)
  cc : w.cell? ⟨bc, 0, none⟩ = some (.int .i64 cv)
  cm : w.cell? ⟨bm, 0, none⟩ = some (.func (.func 103) #[] #[])
  ci : w.cell? ⟨bi, 0, none⟩ = some (.int .i64 iv)
  s1 : w.cell? ⟨bs, 0, none⟩ = some (.int .i64 s.1)
  s2 : w.cell? ⟨bs, 1, none⟩ = some (.int .i64 s.2)
  cp : w.cell? ⟨bp, 0, none⟩ = some (.slice A es.length c)
  lt : bo < w.heap.size ∧ bc < w.heap.size ∧ bm < w.heap.size ∧ bi < w.heap.size ∧ bs < w.heap.size ∧ bp < w.heap.size
  ro : Rd w G out
  re : RdE w A es
theorem FitE.below {bo bc bm bi bs bp : Nat} {G : Option Addr} {oc : Nat} {out : List Int} {cv iv : Int} {s : Int × Int} {A : Option Addr} {c : Nat} {es : List (Int × Int)} {w w' : World} (h : FitE bo bc bm bi bs bp G oc out cv iv s A c es w) (hb : Below w.heap.size w w') : FitE bo bc bm bi bs bp G oc out cv iv s A c es w' :=
  have g (b o : Nat) (hb' : b < w.heap.size) : w'.cell? ⟨b, o, none⟩ = w.cell? ⟨b, o, none⟩ := hb.cell (p := ⟨b, o, none⟩) hb'
  have ⟨l1, l2, l3, l4, l5, l6⟩ := h.lt
  have hs := hb.size
  ⟨(g bo 0 l1).trans h.co, (g bc 0 l2).trans h.cc, (g bm 0 l3).trans h.cm, (g bi 0 l4).trans h.ci, (g bs 0 l5).trans h.s1, (g bs 1 l5).trans h.s2, (g bp 0 l6).trans h.cp, by omega, h.ro.below hb, h.re.below hb⟩

set_option maxHeartbeats 8000000 in
theorem fit1_calls (bo bc bm bi bs bp : Nat) (G : Option Addr) (oc : Nat) (out : List Int) (cv iv : Int) (s1 s2 : Int) (A : Option Addr) (c : Nat) (es : List (Int × Int)) (w : World) (h : FitE bo bc bm bi bs bp G oc out cv iv (s1, s2) A c es w)
    (hs : 0 ≤ s1 ∧ s1 < s2) (he : ∀ e ∈ es, 0 ≤ e.1 ∧ e.1 < e.2) (j : Nat) (hj : j < out.length) (hj2 : j < es.length) :
    Calls Try.prog 114 #[.int .i64 j, .pointer (some ⟨bo, 0, none⟩), .pointer (some ⟨bc, 0, none⟩), .pointer (some ⟨bm, 0, none⟩), .pointer (some ⟨bi, 0, none⟩), .pointer (some ⟨bs, 0, none⟩), .pointer (some ⟨bp, 0, none⟩)] w fun e w' =>
      e = .returned (.bool (decide (out[j] = cv) && ovB (s1, s2) es[j])) ∧ Below w.heap.size w w' := by
  have HF := Lib.hid h
  obtain ⟨b, o, rfl, hb, hc1⟩ := h.ro.at j hj
  obtain ⟨b', o', rfl, hb', hd1, hd2⟩ := h.re.at j hj2
  have hej := he _ (List.getElem_mem hj2)
  obtain ⟨e1, h1⟩ : ∃ z, z = es[j].1 := ⟨_, rfl⟩
  obtain ⟨e2, h2⟩ : ∃ z, z = es[j].2 := ⟨_, rfl⟩
  obtain ⟨x, hx⟩ : ∃ z, z = out[j] := ⟨_, rfl⟩
  have HE : Hid (es[j] = (e1, e2)) := by show _ = _; rw [h1, h2]
  rw [← h1] at hd1 hej
  rw [← h2] at hd2 hej
  rw [← hx] at hc1 ⊢
  have HC : Hid (∀ w', Below w.heap.size w w' → (w'.cell? ⟨b, o + j, none⟩ = some (.int .i64 x) ∧ w'.cell? ⟨b', o' + j * 2, none⟩ = some (.int .i64 e1) ∧ w'.cell? ⟨b', o' + j * 2 + 1, none⟩ = some (.int .i64 e2)) ∧
      w'.cell? ⟨bo, 0, none⟩ = some (.slice (some ⟨b, o, none⟩) out.length oc) ∧ w'.cell? ⟨bc, 0, none⟩ = some (.int .i64 cv) ∧ w'.cell? ⟨bm, 0, none⟩ = some (.func (.func 103) #[] #[]) ∧ w'.cell? ⟨bi, 0, none⟩ = some (.int .i64 iv) ∧ w'.cell? ⟨bs, 0, none⟩ = some (.int .i64 s1) ∧ w'.cell? ⟨bs, 1, none⟩ = some (.int .i64 s2) ∧ w'.cell? ⟨bp, 0, none⟩ = some (.slice (some ⟨b', o', none⟩) es.length c)) := fun w' hw =>
    have q := HF.out.below hw
    ⟨⟨(hw.cell (p := ⟨b, o + j, none⟩) hb).trans hc1, (hw.cell (p := ⟨b', o' + j * 2, none⟩) hb').trans hd1, (hw.cell (p := ⟨b', o' + j * 2 + 1, none⟩) hb').trans hd2⟩, q.co, q.cc, q.cm, q.ci, q.s1, q.s2, q.cp⟩
  have OV : Hid (∀ w', Below w.heap.size w w' → Calls Try.prog 63 #[.agg #[.int .i64 s1, .int .i64 s2], .agg #[.int .i64 e1, .int .i64 e2]] w' fun e w'' => e = .returned (.bool (ovB (s1, s2) (e1, e2))) ∧ Below w.heap.size w w'') := fun w' hw => (overlap_calls s1 s2 e1 e2 hs hej w').mono fun e w'' h => ⟨h.1, hw.trans (h.2.mono hw.size)⟩
  rw [HE.out]
  generalize ovB (s1, s2) (e1, e2) = ov at OV ⊢
  obtain ⟨⟨q1, q2, q3⟩, q4, q5, q6, q7, q8, q9, q10⟩ := HC.out w (Below.refl _ _)
  obtain ⟨n, hn⟩ : ∃ n, n = out.length := ⟨_, rfl⟩
  obtain ⟨m, hm⟩ : ∃ n, n = es.length := ⟨_, rfl⟩
  rw [← hn] at HC q4 hj
  rw [← hm] at HC q10 hj2
  have i0 : (0 : Int) ≤ (j : Int) := by omega
  have i1 : (j : Int) < (n : Int) := by omega
  have i2 : (j : Int) < (m : Int) := by omega
  clear h he hs hej hc1 hd1 hd2 hb hb' h1 h2 hx HF HE hn hm
  by_cases hxc : x = cv
  · have hd : decide (x = cv) = true := decide_eq_true hxc
    rw [hd]
    have t1 : (x == cv) = true := by rw [beq_iff_eq]; exact hxc
    clear hxc hd
    go_enter Try.func114, Try.ntmps114
    go_wp2_with fail
    go_region_held3 (fun w' => (w'.cell? ⟨b, o + j, none⟩ = some (.int .i64 x) ∧ w'.cell? ⟨b', o' + j * 2, none⟩ = some (.int .i64 e1) ∧ w'.cell? ⟨b', o' + j * 2 + 1, none⟩ = some (.int .i64 e2)) ∧
      w'.cell? ⟨bo, 0, none⟩ = some (.slice (some ⟨b, o, none⟩) n oc) ∧ w'.cell? ⟨bc, 0, none⟩ = some (.int .i64 cv) ∧ w'.cell? ⟨bm, 0, none⟩ = some (.func (.func 103) #[] #[]) ∧ w'.cell? ⟨bi, 0, none⟩ = some (.int .i64 iv) ∧ w'.cell? ⟨bs, 0, none⟩ = some (.int .i64 s1) ∧ w'.cell? ⟨bs, 1, none⟩ = some (.int .i64 s2) ∧ w'.cell? ⟨bp, 0, none⟩ = some (.slice (some ⟨b', o', none⟩) m c))
      ((exact HC.out _ (by repeat (first | with_reducible exact Below.refl _ _ | with_reducible refine Below.drew ?_ | with_reducible assumption))))
      ((first
        | (go_at_call 103; (with_reducible refine (true_calls _ _ _).mono ?_); rintro e w9 ⟨rfl, rfl⟩)
        | (go_at_call 63; (with_reducible refine (OV.out _ (by repeat (first | with_reducible exact Below.refl _ _ | with_reducible refine Below.drew ?_ | with_reducible assumption))).mono ?_); rintro e w9 ⟨rfl, hb9⟩)))
    have HB9 := Lib.hid hb9
    clear hb9
    go_wp2_with fail
    go_ret
    exact ⟨by simp, HB9.out⟩
  · have hd : decide (x = cv) = false := decide_eq_false hxc
    rw [hd]
    have t1 : (x == cv) = false := by rw [beq_eq_false_iff_ne]; exact hxc
    clear hxc hd
    go_enter Try.func114, Try.ntmps114
    go_wp2_with fail
    go_quiet (fail)
    go_wp2_with fail
    go_ret
    exact ⟨by simp, below_drewN (Below.refl _ _) _⟩
end Go.Proofs.Ythnhmfmlhlpggaa
