/- What is proved: what the acts of a tower keep, for any ringers. No condition beyond those in each statement. -/
import Derived.Test.YtahjgdikjaakbaaX
namespace Go.Proofs.Ytahjgdikjaakbaa
open Go.RowKit

/-- What all acts keep, with bounds. -/
def Ok (t : TS) (k : Nat) : Prop := Inv t ∧ Bnd t k
theorem Ok.want {t : TS} {k : Nat} (h : Ok t k) (i : Int) : Ok (t.want i) (k + 1) := by
  unfold TS.want
  by_cases ht : thereB t.n i = true
  · obtain ⟨a, rfl, ha⟩ := thereB_out ht
    rw [if_pos ht, Int.toNat_natCast]
    split
    · rename_i hm
      split
      · rename_i hh; exact ⟨h.1.hold ha hm hh, (h.2.hold a).mono (by omega)⟩
      · rename_i hh; exact ⟨h.1.ask ha hm hh, h.2.ask h.1 ha⟩
    · exact ⟨h.1, h.2.mono (by omega)⟩
  · rw [if_neg ht]; exact ⟨h.1, h.2.mono (by omega)⟩
theorem Ok.leave {t : TS} {k : Nat} (h : Ok t k) (i : Int) : Ok (t.leaveI i) (k + 1) := by
  unfold TS.leaveI
  by_cases ht : thereB t.n i = true
  · obtain ⟨a, rfl, ha⟩ := thereB_out ht
    rw [if_pos ht, Int.toNat_natCast]
    split
    · rename_i hm; exact ⟨h.1.leave ha hm, h.2.leave h.1 ha hm⟩
    · exact ⟨h.1, h.2.mono (by omega)⟩
  · rw [if_neg ht]; exact ⟨h.1, h.2.mono (by omega)⟩
theorem Ok.deliver {t : TS} {k : Nat} (h : Ok t k) (a b : Int) : Ok (t.delI a b) (k + 1) := by
  unfold TS.delI
  split
  · rename_i ht
    obtain ⟨i, rfl, hi⟩ := thereB_out ht.1
    obtain ⟨j, rfl, hj⟩ := thereB_out ht.2.1
    rw [Int.toNat_natCast, Int.toNat_natCast]
    exact ⟨h.1.deliver hi hj, h.2.deliver h.1 hi hj⟩
  · exact ⟨h.1, h.2.mono (by omega)⟩
theorem Ok.made {n h : Nat} (hn : 1 ≤ n ∧ n ≤ 6) (hh : h < n) : Ok (TS.made n h) 0 := ⟨Inv.made hn hh, Bnd.made⟩
/-- A tower that is made of new blocks. -/
def On (w0 : World) (T : Nat) (t : TS) (w : World) : Prop := ∃ X, Tw w T t X ∧ (∀ g, X g → w0.heap.size ≤ g) ∧ Below w0.heap.size w0 w
theorem On.below {w0 w w' : World} {T : Nat} {t : TS} (h : On w0 T t w) (hb : Below w.heap.size w w') : On w0 T t w' := by
  obtain ⟨X, h1, h2, h3⟩ := h
  exact ⟨X, h1.below hb, h2, h3.trans (hb.mono h3.size)⟩
theorem On.bel {w0 w : World} {T : Nat} {t : TS} (h : On w0 T t w) : Below w0.heap.size w0 w := by
  obtain ⟨X, h1, h2, h3⟩ := h
  exact h3
theorem On.step {w0 w w' : World} {T : Nat} {t' : TS} {X : Nat → Prop} (h2 : ∀ g, X g → w0.heap.size ≤ g) (h3 : Below w0.heap.size w0 w) (k : Stp T X w t' w') : On w0 T t' w' := by
  obtain ⟨X', k1, k2, k3⟩ := k
  refine ⟨X', k1, fun g hg => ?_, h3.trans (k2.below h3.size h2)⟩
  rcases k3 g hg with h | h
  · exact h2 g h
  · exact Nat.le_trans h3.size h
section
variable {w0 w : World} {T : Nat} {t : TS} {k : Nat}
theorem on_new {n h : Nat} (w0 w : World) (hb : Below w0.heap.size w0 w) (hn : 1 ≤ n ∧ n ≤ 6) (hh : h < n) : Calls Try.prog 28 #[.int .i64 n, .int .i64 h] w fun e w' => ∃ T, e = .returned (.tuple #[.pointer (some ⟨T, 0, none⟩), .int .i64 0]) ∧ On w0 T (TS.made n h) w' := by
  refine (new_calls w hn hh).mono ?_
  rintro e w' ⟨rfl, K, v, I⟩
  refine ⟨_, rfl, ?_⟩
  obtain ⟨s, U, hf⟩ := new_up I hn
  exact ⟨_, ⟨s, U, rfl⟩, fun g hg => Nat.le_trans hb.size (hf g hg), hb.trans (I.bel.mono hb.size)⟩
theorem on_want (h : On w0 T t w) (O : Ok t k) (hk : k ≤ 10000) (i : Int) : Calls Try.prog 32 #[.pointer (some ⟨T, 0, none⟩), .int .i64 i] w fun e w' => e = .returned (.int .i64 (t.wantE i)) ∧ On w0 T (t.want i) w' := by
  obtain ⟨X, h1, h2, h3⟩ := h
  exact (tw_want h1 O.1 O.2 hk i).mono fun _ _ ⟨he, hs⟩ => ⟨he, On.step h2 h3 hs⟩
theorem on_leave (h : On w0 T t w) (O : Ok t k) (hk : k ≤ 10000) (i : Int) : Calls Try.prog 34 #[.pointer (some ⟨T, 0, none⟩), .int .i64 i] w fun e w' => e = .returned (.int .i64 (t.leaveE i)) ∧ On w0 T (t.leaveI i) w' := by
  obtain ⟨X, h1, h2, h3⟩ := h
  exact (tw_leave h1 O.1 O.2 hk i).mono fun _ _ ⟨he, hs⟩ => ⟨he, On.step h2 h3 hs⟩
theorem on_deliver (h : On w0 T t w) (O : Ok t k) (hk : k ≤ 10000) (a b : Int) : Calls Try.prog 37 #[.pointer (some ⟨T, 0, none⟩), .int .i64 a, .int .i64 b] w fun e w' => e = .returned (.int .i64 (t.delE a b)) ∧ On w0 T (t.delI a b) w' := by
  obtain ⟨X, h1, h2, h3⟩ := h
  exact (tw_deliver h1 O.1 O.2 hk a b).mono fun _ _ ⟨he, hs⟩ => ⟨he, On.step h2 h3 hs⟩
theorem on_inside (h : On w0 T t w) : Calls Try.prog 18 #[.pointer (some ⟨T, 0, none⟩)] w fun e w' => e = .returned (.int .i64 t.insI) ∧ On w0 T t w' ∧ Below w.heap.size w w' := by
  have h0 := h
  obtain ⟨X, h1, h2, h3⟩ := h
  exact (tw_inside h1).mono fun _ _ ⟨he, hb⟩ => ⟨he, h0.below hb, hb⟩
theorem on_holder (h : On w0 T t w) : Calls Try.prog 17 #[.pointer (some ⟨T, 0, none⟩)] w fun e w' => e = .returned (.int .i64 t.holder) ∧ w = w' := by
  obtain ⟨X, h1, h2, h3⟩ := h
  exact tw_holder h1
theorem on_sent (h : On w0 T t w) : Calls Try.prog 22 #[.pointer (some ⟨T, 0, none⟩)] w fun e w' => e = .returned (.int .i64 t.sent) ∧ w = w' := by
  obtain ⟨X, h1, h2, h3⟩ := h
  exact tw_sent h1
theorem on_waiting (h : On w0 T t w) : Calls Try.prog 21 #[.pointer (some ⟨T, 0, none⟩)] w fun e w' => ∃ v, e = .returned v ∧ Ow w' w.heap.size v t.wai ∧ On w0 T t w' ∧ Below w.heap.size w w' := by
  have h0 := h
  obtain ⟨X, h1, h2, h3⟩ := h
  exact (tw_waiting h1).mono fun _ _ ⟨v, he, ho, hb⟩ => ⟨v, he, ho, h0.below hb, hb⟩
theorem on_queue (h : On w0 T t w) (O : Ok t k) : Calls Try.prog 24 #[.pointer (some ⟨T, 0, none⟩)] w fun e w' => ∃ v, e = .returned v ∧ Ow w' w.heap.size v t.queue ∧ On w0 T t w' ∧ Below w.heap.size w w' := by
  have h0 := h
  obtain ⟨X, h1, h2, h3⟩ := h
  exact (tw_queue h1 O.1).mono fun _ _ ⟨v, he, ho, hb⟩ => ⟨v, he, ho, h0.below hb, hb⟩
theorem on_served (h : On w0 T t w) (O : Ok t k) : Calls Try.prog 25 #[.pointer (some ⟨T, 0, none⟩)] w fun e w' => ∃ v, e = .returned v ∧ Ow w' w.heap.size v t.served ∧ On w0 T t w' ∧ Below w.heap.size w w' := by
  have h0 := h
  obtain ⟨X, h1, h2, h3⟩ := h
  exact (tw_served h1 O.1).mono fun _ _ ⟨v, he, ho, hb⟩ => ⟨v, he, ho, h0.below hb, hb⟩
theorem on_known (h : On w0 T t w) (i : Int) : Calls Try.prog 26 #[.pointer (some ⟨T, 0, none⟩), .int .i64 i] w fun e w' => ∃ v, e = .returned v ∧ Ow w' w.heap.size v (t.kno i) ∧ On w0 T t w' ∧ Below w.heap.size w w' := by
  have h0 := h
  obtain ⟨X, h1, h2, h3⟩ := h
  exact (tw_known h1 i).mono fun _ _ ⟨v, he, ho, hb⟩ => ⟨v, he, ho, h0.below hb, hb⟩
theorem on_flight (h : On w0 T t w) (O : Ok t k) (hk : k ≤ 10000) : Calls Try.prog 16 #[.pointer (some ⟨T, 0, none⟩)] w fun e w' => ∃ v, e = .returned v ∧ OwC w' w.heap.size v t.cals ∧ On w0 T t w' ∧ Below w.heap.size w w' := by
  have h0 := h
  obtain ⟨X, h1, h2, h3⟩ := h
  exact (tw_flight h1 O.2 hk).mono fun _ _ ⟨v, he, ho, hb⟩ => ⟨v, he, ho, h0.below hb, hb⟩
end
end Go.Proofs.Ytahjgdikjaakbaa
