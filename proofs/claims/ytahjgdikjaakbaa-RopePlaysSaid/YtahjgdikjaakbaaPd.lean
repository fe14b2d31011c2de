/- What is proved: what the acts of a tower keep, for any ringers. No condition beyond those in each statement. -/
import Derived.Test.YtahjgdikjaakbaaX
namespace Go.Proofs.Ytahjgdikjaakbaa
open Go.RowKit

/-- What all acts keep, with bounds. -/
def Ok (t : TS) (k : Nat) : Prop := Inv t ∧ Bnd t k
theorem Ok.want {t : TS} {k : Nat} (h : Ok t k) (i : Int) : Ok (t.want i) (k + 1) := by
  unfold TS.want
  by_cases ht : thereB t.n i = true
  · obtain ⟨a, rfl, ha⟩ := thereB_out ht
    rw [if_pos ht, Int.toNat_natCast]
    split
    · rename_i hm
      split
      · rename_i hh; exact ⟨h.1.hold ha hm hh, (h.2.hold a).mono (by omega)⟩
      · rename_i hh; exact ⟨h.1.ask ha hm hh, h.2.ask h.1 ha⟩
    · exact ⟨h.1, h.2.mono (by omega)⟩
  · rw [if_neg ht]; exact ⟨h.1, h.2.mono (by omega)⟩
theorem Ok.leave {t : TS} {k : Nat} (h : Ok t k) (i : Int) : Ok (t.leaveI i) (k + 1) := by
  unfold TS.leaveI
  by_cases ht : thereB t.n i = true
  · obtain ⟨a, rfl, ha⟩ := thereB_out ht
    rw [if_pos ht, Int.toNat_natCast]
    split
    · rename_i hm; exact ⟨h.1.leave ha hm, h.2.leave h.1 ha hm⟩
    · exact ⟨h.1, h.2.mono (by omega)⟩
  · rw [if_neg ht]; exact ⟨h.1, h.2.mono (by omega)⟩
theorem Ok.deliver {t : TS} {k : Nat} (h : Ok t k) (a b : Int) : Ok (t.delI a b) (k + 1) := by
  unfold TS.delI
  split
  · rename_i ht
    obtain ⟨i, rfl, hi⟩ := thereB_out ht.1
    obtain ⟨j, rfl, hj⟩ := thereB_out ht.2.1
    rw [Int.toNat_natCast, Int.toNat_natCast]
    exact ⟨h.1.deliver hi hj, h.2.deliver h.1 hi hj⟩
  · exact ⟨h.1, h.2.mono (by omega)⟩
theorem Ok.made {n h : Nat} (hn : 1 ≤ n ∧ n ≤ 6) (hh : h < n) : Ok (TS.made n h) 0 := ⟨Inv.made hn hh, Bnd.made⟩
/-- Blocks that are to stay as they are in a world. -/
structure Fr where
  w : World
  Y : Nat → Prop
  lt : ∀ g, Y g → g < w.heap.size
def Fr.of (w : World) : Fr := ⟨w, fun g => g < w.heap.size, fun _ h => h⟩
instance : Coe World Fr := ⟨Fr.of⟩
structure Kp (f : Fr) (w : World) : Prop where
  os : w.os = f.w.os
  tape : w.tape = f.w.tape
  output : w.output = f.w.output
  size : f.w.heap.size ≤ w.heap.size
  block : ∀ k, f.Y k → w.heap[k]? = f.w.heap[k]?
theorem Kp.off {f : Fr} {w w' : World} {X : Nat → Prop} (h : Kp f w) (k : Off X w w') (hx : ∀ g, f.Y g → ¬ X g) : Kp f w' :=
  ⟨k.os.trans h.os, k.tape.trans h.tape, k.output.trans h.output, Nat.le_trans h.size k.size, fun g hg => (k.block g (Nat.lt_of_lt_of_le (f.lt g hg) h.size) (hx g hg)).trans (h.block g hg)⟩
theorem Kp.below {f : Fr} {w w' : World} (h : Kp f w) (hb : Below w.heap.size w w') : Kp f w' :=
  ⟨hb.os.trans h.os, hb.tape.trans h.tape, hb.output.trans h.output, Nat.le_trans h.size hb.size, fun g hg => (hb.block g (Nat.lt_of_lt_of_le (f.lt g hg) h.size)).trans (h.block g hg)⟩
/-- A tower that is made of other blocks than those that are to stay. -/
def On (f : Fr) (T : Nat) (t : TS) (w : World) : Prop := ∃ X, Tw w T t X ∧ (∀ g, f.Y g → ¬ X g) ∧ Kp f w
theorem On.below {w0 : Fr} {w w' : World} {T : Nat} {t : TS} (h : On w0 T t w) (hb : Below w.heap.size w w') : On w0 T t w' := by
  obtain ⟨X, h1, h2, h3⟩ := h
  exact ⟨X, h1.below hb, h2, h3.below hb⟩
theorem On.bel {w0 w : World} {T : Nat} {t : TS} (h : On w0 T t w) : Below w0.heap.size w0 w := by
  obtain ⟨X, h1, h2, h3⟩ := h
  exact ⟨h3.os, h3.tape, h3.output, h3.size, h3.block⟩
theorem On.kp {f : Fr} {w : World} {T : Nat} {t : TS} (h : On f T t w) : Kp f w := by
  obtain ⟨X, h1, h2, h3⟩ := h
  exact h3
theorem On.step {w0 : Fr} {w w' : World} {T : Nat} {t' : TS} {X : Nat → Prop} (h2 : ∀ g, w0.Y g → ¬ X g) (h3 : Kp w0 w) (k : Stp T X w t' w') : On w0 T t' w' := by
  obtain ⟨X', k1, k2, k3⟩ := k
  refine ⟨X', k1, fun g hg hx => ?_, h3.off k2 h2⟩
  rcases k3 g hx with h | h
  · exact h2 g hg h
  · have := w0.lt g hg
    have := h3.size
    omega
/-- All but the tower is to stay. -/
theorem on_frame {w wr w3 : World} {T : Nat} {t : TS} (h : On w T t wr) (hb : Below wr.heap.size wr w3) : ∃ f : Fr, f.w = w3 ∧ On f T t w3 ∧ (∀ g, g < w.heap.size → f.Y g) ∧ ∀ g, wr.heap.size ≤ g → g < w3.heap.size → f.Y g := by
  obtain ⟨X, h1, h2, h3⟩ := h
  have hl := h1.lt
  refine ⟨⟨w3, fun g => ¬ X g ∧ g < w3.heap.size, fun g h => h.2⟩, rfl, ⟨X, h1.below hb, fun g h => h.1, ⟨rfl, rfl, rfl, Nat.le_refl _, fun _ _ => rfl⟩⟩, ?_, ?_⟩
  · intro g hg
    have a1 : wr.heap.size ≤ w3.heap.size := hb.size
    have a2 : w.heap.size ≤ wr.heap.size := h3.size
    exact ⟨h2 g hg, by omega⟩
  · intro g hg hg2
    exact ⟨fun hx => by have := hl g hx; omega, hg2⟩
section
variable {w0 : Fr} {w : World} {T : Nat} {t : TS} {k : Nat}
theorem on_new {n h : Nat} (w0 w : World) (hb : Below w0.heap.size w0 w) (hn : 1 ≤ n ∧ n ≤ 6) (hh : h < n) : Calls Try.prog 28 #[.int .i64 n, .int .i64 h] w fun e w' => ∃ T, e = .returned (.tuple #[.pointer (some ⟨T, 0, none⟩), .int .i64 0]) ∧ On w0 T (TS.made n h) w' := by
  refine (new_calls w hn hh).mono ?_
  rintro e w' ⟨rfl, K, v, I⟩
  refine ⟨_, rfl, ?_⟩
  obtain ⟨s, U, hf⟩ := new_up I hn
  have hb2 := hb.trans (I.bel.mono hb.size)
  exact ⟨_, ⟨s, U, rfl⟩, fun g (hg : g < w0.heap.size) hx => by have := hb.size; have := hf g hx; omega, ⟨hb2.os, hb2.tape, hb2.output, hb2.size, hb2.block⟩⟩
theorem on_want (h : On w0 T t w) (O : Ok t k) (hk : k ≤ 10000) (i : Int) : Calls Try.prog 32 #[.pointer (some ⟨T, 0, none⟩), .int .i64 i] w fun e w' => e = .returned (.int .i64 (t.wantE i)) ∧ On w0 T (t.want i) w' := by
  obtain ⟨X, h1, h2, h3⟩ := h
  exact (tw_want h1 O.1 O.2 hk i).mono fun _ _ ⟨he, hs⟩ => ⟨he, On.step h2 h3 hs⟩
theorem on_leave (h : On w0 T t w) (O : Ok t k) (hk : k ≤ 10000) (i : Int) : Calls Try.prog 34 #[.pointer (some ⟨T, 0, none⟩), .int .i64 i] w fun e w' => e = .returned (.int .i64 (t.leaveE i)) ∧ On w0 T (t.leaveI i) w' := by
  obtain ⟨X, h1, h2, h3⟩ := h
  exact (tw_leave h1 O.1 O.2 hk i).mono fun _ _ ⟨he, hs⟩ => ⟨he, On.step h2 h3 hs⟩
theorem on_deliver (h : On w0 T t w) (O : Ok t k) (hk : k ≤ 10000) (a b : Int) : Calls Try.prog 37 #[.pointer (some ⟨T, 0, none⟩), .int .i64 a, .int .i64 b] w fun e w' => e = .returned (.int .i64 (t.delE a b)) ∧ On w0 T (t.delI a b) w' := by
  obtain ⟨X, h1, h2, h3⟩ := h
  exact (tw_deliver h1 O.1 O.2 hk a b).mono fun _ _ ⟨he, hs⟩ => ⟨he, On.step h2 h3 hs⟩
theorem on_inside (h : On w0 T t w) : Calls Try.prog 18 #[.pointer (some ⟨T, 0, none⟩)] w fun e w' => e = .returned (.int .i64 t.insI) ∧ On w0 T t w' ∧ Below w.heap.size w w' := by
  have h0 := h
  obtain ⟨X, h1, h2, h3⟩ := h
  exact (tw_inside h1).mono fun _ _ ⟨he, hb⟩ => ⟨he, h0.below hb, hb⟩
theorem on_holder (h : On w0 T t w) : Calls Try.prog 17 #[.pointer (some ⟨T, 0, none⟩)] w fun e w' => e = .returned (.int .i64 t.holder) ∧ w = w' := by
  obtain ⟨X, h1, h2, h3⟩ := h
  exact tw_holder h1
theorem on_sent (h : On w0 T t w) : Calls Try.prog 22 #[.pointer (some ⟨T, 0, none⟩)] w fun e w' => e = .returned (.int .i64 t.sent) ∧ w = w' := by
  obtain ⟨X, h1, h2, h3⟩ := h
  exact tw_sent h1
theorem on_waiting (h : On w0 T t w) : Calls Try.prog 21 #[.pointer (some ⟨T, 0, none⟩)] w fun e w' => ∃ v, e = .returned v ∧ Ow w' w.heap.size v t.wai ∧ On w0 T t w' ∧ Below w.heap.size w w' := by
  have h0 := h
  obtain ⟨X, h1, h2, h3⟩ := h
  exact (tw_waiting h1).mono fun _ _ ⟨v, he, ho, hb⟩ => ⟨v, he, ho, h0.below hb, hb⟩
theorem on_queue (h : On w0 T t w) (O : Ok t k) : Calls Try.prog 24 #[.pointer (some ⟨T, 0, none⟩)] w fun e w' => ∃ v, e = .returned v ∧ Ow w' w.heap.size v t.queue ∧ On w0 T t w' ∧ Below w.heap.size w w' := by
  have h0 := h
  obtain ⟨X, h1, h2, h3⟩ := h
  exact (tw_queue h1 O.1).mono fun _ _ ⟨v, he, ho, hb⟩ => ⟨v, he, ho, h0.below hb, hb⟩
theorem on_served (h : On w0 T t w) (O : Ok t k) : Calls Try.prog 25 #[.pointer (some ⟨T, 0, none⟩)] w fun e w' => ∃ v, e = .returned v ∧ Ow w' w.heap.size v t.served ∧ On w0 T t w' ∧ Below w.heap.size w w' := by
  have h0 := h
  obtain ⟨X, h1, h2, h3⟩ := h
  exact (tw_served h1 O.1).mono fun _ _ ⟨v, he, ho, hb⟩ => ⟨v, he, ho, h0.below hb, hb⟩
theorem on_known (h : On w0 T t w) (i : Int) : Calls Try.prog 26 #[.pointer (some ⟨T, 0, none⟩), .int .i64 i] w fun e w' => ∃ v, e = .returned v ∧ Ow w' w.heap.size v (t.kno i) ∧ On w0 T t w' ∧ Below w.heap.size w w' := by
  have h0 := h
  obtain ⟨X, h1, h2, h3⟩ := h
  exact (tw_known h1 i).mono fun _ _ ⟨v, he, ho, hb⟩ => ⟨v, he, ho, h0.below hb, hb⟩
theorem on_flight (h : On w0 T t w) (O : Ok t k) (hk : k ≤ 10000) : Calls Try.prog 16 #[.pointer (some ⟨T, 0, none⟩)] w fun e w' => ∃ v, e = .returned v ∧ OwC w' w.heap.size v t.cals ∧ On w0 T t w' ∧ Below w.heap.size w w' := by
  have h0 := h
  obtain ⟨X, h1, h2, h3⟩ := h
  exact (tw_flight h1 O.2 hk).mono fun _ _ ⟨v, he, ho, hb⟩ => ⟨v, he, ho, h0.below hb, hb⟩
end
end Go.Proofs.Ytahjgdikjaakbaa
