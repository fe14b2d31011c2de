/- What is proved: Queue, Served. No condition beyond those in each statement. -/
import Derived.Test.YtahjgdikjaakbaaS
namespace Go.Proofs.Ytahjgdikjaakbaa
open Go.RowKit

def CurOk (s : LS) : Prop := MsOk s ∧ ((∃ i j, i < s.n ∧ j < s.n ∧ tokV s.tsv s.tqv ∈ s.ms i j) ∨ (s.c2 = s.tsv ∧ s.c3 = s.tqv)) ∧ s.served.length ≤ 1000 ∧ s.queue.length ≤ 1000
theorem Ow.mono {w : World} {b b' : Nat} {v : Value} {xs : List Int} (h : Ow w b v xs) (hb : b' ≤ b) : Ow w b' v xs :=
  ⟨h.1, h.2.imp id fun ⟨g, cap, cur, e, h1, r⟩ => ⟨g, cap, cur, e, Nat.le_trans hb h1, r⟩⟩
theorem fld0 (a b : Value) (w : World) : (Instr.field 61 (.agg #[a, b]) 0).run Try.prog w = .ok a w := by kernel_rfl
theorem fld1 (a b : Value) (w : World) : (Instr.field 61 (.agg #[a, b]) 1).run Try.prog w = .ok b w := by kernel_rfl
theorem queue_calls {w : World} {T : Nat} {s : LS} (h : Low w T s) (hc : CurOk s) : Calls Try.prog 24 #[.pointer (some ⟨T, 0, none⟩)] w fun e w' => ∃ v, e = .returned v ∧ Ow w' w.heap.size v s.queue ∧ Below w.heap.size w w' := by
  have C1 := Lib.hid (made_calls h)
  have C2 := current_calls h hc.1 hc.2.1
  obtain ⟨p1, l1, k1, ht1⟩ := h.hS.form
  obtain ⟨p2, l2, k2, ht2⟩ := h.hQ.form
  have C3 : Hid (∀ w1, Below w.heap.size w w1 → Calls Try.prog 43 #[s.tqv] w1 fun e w' => ∃ v', e = .returned v' ∧ Ow w' w1.heap.size v' s.queue ∧ Below w1.heap.size w1 w') := fun w1 hb => cloneI_calls (h.below hb).hQ hc.2.2.2
  rw [ht1, ht2] at C2
  rw [ht2] at C3
  have C2 := Lib.hid C2
  clear h hc ht1 ht2
  go_enter Try.func24, Try.ntmps24
  go_wp2_with fail
  refine C1.out.mono ?_
  rintro e w1 ⟨rfl, rfl⟩
  go_wp2_with fail
  refine C2.out.mono ?_
  rintro e w1 ⟨rfl, hb⟩
  have HB := Lib.hid hb
  have C4 := Lib.hid (C3.out w1 hb)
  clear hb C3
  have F := fld1
  go_wp2_with fail
  refine C4.out.mono ?_
  rintro e w2 ⟨v, rfl, ho, hb⟩
  have HO : Hid (Ow w2 w.heap.size v s.queue) := ho.mono HB.out.size
  have HB2 := Lib.hid (HB.out.trans (hb.mono HB.out.size))
  clear ho hb
  go_wp2_with fail
  go_ret
  exact ⟨_, rfl, HO.out, HB2.out⟩
theorem served_calls {w : World} {T : Nat} {s : LS} (h : Low w T s) (hc : CurOk s) : Calls Try.prog 25 #[.pointer (some ⟨T, 0, none⟩)] w fun e w' => ∃ v, e = .returned v ∧ Ow w' w.heap.size v s.served ∧ Below w.heap.size w w' := by
  have C1 := Lib.hid (made_calls h)
  have C2 := current_calls h hc.1 hc.2.1
  obtain ⟨p1, l1, k1, ht1⟩ := h.hS.form
  obtain ⟨p2, l2, k2, ht2⟩ := h.hQ.form
  have C3 : Hid (∀ w1, Below w.heap.size w w1 → Calls Try.prog 43 #[s.tsv] w1 fun e w' => ∃ v', e = .returned v' ∧ Ow w' w1.heap.size v' s.served ∧ Below w1.heap.size w1 w') := fun w1 hb => cloneI_calls (h.below hb).hS hc.2.2.1
  rw [ht1, ht2] at C2
  rw [ht1] at C3
  have C2 := Lib.hid C2
  clear h hc ht1 ht2
  go_enter Try.func25, Try.ntmps25
  go_wp2_with fail
  refine C1.out.mono ?_
  rintro e w1 ⟨rfl, rfl⟩
  go_wp2_with fail
  refine C2.out.mono ?_
  rintro e w1 ⟨rfl, hb⟩
  have HB := Lib.hid hb
  have C4 := Lib.hid (C3.out w1 hb)
  clear hb C3
  have F := fld0
  go_wp2_with fail
  refine C4.out.mono ?_
  rintro e w2 ⟨v, rfl, ho, hb⟩
  have HO : Hid (Ow w2 w.heap.size v s.served) := ho.mono HB.out.size
  have HB2 := Lib.hid (HB.out.trans (hb.mono HB.out.size))
  clear ho hb
  go_wp2_with fail
  go_ret
  exact ⟨_, rfl, HO.out, HB2.out⟩
end Go.Proofs.Ytahjgdikjaakbaa
