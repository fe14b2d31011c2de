/- What is proved: the reference's All. No condition beyond those in each statement. -/
import Derived.Test.YtlidnhmagleehaaZJ
namespace Go.Proofs.Ytlidnhmagleehaa
open Go.RowKit

theorem mk27 (w : World) : (Instr.makeSlice 27 (.int .i64 3) (.int .i64 3)).run Try.prog w = .ok (.slice (some ⟨w.heap.size, 0, none⟩) 3 3) (w.alloc (.cells #[.int .i64 0, .int .i64 0, .int .i64 0] 3)) := by kernel_rfl
theorem mk33 (w : World) : (Instr.makeSlice 33 (.int .i64 3) (.int .i64 3)).run Try.prog w = .ok (.slice (some ⟨w.heap.size, 0, none⟩) 3 3) (w.alloc (.cells #[.slice none 0 0, .slice none 0 0, .slice none 0 0] 27)) := by kernel_rfl
theorem three_new (w : World) (o1 o2 o3 : Obj) : (((w.alloc o1).alloc o2).alloc o3).drew.heap[w.heap.size]? = some o1 ∧ (((w.alloc o1).alloc o2).alloc o3).drew.heap[w.heap.size + 1]? = some o2 ∧ (((w.alloc o1).alloc o2).alloc o3).drew.heap[w.heap.size + 1 + 1]? = some o3 := by
  show (((w.heap.push o1).push o2).push o3)[w.heap.size]? = some o1 ∧ (((w.heap.push o1).push o2).push o3)[w.heap.size + 1]? = some o2 ∧ (((w.heap.push o1).push o2).push o3)[w.heap.size + 1 + 1]? = some o3
  refine ⟨?_, ?_, ?_⟩
  · rw [Array.getElem?_push, if_neg (by simp; omega), Array.getElem?_push, if_neg (by simp), Array.getElem?_push, if_pos rfl]
  · rw [Array.getElem?_push, if_neg (by simp), Array.getElem?_push, if_pos (by simp)]
  · rw [Array.getElem?_push, if_pos (by simp)]
theorem bst_init {N gP gv go : Nat} {x : World} (h1 : x.heap[gv]? = some (.cells #[.int .i64 0, .int .i64 0, .int .i64 0] 3)) (h2 : x.heap[go]? = some (.cells #[.slice none 0 0, .slice none 0 0, .slice none 0 0] 27)) (h3 : x.heap[gP]? = some (.cells #[.slice (some ⟨gv, 0, none⟩) 3 3, .slice (some ⟨go, 0, none⟩) 3 3] 35))
    (b1 : N ≤ gv) (b2 : N ≤ go) (n1 : gP ≠ gv) (n2 : gP ≠ go) : Bst N gP gv go (fun _ => none) x := by
  refine ⟨[0, 0, 0], [.slice none 0 0, .slice none 0 0, .slice none 0 0], ⟨rfl, rfl, Arr.of_heap h1 b1 rfl (by decide), ⟨rfl, .inr ⟨go, 3, _, rfl, b2, h2, Nat.le_refl _, by decide, rfl, rfl⟩⟩, ?_, ?_, n1, n2⟩, fun i hi => ?_⟩
  · simp [World.cell?, h3]
  · simp [World.cell?, h3]
  · have : i = 0 ∨ i = 1 ∨ i = 2 := by omega
    rcases this with rfl | rfl | rfl <;> rfl
theorem bst_new1 (w : World) : Bst w.heap.size (w.heap.size + 1 + 1) w.heap.size (w.heap.size + 1) (fun _ => none) (((w.alloc (.cells #[.int .i64 0, .int .i64 0, .int .i64 0] 3)).alloc (.cells #[.slice none 0 0, .slice none 0 0, .slice none 0 0] 27)).alloc (.cells #[.slice (some ⟨w.heap.size, 0, none⟩) 3 3, .slice (some ⟨w.heap.size + 1, 0, none⟩) 3 3] 35)).drew := by
  obtain ⟨h1, h2, h3⟩ := three_new w (.cells #[.int .i64 0, .int .i64 0, .int .i64 0] 3) (.cells #[.slice none 0 0, .slice none 0 0, .slice none 0 0] 27) (.cells #[.slice (some ⟨w.heap.size, 0, none⟩) 3 3, .slice (some ⟨w.heap.size + 1, 0, none⟩) 3 3] 35)
  exact bst_init h1 h2 h3 (Nat.le_refl _) (by omega) (by omega) (by omega)
theorem bst_new2 (w : World) : Bst w.heap.size (w.heap.size + 1 + 1) (w.heap.size + 1) w.heap.size (fun _ => none) (((w.alloc (.cells #[.slice none 0 0, .slice none 0 0, .slice none 0 0] 27)).alloc (.cells #[.int .i64 0, .int .i64 0, .int .i64 0] 3)).alloc (.cells #[.slice (some ⟨w.heap.size + 1, 0, none⟩) 3 3, .slice (some ⟨w.heap.size, 0, none⟩) 3 3] 35)).drew := by
  obtain ⟨h1, h2, h3⟩ := three_new w (.cells #[.slice none 0 0, .slice none 0 0, .slice none 0 0] 27) (.cells #[.int .i64 0, .int .i64 0, .int .i64 0] 3) (.cells #[.slice (some ⟨w.heap.size + 1, 0, none⟩) 3 3, .slice (some ⟨w.heap.size, 0, none⟩) 3 3] 35)
  exact bst_init h2 h1 h3 (by omega) (Nat.le_refl _) (by omega) (by omega)
theorem Bst.lt2 {N gP gv go : Nat} {st : Nat → Option (Int × List Int)} {w : World} (h : Bst N gP gv go st w) : gv < w.heap.size ∧ go < w.heap.size := by
  obtain ⟨_, _, hq, _⟩ := h
  exact ⟨hq.lt.1.2, hq.lt.2.1.2⟩
theorem pick_lex (cost : List Int → Int) (k : Nat) : pick cost none (extF k k []) = leastF cost k := by rw [ext_all]; rfl
set_option maxHeartbeats 8000000 in
theorem All_calls (k : Nat) (hk : 1 ≤ k ∧ k ≤ 8) (gb ne ce : Nat) (es : List (Int × Int)) (w : World) (hne : ne = es.length) (h30 : ne ≤ 100) (hg : IsG k es) (hE : RdE w (some ⟨gb, 0, none⟩) es) (hgb : gb < w.heap.size) (hle : ne ≤ ce) (hce : ce ≤ 9223372036854775807) :
    Calls Try.prog 20 #[.int .i64 k, .slice (some ⟨gb, 0, none⟩) ne ce] w fun e w' => ∃ gP gv go, e = .returned (.pointer (some ⟨gP, 0, none⟩)) ∧ Bst w.heap.size gP gv go (fun i => leastF (cst es i) k) w' ∧ Below w.heap.size w w' := by
  have CL := Lib.hid (fun (N gP gv go : Nat) (h : gb ≠ gv ∧ gb ≠ go) => Least_calls k hk gb ne ce es N gP gv go hne h30 hg h hle hce k [])
  have HE := Lib.hid hE
  have HGB := Lib.hid hgb
  have M1 := mk27
  have M2 := mk33
  clear hne hg hE hgb
  go_enter Try.func20, Try.ntmps20
  go_wp2_with fail
  go_region
  · have hst := bst_new1 w
    have hBX : Below w.heap.size w ((((w.alloc (.cells #[.int .i64 0, .int .i64 0, .int .i64 0] 3)).alloc (.cells #[.slice none 0 0, .slice none 0 0, .slice none 0 0] 27)).alloc (.cells #[.slice (some ⟨w.heap.size, 0, none⟩) 3 3, .slice (some ⟨w.heap.size + 1, 0, none⟩) 3 3] 35)).drew) := (((((Below.refl _ w).alloc (Nat.le_refl _) _).alloc (by simp) _).alloc (by simp; omega) _).drew)
    have hgv : gb ≠ w.heap.size ∧ gb ≠ w.heap.size + 1 := by have := HGB.out; omega
    obtain ⟨X, hX⟩ : ∃ X : World, X = (((w.alloc (.cells #[.int .i64 0, .int .i64 0, .int .i64 0] 3)).alloc (.cells #[.slice none 0 0, .slice none 0 0, .slice none 0 0] 27)).alloc (.cells #[.slice (some ⟨w.heap.size, 0, none⟩) 3 3, .slice (some ⟨w.heap.size + 1, 0, none⟩) 3 3] 35)).drew := ⟨_, rfl⟩
    rw [← hX] at hst hBX ⊢
    have hN : w.heap.size ≤ X.heap.size := hBX.size
    have hB2 : Below X.heap.size X (X.alloc (.cells #[] 3)) := (Below.refl _ _).alloc (Nat.le_refl _) _
    have hst2 := hst.below hN hB2
    have hE2 := HE.out.below (hBX.trans (hB2.mono hN))
    have hA2 := (arr_newE X X.heap.size X.heap.size (Nat.le_refl _) rfl).rd
    have hlt := hst.lt2
    have CI := Lib.hid (CL.out w.heap.size (w.heap.size + 1 + 1) (w.heap.size) (w.heap.size + 1) hgv 0 X.heap.size 0 _ _ rfl (by simp) List.nodup_nil (fun v hv => by cases hv) hE2 hA2 (by omega) (Nat.le_refl _) (by omega) hst2)
    have HBX := Lib.hid (hBX.trans (hB2.mono hN))
    clear hst hgv hX hN hB2 hst2 hE2 hA2 hlt
    go_wp2_with fail
    refine CI.out.mono ?_
    rintro e w9 ⟨rfl, h6, h7⟩
    have H6 := Lib.hid h6
    have H7 := Lib.hid (HBX.out.trans h7.1)
    clear h6 h7 hBX
    go_wp2_with fail
    go_ret
    exact ⟨_, _, _, rfl, bst_congr H6.out (fun i _ => pick_lex _ _), H7.out⟩
  · have hst := bst_new2 w
    have hBX : Below w.heap.size w ((((w.alloc (.cells #[.slice none 0 0, .slice none 0 0, .slice none 0 0] 27)).alloc (.cells #[.int .i64 0, .int .i64 0, .int .i64 0] 3)).alloc (.cells #[.slice (some ⟨w.heap.size + 1, 0, none⟩) 3 3, .slice (some ⟨w.heap.size, 0, none⟩) 3 3] 35)).drew) := (((((Below.refl _ w).alloc (Nat.le_refl _) _).alloc (by simp) _).alloc (by simp; omega) _).drew)
    have hgv : gb ≠ w.heap.size + 1 ∧ gb ≠ w.heap.size := by have := HGB.out; omega
    obtain ⟨X, hX⟩ : ∃ X : World, X = (((w.alloc (.cells #[.slice none 0 0, .slice none 0 0, .slice none 0 0] 27)).alloc (.cells #[.int .i64 0, .int .i64 0, .int .i64 0] 3)).alloc (.cells #[.slice (some ⟨w.heap.size + 1, 0, none⟩) 3 3, .slice (some ⟨w.heap.size, 0, none⟩) 3 3] 35)).drew := ⟨_, rfl⟩
    rw [← hX] at hst hBX ⊢
    have hN : w.heap.size ≤ X.heap.size := hBX.size
    have hB2 : Below X.heap.size X (X.alloc (.cells #[] 3)) := (Below.refl _ _).alloc (Nat.le_refl _) _
    have hst2 := hst.below hN hB2
    have hE2 := HE.out.below (hBX.trans (hB2.mono hN))
    have hA2 := (arr_newE X X.heap.size X.heap.size (Nat.le_refl _) rfl).rd
    have hlt := hst.lt2
    have CI := Lib.hid (CL.out w.heap.size (w.heap.size + 1 + 1) (w.heap.size + 1) (w.heap.size) hgv 0 X.heap.size 0 _ _ rfl (by simp) List.nodup_nil (fun v hv => by cases hv) hE2 hA2 (by omega) (Nat.le_refl _) (by omega) hst2)
    have HBX := Lib.hid (hBX.trans (hB2.mono hN))
    clear hst hgv hX hN hB2 hst2 hE2 hA2 hlt
    go_wp2_with fail
    refine CI.out.mono ?_
    rintro e w9 ⟨rfl, h6, h7⟩
    have H6 := Lib.hid h6
    have H7 := Lib.hid (HBX.out.trans h7.1)
    clear h6 h7 hBX
    go_wp2_with fail
    go_ret
    exact ⟨_, _, _, rfl, bst_congr H6.out (fun i _ => pick_lex _ _), H7.out⟩
end Go.Proofs.Ytlidnhmagleehaa
