/- What is proved: Flight. No condition beyond those in each statement. -/
import Derived.Test.YtahjgdikjaakbaaT
import Derived.Test.YtahjgdikjaakbaaPc
import Derived.Handy
namespace Go.Proofs.Ytahjgdikjaakbaa
open Go.RowKit

def Msg.isTok : Msg → Bool
  | .tok => true
  | .req _ => false
def Msg.num : Msg → Int
  | .tok => 0
  | .req no => no
abbrev Cal := Nat × Nat × Msg
def calC (c : Cal) : List Value := [.int .i64 c.1, .int .i64 c.2.1, .bool c.2.2.isTok, .int .i64 c.2.2.num]
def calsC (xs : List Cal) : List Value := xs.flatMap calC
theorem calsC_len (xs : List Cal) : (calsC xs).length = xs.length * 4 := by
  induction xs with
  | nil => rfl
  | cons x xs ih =>
    unfold calsC at ih ⊢
    rw [List.flatMap_cons, List.length_append, ih, List.length_cons]
    simp [calC]; omega
theorem calsC_app (xs ys : List Cal) : calsC (xs ++ ys) = calsC xs ++ calsC ys := by simp [calsC]
theorem calsC_one {xs : List Cal} : ∀ u, u ∈ calsC xs → u.oneCell' = true := by
  intro u hu
  unfold calsC at hu
  rw [List.mem_flatMap] at hu
  obtain ⟨c, _, h⟩ := hu
  simp [calC] at h
  rcases h with rfl | rfl | rfl | rfl <;> rfl
theorem calsC_get (xs : List Cal) (i : Nat) (hi : i < xs.length) (k : Nat) (hk : k < 4) : (calsC xs)[i * 4 + k]? = (calC xs[i])[k]? := by
  induction xs generalizing i with
  | nil => simp at hi
  | cons x xs ih =>
    have e : calsC (x :: xs) = calC x ++ calsC xs := by simp [calsC]
    have l4 : (calC x).length = 4 := rfl
    rw [e]
    cases i with
    | zero => rw [List.getElem?_append_left (by omega)]; simp
    | succ i =>
      rw [List.getElem?_append_right (by omega), l4, show (i + 1) * 4 + k - 4 = i * 4 + k by omega]
      exact ih i (by simpa using hi)
/-- What a slice of calls reads as. -/
def RdC (w : World) (A : Option Addr) (xs : List Cal) : Prop :=
  xs ≠ [] → ∃ b o, A = some ⟨b, o, none⟩ ∧ b < w.heap.size ∧ ∀ j u, (calsC xs)[j]? = some u → w.cell? ⟨b, o + j, none⟩ = some u
theorem RdC.below {w w' : World} {A : Option Addr} {xs : List Cal} (h : RdC w A xs) (hb : Below w.heap.size w w') : RdC w' A xs := fun hne => by
  obtain ⟨b, o, e, hlt, hc⟩ := h hne
  exact ⟨b, o, e, Nat.lt_of_lt_of_le hlt hb.size, fun j u hj => (hb.cell (p := ⟨b, o + j, none⟩) hlt).trans (hc j u hj)⟩
theorem RdC.at {w : World} {A : Option Addr} {xs : List Cal} (h : RdC w A xs) (i : Nat) (hi : i < xs.length) :
    ∃ b o, A = some ⟨b, o, none⟩ ∧ b < w.heap.size ∧ w.cell? ⟨b, o + i * 4, none⟩ = some (.int .i64 xs[i].1) ∧ w.cell? ⟨b, o + i * 4 + 1, none⟩ = some (.int .i64 xs[i].2.1) ∧ w.cell? ⟨b, o + i * 4 + 2, none⟩ = some (.bool xs[i].2.2.isTok) ∧ w.cell? ⟨b, o + i * 4 + 3, none⟩ = some (.int .i64 xs[i].2.2.num) := by
  obtain ⟨b, o, e, hlt, hc⟩ := h (fun e => by subst e; simp at hi)
  refine ⟨b, o, e, hlt, ?_, ?_, ?_, ?_⟩
  · exact hc (i * 4 + 0) _ ((calsC_get xs i hi 0 (by omega)).trans rfl)
  · exact hc (i * 4 + 1) _ ((calsC_get xs i hi 1 (by omega)).trans rfl)
  · exact hc (i * 4 + 2) _ ((calsC_get xs i hi 2 (by omega)).trans rfl)
  · exact hc (i * 4 + 3) _ ((calsC_get xs i hi 3 (by omega)).trans rfl)
/-- A slice of calls whose row the call itself has made. -/
def OwC (w : World) (base : Nat) (v : Value) (xs : List Cal) : Prop := w.ownsRow base 32 4 v xs.length (calsC xs)
theorem OwC.below {w w' : World} {base : Nat} {v : Value} {xs : List Cal} (h : OwC w base v xs) (hb : Below w.heap.size w w') : OwC w' base v xs := by
  refine World.ownsRow.kept h (row := none) ⟨hb.os, hb.tape, hb.output, hb.size, fun k hk _ => hb.block k hk⟩ ?_
  cases v.ownBlock <;> simp
theorem OwC.mono {w : World} {b b' : Nat} {v : Value} {xs : List Cal} (h : OwC w b v xs) (hb : b' ≤ b) : OwC w b' v xs :=
  ⟨h.1, h.2.imp id fun ⟨g, cap, cur, e, h1, r⟩ => ⟨g, cap, cur, e, Nat.le_trans hb h1, r⟩⟩
theorem owc_nil (w : World) (b : Nat) : OwC w b (.slice none 0 0) [] := ⟨rfl, .inl ⟨rfl, rfl⟩⟩
theorem OwC.rd {w : World} {base : Nat} {v : Value} {xs : List Cal} (h : OwC w base v xs) : ∃ A c, v = .slice A xs.length c ∧ xs.length ≤ c ∧ c ≤ 9223372036854775807 ∧ (A = none → xs = []) ∧ RdC w A xs ∧ (∀ a, A = some a → base ≤ a.block) := by
  have h' := h
  rcases h with ⟨_, ⟨rfl, hn⟩ | ⟨g, cap, cur, rfl, hb, hg, h1, h2, h3, h4⟩⟩
  · have : xs = [] := List.eq_nil_of_length_eq_zero hn
    subst this
    exact ⟨none, 0, rfl, Nat.le_refl _, by omega, fun _ => rfl, fun h => absurd rfl h, fun a h => by cases h⟩
  · refine ⟨some ⟨g, 0, none⟩, cap, rfl, h1, by simpa [maxLen] using h2, fun h => (by cases h), fun _ => ⟨g, 0, rfl, (Array.getElem?_eq_some_iff.1 hg).1, fun j u hj => ?_⟩, fun a h => by cases h; exact hb⟩
    have := World.ownsRow.cells h' (g := g) rfl j u hj
    rwa [addr_add] at this
theorem info32 : (Try.prog.info? 32).map (fun i => (i.zero, i.size, i.bytes)) = some (some (.agg #[.int .i64 0, .int .i64 0, .bool false, .int .i64 0]), 4, 32) := by kernel_rfl
theorem owc_push {w : World} {base : Nat} {v : Value} {xs : List Cal} (x : Cal) (h : OwC w base v xs) (hb : base ≤ w.heap.size) (hl : xs.length ≤ 100000) :
    ∃ A n c w', (Builtin.append_ #[29, 29] 29 #[v, .slice (some ⟨w.heap.size, 0, none⟩) 1 1]).run Try.prog (w.alloc (.cells #[.int .i64 x.1, .int .i64 x.2.1, .bool x.2.2.isTok, .int .i64 x.2.2.num] 32)) = .ok (.slice (some A) n c) w' ∧ OwC w' base (.slice (some A) n c) (xs ++ [x]) ∧ Below base w w' := by
  obtain ⟨i0, hi, hz0, hz1, hz2⟩ := info_parts info32
  have hn2 : ∀ j u, (calsC [x])[j]? = some u → (w.alloc (.cells #[.int .i64 x.1, .int .i64 x.2.1, .bool x.2.2.isTok, .int .i64 x.2.2.num] 32)).cell? ((⟨w.heap.size, 0, none⟩ : Addr).add j) = some u := by
    intro j u hj
    rw [addr_add, Nat.zero_add, World.cell?_alloc_at _ _ _ _ rfl]
    simpa [calsC, calC] using hj
  obtain ⟨v', w', hrun, r1, r2, r3⟩ := run_append_own (P := Try.prog) (w.alloc (.cells #[.int .i64 x.1, .int .i64 x.2.1, .bool x.2.2.isTok, .int .i64 x.2.2.num] 32)) base 29 29 32 i0 _ 4 32 Try.underlying29 hi hz0 hz1 hz2 rfl (by decide) v xs.length (calsC xs) (World.ownsRow.alloc h _) ⟨w.heap.size, 0, none⟩ 1 1 (calsC [x]) rfl hn2 calsC_one (by simp [maxLen]; omega) (by omega) (by simp; omega)
  have hB : Below base w w' := ((Below.refl _ w).alloc hb _).grown r2 (by simp; omega) (fun k hk => (World.ownsRow.lt h k hk).1)
  have ho : OwC w' base v' (xs ++ [x]) := by unfold OwC; rw [List.length_append, calsC_app]; exact r1
  rcases ho.2 with ⟨_, h0⟩ | ⟨g, cap, cur, rfl, _⟩
  · simp at h0
  · exact ⟨_, _, _, w', hrun, ho, hB⟩
theorem below_two (w : World) (a b : Obj) : Below w.heap.size w ((w.alloc a).alloc b) := by
  have h := (Below.refl w.heap.size w).alloc (Nat.le_refl _) a
  exact h.alloc h.size b
theorem request_call (no a b : Int) (w : World) : Calls Try.prog 77 #[.agg #[.int .i64 no], .int .i64 a, .int .i64 b] w fun e w' => e = .returned (.agg #[.int .i64 a, .int .i64 b, .bool false, .int .i64 no]) ∧ Below w.heap.size w w' := by
  go_enter Try.func77, Try.ntmps77
  go_wp2_with fail
  exact bodyPost_ret (v := .agg #[.int .i64 a, .int .i64 b, .bool false, .int .i64 no]) (by simp [results, Try.results77, go_sem, *]) rfl ⟨rfl, below_two _ _ _⟩
theorem token_call (x y : Value) (a b : Int) (w : World) : Calls Try.prog 76 #[.agg #[x, y], .int .i64 a, .int .i64 b] w fun e w' => e = .returned (.agg #[.int .i64 a, .int .i64 b, .bool true, .int .i64 0]) ∧ Below w.heap.size w w' := by
  go_enter Try.func76, Try.ntmps76
  go_wp2_with fail
  exact bodyPost_ret (v := .agg #[.int .i64 a, .int .i64 b, .bool true, .int .i64 0]) (by simp [results, Try.results76, go_sem, *]) rfl ⟨rfl, below_two _ _ _⟩
def mkL (a b : Nat) (l : List Msg) : List Cal := l.map fun m => (a, b, m)
def rowL (f : Nat → Nat → List Msg) (a : Nat) : Nat → List Cal
  | 0 => []
  | b + 1 => rowL f a b ++ mkL a b (f a b)
def colL (f : Nat → Nat → List Msg) (n : Nat) : Nat → List Cal
  | 0 => []
  | a + 1 => colL f n a ++ rowL f a n
theorem rowL_le (f : Nat → Nat → List Msg) (a : Nat) {b c : Nat} (h : b ≤ c) : (rowL f a b).length ≤ (rowL f a c).length := by
  induction c with
  | zero => rw [show b = 0 by omega]; exact Nat.le_refl _
  | succ c ih =>
    by_cases e : b = c + 1
    · rw [e]; exact Nat.le_refl _
    · have := ih (by omega)
      show _ ≤ (rowL f a c ++ mkL a c (f a c)).length
      rw [List.length_append]; omega
theorem colL_le (f : Nat → Nat → List Msg) (n : Nat) {b c : Nat} (h : b ≤ c) : (colL f n b).length ≤ (colL f n c).length := by
  induction c with
  | zero => rw [show b = 0 by omega]; exact Nat.le_refl _
  | succ c ih =>
    by_cases e : b = c + 1
    · rw [e]; exact Nat.le_refl _
    · have := ih (by omega)
      show _ ≤ (colL f n c ++ rowL f c n).length
      rw [List.length_append]; omega
def enc (a b : Value) : Msg → Value
  | .req no => reqV no
  | .tok => tokV a b
/-- The three loops of Flight. -/
def F1 (w : World) (n : Nat) (f : Nat → Nat → List Msg) (u3 u16 : Value) (wr : World) : Prop := ∃ a : Nat, u16 = .int .i64 a ∧ a ≤ n ∧ OwC wr w.heap.size u3 (colL f n a) ∧ Below w.heap.size w wr
def F2 (w : World) (n : Nat) (f : Nat → Nat → List Msg) (a : Nat) (u3 u24 : Value) (wr : World) : Prop := ∃ b : Nat, u24 = .int .i64 b ∧ b ≤ n ∧ OwC wr w.heap.size u3 (colL f n a ++ rowL f a b) ∧ Below w.heap.size w wr
def F3 (w : World) (n : Nat) (f : Nat → Nat → List Msg) (a b : Nat) (u3 u36 : Value) (wr : World) : Prop := ∃ k : Nat, u36 = .int .i64 k ∧ k ≤ (f a b).length ∧ OwC wr w.heap.size u3 (colL f n a ++ rowL f a b ++ mkL a b ((f a b).take k)) ∧ Below w.heap.size w wr
theorem mkL_take {a b k : Nat} {l : List Msg} (h : k < l.length) : mkL a b (l.take (k + 1)) = mkL a b (l.take k) ++ [(a, b, l[k])] := by
  unfold mkL
  rw [List.take_succ_eq_append_getElem h, List.map_append]
  rfl
set_option maxHeartbeats 8000000 in
theorem flight_calls {w : World} {T : Nat} {s : LS} {f : Nat → Nat → List Msg} (h : Low w T s) (hf : ∀ i j, i < s.n → j < s.n → s.ms i j = (f i j).map (enc s.tsv s.tqv)) (hl : (colL f s.n s.n).length ≤ 90000) :
    Calls Try.prog 16 #[.pointer (some ⟨T, 0, none⟩)] w fun e w' => ∃ v, e = .returned v ∧ OwC w' w.heap.size v (colL f s.n s.n) ∧ Below w.heap.size w w' := by
  have C1 := Lib.hid (made_calls h)
  have hn6 := h.hn
  have H := Lib.hid h
  have HF := Lib.hid hf
  have HL := Lib.hid hl
  have c0 := h.cells.1
  obtain ⟨n, hn⟩ : ∃ n, n = s.n := ⟨_, rfl⟩
  rw [← hn] at c0 hn6 HF HL ⊢
  have HN := Lib.hid hn
  clear h hf hl hn
  go_enter Try.func16, Try.ntmps16
  go_wp2_with fail
  refine C1.out.mono ?_
  rintro e w1 ⟨rfl, rfl⟩
  clear C1
  go_wp2_with fail
  go_loopw [3, 16] (fun u3 u16 wr => F1 w n f u3 u16 wr) (fun _ u16 _ => n - (intOf u16).toNat)
  case atStart => exact ⟨0, rfl, Nat.zero_le _, owc_nil _ _, Below.refl _ _⟩
  case round =>
    clear c0
    obtain ⟨a, rfl, ha, ho, hb⟩ := hrel
    have HO := Lib.hid ho
    have HB := Lib.hid hb
    by_cases hlt : a < n
    · have c0 : wr.cell? ⟨T, 0, none⟩ = some (.slice (some ⟨s.R, 0, none⟩) n s.rc) := by rw [HN.out]; exact (H.out.below hb).cells.1
      clear ho hb
      go_wp2_with fail
      go_loopw [3, 24] (fun u3 u24 wr => F2 w n f a u3 u24 wr) (fun _ u24 _ => n - (intOf u24).toNat)
      case atStart => exact ⟨0, rfl, Nat.zero_le _, by show OwC _ _ _ (colL f n a ++ []); rw [List.append_nil]; exact HO.out, HB.out⟩
      case round =>
        clear c0
        obtain ⟨wm, hwm⟩ : ∃ x, x = wr := ⟨_, rfl⟩
        subst hwm
        obtain ⟨b, rfl, hb2, ho, hb⟩ := hrel
        have HO := Lib.hid ho
        have HB := Lib.hid hb
        by_cases hlt2 : b < n
        · have hL := H.out.below hb
          have c4 := hL.cells.2.2.2.2.1
          obtain ⟨P, C, hV, hcell⟩ := (H.out.hF a b (by rw [← HN.out]; exact hlt) (by rw [← HN.out]; exact hlt2)).parts
          have lk := lookup_low hL (i := a) (j := b) (by rw [← HN.out]; exact hlt) (by rw [← HN.out]; exact hlt2)
          rw [hV] at lk
          have hms := HF.out a b hlt hlt2
          have hlen : (s.ms a b).length = (f a b).length := by rw [hms, List.length_map]
          obtain ⟨L, hLL⟩ : ∃ L, L = (f a b).length := ⟨_, rfl⟩
          rw [hlen, ← hLL] at lk
          have hcell2 : Hid (∀ k (hk : k < (f a b).length), ∃ g off, P = some ⟨g, off, none⟩ ∧ g < w.heap.size ∧ w.cell? ⟨g, off + k, none⟩ = some (enc s.tsv s.tqv (f a b)[k])) := by
            intro k hk
            obtain ⟨g, off, e, h1, h2⟩ := hcell k (by omega)
            refine ⟨g, off, e, h1, ?_⟩
            rw [h2]
            congr 1
            simp only [hms, List.getElem_map]
          have hLb : L ≤ 90000 := by
            have h1 := colL_le f n (b := a + 1) (c := n) hlt
            have h2 := rowL_le f a (b := b + 1) (c := n) hlt2
            have h3 : (colL f n (a + 1)).length = (colL f n a).length + (rowL f a n).length := by show (colL f n a ++ rowL f a n).length = _; rw [List.length_append]
            have h4 : (rowL f a (b + 1)).length = (rowL f a b).length + (f a b).length := by show (rowL f a b ++ mkL a b (f a b)).length = _; rw [List.length_append, mkL, List.length_map]
            have := HL.out
            omega
          have HLL := Lib.hid hLL
          clear ho hb hL hV hcell hms hlen hLL
          go_wp2_with fail
          go_loopw [3, 36] (fun u3 u36 wr => F3 w n f a b u3 u36 wr) (fun _ u36 _ => L - (intOf u36).toNat)
          case atStart => exact ⟨0, rfl, Nat.zero_le _, by show OwC _ _ _ (colL f n a ++ rowL f a b ++ []); rw [List.append_nil]; exact HO.out, HB.out⟩
          case round =>
            clear c4 lk
            obtain ⟨k, rfl, hk, ho, hb⟩ := hrel
            rw [← HLL.out] at hk
            have HO := Lib.hid ho
            have HB := Lib.hid hb
            by_cases hkl : k < L
            · have hkf : k < (f a b).length := by rw [← HLL.out]; exact hkl
              obtain ⟨g, off, rfl, hgl, hc⟩ := hcell2.out k hkf
              have c1 := (hb.cell (p := ⟨g, off + k, none⟩) hgl).trans hc
              have z1 : (0 : Int) ≤ (k : Int) ∧ (k : Int) < L := by omega
              have hpre : (colL f n a ++ rowL f a b ++ mkL a b ((f a b).take k)).length ≤ 100000 := by
                have h1 := colL_le f n (b := a + 1) (c := n) hlt
                have h2 := rowL_le f a (b := b + 1) (c := n) hlt2
                have h3 : (colL f n (a + 1)).length = (colL f n a).length + (rowL f a n).length := by show (colL f n a ++ rowL f a n).length = _; rw [List.length_append]
                have h4 : (rowL f a (b + 1)).length = (rowL f a b).length + (f a b).length := by show (rowL f a b ++ mkL a b (f a b)).length = _; rw [List.length_append, mkL, List.length_map]
                have := HL.out
                have h5 : ((f a b).take k).length ≤ (f a b).length := by rw [List.length_take]; omega
                simp only [List.length_append, mkL, List.length_map] at *
                omega
              have HNX := Lib.hid (mkL_take (a := a) (b := b) hkf)
              have HP := Lib.hid hpre
              have CQ := Lib.hid (fun no => request_call no a b wr)
              have CT := Lib.hid (fun x y => token_call x y a b wr)
              obtain ⟨m, hm⟩ : ∃ m, m = (f a b)[k] := ⟨_, rfl⟩
              rw [← hm] at c1 HNX
              have HNY : Hid (colL f n a ++ rowL f a b ++ mkL a b ((f a b).take (k + 1)) = colL f n a ++ rowL f a b ++ mkL a b ((f a b).take k) ++ [(a, b, m)]) := by
                show _ = _
                rw [HNX.out, ← List.append_assoc]
              clear ho hb hc hgl hpre hm HNX
              cases m with
              | req no =>
                replace c1 : wr.cell? ⟨g, off + k, none⟩ = some (.iface 88 (.agg #[.int .i64 no])) := c1
                go_wp2_with fail
                refine (CQ.out no).mono ?_
                rintro e w3 ⟨rfl, hb3⟩
                have HB3 := Lib.hid (HB.out.trans (hb3.mono HB.out.size))
                obtain ⟨A, n', c', w5, hrun, ho5, hb5⟩ := owc_push (a, b, .req no) (HO.out.below hb3) HB3.out.size HP.out
                rw [← HNY.out] at ho5
                have HRUN : Hid ((Builtin.append_ #[29, 29] 29 #[u3, .slice (some ⟨w3.heap.size, 0, none⟩) 1 1]).run Try.prog (w3.alloc (.cells #[.int .i64 a, .int .i64 b, .bool false, .int .i64 no] 32)) = .ok (.slice (some A) n' c') w5) := hrun
                have HO5 := Lib.hid ho5
                have HB5 := Lib.hid (HB3.out.trans hb5)
                clear hb3 hrun ho5 hb5 CQ CT
                go_wp2_with (at_builtin; refine wpList_app rfl (.tmp 40) (.tmp 45) 29 29 rfl rfl _ _ rfl rfl HRUN.out ?_)
                go_roundw
                case rel => exact ⟨k + 1, by go_num, hkf, HO5.out, HB5.out⟩
                case measure => simp [intOf]; omega
              | tok =>
                obtain ⟨p1, l1, k1, ht1⟩ := H.out.hS.form
                obtain ⟨p2, l2, k2, ht2⟩ := H.out.hQ.form
                replace c1 : wr.cell? ⟨g, off + k, none⟩ = some (.iface 61 (.agg #[s.tsv, s.tqv])) := c1
                rw [ht1, ht2] at c1
                clear ht1 ht2
                go_wp2_with fail
                refine (CT.out _ _).mono ?_
                rintro e w3 ⟨rfl, hb3⟩
                have HB3 := Lib.hid (HB.out.trans (hb3.mono HB.out.size))
                obtain ⟨A, n', c', w5, hrun, ho5, hb5⟩ := owc_push (a, b, .tok) (HO.out.below hb3) HB3.out.size HP.out
                rw [← HNY.out] at ho5
                have HRUN : Hid ((Builtin.append_ #[29, 29] 29 #[u3, .slice (some ⟨w3.heap.size, 0, none⟩) 1 1]).run Try.prog (w3.alloc (.cells #[.int .i64 a, .int .i64 b, .bool true, .int .i64 0] 32)) = .ok (.slice (some A) n' c') w5) := hrun
                have HO5 := Lib.hid ho5
                have HB5 := Lib.hid (HB3.out.trans hb5)
                clear hb3 hrun ho5 hb5 CQ CT
                go_wp2_with (at_builtin; refine wpList_app rfl (.tmp 40) (.tmp 45) 29 29 rfl rfl _ _ rfl rfl HRUN.out ?_)
                go_roundw
                case rel => exact ⟨k + 1, by go_num, hkf, HO5.out, HB5.out⟩
                case measure => simp [intOf]; omega
            · have hkn : k = L := by omega
              subst hkn
              have HO2 : Hid (OwC wr w.heap.size u3 (colL f n a ++ rowL f a (b + 1))) := by
                have := HO.out
                rw [HLL.out, List.take_length, List.append_assoc] at this
                exact this
              clear ho hb
              go_wp2_with fail
              exact ⟨⟨b + 1, by go_num, hlt2, HO2.out, HB.out⟩, by simp [intOf]; omega⟩
        · have hbn : b = n := by omega
          subst hbn
          clear ho hb
          go_wp2_with fail
          exact ⟨⟨a + 1, by go_num, hlt, HO.out, HB.out⟩, by simp [intOf]; omega⟩
    · have han : a = n := by omega
      subst han
      clear ho hb
      go_wp2_with fail
      go_ret
      exact ⟨_, rfl, HO.out, HB.out⟩
end Go.Proofs.Ytahjgdikjaakbaa
