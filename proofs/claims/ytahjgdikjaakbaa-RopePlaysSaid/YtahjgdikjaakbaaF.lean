/- What is proved: how a tower lies in memory; made, there, check, Holder, Sent. No condition beyond those in each statement. -/
import Derived.Test.YtahjgdikjaakbaaD
import Derived.Deep.RegionHeld3
namespace Go.Proofs.Ytahjgdikjaakbaa
open Go.RowKit

/-- A slice of one-cell values, or nil. -/
def Sl1 (w : World) (e : TypeId) (v : Value) (xs : List Value) : Prop := (v = nilV ∧ xs = []) ∨ ∃ g off cap, v = .slice (some ⟨g, off, none⟩) xs.length cap ∧ Row w e g off cap xs
theorem Sl1.same {w w' : World} {e : TypeId} {v : Value} {xs : List Value} (h : Sl1 w e v xs) (he : ∀ g, v.ownBlock = some g → w'.heap[g]? = w.heap[g]?) : Sl1 w' e v xs := by
  rcases h with h | ⟨g, off, cap, rfl, h⟩
  · exact .inl h
  · exact .inr ⟨g, off, cap, rfl, h.same (he g rfl)⟩
theorem Sl1.lt {w : World} {e : TypeId} {v : Value} {xs : List Value} (h : Sl1 w e v xs) : ∀ g, v.ownBlock = some g → g < w.heap.size := by
  intro g hg
  rcases h with ⟨rfl, _⟩ | ⟨g', off, cap, rfl, h⟩
  · simp [nilV, Value.ownBlock] at hg
  · simp [Value.ownBlock] at hg
    subst hg
    exact h.lt
def intsV (xs : List Int) : List Value := xs.map (Value.int .i64)
theorem intsV_len (xs : List Int) : (intsV xs).length = xs.length := by simp [intsV]
/-- A tower, as it lies in memory. -/
structure LS where
  n : Nat
  R : Nat
  rc : Nat
  K : Nat → Nat
  Kc : Nat → Nat
  mood : List Int
  known : List (List Int)
  holder : Int
  c2 : Value
  c3 : Value
  M : Nat
  F : Nat → Nat → Value
  ms : Nat → Nat → List Value
  sent : Int
  tsv : Value
  tqv : Value
  served : List Int
  queue : List Int
inductive Ix where
  | T
  | R
  | M
  | S
  | Q
  | K (i : Nat)
  | F (i j : Nat)
def blk (T : Nat) (s : LS) : Ix → Option Nat
  | .T => some T
  | .R => some s.R
  | .M => some s.M
  | .S => s.tsv.ownBlock
  | .Q => s.tqv.ownBlock
  | .K i => if i < s.n then some (s.K i) else none
  | .F i j => if i < s.n ∧ j < s.n then (s.F i j).ownBlock else none
def towerC (s : LS) : Array Value := #[.slice (some ⟨s.R, 0, none⟩) s.n s.rc, .int .i64 s.holder, s.c2, s.c3, .map (some s.M), .int .i64 s.sent]
structure Low (w : World) (T : Nat) (s : LS) : Prop where
  hT : w.heap[T]? = some (.cells (towerC s) 64 (0, 0))
  hn : 1 ≤ s.n ∧ s.n ≤ 6
  hR : ∃ cur : Array Value, w.heap[s.R]? = some (.cells cur 77 (0, 0)) ∧ 2 * s.n ≤ cur.size ∧ ∀ i, i < s.n → cur[i * 2]? = some (.slice (some ⟨s.K i, 0, none⟩) s.n (s.Kc i)) ∧ cur[i * 2 + 1]? = some (.int .i64 (s.mood.getD i 0))
  hrc : s.n ≤ s.rc ∧ s.rc ≤ maxLen
  lm : s.mood.length = s.n
  lk : s.known.length = s.n
  lki : ∀ i, i < s.n → (s.known.getD i []).length = s.n
  hK : ∀ i, i < s.n → Row w 3 (s.K i) 0 (s.Kc i) (intsV (s.known.getD i []))
  hS : Sl1 w 3 s.tsv (intsV s.served)
  hQ : Sl1 w 3 s.tqv (intsV s.queue)
  hM : FlAt w s.M s.n s.F
  hF : ∀ i j, i < s.n → j < s.n → Sl1 w 70 (s.F i j) (s.ms i j)
  inj : ∀ x y g, blk T s x = some g → blk T s y = some g → x = y
theorem Low.lt {w : World} {T : Nat} {s : LS} (h : Low w T s) : ∀ x g, blk T s x = some g → g < w.heap.size := by
  intro x g hx
  cases x with
  | T => cases hx; exact (Array.getElem?_eq_some_iff.1 h.hT).1
  | R => cases hx; obtain ⟨cur, h1, _⟩ := h.hR; exact (Array.getElem?_eq_some_iff.1 h1).1
  | M => cases hx; exact h.hM.lt
  | S => exact h.hS.lt g hx
  | Q => exact h.hQ.lt g hx
  | K i =>
    have hx : (if i < s.n then some (s.K i) else none) = some g := hx
    split at hx
    · rename_i hi; cases hx; exact (h.hK i hi).lt
    · cases hx
  | F i j =>
    have hx : (if i < s.n ∧ j < s.n then (s.F i j).ownBlock else none) = some g := hx
    split at hx
    · rename_i hi; exact (h.hF i j hi.1 hi.2).lt g hx
    · cases hx
/-- Where the tower's blocks are unchanged, the tower is. -/
theorem Low.same {w w' : World} {T : Nat} {s : LS} (h : Low w T s) (e : ∀ x g, blk T s x = some g → w'.heap[g]? = w.heap[g]?) : Low w' T s where
  hT := (e .T T rfl).trans h.hT
  hn := h.hn
  hR := by
    obtain ⟨cur, h1, h2⟩ := h.hR
    exact ⟨cur, (e .R s.R rfl).trans h1, h2⟩
  hrc := h.hrc
  lm := h.lm
  lk := h.lk
  lki := h.lki
  hK := fun i hi => (h.hK i hi).same (e (.K i) _ (if_pos hi))
  hS := h.hS.same fun g hg => e .S g hg
  hQ := h.hQ.same fun g hg => e .Q g hg
  hM := h.hM.same (e .M s.M rfl)
  hF := fun i j hi hj => (h.hF i j hi hj).same fun g hg => e (.F i j) g ((if_pos (And.intro hi hj)).trans hg)
  inj := h.inj
theorem Low.below {w w' : World} {T : Nat} {s : LS} (h : Low w T s) (hb : Below w.heap.size w w') : Low w' T s := h.same fun x g hx => hb.block g (h.lt x g hx)
theorem Low.cT {w : World} {T : Nat} {s : LS} (h : Low w T s) (i : Nat) (v : Value) (hv : (towerC s)[i]? = some v) : w.cell? ⟨T, i, none⟩ = some v := by
  rw [cell_of_row w T i _ 64 (0, 0) h.hT]
  exact hv
theorem Low.fT {w : World} {T : Nat} {s : LS} (h : Low w T s) (i : Nat) : w.frozen? ⟨T, i, none⟩ = false := by
  simp [World.frozen?, h.hT]
theorem Low.cells {w : World} {T : Nat} {s : LS} (h : Low w T s) : w.cell? ⟨T, 0, none⟩ = some (.slice (some ⟨s.R, 0, none⟩) s.n s.rc) ∧ w.cell? ⟨T, 1, none⟩ = some (.int .i64 s.holder) ∧ w.cell? ⟨T, 2, none⟩ = some s.c2 ∧ w.cell? ⟨T, 3, none⟩ = some s.c3 ∧ w.cell? ⟨T, 4, none⟩ = some (.map (some s.M)) ∧ w.cell? ⟨T, 5, none⟩ = some (.int .i64 s.sent) :=
  ⟨h.cT 0 _ rfl, h.cT 1 _ rfl, h.cT 2 _ rfl, h.cT 3 _ rfl, h.cT 4 _ rfl, h.cT 5 _ rfl⟩
theorem made_calls {w : World} {T : Nat} {s : LS} (h : Low w T s) : Calls Try.prog 41 #[.pointer (some ⟨T, 0, none⟩)] w fun e w' => e = .returned (.bool true) ∧ w = w' := by
  have c0 := h.cells.1
  obtain ⟨n, hn⟩ : ∃ n, n = s.n := ⟨_, rfl⟩
  rw [← hn] at c0
  have hn6 := h.hn
  rw [← hn] at hn6
  have t1 : decide ((n : Int) > 0) = true := decide_eq_true (by omega)
  have t2 : 0 < n := by omega
  clear h hn
  go_enter Try.func41, Try.ntmps41
  go_wp2_with fail
  go_ret
  exact ⟨rfl, rfl⟩
theorem made_nil (w : World) : Calls Try.prog 41 #[.pointer none] w fun e w' => e = .returned (.bool false) ∧ w = w' := by
  go_enter Try.func41, Try.ntmps41
  go_wp2_with fail
  go_ret
  exact ⟨rfl, rfl⟩
/-- A tower that nobody made: six cells of nothing. -/
def Zero (w : World) (T : Nat) : Prop := w.cell? ⟨T, 0, none⟩ = some nilV
theorem made_zero {w : World} {T : Nat} (h : Zero w T) : Calls Try.prog 41 #[.pointer (some ⟨T, 0, none⟩)] w fun e w' => e = .returned (.bool false) ∧ w = w' := by
  have c0 : w.cell? ⟨T, 0, none⟩ = some (.slice none 0 0) := h
  clear h
  go_enter Try.func41, Try.ntmps41
  go_wp2_with fail
  go_ret
  exact ⟨rfl, rfl⟩
def thereB (n : Nat) (i : Int) : Bool := decide (0 ≤ i) && decide (i < n)
theorem there_calls {w : World} {T : Nat} {s : LS} (h : Low w T s) (i : Int) : Calls Try.prog 58 #[.pointer (some ⟨T, 0, none⟩), .int .i64 i] w fun e w' => e = .returned (.bool (thereB s.n i)) ∧ w = w' := by
  have c0 := h.cells.1
  obtain ⟨n, hn⟩ : ∃ n, n = s.n := ⟨_, rfl⟩
  rw [← hn] at c0 ⊢
  clear h hn
  unfold thereB
  cases h0 : decide (0 ≤ i)
  · have t1 : decide (i ≥ 0) = false := h0
    go_enter Try.func58, Try.ntmps58
    go_wp2_with fail
    go_ret
    exact ⟨rfl, rfl⟩
  · have t1 : decide (i ≥ 0) = true := h0
    cases h1 : decide (i < (n : Int))
    all_goals
      go_enter Try.func58, Try.ntmps58
      go_wp2_with fail
      go_ret
      exact ⟨rfl, rfl⟩
/-- What check returns. -/
def checkR (n : Nat) (i : Int) : Int := if thereB n i then 0 else 1
theorem tcheck_calls {w : World} {T : Nat} {s : LS} (h : Low w T s) (i : Int) : Calls Try.prog 45 #[.pointer (some ⟨T, 0, none⟩), .int .i64 i] w fun e w' => e = .returned (.int .i64 (checkR s.n i)) ∧ w = w' := by
  have C1 := Lib.hid (made_calls h)
  have C2 := Lib.hid (there_calls h i)
  unfold checkR
  cases hb : thereB s.n i
  all_goals
    rw [hb] at C2
    clear hb h
    go_enter Try.func45, Try.ntmps45
    go_wp2_with fail
    refine C1.out.mono ?_
    rintro e w1 ⟨rfl, rfl⟩
    go_wp2_with fail
    refine C2.out.mono ?_
    rintro e w1 ⟨rfl, rfl⟩
    go_wp2_with fail
    go_ret
    exact ⟨rfl, rfl⟩
theorem holder_calls {w : World} {T : Nat} {s : LS} (h : Low w T s) : Calls Try.prog 17 #[.pointer (some ⟨T, 0, none⟩)] w fun e w' => e = .returned (.int .i64 s.holder) ∧ w = w' := by
  have C1 := Lib.hid (made_calls h)
  have c1 := h.cells.2.1
  clear h
  go_enter Try.func17, Try.ntmps17
  go_wp2_with fail
  refine C1.out.mono ?_
  rintro e w1 ⟨rfl, rfl⟩
  go_wp2_with fail
  go_ret
  exact ⟨rfl, rfl⟩
theorem sent_calls {w : World} {T : Nat} {s : LS} (h : Low w T s) : Calls Try.prog 22 #[.pointer (some ⟨T, 0, none⟩)] w fun e w' => e = .returned (.int .i64 s.sent) ∧ w = w' := by
  have C1 := Lib.hid (made_calls h)
  have c1 := h.cells.2.2.2.2.2
  clear h
  go_enter Try.func22, Try.ntmps22
  go_wp2_with fail
  refine C1.out.mono ?_
  rintro e w1 ⟨rfl, rfl⟩
  go_wp2_with fail
  go_ret
  exact ⟨rfl, rfl⟩
end Go.Proofs.Ytahjgdikjaakbaa

namespace Go.Proofs.Ytahjgdikjaakbaa
open Go.RowKit

theorem info70 : (Try.prog.info? 70).map (fun i => (i.zero, i.size, i.bytes)) = some (some .nilIface, 1, 16) := by kernel_rfl
/-- All blocks but those of X stand as they were. -/
structure Off (X : Nat → Prop) (W w' : World) : Prop where
  os : w'.os = W.os
  tape : w'.tape = W.tape
  output : w'.output = W.output
  size : W.heap.size ≤ w'.heap.size
  block : ∀ k, k < W.heap.size → ¬ X k → w'.heap[k]? = W.heap[k]?
theorem Off.refl (X : Nat → Prop) (w : World) : Off X w w := ⟨rfl, rfl, rfl, Nat.le_refl _, fun _ _ _ => rfl⟩
theorem Off.trans {X : Nat → Prop} {a b c : World} (h : Off X a b) (k : Off X b c) : Off X a c :=
  ⟨k.os.trans h.os, k.tape.trans h.tape, k.output.trans h.output, Nat.le_trans h.size k.size, fun i hi hx => (k.block i (Nat.lt_of_lt_of_le hi h.size) hx).trans (h.block i hi hx)⟩
theorem Off.drew {X : Nat → Prop} {a b : World} (h : Off X a b) : Off X a b.drew := ⟨h.os, h.tape, h.output, h.size, h.block⟩
theorem Off.alloc {X : Nat → Prop} {a b : World} (h : Off X a b) (o : Obj) : Off X a (b.alloc o) :=
  h.trans ⟨rfl, rfl, rfl, by simp, fun k hk _ => Below.heap_alloc _ _ _ hk⟩
theorem Off.grown {X : Nat → Prop} {a b c : World} {row : Option Nat} (h : Off X a b) (g : b.grownBy c row) (hr : ∀ k, row = some k → X k ∨ a.heap.size ≤ k) : Off X a c :=
  ⟨g.os.trans h.os, g.tape.trans h.tape, g.output.trans h.output, Nat.le_trans h.size g.size, fun k hk hx => (g.block k (Nat.lt_of_lt_of_le hk h.size) (fun e => by
    rcases hr k e.symm with h1 | h1
    · exact hx h1
    · omega)).trans (h.block k hk hx)⟩
theorem Off.setCell {X : Nat → Prop} {a b : World} (h : Off X a b) {p : Addr} (hp : X p.block) (v : Value) : Off X a (b.setCell p v) :=
  h.trans ⟨rfl, rfl, rfl, by simp [World.setCell], fun k _ hx => Below.heap_setCell _ _ _ _ (fun e => hx (e ▸ hp))⟩
theorem Off.mono {X Y : Nat → Prop} {a b : World} (h : Off X a b) (hxy : ∀ k, X k → Y k) : Off Y a b := ⟨h.os, h.tape, h.output, h.size, fun k hk hy => h.block k hk fun hx => hy (hxy k hx)⟩
theorem Off.below {X : Nat → Prop} {a b : World} {N : Nat} (h : Off X a b) (hN : N ≤ a.heap.size) (hx : ∀ k, X k → N ≤ k) : Below N a b :=
  ⟨h.os, h.tape, h.output, h.size, fun k hk => h.block k (by omega) fun hX => by have := hx k hX; omega⟩
theorem Off.cell {X : Nat → Prop} {a b : World} (h : Off X a b) {p : Addr} (hl : p.block < a.heap.size) (hx : ¬ X p.block) : b.cell? p = a.cell? p := World.cell?_of_block (h.block p.block hl hx)
theorem sl_push {P : Program} (w : World) (t ty e : TypeId) (i : TypeInfo) (z : Value) (ht : P.underlying t = some (.slice e)) (hi : P.info? e = some i) (hz : i.zero = some z) (hs1 : i.size = 1) (hby : i.bytes ≤ 32) (hzs : z.cells.size = 1)
    {v : Value} {xs : List Value} (h : Sl1 w e v xs) (hl : xs.length ≤ 100000) (a : Addr) (c : Nat) (x : Value) (hx : w.cell? a = some x) (h1 : x.oneCell' = true) :
    ∃ v' w', (Builtin.append_ #[t, t] ty #[v, .slice (some a) 1 c]).run P w = .ok v' w' ∧ Sl1 w' e v' (xs ++ [x]) ∧ w.grownBy w' v.ownBlock ∧ (∃ g, v'.ownBlock = some g ∧ (v.ownBlock = some g ∨ w.heap.size ≤ g)) := by
  rcases h with ⟨rfl, rfl⟩ | ⟨g, off, cap, rfl, h⟩
  · have hnews : ∀ j u, ([x] : List Value)[j]? = some u → w.cell? (a.add j) = some u := by
      intro j u hj
      match j, hj with
      | 0, hj => cases hj; simpa [Addr.add] using hx
    have hr := run_append_nil (P := P) w t ty e i z ht hi hz a 1 c [x] (by rw [hs1]; rfl) hnews (by omega) (by omega) (by omega)
    have hge := grownCap_ge w 1 0 e
    have hcm : grownCap w 1 0 e ≤ maxLen := grownCap_le_maxLen w 1 0 e (by simp [maxLen])
    refine ⟨_, _, hr, .inr ⟨_, 0, _, rfl, _, heap_alloc_new w.drew _, by simpa using hge, hcm, ?_, ?_⟩, ⟨rfl, rfl, rfl, by simp, fun k hk _ => _root_.Go.heap_alloc_old w.drew _ hk⟩, w.heap.size, rfl, .inr (Nat.le_refl _)⟩
    · simp only [Array.size_append, List.size_toArray, size_zeroCells, hzs, List.length_cons, List.length_nil]
      omega
    · simp
  · obtain ⟨g', off', cap', w', hr, hrow, hg, hne⟩ := row_push w t ty e i z ht hi hz hs1 hby hzs rfl h hl a c x hx h1
    refine ⟨_, w', hr, .inr ⟨g', off', cap', by rw [List.length_append]; rfl, hrow⟩, hg, g', rfl, ?_⟩
    rcases hne with rfl | hne
    · exact .inl rfl
    · exact .inr hne
end Go.Proofs.Ytahjgdikjaakbaa
