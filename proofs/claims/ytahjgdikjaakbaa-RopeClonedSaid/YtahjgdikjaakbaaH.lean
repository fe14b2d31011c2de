/- What is proved: a tower behind send. No condition beyond those in each statement. -/
import Derived.Test.YtahjgdikjaakbaaG
namespace Go.Proofs.Ytahjgdikjaakbaa
open Go.RowKit

def fp (T : Nat) (s : LS) (k : Nat) : Prop := ∃ x, blk T s x = some k
def updM (f : Nat → Nat → List Value) (i j : Nat) (v : List Value) : Nat → Nat → List Value := fun a b => if a = i ∧ b = j then v else f a b
theorem updM_same (f : Nat → Nat → List Value) (i j : Nat) (v : List Value) : updM f i j v i j = v := by simp [updM]
theorem updM_other {f : Nat → Nat → List Value} {i j a b : Nat} {v : List Value} (h : ¬ (a = i ∧ b = j)) : updM f i j v a b = f a b := by simp [updM, h]
def putF (s : LS) (i j : Nat) (v : Value) (xs : List Value) (sent : Int) : LS := { s with F := upd s.F i j v, ms := updM s.ms i j xs, sent := sent }
theorem blk_putF (T : Nat) (s : LS) (i j : Nat) (v : Value) (xs : List Value) (sent : Int) (x : Ix) (hx : x ≠ .F i j) : blk T (putF s i j v xs sent) x = blk T s x := by
  cases x with
  | F a b =>
    show (if a < s.n ∧ b < s.n then (upd s.F i j v a b).ownBlock else none) = if a < s.n ∧ b < s.n then (s.F a b).ownBlock else none
    rw [upd_other (fun h => hx (by rw [h.1, h.2]))]
  | _ => rfl
/-- The blocks of a tower differ still, where one place has its old block or a new one. -/
theorem inj_step {T : Nat} {s s' : LS} {N : Nat} {q : Ix} (h : ∀ x y g, blk T s x = some g → blk T s y = some g → x = y) (hlt : ∀ x g, blk T s x = some g → g < N)
    (ho : ∀ x, x ≠ q → blk T s' x = blk T s x) (hq : ∀ g, blk T s' q = some g → blk T s q = some g ∨ N ≤ g) : ∀ x y g, blk T s' x = some g → blk T s' y = some g → x = y := by
  have key : ∀ y g, y ≠ q → blk T s' q = some g → blk T s' y = some g → False := by
    intro y g hy h1 h2
    rw [ho y hy] at h2
    rcases hq g h1 with h3 | h3
    · exact hy (h y q g h2 h3)
    · have := hlt y g h2
      omega
  intro x y g hx hy
  by_cases e1 : x = q
  · by_cases e2 : y = q
    · rw [e1, e2]
    · rw [e1] at hx
      exact absurd (key y g e2 hx hy) id
  · by_cases e2 : y = q
    · rw [e2] at hy
      exact absurd (key x g e1 hy hx) id
    · rw [ho x e1] at hx
      rw [ho y e2] at hy
      exact h x y g hx hy
theorem Low.ne {w : World} {T : Nat} {s : LS} (h : Low w T s) {x y : Ix} {a b : Nat} (hx : blk T s x = some a) (hy : blk T s y = some b) (hne : x ≠ y) : a ≠ b := by
  rintro rfl
  exact hne (h.inj x y a hx hy)
theorem low_sent {w w' : World} {T i j : Nat} {s : LS} {xs : List Value} {e : Ending} (h : Low w T s) (hi : i < s.n) (hj : j < s.n) (r : SendR w T s.M s.n s.F i j xs s.sent e w') :
    e = .returned (.tuple #[]) ∧ ∃ v', Low w' T (putF s i j v' xs (s.sent + 1)) ∧ Off (fp T s) w w' ∧ ∀ k, fp T (putF s i j v' xs (s.sent + 1)) k → fp T s k ∨ w.heap.size ≤ k := by
  obtain ⟨he, v', x, r1, r2, r3, r4, rfl⟩ := r
  have bF : ∀ g, (s.F i j).ownBlock = some g → blk T s (.F i j) = some g := fun g hg => (if_pos (And.intro hi hj)).trans hg
  have hTl : T < w.heap.size := h.lt .T T rfl
  have hTM : T ≠ s.M := h.ne (x := .T) (y := .M) rfl rfl (by simp)
  have hxT : x.heap[T]? = w.heap[T]? := r4.block T hTl (by
    rintro (e | e)
    · exact hTM e
    · exact h.ne (x := .T) (y := .F i j) rfl (bF T e) (by simp) rfl)
  have hst : ∀ y g, blk T s y = some g → y ≠ .T → y ≠ .M → y ≠ .F i j → (x.setCell ⟨T, 5, none⟩ (.int .i64 (s.sent + 1))).heap[g]? = w.heap[g]? := by
    intro y g hy n1 n2 n3
    have e1 : g ≠ T := h.ne hy (y := .T) rfl n1
    rw [heap_setCell_other x ⟨T, 5, none⟩ g _ e1]
    refine r4.block g (h.lt y g hy) ?_
    rintro (e | e)
    · exact h.ne hy (y := .M) rfl n2 e
    · exact h.ne hy (bF g e) n3 rfl
  have hq : ∀ g, blk T (putF s i j v' xs (s.sent + 1)) (.F i j) = some g → blk T s (.F i j) = some g ∨ w.heap.size ≤ g := by
    intro g hg
    have hg' : (upd s.F i j v' i j).ownBlock = some g := by
      have : (if i < s.n ∧ j < s.n then (upd s.F i j v' i j).ownBlock else none) = some g := hg
      rwa [if_pos ⟨hi, hj⟩] at this
    rw [upd_same] at hg'
    obtain ⟨g', h1, h2⟩ := r3
    rw [hg'] at h1
    have := Option.some.inj h1
    subst this
    exact h2.imp (bF g) id
  refine ⟨he, v', ⟨?_, h.hn, ?_, h.hrc, h.lm, h.lk, h.lki, ?_, ?_, ?_, r1, ?_, ?_⟩, ?_, ?_⟩
  · rw [heap_setCell_same x T 5 _ 64 _ (hxT.trans h.hT)]
    rfl
  · obtain ⟨cur, h1, h2⟩ := h.hR
    exact ⟨cur, (hst .R s.R rfl (by simp) (by simp) (by simp)).trans h1, h2⟩
  · exact fun a ha => (h.hK a ha).same (hst (.K a) _ (if_pos ha) (by simp) (by simp) (by simp))
  · exact h.hS.same fun g hg => hst .S g hg (by simp) (by simp) (by simp)
  · exact h.hQ.same fun g hg => hst .Q g hg (by simp) (by simp) (by simp)
  · intro a b ha hb
    show Sl1 _ 70 (upd s.F i j v' a b) (updM s.ms i j xs a b)
    by_cases e : a = i ∧ b = j
    · obtain ⟨rfl, rfl⟩ := e
      rw [upd_same, updM_same]
      exact r2
    · rw [upd_other e, updM_other e]
      exact (h.hF a b ha hb).same fun g hg => hst (.F a b) g ((if_pos (And.intro ha hb)).trans hg) (by simp) (by simp) (by intro he; injection he with e1 e2; exact e ⟨e1, e2⟩)
  · exact inj_step h.inj h.lt (fun y hy => blk_putF T s i j v' xs _ y hy) hq
  · refine ((r4.mono (fun k hk => ?_)).setCell (p := ⟨T, 5, none⟩) ⟨.T, rfl⟩ _)
    rcases hk with rfl | hk
    · exact ⟨.M, rfl⟩
    · exact ⟨.F i j, bF k hk⟩
  · rintro k ⟨y, hy⟩
    by_cases e : y = .F i j
    · rw [e] at hy
      exact (hq k hy).imp (fun h => ⟨_, h⟩) id
    · rw [blk_putF T s i j v' xs _ y e] at hy
      exact .inl ⟨y, hy⟩
theorem send_calls {w : World} {T i j : Nat} {s : LS} (h : Low w T s) (hi : i < s.n) (hj : j < s.n) (mt : TypeId) (mv : Value) (hl : (s.ms i j).length ≤ 100000) (hs : -4611686018427387904 ≤ s.sent ∧ s.sent ≤ 4611686018427387904) :
    Calls Try.prog 51 #[.pointer (some ⟨T, 0, none⟩), .int .i64 i, .int .i64 j, .iface mt mv] w fun e w' => e = .returned (.tuple #[]) ∧ ∃ v', Low w' T (putF s i j v' (s.ms i j ++ [.iface mt mv]) (s.sent + 1)) ∧ Off (fp T s) w w' ∧ ∀ k, fp T (putF s i j v' (s.ms i j ++ [.iface mt mv]) (s.sent + 1)) k → fp T s k ∨ w.heap.size ≤ k := by
  have bF : ∀ g, (s.F i j).ownBlock = some g → blk T s (.F i j) = some g := fun g hg => (if_pos (And.intro hi hj)).trans hg
  exact (send_low i j mt mv h.hn.2 hi hj h.cells.2.2.2.2.1 h.cells.2.2.2.2.2 (h.fT 5) h.hM (h.hF i j hi hj) hl (h.ne (x := .T) (y := .M) rfl rfl (by simp)) (fun g hg => ⟨h.ne (bF g hg) (y := .T) rfl (by simp), h.ne (bF g hg) (y := .M) rfl (by simp)⟩) hs).mono fun e w' r => low_sent h hi hj r
end Go.Proofs.Ytahjgdikjaakbaa
