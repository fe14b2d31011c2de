/- What is proved: a tower behind send. No condition beyond those in each statement. -/
import Derived.Test.YtahjgdikjaakbaaG
import Derived.StillTailTactics
namespace Go.Proofs.Ytahjgdikjaakbaa
open Go.RowKit

def fp (T : Nat) (s : LS) (k : Nat) : Prop := ∃ x, blk T s x = some k
def updM (f : Nat → Nat → List Value) (i j : Nat) (v : List Value) : Nat → Nat → List Value := fun a b => if a = i ∧ b = j then v else f a b
theorem updM_same (f : Nat → Nat → List Value) (i j : Nat) (v : List Value) : updM f i j v i j = v := by simp [updM]
theorem updM_other {f : Nat → Nat → List Value} {i j a b : Nat} {v : List Value} (h : ¬ (a = i ∧ b = j)) : updM f i j v a b = f a b := by simp [updM, h]
def putF (s : LS) (i j : Nat) (v : Value) (xs : List Value) (sent : Int) : LS := { s with F := upd s.F i j v, ms := updM s.ms i j xs, sent := sent }
theorem blk_putF (T : Nat) (s : LS) (i j : Nat) (v : Value) (xs : List Value) (sent : Int) (x : Ix) (hx : x ≠ .F i j) : blk T (putF s i j v xs sent) x = blk T s x := by
  cases x with
  | F a b =>
    show (if a < s.n ∧ b < s.n then (upd s.F i j v a b).ownBlock else none) = if a < s.n ∧ b < s.n then (s.F a b).ownBlock else none
    rw [upd_other (fun h => hx (by rw [h.1, h.2]))]
  | _ => rfl
/-- The blocks of a tower differ still, where one place has its old block or a new one. -/
theorem inj_step {T : Nat} {s s' : LS} {N : Nat} {q : Ix} (h : ∀ x y g, blk T s x = some g → blk T s y = some g → x = y) (hlt : ∀ x g, blk T s x = some g → g < N)
    (ho : ∀ x, x ≠ q → blk T s' x = blk T s x) (hq : ∀ g, blk T s' q = some g → blk T s q = some g ∨ N ≤ g) : ∀ x y g, blk T s' x = some g → blk T s' y = some g → x = y := by
  have key : ∀ y g, y ≠ q → blk T s' q = some g → blk T s' y = some g → False := by
    intro y g hy h1 h2
    rw [ho y hy] at h2
    rcases hq g h1 with h3 | h3
    · exact hy (h y q g h2 h3)
    · have := hlt y g h2
      omega
  intro x y g hx hy
  by_cases e1 : x = q
  · by_cases e2 : y = q
    · rw [e1, e2]
    · rw [e1] at hx
      exact absurd (key y g e2 hx hy) id
  · by_cases e2 : y = q
    · rw [e2] at hy
      exact absurd (key x g e1 hy hx) id
    · rw [ho x e1] at hx
      rw [ho y e2] at hy
      exact h x y g hx hy
theorem Low.ne {w : World} {T : Nat} {s : LS} (h : Low w T s) {x y : Ix} {a b : Nat} (hx : blk T s x = some a) (hy : blk T s y = some b) (hne : x ≠ y) : a ≠ b := by
  rintro rfl
  exact hne (h.inj x y a hx hy)
theorem low_sent {w w' : World} {T i j : Nat} {s : LS} {xs : List Value} {e : Ending} (h : Low w T s) (hi : i < s.n) (hj : j < s.n) (r : SendR w T s.M s.n s.F i j xs s.sent e w') :
    e = .returned (.tuple #[]) ∧ ∃ v', Low w' T (putF s i j v' xs (s.sent + 1)) ∧ Off (fp T s) w w' ∧ ∀ k, fp T (putF s i j v' xs (s.sent + 1)) k → fp T s k ∨ w.heap.size ≤ k := by
  obtain ⟨he, v', x, r1, r2, r3, r4, rfl⟩ := r
  have bF : ∀ g, (s.F i j).ownBlock = some g → blk T s (.F i j) = some g := fun g hg => (if_pos (And.intro hi hj)).trans hg
  have hTl : T < w.heap.size := h.lt .T T rfl
  have hTM : T ≠ s.M := h.ne (x := .T) (y := .M) rfl rfl (by simp)
  have hxT : x.heap[T]? = w.heap[T]? := r4.block T hTl (by
    rintro (e | e)
    · exact hTM e
    · exact h.ne (x := .T) (y := .F i j) rfl (bF T e) (by simp) rfl)
  have hst : ∀ y g, blk T s y = some g → y ≠ .T → y ≠ .M → y ≠ .F i j → (x.setCell ⟨T, 5, none⟩ (.int .i64 (s.sent + 1))).heap[g]? = w.heap[g]? := by
    intro y g hy n1 n2 n3
    have e1 : g ≠ T := h.ne hy (y := .T) rfl n1
    rw [heap_setCell_other x ⟨T, 5, none⟩ g _ e1]
    refine r4.block g (h.lt y g hy) ?_
    rintro (e | e)
    · exact h.ne hy (y := .M) rfl n2 e
    · exact h.ne hy (bF g e) n3 rfl
  have hq : ∀ g, blk T (putF s i j v' xs (s.sent + 1)) (.F i j) = some g → blk T s (.F i j) = some g ∨ w.heap.size ≤ g := by
    intro g hg
    have hg' : (upd s.F i j v' i j).ownBlock = some g := by
      have : (if i < s.n ∧ j < s.n then (upd s.F i j v' i j).ownBlock else none) = some g := hg
      rwa [if_pos ⟨hi, hj⟩] at this
    rw [upd_same] at hg'
    obtain ⟨g', h1, h2⟩ := r3
    rw [hg'] at h1
    have := Option.some.inj h1
    subst this
    exact h2.imp (bF g) id
  refine ⟨he, v', ⟨?_, h.hn, ?_, h.hrc, h.lm, h.lk, h.lki, ?_, ?_, ?_, r1, ?_, ?_⟩, ?_, ?_⟩
  · rw [heap_setCell_same x T 5 _ 64 _ (hxT.trans h.hT)]
    rfl
  · obtain ⟨cur, h1, h2⟩ := h.hR
    exact ⟨cur, (hst .R s.R rfl (by simp) (by simp) (by simp)).trans h1, h2⟩
  · exact fun a ha => (h.hK a ha).same (hst (.K a) _ (if_pos ha) (by simp) (by simp) (by simp))
  · exact h.hS.same fun g hg => hst .S g hg (by simp) (by simp) (by simp)
  · exact h.hQ.same fun g hg => hst .Q g hg (by simp) (by simp) (by simp)
  · intro a b ha hb
    show Sl1 _ 70 (upd s.F i j v' a b) (updM s.ms i j xs a b)
    by_cases e : a = i ∧ b = j
    · obtain ⟨rfl, rfl⟩ := e
      rw [upd_same, updM_same]
      exact r2
    · rw [upd_other e, updM_other e]
      exact (h.hF a b ha hb).same fun g hg => hst (.F a b) g ((if_pos (And.intro ha hb)).trans hg) (by simp) (by simp) (by intro he; injection he with e1 e2; exact e ⟨e1, e2⟩)
  · exact inj_step h.inj h.lt (fun y hy => blk_putF T s i j v' xs _ y hy) hq
  · refine ((r4.mono (fun k hk => ?_)).setCell (p := ⟨T, 5, none⟩) ⟨.T, rfl⟩ _)
    rcases hk with rfl | hk
    · exact ⟨.M, rfl⟩
    · exact ⟨.F i j, bF k hk⟩
  · rintro k ⟨y, hy⟩
    by_cases e : y = .F i j
    · rw [e] at hy
      exact (hq k hy).imp (fun h => ⟨_, h⟩) id
    · rw [blk_putF T s i j v' xs _ y e] at hy
      exact .inl ⟨y, hy⟩
theorem send_calls {w : World} {T i j : Nat} {s : LS} (h : Low w T s) (hi : i < s.n) (hj : j < s.n) (mt : TypeId) (mv : Value) (hl : (s.ms i j).length ≤ 100000) (hs : -4611686018427387904 ≤ s.sent ∧ s.sent ≤ 4611686018427387904) :
    Calls Try.prog 51 #[.pointer (some ⟨T, 0, none⟩), .int .i64 i, .int .i64 j, .iface mt mv] w fun e w' => e = .returned (.tuple #[]) ∧ ∃ v', Low w' T (putF s i j v' (s.ms i j ++ [.iface mt mv]) (s.sent + 1)) ∧ Off (fp T s) w w' ∧ ∀ k, fp T (putF s i j v' (s.ms i j ++ [.iface mt mv]) (s.sent + 1)) k → fp T s k ∨ w.heap.size ≤ k := by
  have bF : ∀ g, (s.F i j).ownBlock = some g → blk T s (.F i j) = some g := fun g hg => (if_pos (And.intro hi hj)).trans hg
  exact (send_low i j mt mv h.hn.2 hi hj h.cells.2.2.2.2.1 h.cells.2.2.2.2.2 (h.fT 5) h.hM (h.hF i j hi hj) hl (h.ne (x := .T) (y := .M) rfl rfl (by simp)) (fun g hg => ⟨h.ne (bF g hg) (y := .T) rfl (by simp), h.ne (bF g hg) (y := .M) rfl (by simp)⟩) hs).mono fun e w' r => low_sent h hi hj r
end Go.Proofs.Ytahjgdikjaakbaa

namespace Go.Proofs.Ytahjgdikjaakbaa
open Go.RowKit

theorem Row.set {w : World} {e : TypeId} {g off cap : Nat} {xs : List Value} (h : Row w e g off cap xs) (j : Nat) (hj : j < xs.length) (v : Value) : Row (w.setCell ⟨g, off + j, none⟩ v) e g off cap (xs.set j v) := by
  obtain ⟨cur, h1, h2, h3, h4, h5⟩ := h
  refine ⟨_, heap_setCell_same w g (off + j) cur e v h1, by rw [List.length_set]; exact h2, h3, by rw [Array.size_setIfInBounds]; exact h4, ?_⟩
  rw [List.length_set]
  apply List.ext_getElem?
  intro p
  rw [List.getElem?_take]
  by_cases hp : p < xs.length
  · rw [if_pos hp, List.getElem?_drop, Array.getElem?_toList, Array.getElem?_setIfInBounds, List.getElem?_set]
    have e1 : ((cur.toList.drop off).take xs.length)[p]? = xs[p]? := by rw [h5]
    rw [List.getElem?_take, if_pos hp, List.getElem?_drop, Array.getElem?_toList] at e1
    by_cases hjp : j = p
    · subst hjp
      rw [if_pos rfl, if_pos (by omega), if_pos rfl, if_pos hj]
    · rw [if_neg (by omega), if_neg hjp]
      exact e1
  · rw [if_neg hp, List.getElem?_eq_none (by rw [List.length_set]; omega)]
theorem Low.cR {w : World} {T : Nat} {s : LS} (h : Low w T s) {i : Nat} (hi : i < s.n) : w.cell? ⟨s.R, i * 2, none⟩ = some (.slice (some ⟨s.K i, 0, none⟩) s.n (s.Kc i)) ∧ w.cell? ⟨s.R, i * 2 + 1, none⟩ = some (.int .i64 (s.mood.getD i 0)) := by
  obtain ⟨cur, h1, _, h3⟩ := h.hR
  rw [cell_of_row w s.R _ cur 77 (0, 0) h1, cell_of_row w s.R _ cur 77 (0, 0) h1]
  exact h3 i hi
theorem Low.fR {w : World} {T : Nat} {s : LS} (h : Low w T s) (i : Nat) : w.frozen? ⟨s.R, i, none⟩ = false := by
  obtain ⟨cur, h1, _⟩ := h.hR
  simp [World.frozen?, h1]
theorem intsV_at (l : List Int) (j : Nat) (h : j < (intsV l).length) : (intsV l)[j] = Value.int .i64 (l.getD j 0) := by
  have h2 : j < l.length := by rw [intsV_len] at h; exact h
  simp [intsV, List.getD_eq_getElem?_getD, h2]
theorem intsV_set (l : List Int) (j : Nat) (v : Int) : (intsV l).set j (.int .i64 v) = intsV (l.set j v) := by
  simp [intsV, List.map_set]
theorem Low.cK {w : World} {T : Nat} {s : LS} (h : Low w T s) {i j : Nat} (hi : i < s.n) (hj : j < s.n) : w.cell? ⟨s.K i, j, none⟩ = some (.int .i64 ((s.known.getD i []).getD j 0)) := by
  have hl := h.lki i hi
  have := (h.hK i hi).at j (by rw [intsV_len]; omega)
  rw [Nat.zero_add] at this
  rw [this]
  rw [intsV_at]
set_option maxHeartbeats 2000000 in
theorem learn_low {w : World} {R K n kc o : Nat} {y : Int} (j : Nat) (no : Int) (c0 : w.cell? ⟨R, o, none⟩ = some (.slice (some ⟨K, 0, none⟩) n kc)) (d : w.cell? ⟨K, j, none⟩ = some (.int .i64 y)) (f : w.frozen? ⟨K, j, none⟩ = false) (hj : j < n) :
    Calls Try.prog 50 #[.pointer (some ⟨R, o, none⟩), .int .i64 j, .int .i64 no] w fun e w' => e = .returned (.tuple #[]) ∧ ∃ q, w' = (w.drewN q).setCell ⟨K, j, none⟩ (.int .i64 (max y no)) := by
  have z1 : (0 : Int) ≤ (j : Int) ∧ (j : Int) < n := by omega
  by_cases hlt : y < no
  · have e : max y no = no := by omega
    rw [e]
    clear e
    go_enter Try.func50, Try.ntmps50
    go_wp2_with fail
    go_region
    all_goals
      try go_wp2_with fail
      go_end0
      exact ⟨rfl, 1, rfl⟩
  · have e : max y no = y := by omega
    rw [e]
    clear e
    go_enter Try.func50, Try.ntmps50
    go_wp2_with fail
    go_region
    all_goals
      try go_wp2_with fail
      go_end0
      exact ⟨rfl, 1, rfl⟩
end Go.Proofs.Ytahjgdikjaakbaa

namespace Go.Proofs.Ytahjgdikjaakbaa
open Go.RowKit

theorem Low.rest {w : World} {T : Nat} {s : LS} (h : Low w T s) {x0 : Ix} {p : Addr} (hx : blk T s x0 = some p.block) (v : Value) : ∀ y g, blk T s y = some g → y ≠ x0 → (w.setCell p v).heap[g]? = w.heap[g]? := by
  intro y g hy hne
  exact heap_setCell_other w p g _ (h.ne hy hx hne)
def setK (s : LS) (i j : Nat) (v : Int) : LS := { s with known := s.known.set i ((s.known.getD i []).set j v) }
def setMd (s : LS) (i : Nat) (v : Int) : LS := { s with mood := s.mood.set i v }
def setH (s : LS) (v : Int) : LS := { s with holder := v }
def setC (s : LS) (a b : Value) : LS := { s with c2 := a, c3 := b }
def setSv (s : LS) (i : Nat) (v : Int) : LS := { s with served := s.served.set i v }
theorem blk_setK (T : Nat) (s : LS) (i j : Nat) (v : Int) : blk T (setK s i j v) = blk T s := by funext x; cases x <;> rfl
theorem blk_setMd (T : Nat) (s : LS) (i : Nat) (v : Int) : blk T (setMd s i v) = blk T s := by funext x; cases x <;> rfl
theorem blk_setH (T : Nat) (s : LS) (v : Int) : blk T (setH s v) = blk T s := by funext x; cases x <;> rfl
theorem blk_setC (T : Nat) (s : LS) (a b : Value) : blk T (setC s a b) = blk T s := by funext x; cases x <;> rfl
theorem blk_setSv (T : Nat) (s : LS) (i : Nat) (v : Int) : blk T (setSv s i v) = blk T s := by funext x; cases x <;> rfl
theorem getD_set_same {α : Type} (l : List α) (i : Nat) (v d : α) (h : i < l.length) : (l.set i v).getD i d = v := by
  simp [List.getD_eq_getElem?_getD, h]
theorem getD_set_ne {α : Type} (l : List α) {i j : Nat} (v d : α) (h : i ≠ j) : (l.set i v).getD j d = l.getD j d := by
  simp [List.getD_eq_getElem?_getD, List.getElem?_set_ne h]
theorem Low.setK {w : World} {T : Nat} {s : LS} (h : Low w T s) {i j : Nat} (hi : i < s.n) (hj : j < s.n) (v : Int) : Low (w.setCell ⟨s.K i, j, none⟩ (.int .i64 v)) T (setK s i j v) := by
  have hb : blk T s (.K i) = some (s.K i) := if_pos hi
  have hr := h.rest (p := ⟨s.K i, j, none⟩) hb (.int .i64 v)
  have hlk : i < s.known.length := by rw [h.lk]; exact hi
  refine ⟨(hr .T T rfl (by simp)).trans h.hT, h.hn, ?_, h.hrc, h.lm, ?_, ?_, ?_, ?_, ?_, ?_, ?_, ?_⟩
  · obtain ⟨cur, h1, h2⟩ := h.hR
    exact ⟨cur, (hr .R s.R rfl (by simp)).trans h1, h2⟩
  · show (s.known.set i _).length = s.n
    rw [List.length_set]
    exact h.lk
  · intro a ha
    show ((s.known.set i _).getD a []).length = s.n
    by_cases e : i = a
    · subst e
      rw [getD_set_same _ _ _ _ hlk, List.length_set]
      exact h.lki i hi
    · rw [getD_set_ne _ _ _ e]
      exact h.lki a ha
  · intro a ha
    show Row _ 3 (s.K a) 0 (s.Kc a) (intsV ((s.known.set i _).getD a []))
    by_cases e : i = a
    · subst e
      rw [getD_set_same _ _ _ _ hlk, ← intsV_set]
      have := (h.hK i hi).set j (by rw [intsV_len, h.lki i hi]; exact hj) (.int .i64 v)
      rw [Nat.zero_add] at this
      exact this
    · rw [getD_set_ne _ _ _ e]
      exact (h.hK a ha).same (hr (.K a) _ (if_pos ha) (by intro e2; injection e2 with e2; exact e e2.symm))
  · exact h.hS.same fun g hg => hr .S g hg (by simp)
  · exact h.hQ.same fun g hg => hr .Q g hg (by simp)
  · exact h.hM.same (hr .M s.M rfl (by simp))
  · exact fun a b ha hb => (h.hF a b ha hb).same fun g hg => hr (.F a b) g ((if_pos (And.intro ha hb)).trans hg) (by simp)
  · rw [blk_setK]
    exact h.inj
theorem Low.setMd {w : World} {T : Nat} {s : LS} (h : Low w T s) {i : Nat} (hi : i < s.n) (v : Int) : Low (w.setCell ⟨s.R, i * 2 + 1, none⟩ (.int .i64 v)) T (setMd s i v) := by
  have hr := h.rest (x0 := .R) (p := ⟨s.R, i * 2 + 1, none⟩) rfl (.int .i64 v)
  refine ⟨(hr .T T rfl (by simp)).trans h.hT, h.hn, ?_, h.hrc, ?_, h.lk, h.lki, ?_, ?_, ?_, ?_, ?_, ?_⟩
  · obtain ⟨cur, h1, h2, h3⟩ := h.hR
    refine ⟨_, heap_setCell_same w s.R (i * 2 + 1) cur 77 _ h1, by rw [Array.size_setIfInBounds]; exact h2, ?_⟩
    intro a ha
    obtain ⟨r1, r2⟩ := h3 a ha
    rw [Array.getElem?_setIfInBounds, Array.getElem?_setIfInBounds, if_neg (by omega)]
    refine ⟨r1, ?_⟩
    show _ = some (Value.int .i64 ((s.mood.set i v).getD a 0))
    by_cases e : i = a
    · subst e
      rw [if_pos rfl, if_pos (by omega), getD_set_same _ _ _ _ (by rw [h.lm]; exact hi)]
    · rw [if_neg (by omega), getD_set_ne _ _ _ e]
      exact r2
  · show (s.mood.set i v).length = s.n
    rw [List.length_set]
    exact h.lm
  · exact fun a ha => (h.hK a ha).same (hr (.K a) _ (if_pos ha) (by simp))
  · exact h.hS.same fun g hg => hr .S g hg (by simp)
  · exact h.hQ.same fun g hg => hr .Q g hg (by simp)
  · exact h.hM.same (hr .M s.M rfl (by simp))
  · exact fun a b ha hb => (h.hF a b ha hb).same fun g hg => hr (.F a b) g ((if_pos (And.intro ha hb)).trans hg) (by simp)
  · rw [blk_setMd]
    exact h.inj
/-- A store into one of the tower's own cells. -/
theorem Low.setT {w : World} {T : Nat} {s s' : LS} (h : Low w T s) (i : Nat) (v : Value) (ht : (towerC s).setIfInBounds i v = towerC s') (e : s' = { s with holder := s'.holder, c2 := s'.c2, c3 := s'.c3, sent := s'.sent }) : Low (w.setCell ⟨T, i, none⟩ v) T s' := by
  have hr := h.rest (x0 := .T) (p := ⟨T, i, none⟩) rfl v
  have hk := heap_setCell_same w T i _ 64 v h.hT
  rw [ht] at hk
  rw [e] at hk ⊢
  refine ⟨hk, h.hn, ?_, h.hrc, h.lm, h.lk, h.lki, ?_, ?_, ?_, ?_, ?_, ?_⟩
  · obtain ⟨cur, h1, h2⟩ := h.hR
    exact ⟨cur, (hr .R s.R rfl (by simp)).trans h1, h2⟩
  · exact fun a ha => (h.hK a ha).same (hr (.K a) _ (if_pos ha) (by simp))
  · exact h.hS.same fun g hg => hr .S g hg (by simp)
  · exact h.hQ.same fun g hg => hr .Q g hg (by simp)
  · exact h.hM.same (hr .M s.M rfl (by simp))
  · exact fun a b ha hb => (h.hF a b ha hb).same fun g hg => hr (.F a b) g ((if_pos (And.intro ha hb)).trans hg) (by simp)
  · have : blk T { s with holder := s'.holder, c2 := s'.c2, c3 := s'.c3, sent := s'.sent } = blk T s := by funext x; cases x <;> rfl
    rw [this]
    exact h.inj
theorem Low.setH {w : World} {T : Nat} {s : LS} (h : Low w T s) (v : Int) : Low (w.setCell ⟨T, 1, none⟩ (.int .i64 v)) T (setH s v) := h.setT 1 _ rfl rfl
theorem Low.setC {w : World} {T : Nat} {s : LS} (h : Low w T s) (a b : Value) : Low ((w.setCell ⟨T, 2, none⟩ a).setCell ⟨T, 3, none⟩ b) T (setC s a b) :=
  (h.setT (s' := Go.Proofs.Ytahjgdikjaakbaa.setC s a s.c3) 2 a rfl rfl).setT 3 b rfl rfl
theorem Low.setSv {w : World} {T : Nat} {s : LS} (h : Low w T s) {i : Nat} {g off c l : Nat} (hv : s.tsv = .slice (some ⟨g, off, none⟩) l c) (hi : i < s.served.length) (v : Int) : Low (w.setCell ⟨g, off + i, none⟩ (.int .i64 v)) T (setSv s i v) := by
  have hb : blk T s .S = some g := by show s.tsv.ownBlock = _; rw [hv]; rfl
  have hr := h.rest (p := ⟨g, off + i, none⟩) hb (.int .i64 v)
  refine ⟨(hr .T T rfl (by simp)).trans h.hT, h.hn, ?_, h.hrc, h.lm, h.lk, h.lki, ?_, ?_, ?_, ?_, ?_, ?_⟩
  · obtain ⟨cur, h1, h2⟩ := h.hR
    exact ⟨cur, (hr .R s.R rfl (by simp)).trans h1, h2⟩
  · exact fun a ha => (h.hK a ha).same (hr (.K a) _ (if_pos ha) (by simp))
  · show Sl1 _ 3 s.tsv (intsV (s.served.set i v))
    rcases h.hS with ⟨e, _⟩ | ⟨g', off', cap', e, hrow⟩
    · rw [hv] at e; cases e
    · rw [hv] at e
      cases e
      refine .inr ⟨g, off, c, ?_, ?_⟩
      · rw [hv, intsV_len, intsV_len, List.length_set]
      · rw [← intsV_set]
        exact hrow.set i (by rw [intsV_len]; exact hi) _
  · exact h.hQ.same fun g hg => hr .Q g hg (by simp)
  · exact h.hM.same (hr .M s.M rfl (by simp))
  · exact fun a b ha hb => (h.hF a b ha hb).same fun g hg => hr (.F a b) g ((if_pos (And.intro ha hb)).trans hg) (by simp)
  · rw [blk_setSv]
    exact h.inj
/-- A push to the token's queue: another value, in its old block or in a new one. -/
def setQ (s : LS) (v : Value) (q : List Int) : LS := { s with c3 := v, tqv := v, queue := q }
theorem Low.pushQ {w w1 : World} {T : Nat} {s : LS} (h : Low w T s) {v : Value} {q : List Int} (hs : Sl1 w1 3 v (intsV q)) (hg : w.grownBy w1 s.tqv.ownBlock) (hn : ∀ g, v.ownBlock = some g → s.tqv.ownBlock = some g ∨ w.heap.size ≤ g) : Low (w1.setCell ⟨T, 3, none⟩ v) T (setQ s v q) := by
  have hTl : T < w.heap.size := h.lt .T T rfl
  have hb : ∀ y g, blk T s y = some g → y ≠ .Q → w1.heap[g]? = w.heap[g]? := fun y g hy hne => hg.block g (h.lt y g hy) (fun e => hne (h.inj y .Q g hy e.symm))
  have hr : ∀ y g, blk T s y = some g → y ≠ .Q → y ≠ .T → (w1.setCell ⟨T, 3, none⟩ v).heap[g]? = w.heap[g]? := fun y g hy h1 h2 => (heap_setCell_other w1 ⟨T, 3, none⟩ g _ (h.ne hy (y := .T) rfl h2)).trans (hb y g hy h1)
  have hk := heap_setCell_same w1 T 3 _ 64 v ((hb .T T rfl (by simp)).trans h.hT)
  have hq : ∀ g, blk T (setQ s v q) .Q = some g → blk T s .Q = some g ∨ w.heap.size ≤ g := fun g hg => hn g hg
  refine ⟨hk, h.hn, ?_, h.hrc, h.lm, h.lk, h.lki, ?_, ?_, ?_, ?_, ?_, ?_⟩
  · obtain ⟨cur, h1, h2⟩ := h.hR
    exact ⟨cur, (hr .R s.R rfl (by simp) (by simp)).trans h1, h2⟩
  · exact fun a ha => (h.hK a ha).same (hr (.K a) _ (if_pos ha) (by simp) (by simp))
  · exact h.hS.same fun g hg => hr .S g hg (by simp) (by simp)
  · refine hs.same fun g hg => heap_setCell_other w1 ⟨T, 3, none⟩ g _ ?_
    rintro rfl
    rcases hn _ hg with e | e
    · exact h.ne (x := .Q) (y := .T) e rfl (by simp) rfl
    · exact absurd hTl (by simpa using e)
  · exact h.hM.same (hr .M s.M rfl (by simp) (by simp))
  · exact fun a b ha hb => (h.hF a b ha hb).same fun g hg => hr (.F a b) g ((if_pos (And.intro ha hb)).trans hg) (by simp) (by simp)
  · exact inj_step h.inj h.lt (fun y hy => by cases y <;> first | rfl | exact absurd rfl hy) hq
end Go.Proofs.Ytahjgdikjaakbaa

namespace Go.Proofs.Ytahjgdikjaakbaa
open Go.RowKit

theorem Off.drewN {X : Nat → Prop} {a b : World} (h : Off X a b) (q : Nat) : Off X a (b.drewN q) := ⟨h.os, h.tape, h.output, h.size, h.block⟩
theorem Low.drewN {w : World} {T : Nat} {s : LS} (h : Low w T s) (q : Nat) : Low (w.drewN q) T s := h.same fun _ _ _ => rfl
theorem Low.cS {w : World} {T : Nat} {s : LS} (h : Low w T s) {i : Nat} (hi : i < s.served.length) : ∃ g off c, s.tsv = .slice (some ⟨g, off, none⟩) s.served.length c ∧ w.cell? ⟨g, off + i, none⟩ = some (.int .i64 (s.served.getD i 0)) ∧ ∀ k, w.frozen? ⟨g, k, none⟩ = false := by
  rcases h.hS with ⟨_, e⟩ | ⟨g, off, c, e, hr⟩
  · have : (intsV s.served).length = 0 := by rw [e]; rfl
    rw [intsV_len] at this
    omega
  · refine ⟨g, off, c, by rw [e, intsV_len], ?_, hr.free⟩
    have := hr.at i (by rw [intsV_len]; exact hi)
    rw [this, intsV_at]
set_option maxHeartbeats 2000000 in
theorem asks_low {w : World} {T R K n rc kc g off l c : Nat} {x y : Int} (i b : Nat) (c0 : w.cell? ⟨T, 0, none⟩ = some (.slice (some ⟨R, 0, none⟩) n rc)) (c1 : w.cell? ⟨R, b * 2, none⟩ = some (.slice (some ⟨K, 0, none⟩) n kc)) (c2 : w.cell? ⟨K, i, none⟩ = some (.int .i64 x))
    (c3 : w.cell? ⟨T, 2, none⟩ = some (.slice (some ⟨g, off, none⟩) l c)) (c4 : w.cell? ⟨g, off + i, none⟩ = some (.int .i64 y)) (hi : i < n) (hb : b < n) (hl : i < l) (hy : -4611686018427387904 ≤ y ∧ y ≤ 4611686018427387904) :
    Calls Try.prog 54 #[.pointer (some ⟨T, 0, none⟩), .int .i64 i, .int .i64 b] w fun e w' => e = .returned (.bool (decide (x = y + 1))) ∧ ∃ q, w' = w.drewN q := by
  have z1 : (0 : Int) ≤ (i : Int) ∧ (i : Int) < n ∧ (i : Int) < l := by omega
  have z2 : (0 : Int) ≤ (b : Int) ∧ (b : Int) < n := by omega
  have ws : IntKind.i64.wrap (y + 1) = y + 1 := IntWalk.i64_in _ (by omega)
  go_enter Try.func54, Try.ntmps54
  go_wp2_with fail
  go_quiet (fail)
  go_wp2_with fail
  go_ret
  exact ⟨rfl, _, rfl⟩
/-- What give leaves. -/
def gave (s : LS) (a b : Nat) (v : Value) : LS := setC (setH (putF s a b v (s.ms a b ++ [.iface 61 (.agg #[s.c2, s.c3])]) (s.sent + 1)) (-1)) nilV nilV
theorem blk_gave (T : Nat) (s : LS) (a b : Nat) (v : Value) : blk T (gave s a b v) = blk T (putF s a b v (s.ms a b ++ [.iface 61 (.agg #[s.c2, s.c3])]) (s.sent + 1)) := by funext x; cases x <;> rfl
set_option maxHeartbeats 4000000 in
theorem give_calls {w : World} {T : Nat} {s : LS} (h : Low w T s) (a b : Nat) (hh : s.holder = a) (ha : a < s.n) (hb : b < s.n) (hl : (s.ms a b).length ≤ 100000) (hs : -4611686018427387904 ≤ s.sent ∧ s.sent ≤ 4611686018427387904) :
    Calls Try.prog 56 #[.pointer (some ⟨T, 0, none⟩), .int .i64 b] w fun e w' => e = .returned (.tuple #[]) ∧ ∃ v', Low w' T (gave s a b v') ∧ Off (fp T s) w w' ∧ ∀ k, fp T (gave s a b v') k → fp T s k ∨ w.heap.size ≤ k := by
  obtain ⟨_, d1, d2, d3, _, _⟩ := h.cells
  rw [hh] at d1
  have CS : Hid (Calls Try.prog 51 #[.pointer (some ⟨T, 0, none⟩), .int .i64 a, .int .i64 b, .iface 61 (.agg #[s.c2, s.c3])] w.drew fun e w' => e = .returned (.tuple #[]) ∧ ∃ v', Low w' T (putF s a b v' (s.ms a b ++ [.iface 61 (.agg #[s.c2, s.c3])]) (s.sent + 1)) ∧ Off (fp T s) w.drew w' ∧ ∀ k, fp T (putF s a b v' (s.ms a b ++ [.iface 61 (.agg #[s.c2, s.c3])]) (s.sent + 1)) k → fp T s k ∨ w.drew.heap.size ≤ k) := send_calls (h.drewN 1) ha hb 61 (.agg #[s.c2, s.c3]) hl hs
  have hOd : Hid (Off (fp T s) w w.drew) := (Off.refl _ w).drew
  obtain ⟨v2, hv2⟩ : ∃ v, v = s.c2 := ⟨_, rfl⟩
  obtain ⟨v3, hv3⟩ : ∃ v, v = s.c3 := ⟨_, rfl⟩
  have HG : Hid (∀ v w', Low w' T (putF s a b v (s.ms a b ++ [.iface 61 (.agg #[s.c2, s.c3])]) (s.sent + 1)) → Low (((w'.setCell ⟨T, 1, none⟩ (.int .i64 (-1))).setCell ⟨T, 2, none⟩ nilV).setCell ⟨T, 3, none⟩ nilV) T (gave s a b v)) := fun v w' k => (k.setH (-1)).setC nilV nilV
  clear hh
  go_enter Try.func56, Try.ntmps56
  go_wp2_with fail
  go_still_tail 11, (by kernel_rfl)
  change wpList _ _ _ _ _ w.drew
  go_wp2_with fail
  refine CS.out.mono ?_
  rintro e w1 ⟨rfl, v', hL, hO, hF⟩
  have HL := Lib.hid hL
  have HO := Lib.hid (hOd.out.trans hO)
  have HF := Lib.hid hF
  obtain ⟨_, e1, e2, e3, _, _⟩ := hL.cells
  have f1 := hL.fT 1
  have f2 := hL.fT 2
  have f3 := hL.fT 3
  clear hL hO hF
  go_wp2_with fail
  go_end0
  exact ⟨rfl, v', HG.out v' w1 HL.out, ((HO.out.setCell ⟨.T, rfl⟩ _).setCell ⟨.T, rfl⟩ _).setCell ⟨.T, rfl⟩ _, fun k hk => HF.out k (by obtain ⟨x, hx⟩ := hk; exact ⟨x, by rw [← blk_gave]; exact hx⟩)⟩
/-- What learn does to a tower. -/
theorem learn_calls {w : World} {T i j : Nat} {s : LS} (h : Low w T s) (hi : i < s.n) (hj : j < s.n) (no : Int) : Calls Try.prog 50 #[.pointer (some ⟨s.R, i * 2, none⟩), .int .i64 j, .int .i64 no] w fun e w' => e = .returned (.tuple #[]) ∧ Low w' T (setK s i j (max ((s.known.getD i []).getD j 0) no)) ∧ Off (fp T s) w w' := by
  have f : w.frozen? ⟨s.K i, j, none⟩ = false := (h.hK i hi).free j
  refine (learn_low j no (h.cR hi).1 (h.cK hi hj) f hj).mono ?_
  rintro e w' ⟨rfl, q, rfl⟩
  exact ⟨rfl, (h.drewN q).setK hi hj _, (((Off.refl _ _ : Off (fp T s) w w).drewN q)).setCell (p := ⟨s.K i, j, none⟩) ⟨.K i, if_pos hi⟩ _⟩
end Go.Proofs.Ytahjgdikjaakbaa
