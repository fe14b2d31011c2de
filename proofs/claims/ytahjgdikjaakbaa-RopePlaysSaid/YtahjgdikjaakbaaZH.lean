/- What is proved: how a tower's parts are replaced by new ones. No condition beyond those in each statement. -/
import Derived.Test.YtahjgdikjaakbaaX
namespace Go.Proofs.Ytahjgdikjaakbaa
open Go.RowKit

theorem upd_blk {T : Nat} {s s' : LS} {w : World} {q : Ix} (h : Low w T s) (ho : ∀ x, x ≠ q → blk T s' x = blk T s x) (hq : ∀ g, blk T s' q = some g → blk T s q = some g ∨ w.heap.size ≤ g) : ∀ x y g, blk T s' x = some g → blk T s' y = some g → x = y :=
  inj_step h.inj h.lt ho hq
/-- The cells of a tower, copied. -/
theorem low_copy {w : World} {T : Nat} {s : LS} (h : Low w T s) : Low (w.alloc (.cells (towerC s) 64)) w.heap.size s := by
  have hb := (Below.refl w.heap.size w).alloc (Nat.le_refl _) (.cells (towerC s) 64)
  have hL := h.below hb
  refine ⟨World.alloc_heap_new w _, h.hn, hL.hR, h.hrc, h.lm, h.lk, h.lki, hL.hK, hL.hS, hL.hQ, hL.hM, hL.hF, ?_⟩
  have key : ∀ x g, x ≠ .T → blk w.heap.size s x = some g → blk T s x = some g := by
    intro x g hx hg
    cases x <;> first | exact hg | exact absurd rfl hx
  intro x y g hx hy
  by_cases e1 : x = .T
  · by_cases e2 : y = .T
    · rw [e1, e2]
    · subst e1
      have hx : w.heap.size = g := Option.some.inj hx
      have := h.lt y g (key y g e2 hy)
      omega
  · by_cases e2 : y = .T
    · subst e2
      have hy : w.heap.size = g := Option.some.inj hy
      have := h.lt x g (key x g e1 hx)
      omega
    · exact h.inj x y g (key x g e1 hx) (key y g e2 hy)
/-- What all replacements leave: a store into the tower's own cells, behind new memory. -/
theorem keep_T {w w1 : World} {T : Nat} {s : LS} (h : Low w T s) (hb : Below w.heap.size w w1) (i : Nat) (v : Value) : ∀ y g, blk T s y = some g → y ≠ .T → (w1.setCell ⟨T, i, none⟩ v).heap[g]? = w.heap[g]? := by
  intro y g hy hne
  rw [heap_setCell_other w1 ⟨T, i, none⟩ g _ (h.ne hy (y := .T) rfl hne)]
  exact hb.block g (h.lt y g hy)
theorem cells_T {w w1 : World} {T : Nat} {s : LS} (h : Low w T s) (hb : Below w.heap.size w w1) (i : Nat) (v : Value) : (w1.setCell ⟨T, i, none⟩ v).heap[T]? = some (.cells ((towerC s).setIfInBounds i v) 64 (0, 0)) :=
  heap_setCell_same w1 T i _ 64 v ((hb.block T (h.lt .T T rfl)).trans h.hT)
def putR (s : LS) (R rc : Nat) : LS := { s with R := R, rc := rc }
theorem low_R {w w1 : World} {T : Nat} {s : LS} {R2 rc2 : Nat} (h : Low w T s) (hb : Below w.heap.size w w1) (hR : w.heap.size ≤ R2) (hrc : s.n ≤ rc2 ∧ rc2 ≤ maxLen)
    (hc : ∃ cur : Array Value, w1.heap[R2]? = some (.cells cur 77 (0, 0)) ∧ 2 * s.n ≤ cur.size ∧ ∀ i, i < s.n → cur[i * 2]? = some (.slice (some ⟨s.K i, 0, none⟩) s.n (s.Kc i)) ∧ cur[i * 2 + 1]? = some (.int .i64 (s.mood.getD i 0))) :
    Low (w1.setCell ⟨T, 0, none⟩ (.slice (some ⟨R2, 0, none⟩) s.n rc2)) T (putR s R2 rc2) := by
  have hr := keep_T h hb 0 (.slice (some ⟨R2, 0, none⟩) s.n rc2)
  have hTl := h.lt .T T rfl
  obtain ⟨cur, h1, h2⟩ := hc
  refine ⟨?_, h.hn, ⟨cur, ?_, h2⟩, hrc, h.lm, h.lk, h.lki, ?_, ?_, ?_, ?_, ?_, ?_⟩
  · rw [cells_T h hb]; rfl
  · rw [heap_setCell_other w1 ⟨T, 0, none⟩ _ _ (by show R2 ≠ T; omega)]; exact h1
  · exact fun a ha => (h.hK a ha).same (hr (.K a) _ (if_pos ha) (by simp))
  · exact h.hS.same fun g hg => hr .S g hg (by simp)
  · exact h.hQ.same fun g hg => hr .Q g hg (by simp)
  · exact h.hM.same (hr .M s.M rfl (by simp))
  · exact fun a b ha hb => (h.hF a b ha hb).same fun g hg => hr (.F a b) g ((if_pos (And.intro ha hb)).trans hg) (by simp)
  · exact upd_blk h (q := .R) (fun x hx => by cases x <;> first | rfl | exact absurd rfl hx) (fun g hg => .inr (by cases hg; exact hR))
def putK (s : LS) (i K kc : Nat) : LS := { s with K := fun a => if a = i then K else s.K a, Kc := fun a => if a = i then kc else s.Kc a }
theorem low_K {w w1 : World} {T i : Nat} {s : LS} {K2 kc2 : Nat} (h : Low w T s) (hi : i < s.n) (hb : Below w.heap.size w w1) (hK : w.heap.size ≤ K2) (hr2 : Row w1 3 K2 0 kc2 (intsV (s.known.getD i []))) :
    Low (w1.setCell ⟨s.R, i * 2, none⟩ (.slice (some ⟨K2, 0, none⟩) s.n kc2)) T (putK s i K2 kc2) := by
  have hRl : s.R < w.heap.size := h.lt .R s.R rfl
  have hr : ∀ y g, blk T s y = some g → y ≠ .R → (w1.setCell ⟨s.R, i * 2, none⟩ (.slice (some ⟨K2, 0, none⟩) s.n kc2)).heap[g]? = w.heap[g]? := by
    intro y g hy hne
    rw [heap_setCell_other w1 ⟨s.R, i * 2, none⟩ g _ (h.ne hy (y := .R) rfl hne)]
    exact hb.block g (h.lt y g hy)
  obtain ⟨cur, h1, h2, h3⟩ := h.hR
  refine ⟨(hr .T T rfl (by simp)).trans h.hT, h.hn, ⟨_, heap_setCell_same w1 s.R (i * 2) cur 77 _ ((hb.block s.R hRl).trans h1), by rw [Array.size_setIfInBounds]; exact h2, ?_⟩, h.hrc, h.lm, h.lk, h.lki, ?_, ?_, ?_, ?_, ?_, ?_⟩
  · intro a ha
    have ha : a < s.n := ha
    obtain ⟨r1, r2⟩ := h3 a ha
    rw [Array.getElem?_setIfInBounds, Array.getElem?_setIfInBounds, if_neg (c := i * 2 = a * 2 + 1) (by omega)]
    refine ⟨?_, r2⟩
    show _ = some (Value.slice (some ⟨if a = i then K2 else s.K a, 0, none⟩) s.n (if a = i then kc2 else s.Kc a))
    by_cases e : a = i
    · subst e
      rw [if_pos rfl, if_pos (by omega), if_pos rfl, if_pos rfl]
    · rw [if_neg (by omega), if_neg e, if_neg e]
      exact r1
  · intro a ha
    have ha : a < s.n := ha
    show Row _ 3 (if a = i then K2 else s.K a) 0 (if a = i then kc2 else s.Kc a) (intsV (s.known.getD a []))
    by_cases e : a = i
    · subst e
      rw [if_pos rfl, if_pos rfl]
      exact hr2.same (heap_setCell_other w1 ⟨s.R, a * 2, none⟩ K2 _ (by show K2 ≠ s.R; omega))
    · rw [if_neg e, if_neg e]
      exact (h.hK a ha).same (hr (.K a) _ (if_pos ha) (by simp))
  · exact h.hS.same fun g hg => hr .S g hg (by simp)
  · exact h.hQ.same fun g hg => hr .Q g hg (by simp)
  · exact h.hM.same (hr .M s.M rfl (by simp))
  · exact fun a b ha hb => (h.hF a b ha hb).same fun g hg => hr (.F a b) g ((if_pos (And.intro ha hb)).trans hg) (by simp)
  · refine upd_blk h (q := .K i) (fun x hx => ?_) (fun g hg => ?_)
    · cases x with
      | K a =>
        show (if a < s.n then some (if a = i then K2 else s.K a) else none) = if a < s.n then some (s.K a) else none
        rw [if_neg (c := a = i) (fun e => hx (by rw [e]))]
      | _ => rfl
    · have hg : (if i < s.n then some (if i = i then K2 else s.K i) else none) = some g := hg
      rw [if_pos hi, if_pos rfl] at hg
      cases hg
      exact .inr hK
/-- The token's two slices, replaced. -/
def putC (s : LS) (a b : Value) (sv q : List Int) : LS := { s with c2 := a, c3 := b, tsv := a, tqv := b, served := sv, queue := q }
def putTk (s : LS) (a b : Value) (sv q : List Int) : LS := { s with tsv := a, tqv := b, served := sv, queue := q }
theorem tk_inj {w : World} {T : Nat} {s : LS} {a b : Value} (h : Low w T s) (s' : LS) (e1 : ∀ x, x ≠ .S → x ≠ .Q → blk T s' x = blk T s x) (ea : s'.tsv = a) (eb : s'.tqv = b)
    (ha : ∀ g, a.ownBlock = some g → w.heap.size ≤ g) (hb : ∀ g, b.ownBlock = some g → w.heap.size ≤ g) (hab : ∀ g, a.ownBlock = some g → b.ownBlock ≠ some g) : ∀ x y g, blk T s' x = some g → blk T s' y = some g → x = y := by
  have hS : ∀ g, blk T s' .S = some g → a.ownBlock = some g := fun g hg => by rw [← ea]; exact hg
  have hQ : ∀ g, blk T s' .Q = some g → b.ownBlock = some g := fun g hg => by rw [← eb]; exact hg
  have old : ∀ x g, x ≠ .S → x ≠ .Q → blk T s' x = some g → g < w.heap.size := fun x g h1 h2 hg => h.lt x g (by rw [← e1 x h1 h2]; exact hg)
  intro x y g hx hy
  by_cases x1 : x = .S
  · subst x1
    have hx1 := ha g (hS g hx)
    by_cases y1 : y = .S
    · exact y1.symm
    · by_cases y2 : y = .Q
      · subst y2; exact absurd (hQ g hy) (hab g (hS g hx))
      · have := old y g y1 y2 hy; omega
  · by_cases x2 : x = .Q
    · subst x2
      have hx1 := hb g (hQ g hx)
      by_cases y1 : y = .S
      · subst y1; exact absurd (hQ g hx) (hab g (hS g hy))
      · by_cases y2 : y = .Q
        · exact y2.symm
        · have := old y g y1 y2 hy; omega
    · have hx1 := old x g x1 x2 hx
      by_cases y1 : y = .S
      · subst y1; have := ha g (hS g hy); omega
      · by_cases y2 : y = .Q
        · subst y2; have := hb g (hQ g hy); omega
        · exact h.inj x y g (by rw [← e1 x x1 x2]; exact hx) (by rw [← e1 y y1 y2]; exact hy)
theorem low_C {w w1 : World} {T : Nat} {s : LS} {a b : Value} {sv q : List Int} (h : Low w T s) (hw : Below w.heap.size w w1) (hsa : Sl1 w1 3 a (intsV sv)) (hsb : Sl1 w1 3 b (intsV q))
    (ha : ∀ g, a.ownBlock = some g → w.heap.size ≤ g) (hb : ∀ g, b.ownBlock = some g → w.heap.size ≤ g) (hab : ∀ g, a.ownBlock = some g → b.ownBlock ≠ some g) :
    Low ((w1.setCell ⟨T, 2, none⟩ a).setCell ⟨T, 3, none⟩ b) T (putC s a b sv q) := by
  have hTl := h.lt .T T rfl
  have hr : ∀ y g, blk T s y = some g → y ≠ .T → ((w1.setCell ⟨T, 2, none⟩ a).setCell ⟨T, 3, none⟩ b).heap[g]? = w.heap[g]? := by
    intro y g hy hne
    rw [heap_setCell_other _ ⟨T, 3, none⟩ g _ (h.ne hy (y := .T) rfl hne)]
    exact keep_T h hw 2 a y g hy hne
  have hn : ∀ g, w.heap.size ≤ g → ((w1.setCell ⟨T, 2, none⟩ a).setCell ⟨T, 3, none⟩ b).heap[g]? = w1.heap[g]? := by
    intro g hg
    rw [heap_setCell_other _ ⟨T, 3, none⟩ g _ (by show g ≠ T; omega), heap_setCell_other _ ⟨T, 2, none⟩ g _ (by show g ≠ T; omega)]
  refine ⟨?_, h.hn, ?_, h.hrc, h.lm, h.lk, h.lki, ?_, ?_, ?_, ?_, ?_, ?_⟩
  · rw [heap_setCell_same _ T 3 _ 64 b (cells_T h hw 2 a)]; rfl
  · obtain ⟨cur, h1, h2⟩ := h.hR
    exact ⟨cur, (hr .R s.R rfl (by simp)).trans h1, h2⟩
  · exact fun c hc => (h.hK c hc).same (hr (.K c) _ (if_pos hc) (by simp))
  · exact hsa.same fun g hg => hn g (ha g hg)
  · exact hsb.same fun g hg => hn g (hb g hg)
  · exact h.hM.same (hr .M s.M rfl (by simp))
  · exact fun c d hc hd => (h.hF c d hc hd).same fun g hg => hr (.F c d) g ((if_pos (And.intro hc hd)).trans hg) (by simp)
  · exact tk_inj h (putC s a b sv q) (fun x h1 h2 => by cases x <;> first | rfl | exact absurd rfl h1 | exact absurd rfl h2) rfl rfl ha hb hab
theorem low_Tk {w w1 : World} {T : Nat} {s : LS} {a b : Value} {sv q : List Int} (h : Low w T s) (hw : Below w.heap.size w w1) (hsa : Sl1 w1 3 a (intsV sv)) (hsb : Sl1 w1 3 b (intsV q))
    (ha : ∀ g, a.ownBlock = some g → w.heap.size ≤ g) (hb : ∀ g, b.ownBlock = some g → w.heap.size ≤ g) (hab : ∀ g, a.ownBlock = some g → b.ownBlock ≠ some g) : Low w1 T (putTk s a b sv q) := by
  have hL := h.below hw
  exact ⟨hL.hT, h.hn, hL.hR, h.hrc, h.lm, h.lk, h.lki, hL.hK, hsa, hsb, hL.hM, hL.hF, tk_inj h (putTk s a b sv q) (fun x h1 h2 => by cases x <;> first | rfl | exact absurd rfl h1 | exact absurd rfl h2) rfl rfl ha hb hab⟩
def putM (s : LS) (M : Nat) : LS := { s with M := M, F := fun _ _ => nilV, ms := fun _ _ => [] }
theorem low_M {w : World} {T : Nat} {s : LS} (h : Low w T s) : Low ((w.alloc (.map #[] 0)).setCell ⟨T, 4, none⟩ (.map (some w.heap.size))) T (putM s w.heap.size) := by
  have hTl := h.lt .T T rfl
  have hw : Below w.heap.size w (w.alloc (.map #[] 0)) := (Below.refl _ _).alloc (Nat.le_refl _) _
  have hr := keep_T h hw 4 (.map (some w.heap.size))
  refine ⟨?_, h.hn, ?_, h.hrc, h.lm, h.lk, h.lki, ?_, ?_, ?_, ?_, fun _ _ _ _ => .inl ⟨rfl, rfl⟩, ?_⟩
  · rw [cells_T h hw]; rfl
  · obtain ⟨cur, h1, h2⟩ := h.hR
    exact ⟨cur, (hr .R s.R rfl (by simp)).trans h1, h2⟩
  · exact fun c hc => (h.hK c hc).same (hr (.K c) _ (if_pos hc) (by simp))
  · exact h.hS.same fun g hg => hr .S g hg (by simp)
  · exact h.hQ.same fun g hg => hr .Q g hg (by simp)
  · exact (fl_made w s.n).same (heap_setCell_other _ ⟨T, 4, none⟩ w.heap.size _ (by show w.heap.size ≠ T; omega))
  · have hnoF : ∀ a b g, blk T (putM s w.heap.size) (.F a b) ≠ some g := by
      intro a b g hg
      have hg : (if a < s.n ∧ b < s.n then none else none) = some g := hg
      split at hg <;> cases hg
    have hM : ∀ g, blk T (putM s w.heap.size) .M = some g → g = w.heap.size := fun g hg => by cases hg; rfl
    have old : ∀ x, x ≠ .M → (∀ a b, x ≠ .F a b) → blk T (putM s w.heap.size) x = blk T s x := by
      intro x h1 h2
      cases x <;> first | rfl | exact absurd rfl h1 | exact absurd rfl (h2 _ _)
    intro x y g hx hy
    have nf : ∀ z, blk T (putM s w.heap.size) z = some g → ∀ a b, z ≠ .F a b := by
      rintro z hz a b rfl
      exact hnoF a b g hz
    by_cases x1 : x = .M
    · subst x1
      by_cases y1 : y = .M
      · exact y1.symm
      · have h1 := hM g hx
        rw [old y y1 (nf y hy)] at hy
        have := h.lt y g hy
        omega
    · by_cases y1 : y = .M
      · subst y1
        have h1 := hM g hy
        rw [old x x1 (nf x hx)] at hx
        have := h.lt x g hx
        omega
      · rw [old x x1 (nf x hx)] at hx
        rw [old y y1 (nf y hy)] at hy
        exact h.inj x y g hx hy
/-- A message more on its way. -/
theorem low_msg {w x : World} {T i j : Nat} {s : LS} {v' : Value} {xs : List Value} (h : Low w T s) (hi : i < s.n) (hj : j < s.n) (r1 : FlAt x s.M s.n (upd s.F i j v')) (r2 : Sl1 x 70 v' xs) (r3 : ∀ g, v'.ownBlock = some g → (s.F i j).ownBlock = some g ∨ w.heap.size ≤ g)
    (r4 : Off (fun k => k = s.M ∨ (s.F i j).ownBlock = some k) w x) : Mv T s w (putF s i j v' xs s.sent) x := by
  have bF : ∀ g, (s.F i j).ownBlock = some g → blk T s (.F i j) = some g := fun g hg => (if_pos (And.intro hi hj)).trans hg
  have hst : ∀ y g, blk T s y = some g → y ≠ .M → y ≠ .F i j → x.heap[g]? = w.heap[g]? := by
    intro y g hy n2 n3
    refine r4.block g (h.lt y g hy) ?_
    rintro (e | e)
    · exact h.ne hy (y := .M) rfl n2 e
    · exact h.ne hy (bF g e) n3 rfl
  have hq : ∀ g, blk T (putF s i j v' xs s.sent) (.F i j) = some g → blk T s (.F i j) = some g ∨ w.heap.size ≤ g := by
    intro g hg
    have hg' : (upd s.F i j v' i j).ownBlock = some g := by
      have : (if i < s.n ∧ j < s.n then (upd s.F i j v' i j).ownBlock else none) = some g := hg
      rwa [if_pos ⟨hi, hj⟩] at this
    rw [upd_same] at hg'
    exact (r3 g hg').imp (bF g) id
  refine ⟨⟨(hst .T T rfl (by simp) (by simp)).trans h.hT, h.hn, ?_, h.hrc, h.lm, h.lk, h.lki, ?_, ?_, ?_, r1, ?_, ?_⟩, ?_, ?_⟩
  · obtain ⟨cur, h1, h2⟩ := h.hR
    exact ⟨cur, (hst .R s.R rfl (by simp) (by simp)).trans h1, h2⟩
  · exact fun a ha => (h.hK a ha).same (hst (.K a) _ (if_pos ha) (by simp) (by simp))
  · exact h.hS.same fun g hg => hst .S g hg (by simp) (by simp)
  · exact h.hQ.same fun g hg => hst .Q g hg (by simp) (by simp)
  · intro a b ha hb
    show Sl1 _ 70 (upd s.F i j v' a b) (updM s.ms i j xs a b)
    by_cases e : a = i ∧ b = j
    · obtain ⟨rfl, rfl⟩ := e
      rw [upd_same, updM_same]
      exact r2
    · rw [upd_other e, updM_other e]
      exact (h.hF a b ha hb).same fun g hg => hst (.F a b) g ((if_pos (And.intro ha hb)).trans hg) (by simp) (by intro he; injection he with e1 e2; exact e ⟨e1, e2⟩)
  · exact inj_step h.inj h.lt (fun y hy => blk_putF T s i j v' xs _ y hy) hq
  · refine r4.mono (fun k hk => ?_)
    rcases hk with rfl | hk
    · exact ⟨.M, rfl⟩
    · exact ⟨.F i j, bF k hk⟩
  · rintro k ⟨y, hy⟩
    by_cases e : y = .F i j
    · rw [e] at hy
      exact (hq k hy).imp (fun h => ⟨_, h⟩) id
    · rw [blk_putF T s i j v' xs _ y e] at hy
      exact .inl ⟨y, hy⟩
end Go.Proofs.Ytahjgdikjaakbaa
