/- What is proved: plain facts on the orders that next goes through: they are all permutations, in lexicographic order. No condition beyond those in each statement. -/
namespace Go.Proofs.Ythnhmfmlhlpggaa

/-- In a rising list, the first number above x changes places with it. -/
def swapFirst (x : Int) : List Int → Option (Int × List Int)
  | [] => none
  | y :: ys => if x < y then some (y, x :: ys) else (swapFirst x ys).map fun p => (p.1, y :: p.2)
/-- The next order. -/
def nextR : List Int → Option (List Int)
  | [] => none
  | x :: xs => match nextR xs with
    | some ys => some (x :: ys)
    | none => (swapFirst x xs.reverse).map fun p => p.1 :: p.2
/-- All orders of some numbers. -/
def lexF : Nat → List Int → List (List Int)
  | 0, _ => [[]]
  | f + 1, rem => rem.flatMap fun v => (lexF f (rem.erase v)).map (v :: ·)

def Run : List (List Int) → Prop
  | [] => True
  | [_] => True
  | a :: b :: l => nextR a = some b ∧ Run (b :: l)

theorem Run.append : ∀ {l1 l2 : List (List Int)}, Run l1 → Run l2 → (∀ a b, l1.getLast? = some a → l2.head? = some b → nextR a = some b) → Run (l1 ++ l2)
  | [], _, _, h2, _ => h2
  | [a], [], _, _, _ => by simp [Run]
  | [a], b :: l, _, h2, h => by
    refine ⟨h a b rfl rfl, h2⟩
  | a :: b :: l, l2, h1, h2, h => by
    refine ⟨h1.1, ?_⟩
    exact Run.append (l1 := b :: l) h1.2 h2 (fun x y hx hy => h x y (by simpa using hx) hy)
theorem Run.cons : ∀ {l : List (List Int)} (v : Int), Run l → Run (l.map (v :: ·))
  | [], _, _ => trivial
  | [a], _, _ => trivial
  | a :: b :: l, v, h => by
    refine ⟨?_, Run.cons (l := b :: l) v h.2⟩
    show nextR (v :: a) = some (v :: b)
    unfold nextR
    rw [h.1]

def Up (l : List Int) : Prop := l.Pairwise (· < ·)
theorem swap_none {x : Int} : ∀ {l : List Int}, (∀ y ∈ l, y ≤ x) → swapFirst x l = none
  | [], _ => rfl
  | y :: ys, h => by
    unfold swapFirst
    rw [if_neg (by have := h y (by simp); omega), swap_none (fun z hz => h z (List.mem_cons_of_mem _ hz))]; rfl
theorem swap_at {x v : Int} {s : List Int} (hx : x < v) : ∀ {p : List Int}, (∀ y ∈ p, y ≤ x) → swapFirst x (p ++ v :: s) = some (v, p ++ x :: s)
  | [], _ => by
    show (if x < v then _ else _) = _
    rw [if_pos hx]; rfl
  | y :: p, h => by
    show (if x < y then _ else _) = _
    rw [if_neg (by have := h y (by simp); omega)]
    show Option.map _ (swapFirst x (p ++ v :: s)) = _
    rw [swap_at hx (fun z hz => h z (List.mem_cons_of_mem _ hz))]; rfl
theorem next_down : ∀ {l : List Int}, l.Pairwise (· > ·) → nextR l = none
  | [], _ => rfl
  | x :: xs, h => by
    have h' := List.pairwise_cons.1 h
    unfold nextR
    rw [next_down h'.2, swap_none]; rfl
    intro y hy
    have := h'.1 y (by simpa using hy)
    omega
theorem next_last {l : List Int} (h : Up l) : nextR l.reverse = none := next_down (by rw [List.pairwise_reverse]; exact h)
theorem erase_mid {p s : List Int} {v : Int} (h : v ∉ p) : (p ++ v :: s).erase v = p ++ s := by
  rw [List.erase_append_right _ h, List.erase_cons_head]

theorem lex_main : ∀ (f : Nat) (rem : List Int), rem.length = f → Up rem → (lexF f rem).head? = some rem ∧ (lexF f rem).getLast? = some rem.reverse ∧ Run (lexF f rem)
  | 0, rem, hl, _ => by
    obtain rfl := List.eq_nil_of_length_eq_zero hl
    exact ⟨rfl, rfl, trivial⟩
  | f + 1, rem, hl, hup => by
    have key : ∀ (s p : List Int), rem = p ++ s → s ≠ [] → ∀ v ∈ s.head?, (s.flatMap fun v => (lexF f (rem.erase v)).map (v :: ·)).head? = some (v :: rem.erase v) ∧
        (s.flatMap fun v => (lexF f (rem.erase v)).map (v :: ·)).getLast? = some rem.reverse ∧ Run (s.flatMap fun v => (lexF f (rem.erase v)).map (v :: ·)) := by
      intro s
      induction s with
      | nil => intro p _ h; exact absurd rfl h
      | cons v s ih =>
        intro p hp _ v' hv'
        obtain rfl : v = v' := by simpa using hv'
        have hup' := hup
        rw [hp] at hup'
        obtain ⟨hp1, hp2, hp3⟩ := List.pairwise_append.1 hup'
        have hvs := List.pairwise_cons.1 hp2
        have hvp : v ∉ p := fun h => by have := hp3 v h v (by simp); omega
        have her : rem.erase v = p ++ s := by rw [hp, erase_mid hvp]
        have hupe : Up (p ++ s) := List.pairwise_append.2 ⟨hp1, hvs.2, fun a ha b hb => hp3 a ha b (List.mem_cons_of_mem _ hb)⟩
        obtain ⟨i1, i2, i3⟩ := lex_main f (p ++ s) (by rw [hp] at hl; simp at hl ⊢; omega) hupe
        rw [List.flatMap_cons, her]
        have hb1 : ((lexF f (p ++ s)).map (v :: ·)).head? = some (v :: (p ++ s)) := by rw [List.head?_map, i1]; rfl
        have hb2 : ((lexF f (p ++ s)).map (v :: ·)).getLast? = some (v :: (p ++ s).reverse) := by rw [List.getLast?_map, i2]; rfl
        have hb3 := Run.cons v i3
        cases s with
        | nil =>
          simp only [List.flatMap_nil, List.append_nil] at *
          refine ⟨hb1, ?_, hb3⟩
          rw [hb2, hp]; simp
        | cons v2 s2 =>
          obtain ⟨j1, j2, j3⟩ := ih (p ++ [v]) (by rw [hp]; simp) (by simp) v2 (by simp)
          have hne : ((v2 :: s2).flatMap fun v => (lexF f (rem.erase v)).map (v :: ·)) ≠ [] := by
            intro e; rw [e] at j1; cases j1
          refine ⟨?_, ?_, ?_⟩
          · rw [List.head?_append, hb1]; rfl
          · rw [List.getLast?_append, j2]; rfl
          · refine Run.append hb3 j3 fun a b ha hb => ?_
            rw [hb2] at ha
            rw [j1] at hb
            cases ha
            cases hb
            have hv2 : v < v2 := hvs.1 v2 (by simp)
            unfold nextR
            rw [next_last hupe, List.reverse_reverse]
            show (swapFirst v (p ++ v2 :: s2)).map _ = _
            rw [swap_at hv2 (fun y hy => by have := hp3 y hy v (by simp); omega)]
            have hv2p : v2 ∉ p ++ [v] := by
              intro h
              rcases List.mem_append.1 h with h | h
              · have := hp3 v2 h v2 (by simp); omega
              · have : v2 = v := by simpa using h
                omega
            have : rem.erase v2 = p ++ v :: s2 := by
              rw [hp, show p ++ v :: v2 :: s2 = (p ++ [v]) ++ v2 :: s2 by simp, erase_mid hv2p]; simp
            rw [this]; rfl
    obtain ⟨v, s, hs⟩ : ∃ v s, rem = v :: s := by
      cases rem with
      | nil => simp at hl
      | cons v s => exact ⟨v, s, rfl⟩
    obtain ⟨k1, k2, k3⟩ := key rem [] rfl (by rw [hs]; simp) v (by rw [hs]; simp)
    refine ⟨?_, k2, k3⟩
    show (rem.flatMap _).head? = _
    rw [k1, hs]; simp

theorem mem_lex : ∀ (f : Nat) (rem o : List Int), rem.length = f → (o ∈ lexF f rem ↔ o.Perm rem)
  | 0, rem, o, hl => by
    obtain rfl := List.eq_nil_of_length_eq_zero hl
    simp [lexF]
  | f + 1, rem, o, hl => by
    unfold lexF
    rw [List.mem_flatMap]
    constructor
    · rintro ⟨v, hv, ho⟩
      obtain ⟨o', ho', rfl⟩ := List.mem_map.1 ho
      have := (mem_lex f (rem.erase v) o' (by rw [List.length_erase_of_mem hv]; omega)).1 ho'
      exact (List.Perm.cons v this).trans (List.perm_cons_erase hv).symm
    · intro h
      cases o with
      | nil => have := h.length_eq; simp at this; omega
      | cons v o' =>
        have hv : v ∈ rem := h.subset (by simp)
        refine ⟨v, hv, List.mem_map.2 ⟨o', (mem_lex f (rem.erase v) o' (by rw [List.length_erase_of_mem hv]; omega)).2 ?_, rfl⟩⟩
        exact (List.Perm.cons_inv (h.trans (List.perm_cons_erase hv)))

/-- The first order that costs least. -/
def pick (cost : List Int → Int) : Option (Int × List Int) → List (List Int) → Option (Int × List Int)
  | acc, [] => acc
  | none, o :: l => pick cost (some (cost o, o)) l
  | some (b, p), o :: l => pick cost (if cost o < b then some (cost o, o) else some (b, p)) l

theorem pick_some {cost : List Int → Int} : ∀ {l : List (List Int)} {b : Int} {p : List Int}, ∃ b' p', pick cost (some (b, p)) l = some (b', p') ∧ b' ≤ b ∧ (∀ o ∈ l, b' ≤ cost o) ∧ ((b', p') = (b, p) ∨ (p' ∈ l ∧ b' = cost p'))
  | [], b, p => ⟨b, p, rfl, Int.le_refl _, by simp, .inl rfl⟩
  | o :: l, b, p => by
    unfold pick
    by_cases h : cost o < b
    · rw [if_pos h]
      obtain ⟨b', p', h1, h2, h3, h4⟩ := pick_some (cost := cost) (l := l) (b := cost o) (p := o)
      refine ⟨b', p', h1, by omega, fun q hq => ?_, .inr ?_⟩
      · rcases List.mem_cons.1 hq with rfl | hq
        · exact h2
        · exact h3 q hq
      · rcases h4 with h4 | h4
        · cases h4; exact ⟨by simp, rfl⟩
        · exact ⟨List.mem_cons_of_mem _ h4.1, h4.2⟩
    · rw [if_neg h]
      obtain ⟨b', p', h1, h2, h3, h4⟩ := pick_some (cost := cost) (l := l) (b := b) (p := p)
      refine ⟨b', p', h1, h2, fun q hq => ?_, ?_⟩
      · rcases List.mem_cons.1 hq with rfl | hq
        · omega
        · exact h3 q hq
      · rcases h4 with h4 | h4
        · exact .inl h4
        · exact .inr ⟨List.mem_cons_of_mem _ h4.1, h4.2⟩
theorem pick_none {cost : List Int → Int} {l : List (List Int)} (h : l ≠ []) : ∃ b p, pick cost none l = some (b, p) ∧ p ∈ l ∧ b = cost p ∧ ∀ o ∈ l, b ≤ cost o := by
  cases l with
  | nil => exact absurd rfl h
  | cons o l =>
    unfold pick
    obtain ⟨b, p, h1, h2, h3, h4⟩ := pick_some (cost := cost) (l := l) (b := cost o) (p := o)
    refine ⟨b, p, h1, ?_, ?_, fun q hq => ?_⟩
    · rcases h4 with h4 | h4
      · cases h4; simp
      · exact List.mem_cons_of_mem _ h4.1
    · rcases h4 with h4 | h4
      · cases h4; rfl
      · exact h4.2
    · rcases List.mem_cons.1 hq with rfl | hq
      · exact h2
      · exact h3 q hq
theorem pick_append {cost : List Int → Int} : ∀ {l m : List (List Int)} {a : Option (Int × List Int)}, pick cost a (l ++ m) = pick cost (pick cost a l) m
  | [], _, _ => by simp [pick]
  | o :: l, m, none => by simp only [List.cons_append, pick]; exact pick_append
  | o :: l, m, some (b, p) => by simp only [List.cons_append, pick]; exact pick_append
end Go.Proofs.Ythnhmfmlhlpggaa
