/- What is proved: a tower in memory and its abstract state; what New returns. No condition beyond those in each statement. -/
import Derived.Test.YtahjgdikjaakbaaV
namespace Go.Proofs.Ytahjgdikjaakbaa
open Go.RowKit

/-- A tower in memory stands for an abstract one. -/
structure Up (w : World) (T : Nat) (s : LS) (t : TS) : Prop where
  low : Low w T s
  en : s.n = t.n
  em : s.mood = t.mood
  ek : s.known = t.known
  eh : s.holder = t.holder
  es : s.served = t.served
  eq : s.queue = t.queue
  ee : s.sent = t.sent
  ms : ∀ i j, i < t.n → j < t.n → s.ms i j = (t.fl i j).map (enc s.tsv s.tqv)
  hc : t.holder ≠ -1 → s.c2 = s.tsv ∧ s.c3 = s.tqv
  hno : t.holder = -1 → s.c2 = nilV ∧ s.c3 = nilV
/-- The low state that New leaves. -/
def newS (N n h : Nat) (K : Nat → Nat) (R rc : Nat) : LS :=
  ⟨n, R, rc, K, fun _ => n, List.replicate n 0, List.replicate n (List.replicate n 0), h, .slice (some ⟨N, 0, none⟩) n n, nilV, N + 1, fun _ _ => nilV, fun _ _ => [], 0, .slice (some ⟨N, 0, none⟩) n n, nilV, List.replicate n 0, []⟩
theorem repl_getD {α : Type} (n i : Nat) (x d : α) (hi : i < n) : (List.replicate n x).getD i d = x := by
  simp [List.getD_eq_getElem?_getD, hi]
theorem new_up {w wr : World} {N n h : Nat} {K : Nat → Nat} {v : Value} (I : NewI w N n h n K v wr) (hn : 1 ≤ n ∧ n ≤ 6) : ∃ s, Up wr (N + 2) s (TS.made n h) ∧ ∀ g, fp (N + 2) s g → N ≤ g := by
  have hR := I.hR
  rcases hR.2 with ⟨_, h0⟩ | ⟨R, rc, cur, rfl, hb, hg, h1, h2, h3, h4⟩
  · omega
  have hKR : ∀ i, i < n → K i ≠ R := fun i hi e => ring_ne hR (I.hK i hi).2 (by rw [e]; rfl)
  have hlow : Low wr (N + 2) (newS N n h K R rc) := by
    refine ⟨?_, hn, ⟨cur, hg, ?_, ?_⟩, ⟨h1, h2⟩, by simp [newS], by simp [newS], ?_, ?_, ?_, .inl ⟨rfl, rfl⟩, I.hM, fun _ _ _ _ => .inl ⟨rfl, rfl⟩, ?_⟩
    · rw [I.hT]; rfl
    · show 2 * n ≤ _; omega
    · intro i hi
      have hi : i < n := hi
      have e : ∀ j, j < n * 2 → cur[j]? = (ringC n K n)[j]? := fun j hj => by
        rw [← h4, List.getElem?_take, if_pos hj, Array.getElem?_toList]
      obtain ⟨r1, r2⟩ := ringC_get n K n i hi
      rw [e _ (by omega), e _ (by omega), r1, r2]
      refine ⟨rfl, ?_⟩
      show _ = some (Value.int .i64 ((List.replicate n 0).getD i 0))
      rw [repl_getD n i _ _ hi]
    · intro i hi
      show ((List.replicate n (List.replicate n 0)).getD i []).length = n
      rw [repl_getD n i _ _ hi, List.length_replicate]
    · intro i hi
      show Row wr 3 (K i) 0 n (intsV ((List.replicate n (List.replicate n 0)).getD i []))
      rw [repl_getD n i _ _ hi]
      exact (I.hK i hi).2
    · exact .inr ⟨N, 0, n, by rw [intsV_len]; show _ = Value.slice _ (List.replicate n (0 : Int)).length n; rw [List.length_replicate]; rfl, I.hS⟩
    · have hloc : ∀ x g, blk (N + 2) (newS N n h K R rc) x = some g → (x = .T ∧ g = N + 2) ∨ (x = .R ∧ g = R) ∨ (x = .M ∧ g = N + 1) ∨ (x = .S ∧ g = N) ∨ ∃ i, x = .K i ∧ i < n ∧ g = K i := by
        intro x g hx
        cases x with
        | T => cases hx; exact .inl ⟨rfl, rfl⟩
        | R => cases hx; exact .inr (.inl ⟨rfl, rfl⟩)
        | M => cases hx; exact .inr (.inr (.inl ⟨rfl, rfl⟩))
        | S => cases hx; exact .inr (.inr (.inr (.inl ⟨rfl, rfl⟩)))
        | Q => cases hx
        | K i =>
          have hx : (if i < n then some (K i) else none) = some g := hx
          split at hx
          · rename_i hi; cases hx; exact .inr (.inr (.inr (.inr ⟨i, rfl, hi, rfl⟩)))
          · cases hx
        | F i j =>
          have hx : (if i < n ∧ j < n then none else none) = some g := hx
          split at hx <;> cases hx
      intro x y g hx hy
      rcases hloc x g hx with ⟨rfl, rfl⟩ | ⟨rfl, rfl⟩ | ⟨rfl, rfl⟩ | ⟨rfl, rfl⟩ | ⟨i, rfl, hi, rfl⟩ <;> rcases hloc y _ hy with ⟨rfl, e⟩ | ⟨rfl, e⟩ | ⟨rfl, e⟩ | ⟨rfl, e⟩ | ⟨j, rfl, hj, e⟩ <;>
        first
          | rfl
          | omega
          | (have := (I.hK _ hi).1; omega)
          | (have := (I.hK _ hj).1; omega)
          | (exact absurd e (hKR _ hi))
          | (exact absurd e.symm (hKR _ hj))
          | (rw [I.inj i j hi hj e])
  refine ⟨_, ⟨hlow, rfl, rfl, rfl, rfl, rfl, rfl, rfl, fun _ _ _ _ => rfl, fun _ => ⟨rfl, rfl⟩, fun e => absurd (show (h : Int) = -1 from e) (by omega)⟩, ?_⟩
  rintro g ⟨x, hx⟩
  cases x with
  | T => cases hx; omega
  | R => cases hx; show N ≤ R; omega
  | M => cases hx; show N ≤ N + 1; omega
  | S => cases hx; exact Nat.le_refl _
  | Q => cases hx
  | K i =>
    have hx : (if i < n then some (K i) else none) = some g := hx
    split at hx
    · rename_i hi; cases hx; have := (I.hK i hi).1; omega
    · cases hx
  | F i j =>
    have hx : (if i < n ∧ j < n then none else none) = some g := hx
    split at hx <;> cases hx
end Go.Proofs.Ytahjgdikjaakbaa
