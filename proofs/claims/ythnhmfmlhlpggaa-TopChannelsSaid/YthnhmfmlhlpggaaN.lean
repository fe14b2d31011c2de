/- What is proved: Band, Cut, Arrange, Cuts. No condition beyond those in each statement. -/
import Derived.Test.YthnhmfmlhlpggaaM
namespace Go.Proofs.Ythnhmfmlhlpggaa
open Go.RowKit
set_option maxRecDepth 100000

theorem FindR.below {w0 w' : World} {n : Int} {es : List (Int × Int)} {cost : List Int → Int} {e : Ending} (h : FindR w0 n es cost e w') : Below w0.heap.size w0 w' := h.1
theorem FindR.tuple {w0 w' : World} {n : Int} {es : List (Int × Int)} {cost : List Int → Int} {e : Ending} (h : FindR w0 n es cost e w') : ∃ a b c, e = .returned (.tuple #[a, b, c]) := by
  obtain ⟨_, h⟩ := h
  by_cases hc : checkF n es ≠ 0
  · rw [if_pos hc] at h; exact ⟨_, _, _, h⟩
  · rw [if_neg hc] at h
    cases hl : leastF cost n.toNat with
    | none => rw [hl] at h; exact h.elim
    | some x =>
      obtain ⟨b, p⟩ := x
      rw [hl] at h
      obtain ⟨g, c, h, _⟩ := h
      exact ⟨_, _, _, h⟩

set_option maxHeartbeats 2000000 in
theorem Band_calls (n : Int) (B : Option Addr) (ne ce : Nat) (es : List (Int × Int)) (w : World) (hne : ne = es.length) (hB : RdE w B es) (hle : ne ≤ ce) (hce : ce ≤ 9223372036854775807) :
    Calls Try.prog 36 #[.int .i64 n, .slice B ne ce] w (FindR w n es (costB es)) := by
  have HF := Lib.hid (find_calls 53 (fun _ _ => rfl) (fun pl => bandF pl es) n B ne ce es w hne hB hle hce (by
    intro q hq1 hq8 h30 hg pl g cg W hpo hrd h1 h2 hbe
    have hed : EdOk q es := fun e he => ⟨(hg e he).1, (hg e he).2.1⟩
    have hs := band_small hpo hed es.length
    rw [List.take_length] at hs
    exact ⟨by omega, band_calls (some ⟨g, 0, none⟩) q cg pl B ne ce es W hpo hrd h1 h2 hq8 hne hed hbe hle hce⟩))
  clear hne hB
  go_enter Try.func36, Try.ntmps36
  go_wp2_with fail
  refine HF.out.mono ?_
  intro e w1 h
  obtain ⟨a, b, c, rfl⟩ := h.tuple
  have H := Lib.hid h
  clear h
  go_wp2_with fail
  go_ret3
  exact H.out
set_option maxHeartbeats 2000000 in
theorem Cut_calls (n : Int) (B : Option Addr) (ne ce : Nat) (es : List (Int × Int)) (w : World) (hne : ne = es.length) (hB : RdE w B es) (hle : ne ≤ ce) (hce : ce ≤ 9223372036854775807) :
    Calls Try.prog 17 #[.int .i64 n, .slice B ne ce] w (FindR w n es (costC es)) := by
  have HF := Lib.hid (find_calls 49 (fun _ _ => rfl) (fun pl => cutF pl es) n B ne ce es w hne hB hle hce (by
    intro q hq1 hq8 h30 hg pl g cg W hpo hrd h1 h2 hbe
    have hed : EdOk q es := fun e he => ⟨(hg e he).1, (hg e he).2.1⟩
    refine ⟨⟨mostF_ge.1, mostF_le.2 ⟨by omega, fun x hx => by have := cuts_small pl es x hx; omega⟩⟩, cut_calls (some ⟨g, 0, none⟩) q cg pl B ne ce es W hpo hrd h1 h2 hq8 hq1 hne hed hbe hle hce (by omega)⟩))
  clear hne hB
  go_enter Try.func17, Try.ntmps17
  go_wp2_with fail
  refine HF.out.mono ?_
  intro e w1 h
  obtain ⟨a, b, c, rfl⟩ := h.tuple
  have H := Lib.hid h
  clear h
  go_wp2_with fail
  go_ret3
  exact H.out
end Go.Proofs.Ythnhmfmlhlpggaa
