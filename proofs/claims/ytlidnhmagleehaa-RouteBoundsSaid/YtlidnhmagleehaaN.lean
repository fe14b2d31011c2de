/- What is proved: Band, Cut, Arrange, Cuts. No condition beyond those in each statement. -/
import Derived.Test.YtlidnhmagleehaaM
namespace Go.Proofs.Ytlidnhmagleehaa
open Go.RowKit

theorem FindR.below {w0 w' : World} {n : Int} {es : List (Int × Int)} {cost : List Int → Int} {e : Ending} (h : FindR w0 n es cost e w') : Below w0.heap.size w0 w' := h.1
theorem FindR.tuple {w0 w' : World} {n : Int} {es : List (Int × Int)} {cost : List Int → Int} {e : Ending} (h : FindR w0 n es cost e w') : ∃ a b c, e = .returned (.tuple #[a, b, c]) := by
  obtain ⟨_, h⟩ := h
  by_cases hc : checkF n es ≠ 0
  · rw [if_pos hc] at h; exact ⟨_, _, _, h⟩
  · rw [if_neg hc] at h
    cases hl : leastF cost n.toNat with
    | none => rw [hl] at h; exact h.elim
    | some x =>
      obtain ⟨b, p⟩ := x
      rw [hl] at h
      obtain ⟨g, c, h, _⟩ := h
      exact ⟨_, _, _, h⟩

set_option maxHeartbeats 2000000 in
theorem Band_calls (n : Int) (B : Option Addr) (ne ce : Nat) (es : List (Int × Int)) (w : World) (hne : ne = es.length) (hB : RdE w B es) (hle : ne ≤ ce) (hce : ce ≤ 9223372036854775807) :
    Calls Try.prog 17 #[.int .i64 n, .slice B ne ce] w (FindR w n es (costB es)) := by
  have HF := Lib.hid (find_calls 37 (fun _ _ => rfl) (fun pl => bandF pl es) n B ne ce es w hne hB hle hce (by
    intro q hq1 hq8 h30 hg pl g cg W hpo hrd h1 h2 hbe
    have hed : EdOk q es := fun e he => ⟨(hg e he).1, (hg e he).2.1⟩
    have hs := band_small hpo hed es.length
    rw [List.take_length] at hs
    exact ⟨by omega, band_calls (some ⟨g, 0, none⟩) q cg pl B ne ce es W hpo hrd h1 h2 hq8 hne hed hbe hle hce⟩))
  clear hne hB
  go_enter Try.func17, Try.ntmps17
  go_wp2_with fail
  refine HF.out.mono ?_
  intro e w1 h
  obtain ⟨a, b, c, rfl⟩ := h.tuple
  have H := Lib.hid h
  clear h
  go_wp2_with fail
  go_ret3
  exact H.out
set_option maxHeartbeats 2000000 in
theorem Cut_calls (n : Int) (B : Option Addr) (ne ce : Nat) (es : List (Int × Int)) (w : World) (hne : ne = es.length) (hB : RdE w B es) (hle : ne ≤ ce) (hce : ce ≤ 9223372036854775807) :
    Calls Try.prog 18 #[.int .i64 n, .slice B ne ce] w (FindR w n es (costC es)) := by
  have HF := Lib.hid (find_calls 39 (fun _ _ => rfl) (fun pl => cutF pl es) n B ne ce es w hne hB hle hce (by
    intro q hq1 hq8 h30 hg pl g cg W hpo hrd h1 h2 hbe
    have hed : EdOk q es := fun e he => ⟨(hg e he).1, (hg e he).2.1⟩
    refine ⟨⟨mostF_ge.1, mostF_le.2 ⟨by omega, fun x hx => by have := cuts_small pl es x hx; omega⟩⟩, cut_calls (some ⟨g, 0, none⟩) q cg pl B ne ce es W hpo hrd h1 h2 hq8 hq1 hne hed hbe hle hce (by omega)⟩))
  clear hne hB
  go_enter Try.func18, Try.ntmps18
  go_wp2_with fail
  refine HF.out.mono ?_
  intro e w1 h
  obtain ⟨a, b, c, rfl⟩ := h.tuple
  have H := Lib.hid h
  clear h
  go_wp2_with fail
  go_ret3
  exact H.out
set_option maxHeartbeats 2000000 in
theorem Arrange_calls (n : Int) (B : Option Addr) (ne ce : Nat) (es : List (Int × Int)) (w : World) (hne : ne = es.length) (hB : RdE w B es) (hle : ne ≤ ce) (hce : ce ≤ 9223372036854775807) :
    Calls Try.prog 19 #[.int .i64 n, .slice B ne ce] w (FindR w n es (costS es)) := by
  have HF := Lib.hid (find_calls 40 (fun _ _ => rfl) (fun pl => totalF pl es) n B ne ce es w hne hB hle hce (by
    intro q hq1 hq8 h30 hg pl g cg W hpo hrd h1 h2 hbe
    have hed : EdOk q es := fun e he => ⟨(hg e he).1, (hg e he).2.1⟩
    have hs := total_small hpo hed es.length (Nat.le_refl _)
    rw [List.take_length] at hs
    have hm : (q : Int) * es.length ≤ 8 * 30 := Int.mul_le_mul (by omega) (by omega) (by omega) (by omega)
    exact ⟨by omega, sum_calls (some ⟨g, 0, none⟩) q cg pl B ne ce es W hpo hrd h1 h2 hq8 hne hed hbe hle hce (by omega)⟩))
  clear hne hB
  go_enter Try.func19, Try.ntmps19
  go_wp2_with fail
  refine HF.out.mono ?_
  intro e w1 h
  obtain ⟨a, b, c, rfl⟩ := h.tuple
  have H := Lib.hid h
  clear h
  go_wp2_with fail
  go_ret3
  exact H.out

/-- What Cuts returns. -/
def CutsR (w0 : World) (n : Int) (es : List (Int × Int)) (o : List Int) (e : Ending) (w' : World) : Prop :=
  Below w0.heap.size w0 w' ∧
    if badO n es o ≠ 0 then e = .returned (.tuple #[.slice none 0 0, .int .i64 (badO n es o)]) else
      ∃ g, e = .returned (.tuple #[.slice (some ⟨g, 0, none⟩) (o.length - 1) (o.length - 1), .int .i64 0]) ∧ Arr w' w0.heap.size g (o.length - 1) (cutsF (posF o) es)
set_option maxHeartbeats 2000000 in
theorem Cuts_calls (n : Int) (B : Option Addr) (ne ce : Nat) (es : List (Int × Int)) (A : Option Addr) (m c : Nat) (xs : List Int) (w : World) (hne : ne = es.length) (hB : RdE w B es) (hle : ne ≤ ce) (hce : ce ≤ 9223372036854775807) (hm : m = xs.length) (hA : Rd w A xs) (hl : m ≤ c) (hc : c ≤ 9223372036854775807) :
    Calls Try.prog 31 #[.int .i64 n, .slice B ne ce, .slice A m c] w (CutsR w n es xs) := by
  have CR := Lib.hid (read_calls n B ne ce es A m c xs w hne hB hle hce hm hA hl hc)
  have HB := Lib.hid hB
  have HNE := Lib.hid hne
  clear hne hB hm hA
  rcases bad_ways n es xs with ⟨hb, q, rfl, hq, h30, hg, ho, hp, hck⟩ | ⟨hb, hr⟩
  · have HBD := Lib.hid hb
    have HPO := Lib.hid (pos_ok ho)
    have HG := Lib.hid hg
    have HCK := Lib.hid hck
    have HP := Lib.hid hp
    have HPL : Hid ((posF xs).length = q) := by show _ = _; rw [posF_len, ho.len]
    have HXL : Hid (xs.length = q) := ho.len
    have HED : Hid (EdOk q es) := fun e he => ⟨(HG.out e he).1, (HG.out e he).2.1⟩
    have hne30 : ne ≤ 100 := by have := HNE.out; omega
    clear hb hg ho hp hck
    go_enter Try.func31, Try.ntmps31
    go_wp2_with fail
    refine CR.out.mono ?_
    rintro e w1 ⟨hB1, h2⟩
    rw [HCK.out, HP.out, if_neg (by simp)] at h2
    obtain ⟨g, cg, rfl, hArr⟩ := h2
    have HAr := Lib.hid hArr
    have HB1 := Lib.hid hB1
    have hcg := hArr.bd
    rw [HPL.out] at hcg
    clear hB1 hArr
    rw [HPL.out]
    have HBE := Lib.hid (HB.out.below HB1.out)
    go_wp2_with fail
    refine (cuts_calls (some ⟨g, 0, none⟩) q cg (posF xs) B ne ce es w1 HPO.out HAr.out.rd hcg.1 hcg.2 hq.2 hq.1 HNE.out HED.out HBE.out hle hce hne30).mono ?_
    rintro e w2 ⟨g2, rfl, hA2, hB2⟩
    have HA2 := Lib.hid hA2
    have hsz := HB1.out.size
    have HB2 := Lib.hid (HB1.out.trans (hB2.mono hsz))
    have HSZ := Lib.hid hsz
    clear hB2 hA2 hsz
    go_wp2_with fail
    go_ret2
    refine ⟨HB2.out, ?_⟩
    rw [if_neg (by rw [HBD.out]; simp), HXL.out]
    exact ⟨g2, rfl, HA2.out.weaken HSZ.out⟩
  · have HBD := Lib.hid hb
    have HRR := Lib.hid (hr w)
    obtain ⟨bd, hbd⟩ : ∃ bd, bd = badO n es xs := ⟨_, rfl⟩
    rw [← hbd] at HRR hb
    have hb1 : (bd != 0) = true := by rw [bne_iff_ne]; exact hb
    have HBE := Lib.hid hbd
    clear hr hbd hb
    go_enter Try.func31, Try.ntmps31
    go_wp2_with fail
    refine CR.out.mono ?_
    intro e w1 h
    obtain ⟨rfl, hB1⟩ := HRR.out e w1 h
    have HB1 := Lib.hid hB1
    clear h hB1
    go_wp2_with fail
    go_ret2
    refine ⟨HB1.out, ?_⟩
    rw [if_pos HBD.out, ← HBE.out]
    rfl
end Go.Proofs.Ytlidnhmagleehaa
