/- What is proved: cut, Measure, Cuts. No condition beyond those in each statement. -/
import Derived.Test.YthnhmfmlhlpggaaI
import Derived.Test.YthnhmfmlhlpggaaPc
namespace Go.Proofs.Ythnhmfmlhlpggaa
open Go.RowKit
set_option maxRecDepth 100000

theorem most_take {l : List Int} {i : Nat} (hi : i < l.length) : mostF (l.take (i + 1)) = max (mostF (l.take i)) l[i] := by
  rw [List.take_succ_eq_append_getElem hi]; unfold mostF; rw [List.foldl_append]; rfl
def MostI (l : List Int) (k : Nat) (s q : Value) : Prop :=
  ∃ i : Nat, q = .int .i64 i ∧ i ≤ k ∧ s = .int .i64 (mostF (l.take i))

set_option maxHeartbeats 2000000 in
theorem cut_calls (A : Option Addr) (m c : Nat) (pl : List Int) (B : Option Addr) (ne ce : Nat) (es : List (Int × Int)) (w : World) (hp : PosOk m pl) (hA : Rd w A pl) (hl : m ≤ c) (hc : c ≤ 9223372036854775807) (hm8 : m ≤ 8) (hm1 : 1 ≤ m)
    (hne : ne = es.length) (he : EdOk m es) (hB : RdE w B es) (hle : ne ≤ ce) (hce : ce ≤ 9223372036854775807) (hn30 : ne ≤ 100) :
    Calls Try.prog 49 #[.slice A m c, .slice B ne ce] w fun e w' => e = .returned (.int .i64 (cutF pl es)) ∧ Below w.heap.size w w' := by
  have CC := Lib.hid (cuts_calls A m c pl B ne ce es w hp hA hl hc hm8 hm1 hne he hB hle hce hn30)
  have HL : Hid ((cutsF pl es).length = m - 1) := by show _ = _; rw [cutsF_len, hp.1]
  have HNE := Lib.hid hne
  clear hp hA he hB hne
  obtain ⟨k, hk⟩ : ∃ k, k = m - 1 := ⟨_, rfl⟩
  rw [← hk] at CC HL
  have hk8 : k ≤ 8 := by omega
  obtain ⟨xs, hxs⟩ : ∃ xs, xs = cutsF pl es := ⟨_, rfl⟩
  have hsm := cuts_small pl es
  rw [← hxs] at CC HL hsm
  have HSM := Lib.hid hsm
  have HR : Hid (cutF pl es = mostF xs) := by show _ = _; rw [hxs]; rfl
  clear hk hxs hsm
  go_enter Try.func49, Try.ntmps49
  go_wp2_with fail
  refine CC.out.mono ?_
  rintro e w1 ⟨g, rfl, hArr, hB⟩
  have HAr := Lib.hid hArr
  have HB := Lib.hid hB
  clear hArr hB
  go_wp2_with fail
  go_loop [5, 12] (MostI xs k) (fun _ q => k - (intOf q).toNat)
  case atStart => exact ⟨0, rfl, Nat.zero_le _, rfl⟩
  case round =>
    obtain ⟨i, rfl, hi, rfl⟩ := hrel
    by_cases hlt : i < k
    · have hil : i < xs.length := by have := HL.out; omega
      have d1 := HAr.out.at i hil
      have HT := Lib.hid (most_take hil)
      have hb1 := HSM.out _ (List.getElem_mem hil)
      obtain ⟨q, hq⟩ : ∃ q, q = xs[i] := ⟨_, rfl⟩
      obtain ⟨M, hM⟩ : ∃ M, M = mostF (xs.take i) := ⟨_, rfl⟩
      rw [← hq] at d1 HT hb1
      rw [← hM] at HT ⊢
      have hM2 : 0 ≤ M ∧ M ≤ 1000 := by
        have := HL.out
        rw [hM]
        exact ⟨mostF_ge.1, mostF_le.2 ⟨by omega, fun x hx => by have := HSM.out x (List.mem_of_mem_take hx); have := HNE.out; omega⟩⟩
      clear hq hM
      go_wp2_with fail
      all_goals
        go_round
        case rel => exact ⟨i + 1, by go_num, by omega, by rw [HT.out]; first | rfl | (congr 1; omega)⟩
        case measure => simp [intOf]; omega
    · have HF : Hid (mostF (xs.take i) = cutF pl es) := by show _ = _; rw [HR.out, List.take_of_length_le (by have := HL.out; omega)]
      go_wp2_with fail
      go_ret
      exact ⟨ret_int HF.out, HB.out⟩

/-- An order that reads well, a valid graph. -/
theorem edOk_of {n : Nat} {es : List (Int × Int)} (h : es.any (badE n) = false) : EdOk n es ∧ IsG n es := by
  have key : ∀ e ∈ es, (0 ≤ e.1 ∧ e.1 < n) ∧ (0 ≤ e.2 ∧ e.2 < n) ∧ e.1 ≠ e.2 := by
    intro e he
    rw [List.any_eq_false] at h
    have := h e he
    simp [badE] at this
    omega
  exact ⟨fun e he => ⟨(key e he).1, (key e he).2.1⟩, key⟩
theorem any_of_ok {n : Nat} {es : List (Int × Int)} (h : IsG n es) : es.any (badE n) = false := by
  rw [List.any_eq_false]
  intro e he
  have := h e he
  simp [badE]
  omega
theorem check_ok {n : Nat} {es : List (Int × Int)} (hn : 1 ≤ n ∧ n ≤ 8) (hl : es.length ≤ 30) (h : IsG n es) : checkF n es = 0 := by
  unfold checkF
  rw [if_neg (by omega), if_neg (by omega), any_of_ok h]; rfl
theorem pos_ok {n : Nat} {o : List Int} (h : IsOrd n o) : PosOk n (posF o) := ⟨by rw [posF_len, h.len], posF_mem h⟩

/-- How reading an order ends. -/
def badO (n : Int) (es : List (Int × Int)) (o : List Int) : Int := if checkF n es ≠ 0 then checkF n es else if (placesF n o).isNone then 2 else 0
theorem bad_ways (n : Int) (es : List (Int × Int)) (o : List Int) : (badO n es o = 0 ∧ ∃ q : Nat, n = q ∧ (1 ≤ q ∧ q ≤ 8) ∧ es.length ≤ 30 ∧ IsG q es ∧ IsOrd q o ∧ placesF q o = some (posF o) ∧ checkF q es = 0) ∨
    (badO n es o ≠ 0 ∧ ∀ w0 e w', ReadR w0 n es o e w' → e = .returned (.tuple #[.slice none 0 0, .int .i64 (badO n es o)]) ∧ Below w0.heap.size w0 w') := by
  rcases check_val n es with ⟨hv, h30, hn, hbad⟩ | hv
  · obtain ⟨q, rfl⟩ : ∃ q : Nat, n = q := ⟨n.toNat, by omega⟩
    by_cases ho : IsOrd q o
    · left
      have hp := places_ok ho
      refine ⟨?_, q, rfl, by omega, h30, (edOk_of hbad).2, ho, hp, hv⟩
      unfold badO
      rw [hv, if_neg (by simp), hp]; rfl
    · right
      have hp := places_no ho
      have hb : badO q es o = 2 := by unfold badO; rw [hv, if_neg (by simp), hp]; rfl
      rw [hb]
      refine ⟨by decide, fun w0 e w' h => ?_⟩
      obtain ⟨h1, h2⟩ := h
      rw [hv, if_neg (by simp), hp] at h2
      exact ⟨h2, h1⟩
  · right
    have h0 : checkF n es ≠ 0 := by omega
    have hb : badO n es o = checkF n es := by unfold badO; rw [if_pos h0]
    rw [hb]
    refine ⟨h0, fun w0 e w' h => ?_⟩
    obtain ⟨h1, h2⟩ := h
    rw [if_pos h0] at h2
    exact ⟨h2, h1⟩

/-- What Measure returns. -/
def MeasR (n : Int) (es : List (Int × Int)) (o : List Int) : Int × Int × Int × Int :=
  if badO n es o ≠ 0 then (0, 0, 0, badO n es o) else (bandF (posF o) es, cutF (posF o) es, totalF (posF o) es, 0)

set_option maxHeartbeats 2000000 in
theorem measure_calls (n : Int) (B : Option Addr) (ne ce : Nat) (es : List (Int × Int)) (A : Option Addr) (m c : Nat) (xs : List Int) (w : World) (hne : ne = es.length) (hB : RdE w B es) (hle : ne ≤ ce) (hce : ce ≤ 9223372036854775807) (hm : m = xs.length) (hA : Rd w A xs) (hl : m ≤ c) (hc : c ≤ 9223372036854775807) :
    Calls Try.prog 21 #[.int .i64 n, .slice B ne ce, .slice A m c] w fun e w' =>
      e = .returned (.tuple #[.int .i64 (MeasR n es xs).1, .int .i64 (MeasR n es xs).2.1, .int .i64 (MeasR n es xs).2.2.1, .int .i64 (MeasR n es xs).2.2.2]) ∧ Below w.heap.size w w' := by
  have CR := Lib.hid (read_calls n B ne ce es A m c xs w hne hB hle hce hm hA hl hc)
  have HB := Lib.hid hB
  have HNE := Lib.hid hne
  clear hne hB hm hA
  rcases bad_ways n es xs with ⟨hb, q, rfl, hq, h30, hg, ho, hp, hck⟩ | ⟨hb, hr⟩
  · have HMR : Hid (MeasR q es xs = (bandF (posF xs) es, cutF (posF xs) es, totalF (posF xs) es, 0)) := by show _ = _; unfold MeasR; rw [if_neg (by rw [hb]; simp)]
    have HPO := Lib.hid (pos_ok ho)
    have HG := Lib.hid hg
    have HCK := Lib.hid hck
    have HP := Lib.hid hp
    have hpl : (posF xs).length = q := by rw [posF_len, ho.len]
    have HPL := Lib.hid hpl
    have HED : Hid (EdOk q es) := fun e he => ⟨(HG.out e he).1, (HG.out e he).2.1⟩
    have hne30 : ne ≤ 100 := by have := HNE.out; omega
    clear hb hg ho hp hck hpl
    obtain ⟨pl, hpl⟩ : ∃ pl, pl = posF xs := ⟨_, rfl⟩
    rw [← hpl] at HMR HPO HP HPL
    clear hpl
    go_enter Try.func21, Try.ntmps21
    go_wp2_with fail
    refine CR.out.mono ?_
    rintro e w1 ⟨hB1, h2⟩
    rw [HCK.out, HP.out, if_neg (by simp)] at h2
    obtain ⟨g, cg, rfl, hArr⟩ := h2
    have HAr := Lib.hid hArr
    have HB1 := Lib.hid hB1
    have hcg := hArr.bd
    rw [HPL.out] at hcg
    clear hB1 hArr
    rw [HPL.out]
    have HRD := Lib.hid (HAr.out.rd)
    have HBE := Lib.hid (HB.out.below HB1.out)
    go_wp2_with fail
    refine (band_calls (some ⟨g, 0, none⟩) q cg pl B ne ce es w1 HPO.out HRD.out hcg.1 hcg.2 hq.2 HNE.out HED.out HBE.out hle hce).mono ?_
    rintro e w2 ⟨rfl, hB2⟩
    have HRD := Lib.hid (HRD.out.below hB2)
    have HBE := Lib.hid (HBE.out.below hB2)
    have HB1 := Lib.hid (HB1.out.trans (hB2.mono HB1.out.size))
    clear hB2
    go_wp2_with fail
    refine (cut_calls (some ⟨g, 0, none⟩) q cg pl B ne ce es w2 HPO.out HRD.out hcg.1 hcg.2 hq.2 hq.1 HNE.out HED.out HBE.out hle hce hne30).mono ?_
    rintro e w3 ⟨rfl, hB2⟩
    have HRD := Lib.hid (HRD.out.below hB2)
    have HBE := Lib.hid (HBE.out.below hB2)
    have HB1 := Lib.hid (HB1.out.trans (hB2.mono HB1.out.size))
    clear hB2
    go_wp2_with fail
    refine (sum_calls (some ⟨g, 0, none⟩) q cg pl B ne ce es w3 HPO.out HRD.out hcg.1 hcg.2 hq.2 HNE.out HED.out HBE.out hle hce hne30).mono ?_
    rintro e w4 ⟨rfl, hB2⟩
    have HB1 := Lib.hid (HB1.out.trans (hB2.mono HB1.out.size))
    clear hB2
    go_wp2_with fail
    exact bodyPost_ret (v := .tuple #[.int .i64 (bandF pl es), .int .i64 (cutF pl es), .int .i64 (totalF pl es), .int .i64 0]) (by simp [results, Try.results21, go_sem]) rfl ⟨by rw [HMR.out], HB1.out⟩
  · have HMR : Hid (MeasR n es xs = (0, 0, 0, badO n es xs)) := by show _ = _; unfold MeasR; rw [if_pos hb]
    have HRR := Lib.hid (hr w)
    obtain ⟨bd, hbd⟩ : ∃ bd, bd = badO n es xs := ⟨_, rfl⟩
    rw [← hbd] at HMR HRR hb
    have hb1 : (bd != 0) = true := by rw [bne_iff_ne]; exact hb
    clear hr hbd hb
    go_enter Try.func21, Try.ntmps21
    go_wp2_with fail
    refine CR.out.mono ?_
    intro e w1 h
    obtain ⟨rfl, hB1⟩ := HRR.out e w1 h
    have HB1 := Lib.hid hB1
    clear h hB1
    go_wp2_with fail
    exact bodyPost_ret (v := .tuple #[.int .i64 0, .int .i64 0, .int .i64 0, .int .i64 bd]) (by simp [results, Try.results21, go_sem]) rfl ⟨by rw [HMR.out], HB1.out⟩
end Go.Proofs.Ythnhmfmlhlpggaa
