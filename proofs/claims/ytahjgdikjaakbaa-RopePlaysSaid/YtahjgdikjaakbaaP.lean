/- What is proved: Deliver at a message. No condition beyond those in each statement. -/
import Derived.Test.YtahjgdikjaakbaaO
namespace Go.Proofs.Ytahjgdikjaakbaa
open Go.RowKit

theorem wpList_upd {P : Program} {w : World} {ops : Array Oper} {rest : List Oper} {o : Oper} {a : Act} {Q : Exit → Act → World → Prop}
    (hg : o.guard = none) (m k v : Operand) (t : TypeId) (hop : o.op = Op.mapUpdate t m k v)
    (v1 v2 v3 : Value) (h1 : a.eval m = v1) (h2 : a.eval k = v2) (h3 : a.eval v = v3) {w' : World} (hrun : (Instr.mapUpdate t v1 v2 v3).run P w = .ok () w')
    (hK : wpList P ops Q rest (a.put o.dst undef) w') : wpList P ops Q (o :: rest) a w := by
  refine wpList_plain hg fun K hK' => ?_
  unfold Oper.wp
  simp [execOp, hop, h1, h2, h3, hrun, Result.andThen]
  exact hK' _ _ hK
theorem wpStill_lookup {P : Program} {w : World} {ops : Array Oper} {rest : List Oper} {o : Oper} {a : Act} {Q : Act → Prop}
    (hg : o.guard = none) (m x : Operand) (t : TypeId) (hop : o.op = Op.lookup t m x false)
    (v1 v2 : Value) (h1 : a.eval m = v1) (h2 : a.eval x = v2) {V : Value} (hrun : (Instr.lookup t v1 v2 false).run P w = .ok V w)
    (hK : wpStill P ops w Q rest (a.put o.dst V)) : wpStill P ops w Q (o :: rest) a := by
  refine wpStill_step fun K hK' => ?_
  rw [if_pos (by simp [Region.wanted, hg])]
  unfold Oper.still
  simp [execOp, hop, h1, h2, hrun, Result.andThen, Oper.stillUpon]
  exact hK' _ hK
theorem ta88 (v : Value) (w : World) : (Instr.typeAssert (.iface 88 v) 70 88 true).run Try.prog w = .ok (.tuple #[v, .bool true]) w := by kernel_rfl
theorem ta61 (v : Value) (w : World) : (Instr.typeAssert (.iface 61 v) 70 61 true).run Try.prog w = .ok (.tuple #[v, .bool true]) w := by kernel_rfl
theorem ta61no (v : Value) (w : World) : (Instr.typeAssert (.iface 61 v) 70 88 true).run Try.prog w = .ok (.tuple #[.agg #[.int .i64 0], .bool false]) w := by kernel_rfl
theorem ta88no (v : Value) (w : World) : (Instr.typeAssert (.iface 88 v) 70 61 true).run Try.prog w = .ok (.tuple #[.agg #[.slice none 0 0, .slice none 0 0], .bool false]) w := by kernel_rfl
theorem low_upd {w w' : World} {T i j : Nat} {s : LS} {v : Value} {xs : List Value} (h : Low w T s) (hi : i < s.n) (hj : j < s.n) (hm : FlAt w' s.M s.n (upd s.F i j v)) (hg : w.grownBy w' (some s.M)) (hs : Sl1 w 70 v xs) (ho : v.ownBlock = (s.F i j).ownBlock) : Mv T s w (putF s i j v xs s.sent) w' := by
  have hr : ∀ y g, blk T s y = some g → y ≠ .M → w'.heap[g]? = w.heap[g]? := fun y g hy hne => hg.block g (h.lt y g hy) (fun e => hne (h.inj y .M g hy (by rw [e]; rfl)))
  have bF : ∀ g, (s.F i j).ownBlock = some g → blk T s (.F i j) = some g := fun g hg => (if_pos (And.intro hi hj)).trans hg
  have hb : blk T (putF s i j v xs s.sent) = blk T s := by
    funext x
    by_cases hx : x = .F i j
    · subst hx
      show (if i < s.n ∧ j < s.n then (upd s.F i j v i j).ownBlock else none) = if i < s.n ∧ j < s.n then (s.F i j).ownBlock else none
      rw [upd_same, ho]
    · exact blk_putF T s i j v xs _ x hx
  refine mv_same ⟨(hr .T T rfl (by simp)).trans h.hT, h.hn, ?_, h.hrc, h.lm, h.lk, h.lki, ?_, ?_, ?_, hm, ?_, ?_⟩ ?_ hb
  · obtain ⟨cur, h1, h2⟩ := h.hR
    exact ⟨cur, (hr .R s.R rfl (by simp)).trans h1, h2⟩
  · exact fun a ha => (h.hK a ha).same (hr (.K a) _ (if_pos ha) (by simp))
  · exact h.hS.same fun g hg => hr .S g hg (by simp)
  · exact h.hQ.same fun g hg => hr .Q g hg (by simp)
  · intro a b ha hb
    show Sl1 _ 70 (upd s.F i j v a b) (updM s.ms i j xs a b)
    by_cases e : a = i ∧ b = j
    · obtain ⟨rfl, rfl⟩ := e
      rw [upd_same, updM_same]
      exact hs.same fun g hg => hr (.F a b) g (bF g (by rw [← ho]; exact hg)) (by simp)
    · rw [upd_other e, updM_other e]
      exact (h.hF a b ha hb).same fun g hg => hr (.F a b) g ((if_pos (And.intro ha hb)).trans hg) (by simp)
  · rw [hb]
    exact h.inj
  · exact (Off.refl _ _).grown hg (fun k hk => by cases hk; exact .inl ⟨.M, rfl⟩)
theorem update_low {w : World} {T i j : Nat} {s : LS} {v : Value} {xs : List Value} (h : Low w T s) (hi : i < s.n) (hj : j < s.n) (hs : Sl1 w 70 v xs) (ho : v.ownBlock = (s.F i j).ownBlock) :
    ∃ w', (Instr.mapUpdate 62 (.map (some s.M)) (.agg #[.int .i64 i, .int .i64 j]) v).run Try.prog w = .ok () w' ∧ Mv T s w (putF s i j v xs s.sent) w' := by
  have hn := h.hn
  obtain ⟨w', h1, h2, h3⟩ := fl_update (k := 68) (e := 67) (t := 62) law68 Try.underlying62 (fun a b ha hb => keysOk6 a b (by omega) (by omega)) h.hM hi hj v
  exact ⟨w', h1, low_upd h hi hj h2 h3 hs ho⟩
def popV (g off cap n : Nat) : Value := .slice (some ⟨g, if cap = 1 then off else off + 1, none⟩) n (cap - 1)
theorem pop_low {w : World} {T i j : Nat} {s : LS} {g off cap : Nat} {x : Value} {xs : List Value} (h : Low w T s) (hi : i < s.n) (hj : j < s.n) (hF : s.F i j = .slice (some ⟨g, off, none⟩) (xs.length + 1) cap) (hr : Row w 70 g off cap (x :: xs)) :
    ∃ w', (Instr.mapUpdate 62 (.map (some s.M)) (.agg #[.int .i64 i, .int .i64 j]) (popV g off cap xs.length)).run Try.prog w = .ok () w' ∧ Mv T s w (putF s i j (popV g off cap xs.length) xs s.sent) w' :=
  update_low h hi hj (.inr ⟨g, _, _, rfl, row_pop hr⟩) (by rw [hF]; rfl)
/-- What a slot of the map is where a first message lies. -/
theorem first_low {w : World} {T i j : Nat} {s : LS} {x : Value} {xs : List Value} (h : Low w T s) (hi : i < s.n) (hj : j < s.n) (h0 : s.ms i j = x :: xs) : ∃ g off cap, s.F i j = .slice (some ⟨g, off, none⟩) (xs.length + 1) cap ∧ Row w 70 g off cap (x :: xs) ∧ w.cell? ⟨g, off, none⟩ = some x ∧ xs.length + 1 ≤ cap ∧ cap ≤ 9223372036854775807 := by
  have := h.hF i j hi hj
  rw [h0] at this
  rcases this with ⟨_, e⟩ | ⟨g, off, cap, e, hr⟩
  · cases e
  · refine ⟨g, off, cap, e, hr, ?_, ?_⟩
    · have := hr.at 0 (by simp)
      rw [Nat.add_zero] at this
      rw [this]
      rfl
    · obtain ⟨_, _, h1, h2, _⟩ := hr
      exact ⟨h1, by simpa [maxLen] using h2⟩
/-- What a request leaves. -/
def reqK (s : LS) (i j : Nat) (no : Int) : Int := max ((s.known.getD j []).getD i 0) no
def reqC (s : LS) (i j : Nat) (no : Int) : Prop := s.holder = j ∧ s.mood.getD j 0 = 0 ∧ reqK s i j no = s.served.getD i 0 + 1
def reqS (s : LS) (i j : Nat) (no : Int) (V : Value) (xs : List Value) : LS := setK (putF s i j V xs s.sent) j i (reqK s i j no)
set_option maxHeartbeats 8000000 in
theorem deliver_req {w : World} {T i j : Nat} {s : LS} (no : Int) (xs : List Value) (h : Low w T s) (hi : i < s.n) (hj : j < s.n) (hij : i ≠ j) (h0 : s.ms i j = reqV no :: xs)
    (hho : s.holder = j → s.c2 = s.tsv ∧ s.served.length = s.n) (hsv : 0 ≤ s.served.getD i 0 ∧ s.served.getD i 0 ≤ 100000) (hl : (s.ms j i).length ≤ 90000) (hs : 0 ≤ s.sent ∧ s.sent ≤ 100000) :
    Calls Try.prog 37 #[.pointer (some ⟨T, 0, none⟩), .int .i64 i, .int .i64 j] w fun e w' => e = .returned (.int .i64 0) ∧ ∃ V, ((reqC s i j no ∧ ∃ fv, Mv T s w (gave (reqS s i j no V xs) j i fv) w') ∨ (¬ reqC s i j no ∧ Mv T s w (reqS s i j no V xs) w')) := by
  have C1 := Lib.hid (made_calls h)
  obtain ⟨W, hW⟩ : ∃ W, W = w.alloc (.cells #[.int .i64 i, .int .i64 j] 68) := ⟨_, rfl⟩
  have m : Mv T s w s W := by rw [hW]; exact (Mv.refl h).alloc _
  obtain ⟨N, hN⟩ : ∃ N, N = w.heap.size := ⟨_, rfl⟩
  have y0 : W.cell? ⟨N, 0, none⟩ = some (.int .i64 i) := by rw [hW, hN]; exact World.cell?_alloc_at _ _ _ _ rfl
  have y1 : W.cell? ⟨N, 1, none⟩ = some (.int .i64 j) := by rw [hW, hN]; exact World.cell?_alloc_at _ _ _ _ rfl
  have c4 : W.cell? ⟨T, 4, none⟩ = some (.map (some s.M)) := m.low.cells.2.2.2.2.1
  have hne : (i : Int) ≠ j := by omega
  obtain ⟨g, off, cap, hF, hr, hx, hcap, hcm⟩ := first_low m.low hi hj h0
  have lk : ∀ q, (Instr.lookup 62 (.map (some s.M)) (.agg #[.int .i64 i, .int .i64 j]) false).run Try.prog (W.drewN q) = .ok (.slice (some ⟨g, off, none⟩) (xs.length + 1) cap) (W.drewN q) := by
    intro q
    rw [← hF]
    exact lookup_low (m.low.drewN q) hi hj
  have HFF := Lib.hid hF
  have HRR := Lib.hid hr
  have HM := Lib.hid m
  have HW := Lib.hid hW
  have HNN := Lib.hid hN
  have CA := Lib.hid (there_in m.low hi)
  have CB := Lib.hid (there_in m.low hj)
  have z3 : (0 : Int) ≤ 1 ∧ (1 : Int) ≤ xs.length + 1 ∧ (xs.length : Int) + 1 ≤ cap := by omega
  have zj : (0 : Int) ≤ (j : Int) ∧ (j : Int) < s.n := by omega
  have H := Lib.hid h
  obtain ⟨V, hV⟩ : ∃ V, V = popV g off cap xs.length := ⟨_, rfl⟩
  obtain ⟨L, hL⟩ : ∃ L, L = xs.length := ⟨_, rfl⟩
  rw [← hL] at lk hcap z3 hV
  have HL := Lib.hid hL
  have HVV := Lib.hid hV
  have hcase : (cap = 1 ∧ L = 0 ∧ V = .slice (some ⟨g, off, none⟩) 0 0) ∨ (¬ cap = 1 ∧ V = .slice (some ⟨g, off + 1, none⟩) L (cap - 1)) := by
    by_cases e : cap = 1
    · have e2 : L = 0 := by omega
      subst e e2
      exact .inl ⟨rfl, rfl, by rw [hV]; rfl⟩
    · exact .inr ⟨e, by rw [hV]; unfold popV; rw [if_neg e]⟩
  unfold reqV at hx h0
  have T88 := ta88
  obtain ⟨S2, hS2⟩ : ∃ S, S = reqS s i j no V xs := ⟨_, rfl⟩
  have HS2 := Lib.hid hS2
  have hN2 : S2.n = s.n := by rw [hS2]; rfl
  have HN2 := Lib.hid hN2
  have HSV := Lib.hid hsv
  have HHO := Lib.hid hho
  have HSS := Lib.hid hs
  have HLL := Lib.hid hl
  clear h hW m hN hF hr h0 hV hL hS2 hN2 hho hsv hl hs
  obtain ⟨hd, hhd⟩ : ∃ x, x = s.holder := ⟨_, rfl⟩
  obtain ⟨md, hmd⟩ : ∃ x, x = s.mood.getD j 0 := ⟨_, rfl⟩
  have HHD := Lib.hid hhd
  have HMD := Lib.hid hmd
  clear hhd hmd
  rcases hcase with ⟨rfl, rfl, hVL⟩ | ⟨hc1, hVL⟩
  all_goals
    have HVL := Lib.hid hVL
    clear hVL
    go_enter Try.func37, Try.ntmps37
    go_wp2_with fail
    refine C1.out.mono ?_
    rintro e w1 ⟨rfl, rfl⟩
    go_wp2_with fail
    have hW := HW.out
    have hN := HNN.out
    rw [← hW, ← hN]
    clear hW hN
    refine CA.out.mono ?_
    rintro e w1 ⟨rfl, rfl⟩
    go_wp2_with fail
    refine CB.out.mono ?_
    rintro e w1 ⟨rfl, rfl⟩
    go_wp2_with fail
    go_quiet (fail)
    obtain ⟨nq1, hq1⟩ : ∃ q, q = nq := ⟨_, rfl⟩
    rw [← hq1]
    clear hq1
    go_wp2_with fail
    go_quiet (fail)
    go_wp2_with fail
    obtain ⟨W2, hW2⟩ : ∃ W2, W2 = (W.drewN nq1).drewN nq := ⟨_, rfl⟩
    have hM2 : Mv T s w s W2 := by rw [hW2]; exact (HM.out.drewN _).drewN _
    have c42 : W2.cell? ⟨T, 4, none⟩ = some (.map (some s.M)) := by rw [hW2]; exact c4
    have y02 : W2.cell? ⟨N, 0, none⟩ = some (.int .i64 i) := by rw [hW2]; exact y0
    have y12 : W2.cell? ⟨N, 1, none⟩ = some (.int .i64 j) := by rw [hW2]; exact y1
    have hF := HFF.out
    have hRow := HRR.out
    have HLK : Hid ((Instr.lookup 62 (.map (some s.M)) (.agg #[.int .i64 i, .int .i64 j]) false).run Try.prog W2.drew = .ok (s.F i j) W2.drew) := lookup_low (hM2.low.drewN 1) hi hj
    obtain ⟨w3, hrun, m3⟩ := pop_low (w := W2.drew) (hM2.low.drewN 1) hi hj hF (hRow.same (by rw [hW2]; rfl))
    have m4 : Mv T s w (putF s i j (popV g off _ xs.length) xs s.sent) w3 := (hM2.drewN 1).trans m3
    have hl := HL.out
    rw [hF, ← hl] at HLK
    rw [← hl, ← HVV.out] at hrun m4
    have HRUN := Lib.hid hrun
    have HM4 := Lib.hid m4
    rw [← hW2]
    clear hW2 c4 y0 y1 lk hx hF hRow hrun m3 m4 hl hM2
    go_still_tail 12, (by kernel_rfl)
    refine wpStill_lookup rfl (.tmp 59) (.tmp 60) 62 rfl _ _ rfl rfl HLK.out ?_
    still_step
    refine wpStill_nil ?_
    change wpList _ _ _ _ _ W2.drew
    refine wpList_upd rfl (.tmp 54) (.tmp 55) (.tmp 62) 62 rfl _ _ V rfl rfl HVL.out.symm HRUN.out ?_
    obtain ⟨S1, hS1⟩ : ∃ S, S = putF s i j V xs s.sent := ⟨_, rfl⟩
    have m4 := HM4.out
    rw [← hS1] at m4
    have e0 : w3.cell? ⟨T, 0, none⟩ = some (.slice (some ⟨s.R, 0, none⟩) s.n s.rc) := by
      have := m4.low.cells.1
      rw [hS1] at this
      exact this
    clear HRUN HM4
    have HS1 := Lib.hid hS1
    obtain ⟨W4, hW4⟩ : ∃ W, W = w3.alloc (.cells #[.int .i64 no] 88) := ⟨_, rfl⟩
    have m5 : Mv T s w S1 W4 := by rw [hW4]; exact m4.alloc _
    obtain ⟨N4, hN4⟩ : ∃ N, N = w3.heap.size := ⟨_, rfl⟩
    have y4 : W4.cell? ⟨N4, 0, none⟩ = some (.int .i64 no) := by rw [hW4, hN4]; exact World.cell?_alloc_at _ _ _ _ rfl
    have CL : Hid (Calls Try.prog 50 #[.pointer (some ⟨s.R, j * 2, none⟩), .int .i64 i, .int .i64 no] W4.drew fun e w' => e = .returned (.tuple #[]) ∧ Mv T s w (reqS s i j no V xs) w') := by
      have h6 := (m5.drewN 1).low
      rw [hS1] at h6
      refine (learn_mv h6 (i := j) (j := i) hj hi no).mono ?_
      rintro e w' ⟨he, m6⟩
      refine ⟨he, ?_⟩
      have m7 := m5.drewN 1
      rw [hS1] at m7
      exact m7.trans m6
    have HW4 := Lib.hid hW4
    have HN4 := Lib.hid hN4
    clear hS1 m4 hW4 m5 hN4 HS1 c42 y02 y12 HLK
    go_wp2_with fail
    have hW4 := HW4.out
    have hN4 := HN4.out
    rw [← hW4, ← hN4]
    clear hW4 hN4
    go_still_tail 6, (by kernel_rfl)
    change wpList _ _ _ _ _ W4.drew
    go_wp2_with fail
    refine CL.out.mono ?_
    rintro e w5 ⟨rfl, m6⟩
    have e2 := HS2.out
    rw [← e2] at m6
    have g1 : w5.cell? ⟨T, 1, none⟩ = some (.int .i64 hd) := by
      have := m6.low.cells.2.1
      rw [e2] at this
      rw [HHD.out]
      exact this
    have g2 : w5.cell? ⟨s.R, j * 2 + 1, none⟩ = some (.int .i64 md) := by
      have := (m6.low.cR (i := j) (by rw [HN2.out]; exact hj)).2
      rw [e2] at this
      rw [HMD.out]
      exact this
    have HM6 := Lib.hid m6
    clear m6 e2 CL HW4 HN4 y4 e0
    by_cases h1 : hd = j
    · subst h1
      by_cases h2 : md = 0
      · subst h2
        have hho := HHO.out HHD.out.symm
        have hn2 := HN2.out
        have hst : S2.served = s.served := by rw [HS2.out]; rfl
        have CK : Hid (Calls Try.prog 54 #[.pointer (some ⟨T, 0, none⟩), .int .i64 i, .int .i64 j] w5 fun e w' => e = .returned (.bool (decide (reqK s i j no = s.served.getD i 0 + 1))) ∧ Mv T s w S2 w') := by
          refine (asks_mv HM6.out.low (i := i) (b := j) (by rw [hn2]; exact hi) (by rw [hn2]; exact hj) (by rw [HS2.out]; exact hho.1) (by rw [hst, hn2]; exact hho.2) (by rw [hst]; exact HSV.out)).mono ?_
          rintro e w' ⟨he, hm⟩
          refine ⟨?_, HM6.out.trans hm⟩
          rw [he, hst]
          have hk : (S2.known.getD j []).getD i 0 = reqK s i j no := by
            rw [HS2.out]
            show ((s.known.set j ((s.known.getD j []).set i (reqK s i j no))).getD j []).getD i 0 = reqK s i j no
            have h1 := H.out.lk
            have h2 := H.out.lki j hj
            rw [getD_set_same _ _ _ _ (by omega), getD_set_same _ _ _ _ (by omega)]
          rw [hk]
        clear hho hn2 hst
        by_cases h3 : reqK s i j no = s.served.getD i 0 + 1
        · rw [decide_eq_true h3] at CK
          have HC : Hid (reqC s i j no) := ⟨HHD.out.symm, HMD.out.symm, h3⟩
          clear h3
          go_wp2_with fail
          refine CK.out.mono ?_
          rintro e w6 ⟨rfl, m7⟩
          have CG : Hid (Calls Try.prog 56 #[.pointer (some ⟨T, 0, none⟩), .int .i64 i] w6 fun e w' => e = .returned (.tuple #[]) ∧ ∃ fv, Mv T s w (gave S2 j i fv) w') := by
            have hms : S2.ms j i = s.ms j i := by
              rw [HS2.out]
              show updM s.ms i j xs j i = s.ms j i
              exact updM_other (by omega)
            have hse : S2.sent = s.sent := by rw [HS2.out]; rfl
            refine (give_mv m7.low j i (by rw [HS2.out]; exact HHD.out.symm) (by rw [HN2.out]; exact hj) (by rw [HN2.out]; exact hi) (by rw [hms]; have := HLL.out; omega) (by rw [hse]; have := HSS.out; omega)).mono ?_
            rintro e w' ⟨he, fv, m8⟩
            exact ⟨he, fv, m7.trans m8⟩
          clear m7 CK HM6 g1 g2
          go_wp2_with fail
          refine CG.out.mono ?_
          rintro e w7 ⟨rfl, fv, m8⟩
          have HM8 := Lib.hid m8
          clear m8 CG
          go_wp2_with fail
          go_ret
          exact ⟨rfl, V, .inl ⟨HC.out, fv, by rw [← HS2.out]; exact HM8.out⟩⟩
        · rw [decide_eq_false h3] at CK
          have HC : Hid (¬ reqC s i j no) := fun h => h3 h.2.2
          clear h3
          go_wp2_with fail
          refine CK.out.mono ?_
          rintro e w6 ⟨rfl, m7⟩
          have HM7 := Lib.hid m7
          clear m7 CK HM6 g1 g2
          go_wp2_with fail
          go_ret
          exact ⟨rfl, V, .inr ⟨HC.out, by rw [← HS2.out]; exact HM7.out⟩⟩
      · have HC : Hid (¬ reqC s i j no) := fun h => h2 (HMD.out.trans h.2.1)
        go_wp2_with fail
        go_ret
        exact ⟨rfl, V, .inr ⟨HC.out, by rw [← HS2.out]; exact HM6.out⟩⟩
    · have HC : Hid (¬ reqC s i j no) := fun h => h1 (HHD.out.trans h.1)
      go_wp2_with fail
      go_ret
      exact ⟨rfl, V, .inr ⟨HC.out, by rw [← HS2.out]; exact HM6.out⟩⟩
theorem Sl1.form {w : World} {e : TypeId} {v : Value} {xs : List Value} (h : Sl1 w e v xs) : ∃ p l c, v = Value.slice p l c := by
  rcases h with ⟨rfl, _⟩ | ⟨g, off, c, rfl, _⟩
  · exact ⟨_, _, _, rfl⟩
  · exact ⟨_, _, _, rfl⟩
def tokV (a b : Value) : Value := .iface 61 (.agg #[a, b])
def tokS (s : LS) (i j : Nat) (V : Value) (xs : List Value) : LS := setMd (setC (setH (putF s i j V xs s.sent) j) s.tsv s.tqv) j 2
set_option maxHeartbeats 8000000 in
theorem deliver_tok {w : World} {T i j : Nat} {s : LS} (xs : List Value) (h : Low w T s) (hi : i < s.n) (hj : j < s.n) (hij : i ≠ j) (h0 : s.ms i j = tokV s.tsv s.tqv :: xs) :
    Calls Try.prog 37 #[.pointer (some ⟨T, 0, none⟩), .int .i64 i, .int .i64 j] w fun e w' => e = .returned (.int .i64 0) ∧ ∃ V, Mv T s w (tokS s i j V xs) w' := by
  have C1 := Lib.hid (made_calls h)
  obtain ⟨W, hW⟩ : ∃ W, W = w.alloc (.cells #[.int .i64 i, .int .i64 j] 68) := ⟨_, rfl⟩
  have m : Mv T s w s W := by rw [hW]; exact (Mv.refl h).alloc _
  obtain ⟨N, hN⟩ : ∃ N, N = w.heap.size := ⟨_, rfl⟩
  have y0 : W.cell? ⟨N, 0, none⟩ = some (.int .i64 i) := by rw [hW, hN]; exact World.cell?_alloc_at _ _ _ _ rfl
  have y1 : W.cell? ⟨N, 1, none⟩ = some (.int .i64 j) := by rw [hW, hN]; exact World.cell?_alloc_at _ _ _ _ rfl
  have c4 : W.cell? ⟨T, 4, none⟩ = some (.map (some s.M)) := m.low.cells.2.2.2.2.1
  have hne : (i : Int) ≠ j := by omega
  obtain ⟨g, off, cap, hF, hr, hx, hcap, hcm⟩ := first_low m.low hi hj h0
  have lk : ∀ q, (Instr.lookup 62 (.map (some s.M)) (.agg #[.int .i64 i, .int .i64 j]) false).run Try.prog (W.drewN q) = .ok (.slice (some ⟨g, off, none⟩) (xs.length + 1) cap) (W.drewN q) := by
    intro q
    rw [← hF]
    exact lookup_low (m.low.drewN q) hi hj
  have HFF := Lib.hid hF
  have HRR := Lib.hid hr
  have HM := Lib.hid m
  have HW := Lib.hid hW
  have HNN := Lib.hid hN
  have CA := Lib.hid (there_in m.low hi)
  have CB := Lib.hid (there_in m.low hj)
  have z3 : (0 : Int) ≤ 1 ∧ (1 : Int) ≤ xs.length + 1 ∧ (xs.length : Int) + 1 ≤ cap := by omega
  have zj : (0 : Int) ≤ (j : Int) ∧ (j : Int) < s.n := by omega
  have H := Lib.hid h
  obtain ⟨V, hV⟩ : ∃ V, V = popV g off cap xs.length := ⟨_, rfl⟩
  obtain ⟨L, hL⟩ : ∃ L, L = xs.length := ⟨_, rfl⟩
  rw [← hL] at lk hcap z3 hV
  have HL := Lib.hid hL
  have HVV := Lib.hid hV
  have hcase : (cap = 1 ∧ L = 0 ∧ V = .slice (some ⟨g, off, none⟩) 0 0) ∨ (¬ cap = 1 ∧ V = .slice (some ⟨g, off + 1, none⟩) L (cap - 1)) := by
    by_cases e : cap = 1
    · have e2 : L = 0 := by omega
      subst e e2
      exact .inl ⟨rfl, rfl, by rw [hV]; rfl⟩
    · exact .inr ⟨e, by rw [hV]; unfold popV; rw [if_neg e]⟩
  unfold tokV at hx h0
  have T61n := ta61no
  have T61 := ta61
  obtain ⟨p1, l1, k1, ht1⟩ := h.hS.form
  obtain ⟨p2, l2, k2, ht2⟩ := h.hQ.form
  rw [ht1, ht2] at hx
  have HT1 := Lib.hid ht1
  have HT2 := Lib.hid ht2
  clear h hW m hN hF hr h0 hV hL ht1 ht2
  rcases hcase with ⟨rfl, rfl, hVL⟩ | ⟨hc1, hVL⟩
  all_goals
    have HVL := Lib.hid hVL
    clear hVL
    go_enter Try.func37, Try.ntmps37
    go_wp2_with fail
    refine C1.out.mono ?_
    rintro e w1 ⟨rfl, rfl⟩
    go_wp2_with fail
    have hW := HW.out
    have hN := HNN.out
    rw [← hW, ← hN]
    clear hW hN
    refine CA.out.mono ?_
    rintro e w1 ⟨rfl, rfl⟩
    go_wp2_with fail
    refine CB.out.mono ?_
    rintro e w1 ⟨rfl, rfl⟩
    go_wp2_with fail
    go_quiet (fail)
    obtain ⟨nq1, hq1⟩ : ∃ q, q = nq := ⟨_, rfl⟩
    rw [← hq1]
    clear hq1
    go_wp2_with fail
    go_quiet (fail)
    go_wp2_with fail
    obtain ⟨W2, hW2⟩ : ∃ W2, W2 = (W.drewN nq1).drewN nq := ⟨_, rfl⟩
    have hM2 : Mv T s w s W2 := by rw [hW2]; exact (HM.out.drewN _).drewN _
    have c42 : W2.cell? ⟨T, 4, none⟩ = some (.map (some s.M)) := by rw [hW2]; exact c4
    have y02 : W2.cell? ⟨N, 0, none⟩ = some (.int .i64 i) := by rw [hW2]; exact y0
    have y12 : W2.cell? ⟨N, 1, none⟩ = some (.int .i64 j) := by rw [hW2]; exact y1
    have hF := HFF.out
    have hRow := HRR.out
    have HLK : Hid ((Instr.lookup 62 (.map (some s.M)) (.agg #[.int .i64 i, .int .i64 j]) false).run Try.prog W2.drew = .ok (s.F i j) W2.drew) := lookup_low (hM2.low.drewN 1) hi hj
    obtain ⟨w3, hrun, m3⟩ := pop_low (w := W2.drew) (hM2.low.drewN 1) hi hj hF (hRow.same (by rw [hW2]; rfl))
    have m4 : Mv T s w (putF s i j (popV g off _ xs.length) xs s.sent) w3 := (hM2.drewN 1).trans m3
    have hl := HL.out
    rw [hF, ← hl] at HLK
    rw [← hl, ← HVV.out] at hrun m4
    have HRUN := Lib.hid hrun
    have HM4 := Lib.hid m4
    rw [← hW2]
    clear hW2 c4 y0 y1 lk hx hF hRow hrun m3 m4 hl hM2
    go_still_tail 12, (by kernel_rfl)
    refine wpStill_lookup rfl (.tmp 59) (.tmp 60) 62 rfl _ _ rfl rfl HLK.out ?_
    still_step
    refine wpStill_nil ?_
    change wpList _ _ _ _ _ W2.drew
    refine wpList_upd rfl (.tmp 54) (.tmp 55) (.tmp 62) 62 rfl _ _ V rfl rfl HVL.out.symm HRUN.out ?_
    obtain ⟨S1, hS1⟩ : ∃ S, S = putF s i j V xs s.sent := ⟨_, rfl⟩
    have m4 := HM4.out
    rw [← hS1] at m4
    have e0 : w3.cell? ⟨T, 0, none⟩ = some (.slice (some ⟨s.R, 0, none⟩) s.n s.rc) := by
      have := m4.low.cells.1
      rw [hS1] at this
      exact this
    clear HRUN HM4
    have HS1 := Lib.hid hS1
    obtain ⟨W4, hW4⟩ : ∃ W, W = w3.alloc (.cells #[.slice p1 l1 k1, .slice p2 l2 k2] 61) := ⟨_, rfl⟩
    have m5 : Mv T s w S1 W4 := by rw [hW4]; exact m4.alloc _
    obtain ⟨N4, hN4⟩ : ∃ N, N = w3.heap.size := ⟨_, rfl⟩
    have y4 : W4.cell? ⟨N4, 0, none⟩ = some (.slice p1 l1 k1) := by rw [hW4, hN4]; exact World.cell?_alloc_at _ _ _ _ rfl
    have y5 : W4.cell? ⟨N4, 1, none⟩ = some (.slice p2 l2 k2) := by rw [hW4, hN4]; exact World.cell?_alloc_at _ _ _ _ rfl
    have hTN : T ≠ N4 := by
      have : T < w3.heap.size := m4.low.lt .T T rfl
      omega
    obtain ⟨_, c1, c2, c3, _, _⟩ := m5.low.cells
    obtain ⟨o1, ho1⟩ : ∃ o, o = S1.holder := ⟨_, rfl⟩
    obtain ⟨o2, ho2⟩ : ∃ o, o = S1.c2 := ⟨_, rfl⟩
    obtain ⟨o3, ho3⟩ : ∃ o, o = S1.c3 := ⟨_, rfl⟩
    rw [← ho1] at c1
    rw [← ho2] at c2
    rw [← ho3] at c3
    have f1 := m5.low.fT 1
    have f2 := m5.low.fT 2
    have f3 := m5.low.fT 3
    have HM5 := Lib.hid m5
    have HW4 := Lib.hid hW4
    have HN4 := Lib.hid hN4
    clear hS1 m4 hW4 m5 hN4 c42 y02 y12 HLK ho1 ho2 ho3
    go_wp2_with fail
    have hW4 := HW4.out
    have hN4 := HN4.out
    rw [← hW4, ← hN4]
    clear hW4 hN4
    go_region
    obtain ⟨W5, hW5⟩ : ∃ W5, W5 = (((W4.setCell ⟨T, 1, none⟩ (.int .i64 j)).setCell ⟨T, 2, none⟩ (.slice p1 l1 k1)).setCell ⟨T, 3, none⟩ (.slice p2 l2 k2)).drew := ⟨_, rfl⟩
    obtain ⟨S5, hS5⟩ : ∃ S, S = setC (setH S1 j) s.tsv s.tqv := ⟨_, rfl⟩
    have m5 := HM5.out
    have m6 : Mv T s w S5 W5 := by
      rw [hW5, hS5, HT1.out, HT2.out]
      have h6 : Low (((W4.setCell ⟨T, 1, none⟩ (.int .i64 j)).setCell ⟨T, 2, none⟩ (.slice p1 l1 k1)).setCell ⟨T, 3, none⟩ (.slice p2 l2 k2)) T (setC (setH S1 j) (.slice p1 l1 k1) (.slice p2 l2 k2)) := (m5.low.setH j).setC _ _
      refine ⟨h6.drewN 1, ?_, fun k hk => m5.sub k ?_⟩
      · exact m5.off.step ((((Off.refl _ _).setCell (p := ⟨T, 1, none⟩) ⟨.T, rfl⟩ _).setCell (p := ⟨T, 2, none⟩) ⟨.T, rfl⟩ _).setCell (p := ⟨T, 3, none⟩) ⟨.T, rfl⟩ _).drew m5.sub
      · exact blk_fp ((blk_setC _ _ _ _).trans (blk_setH _ _ _)) k hk
    have hn : S5.n = s.n := by rw [hS5, HS1.out]; rfl
    have d2 : W5.cell? ⟨s.R, j * 2 + 1, none⟩ = some (.int .i64 (S5.mood.getD j 0)) := by
      have := (m6.low.cR (i := j) (by rw [hn]; exact hj)).2
      have e : S5.R = s.R := by rw [hS5, HS1.out]; rfl
      rw [e] at this
      exact this
    have d3 : W5.frozen? ⟨s.R, j * 2 + 1, none⟩ = false := by
      have := m6.low.fR (j * 2 + 1)
      have e : S5.R = s.R := by rw [hS5, HS1.out]; rfl
      rw [e] at this
      exact this
    obtain ⟨o4, ho4⟩ : ∃ o, o = S5.mood.getD j 0 := ⟨_, rfl⟩
    rw [← ho4] at d2
    have HM7 : Hid (Mv T s w (tokS s i j V xs) (W5.setCell ⟨s.R, j * 2 + 1, none⟩ (.int .i64 2))) := by
      have e : S5.R = s.R := by rw [hS5, HS1.out]; rfl
      have e5 : tokS s i j V xs = setMd S5 j 2 := by rw [hS5, HS1.out]; rfl
      rw [e5, ← e]
      refine ⟨m6.low.setMd (by rw [hn]; exact hj) 2, m6.off.step ((Off.refl _ _).setCell (p := ⟨S5.R, j * 2 + 1, none⟩) ⟨.R, rfl⟩ _) m6.sub, fun k hk => m6.sub k (blk_fp (blk_setMd _ _ _ _) k hk)⟩
    rw [← hW5]
    clear hW5 hS5 m5 m6 hn ho4 c1 c2 c3 f1 f2 f3 y4 y5
    go_wp2_with fail
    go_ret
    exact ⟨rfl, V, HM7.out⟩
end Go.Proofs.Ytahjgdikjaakbaa
