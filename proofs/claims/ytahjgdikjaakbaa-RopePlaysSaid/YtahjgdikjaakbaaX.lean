/- What is proved: the acts of a tower in memory are the acts of an abstract one; what it shows. No condition beyond those in each statement. -/
import Derived.Test.YtahjgdikjaakbaaW
namespace Go.Proofs.Ytahjgdikjaakbaa
open Go.RowKit

def TS.want (t : TS) (i : Int) : TS := if thereB t.n i = true then (if t.m i.toNat = 0 then (if t.holder = i then t.hold i.toNat else t.ask i.toNat) else t) else t
def TS.wantE (t : TS) (i : Int) : Int := if thereB t.n i = true then (if t.m i.toNat = 0 then 0 else 7) else 1
def TS.leaveI (t : TS) (i : Int) : TS := if thereB t.n i = true then (if t.m i.toNat = 2 then t.leave i.toNat else t) else t
def TS.leaveE (t : TS) (i : Int) : Int := if thereB t.n i = true then (if t.m i.toNat = 2 then 0 else 5) else 1
def TS.delI (t : TS) (a b : Int) : TS := if thereB t.n a = true ∧ thereB t.n b = true ∧ a ≠ b then t.deliver a.toNat b.toNat else t
def TS.delE (t : TS) (a b : Int) : Int := if thereB t.n a = true ∧ thereB t.n b = true ∧ a ≠ b then (if t.fl a.toNat b.toNat = [] then 5 else 0) else 1
/-- A tower in memory, with the blocks that are its own. -/
def Tw (w : World) (T : Nat) (t : TS) (X : Nat → Prop) : Prop := ∃ s, Up w T s t ∧ X = fp T s
/-- A tower after an act. -/
def Stp (T : Nat) (X : Nat → Prop) (w : World) (t' : TS) (w' : World) : Prop := ∃ X', Tw w' T t' X' ∧ Off X w w' ∧ ∀ g, X' g → X g ∨ w.heap.size ≤ g
theorem Up.same {w w' : World} {T : Nat} {s : LS} {t : TS} (U : Up w T s t) (h : Low w' T s) : Up w' T s t := ⟨h, U.en, U.em, U.ek, U.eh, U.es, U.eq, U.ee, U.ms, U.hc, U.hno⟩
theorem Tw.below {w w' : World} {T : Nat} {t : TS} {X : Nat → Prop} (h : Tw w T t X) (hb : Below w.heap.size w w') : Tw w' T t X := by
  obtain ⟨s, U, e⟩ := h
  exact ⟨s, U.same (U.low.below hb), e⟩
theorem Tw.lt {w : World} {T : Nat} {t : TS} {X : Nat → Prop} (h : Tw w T t X) : ∀ g, X g → g < w.heap.size := by
  obtain ⟨s, U, e⟩ := h
  rintro g hg
  rw [e] at hg
  obtain ⟨x, hx⟩ := hg
  exact U.low.lt x g hx
theorem Tw.off {w w' : World} {T : Nat} {t : TS} {X Y : Nat → Prop} (h : Tw w T t X) (ho : Off Y w w') (hd : ∀ g, X g → ¬ Y g) : Tw w' T t X := by
  have hl := h.lt
  obtain ⟨s, U, e⟩ := h
  refine ⟨s, U.same (U.low.same fun x g hx => ?_), e⟩
  have hg : X g := by rw [e]; exact ⟨x, hx⟩
  exact ho.block g (hl g hg) (hd g hg)
theorem stp_of {w w' : World} {T : Nat} {s s' : LS} {t' : TS} {X : Nat → Prop} (e : X = fp T s) (m : Mv T s w s' w') (U' : Up w' T s' t') : Stp T X w t' w' :=
  ⟨_, ⟨s', U', rfl⟩, by rw [e]; exact m.off, by rw [e]; exact m.sub⟩
theorem stp_refl {w w' : World} {T : Nat} {t : TS} {X : Nat → Prop} (h : Tw w T t X) (e : w = w') : Stp T X w t w' := by
  subst e
  exact ⟨X, h, Off.refl _ _, fun _ h => .inl h⟩
theorem Stp.trans {w w1 w2 : World} {T : Nat} {t1 t2 : TS} {X X1 : Nat → Prop} (hs : Off X w w1) (hx : ∀ g, X1 g → X g ∨ w.heap.size ≤ g) (k : Stp T X1 w1 t2 w2) (_u : Tw w1 T t1 X1) : Stp T X w t2 w2 := by
  obtain ⟨X2, h1, h2, h3⟩ := k
  refine ⟨X2, h1, hs.step h2 hx, fun g hg => ?_⟩
  rcases h3 g hg with h | h
  · exact hx g h
  · exact .inr (Nat.le_trans hs.size h)
theorem nodup_len : ∀ (n : Nat) (l : List Int), l.Nodup → (∀ x, x ∈ l → ∃ a : Nat, x = a ∧ a < n) → l.length ≤ n := by
  intro n
  induction n with
  | zero =>
    intro l _ h
    cases l with
    | nil => simp
    | cons x l => obtain ⟨a, _, h⟩ := h x (List.mem_cons_self ..); omega
  | succ n ih =>
    intro l hn h
    have h1 := ih (l.erase (n : Int)) (hn.erase _) (fun x hx => by
      obtain ⟨a, e, ha⟩ := h x (List.mem_of_mem_erase hx)
      refine ⟨a, e, ?_⟩
      by_cases e2 : a = n
      · subst e2
        subst e
        exact absurd hx (by rw [hn.mem_erase_iff]; simp)
      · omega)
    have h2 := List.length_erase (a := (n : Int)) (l := l)
    split at h2 <;> omega
section
variable {w : World} {T : Nat} {s : LS} {t : TS} {X : Nat → Prop} {k : Nat}
theorem Up.fl (U : Up w T s t) (_I : Inv t) (B : Bnd t k) (hk : k ≤ 10000) : ∀ a b, a < s.n → b < s.n → (s.ms a b).length ≤ 90000 := by
  intro a b ha hb
  rw [U.en] at ha hb
  rw [U.ms a b ha hb, List.length_map]
  have h1 := TS.len_le (t := t) ha hb
  have h2 := B.s0
  have h3 := B.tt
  omega
theorem Up.cur (U : Up w T s t) (I : Inv t) : CurOk s := by
  have hn := I.hn
  refine ⟨?_, ?_, ?_, ?_⟩
  · intro i j hi hj v hv
    rw [U.en] at hi hj
    rw [U.ms i j hi hj, List.mem_map] at hv
    obtain ⟨m, _, rfl⟩ := hv
    cases m with
    | req no => exact .inl ⟨no, rfl⟩
    | tok => exact .inr rfl
  · by_cases e : t.holder = -1
    · obtain ⟨a, b, ha, hb, _, _, h5, _⟩ := I.tk e
      refine .inl ⟨a, b, by rw [U.en]; exact ha, by rw [U.en]; exact hb, ?_⟩
      rw [U.ms a b ha hb, List.mem_map]
      exact ⟨.tok, List.count_pos_iff.1 (by omega), rfl⟩
    · exact .inr (U.hc e)
  · rw [U.es, I.ls]; omega
  · rw [U.eq]
    have := nodup_len t.n t.queue I.qn (fun x hx => by obtain ⟨a, e, ha, _⟩ := I.qm x hx; exact ⟨a, e, ha⟩)
    omega
theorem tw_want (h : Tw w T t X) (I : Inv t) (B : Bnd t k) (hk : k ≤ 10000) (i : Int) : Calls Try.prog 32 #[.pointer (some ⟨T, 0, none⟩), .int .i64 i] w fun e w' => e = .returned (.int .i64 (t.wantE i)) ∧ Stp T X w (t.want i) w' := by
  have h0 := h
  obtain ⟨s, U, e⟩ := h
  unfold TS.want TS.wantE
  by_cases ht : thereB t.n i = true
  · obtain ⟨a, rfl, ha⟩ := thereB_out ht
    rw [if_pos ht, if_pos ht, Int.toNat_natCast]
    have ha' : a < s.n := by rw [U.en]; exact ha
    have em : s.mood.getD a 0 = t.m a := by rw [U.em]; rfl
    by_cases hm : t.m a = 0
    · rw [if_pos hm, if_pos hm]
      by_cases hh : t.holder = a
      · rw [if_pos hh]
        refine (want_hold U.low ha' (by rw [em]; exact hm) (by rw [U.eh]; exact hh)).mono ?_
        rintro e1 w' ⟨he, m⟩
        exact ⟨he, stp_of e m ⟨m.low, U.en, by show s.mood.set a 2 = t.mood.set a 2; rw [U.em], U.ek, U.eh, U.es, U.eq, U.ee, U.ms, U.hc, U.hno⟩⟩
      · rw [if_neg hh]
        have hkn := I.kn a a ha ha
        have hkb := B.kk a ha
        have ek : (s.known.getD a []).getD a 0 = t.k a a := by rw [U.ek]; rfl
        have hs0 := B.s0
        refine (want_send U.low ha' (by rw [em]; exact hm) (by rw [U.eh]; exact hh) (U.fl I B hk) (by rw [U.ee]; omega) (by rw [ek]; omega)).mono ?_
        rintro e1 w' ⟨he, F, m⟩
        rw [ek] at m
        refine ⟨he, stp_of e m ⟨m.low, U.en, by show s.mood.set a 1 = t.mood.set a 1; rw [U.em], ?_, U.eh, U.es, U.eq, ?_, ?_, U.hc, U.hno⟩⟩
        · show s.known.set a ((s.known.getD a []).set a (t.k a a + 1)) = setK2 t.known a a (t.k a a + 1)
          rw [U.ek]; rfl
        · show s.sent + cntW a s.n = t.sent + (t.n - 1)
          rw [U.ee, U.en]
          unfold cntW
          rw [if_pos ha]
        · intro c d hc hd
          show msW s.ms a (t.k a a + 1) s.n c d = (if c = a ∧ d < t.n ∧ d ≠ a then t.fl c d ++ [.req (t.k a a + 1)] else t.fl c d).map (enc s.tsv s.tqv)
          have h1 := U.ms c d hc hd
          unfold msW
          rw [U.en]
          split
          · rw [List.map_append, h1]; rfl
          · exact h1
    · rw [if_neg hm, if_neg hm]
      refine (want_full U.low ha' (by rw [em]; exact hm)).mono ?_
      rintro e1 w' ⟨he, rfl⟩
      exact ⟨he, stp_refl h0 rfl⟩
  · rw [if_neg ht, if_neg ht]
    refine (want_out U.low (i := i) (by rw [U.en]; simpa using ht)).mono ?_
    rintro e1 w' ⟨he, rfl⟩
    exact ⟨he, stp_refl h0 rfl⟩
theorem queF_eq (kn sv q : List Int) (k : Nat) : queF kn sv q k = queG kn sv q k := by
  induction k with
  | zero => rfl
  | succ k ih => unfold queF queG; rw [ih]
theorem tw_leave (h : Tw w T t X) (I : Inv t) (B : Bnd t k) (hk : k ≤ 10000) (i : Int) : Calls Try.prog 34 #[.pointer (some ⟨T, 0, none⟩), .int .i64 i] w fun e w' => e = .returned (.int .i64 (t.leaveE i)) ∧ Stp T X w (t.leaveI i) w' := by
  have h0 := h
  obtain ⟨s, U, e⟩ := h
  unfold TS.leaveI TS.leaveE
  by_cases ht : thereB t.n i = true
  · obtain ⟨a, rfl, ha⟩ := thereB_out ht
    rw [if_pos ht, if_pos ht, Int.toNat_natCast]
    have ha' : a < s.n := by rw [U.en]; exact ha
    have em : s.mood.getD a 0 = t.m a := by rw [U.em]; rfl
    by_cases hm : t.m a = 2
    · rw [if_pos hm, if_pos hm]
      have hh := I.ins a ha hm
      have hn := I.hn
      obtain ⟨c2, c3⟩ := U.hc (by omega)
      have ek : (s.known.getD a []).getD a 0 = t.k a a := by rw [U.ek]; rfl
      have hs0 := B.s0
      have hql := nodup_len t.n t.queue I.qn (fun x hx => by obtain ⟨a, e, ha, _⟩ := I.qm x hx; exact ⟨a, e, ha⟩)
      refine (leave_ok U.low ha' (by rw [em]; exact hm) (by rw [U.eh]; exact hh) c2 c3 (by rw [U.es, U.en]; exact I.ls) (fun x hx => by
          rw [U.eq] at hx
          obtain ⟨a, e, ha, _⟩ := I.qm x hx
          exact ⟨a, e, by rw [U.en]; exact ha⟩) (by rw [U.eq]; omega) (fun c hc => by
          rw [U.en] at hc
          have h1 := I.sv0 c hc
          have h2 := B.kk c hc
          show 0 ≤ s.served.getD c 0 ∧ s.served.getD c 0 ≤ 100000
          rw [U.es]
          show 0 ≤ t.s c ∧ t.s c ≤ 100000
          omega) (U.fl I B hk) (by rw [U.ee]; omega) (by
          rw [ek]
          have h1 := I.kn a a ha ha
          have h2 := B.kk a ha
          omega)).mono ?_
      have hQ : queF (s.known.getD a []) (left s a).served s.queue s.n = (t.left a).queue := by
        rw [queF_eq]
        show queG (s.known.getD a []) (s.served.set a ((s.known.getD a []).getD a 0)) s.queue s.n = queG (t.known.getD a []) (t.served.set a (t.k a a)) t.queue t.n
        rw [ek, U.ek, U.es, U.eq, U.en]
      rintro e1 w' ⟨he, hr⟩
      refine ⟨he, ?_⟩
      unfold TS.leave
      rw [hQ] at hr
      rcases hr with ⟨hq, v, m⟩ | ⟨to, rest, v, fv, hq, m⟩
      · rw [hq]
        refine stp_of e m ⟨m.low, U.en, by show s.mood.set a 0 = t.mood.set a 0; rw [U.em], U.ek, U.eh, by show s.served.set a _ = t.served.set a (t.k a a); rw [ek, U.es], hq.symm, U.ee, ?_, ?_, fun e => absurd (show t.holder = -1 from e) (by omega)⟩
        · intro c d hc hd
          show s.ms c d = (t.fl c d).map (enc s.tsv v)
          have hnt : .tok ∉ t.fl c d := I.tk0 (by omega) c d hc hd
          rw [U.ms c d hc hd]
          refine List.map_congr_left fun m hm' => ?_
          cases m with
          | req no => rfl
          | tok => exact absurd hm' hnt
        · intro _
          exact ⟨c2, rfl⟩
      · rw [hq]
        obtain ⟨i0, _, hh0, _⟩ := I.left ha hm
        obtain ⟨b, eb, hb, _⟩ := i0.qm to (by rw [hq]; exact List.mem_cons_self ..)
        have : to = b := by omega
        subst this
        show Stp T X w (((t.left a).qpop rest).give a ((to : Int).toNat)) w'
        rw [Int.toNat_natCast]
        refine stp_of e m ⟨m.low, U.en, by show s.mood.set a 0 = t.mood.set a 0; rw [U.em], U.ek, rfl, by show s.served.set a _ = t.served.set a (t.k a a); rw [ek, U.es], rfl, by show s.sent + 1 = t.sent + 1; rw [U.ee], ?_, fun h => absurd rfl h, fun _ => ⟨rfl, rfl⟩⟩
        intro c d hc hd
        show updM s.ms a to (s.ms a to ++ [.iface 61 (.agg #[s.c2, v])]) c d = (updF t.fl a to (t.fl a to ++ [.tok]) c d).map (enc s.tsv v)
        have hmap : ∀ c d, c < t.n → d < t.n → s.ms c d = (t.fl c d).map (enc s.tsv v) := by
          intro c d hc hd
          have hnt : .tok ∉ t.fl c d := I.tk0 (by omega) c d hc hd
          rw [U.ms c d hc hd]
          refine List.map_congr_left fun m hm' => ?_
          cases m with
          | req no => rfl
          | tok => exact absurd hm' hnt
        by_cases e2 : c = a ∧ d = to
        · obtain ⟨rfl, rfl⟩ := e2
          rw [updM_same, updF_same, List.map_append, hmap _ _ hc hd, c2]
          rfl
        · rw [updM_other e2, updF_other e2]
          exact hmap c d hc hd
    · rw [if_neg hm, if_neg hm]
      refine (leave_none U.low ha' (by rw [em]; exact hm)).mono ?_
      rintro e1 w' ⟨he, rfl⟩
      exact ⟨he, stp_refl h0 rfl⟩
  · rw [if_neg ht, if_neg ht]
    refine (leave_out U.low (i := i) (by rw [U.en]; simpa using ht)).mono ?_
    rintro e1 w' ⟨he, rfl⟩
    exact ⟨he, stp_refl h0 rfl⟩
theorem mv_up (U : Up w T s t) {w' : World} (e : X = fp T s) (m : Mv T s w s w') : Stp T X w t w' := stp_of e m (U.same m.low)
set_option maxHeartbeats 4000000 in
theorem tw_deliver (h : Tw w T t X) (I : Inv t) (B : Bnd t k) (hk : k ≤ 10000) (a b : Int) : Calls Try.prog 37 #[.pointer (some ⟨T, 0, none⟩), .int .i64 a, .int .i64 b] w fun e w' => e = .returned (.int .i64 (t.delE a b)) ∧ Stp T X w (t.delI a b) w' := by
  obtain ⟨s, U, e⟩ := h
  unfold TS.delI TS.delE
  by_cases ht : thereB t.n a = true ∧ thereB t.n b = true ∧ a ≠ b
  · rw [if_pos ht, if_pos ht]
    obtain ⟨h1, h2, hab⟩ := ht
    obtain ⟨i, rfl, hi⟩ := thereB_out h1
    obtain ⟨j, rfl, hj⟩ := thereB_out h2
    rw [Int.toNat_natCast, Int.toNat_natCast]
    have hi' : i < s.n := by rw [U.en]; exact hi
    have hj' : j < s.n := by rw [U.en]; exact hj
    have hij : i ≠ j := by omega
    have hms := U.ms i j hi hj
    have hs0 := B.s0
    unfold TS.deliver
    cases hf : t.fl i j with
    | nil =>
      rw [hf] at hms
      refine (deliver_none U.low hi' hj' hij hms).mono ?_
      rintro e1 w' ⟨he, m⟩
      exact ⟨he, mv_up U e m⟩
    | cons m0 xs =>
      rw [if_neg (by simp)]
      rw [hf] at hms
      cases m0 with
      | req no =>
        have hkn := I.sv0 i hi
        have hkb := B.kk i hi
        have hnij : ¬ (j = i ∧ i = j) := fun h => hij h.2
        have ek : (s.known.getD j []).getD i 0 = t.k j i := by rw [U.ek]; rfl
        have ess : s.served.getD i 0 = t.s i := by rw [U.es]; rfl
        refine (deliver_req no (xs.map (enc s.tsv s.tqv)) U.low hi' hj' hij hms (fun hh => ⟨(U.hc (by rw [← U.eh, hh]; omega)).1, by rw [U.es, U.en]; exact I.ls⟩) (by rw [ess]; omega) (U.fl I B hk j i hj' hi') (by rw [U.ee]; omega)).mono ?_
        rintro e1 w' ⟨he, V, hr⟩
        refine ⟨he, ?_⟩
        have hc : reqC s i j no ↔ (t.holder = j ∧ t.m j = 0 ∧ max (t.k j i) no = t.s i + 1) := by
          unfold reqC reqK
          rw [U.eh, U.em, ek, ess]
          exact Iff.rfl
        have hms2 : ∀ c d, c < t.n → d < t.n → updM s.ms i j (xs.map (enc s.tsv s.tqv)) c d = (updF t.fl i j xs c d).map (enc s.tsv s.tqv) := by
          intro c d hc hd
          by_cases e2 : c = i ∧ d = j
          · obtain ⟨rfl, rfl⟩ := e2
            rw [updM_same, updF_same]
          · rw [updM_other e2, updF_other e2]
            exact U.ms c d hc hd
        have hkk : s.known.set j ((s.known.getD j []).set i (reqK s i j no)) = setK2 t.known j i (max (t.k j i) no) := by
          unfold reqK
          rw [ek, U.ek]; rfl
        rcases hr with ⟨hcc, fv, m⟩ | ⟨hcc, m⟩
        · have hcc' := hc.1 hcc
          show Stp T X w (if t.holder = j ∧ t.m j = 0 ∧ max (t.k j i) no = t.s i + 1 then (t.learn i j no xs).give j i else t.learn i j no xs) w'
          rw [if_pos hcc']
          obtain ⟨c2, c3⟩ := U.hc (by omega)
          refine stp_of e m ⟨m.low, U.en, U.em, hkk, rfl, U.es, U.eq, by show s.sent + 1 = t.sent + 1; rw [U.ee], ?_, fun h => absurd rfl h, fun _ => ⟨rfl, rfl⟩⟩
          intro c d hc hd
          show updM (updM s.ms i j (xs.map (enc s.tsv s.tqv))) j i (updM s.ms i j (xs.map (enc s.tsv s.tqv)) j i ++ [.iface 61 (.agg #[s.c2, s.c3])]) c d = (updF (updF t.fl i j xs) j i (updF t.fl i j xs j i ++ [.tok]) c d).map (enc s.tsv s.tqv)
          by_cases e2 : c = j ∧ d = i
          · obtain ⟨rfl, rfl⟩ := e2
            rw [updM_same, updF_same, List.map_append, hms2 _ _ hc hd, c2, c3]
            rfl
          · rw [updM_other e2, updF_other e2]
            exact hms2 c d hc hd
        · have hcc' := fun h => hcc (hc.2 h)
          show Stp T X w (if t.holder = j ∧ t.m j = 0 ∧ max (t.k j i) no = t.s i + 1 then (t.learn i j no xs).give j i else t.learn i j no xs) w'
          rw [if_neg hcc']
          exact stp_of e m ⟨m.low, U.en, U.em, hkk, U.eh, U.es, U.eq, U.ee, hms2, U.hc, U.hno⟩
      | tok =>
        refine (deliver_tok (xs.map (enc s.tsv s.tqv)) U.low hi' hj' hij hms).mono ?_
        rintro e1 w' ⟨he, V, m⟩
        refine ⟨he, stp_of e m ⟨m.low, U.en, by show s.mood.set j 2 = t.mood.set j 2; rw [U.em], U.ek, rfl, U.es, U.eq, U.ee, ?_, fun _ => ⟨rfl, rfl⟩, fun e => absurd (show (j : Int) = -1 from e) (by omega)⟩⟩
        intro c d hc hd
        show updM s.ms i j (xs.map (enc s.tsv s.tqv)) c d = (updF t.fl i j xs c d).map (enc s.tsv s.tqv)
        by_cases e2 : c = i ∧ d = j
        · obtain ⟨rfl, rfl⟩ := e2
          rw [updM_same, updF_same]
        · rw [updM_other e2, updF_other e2]
          exact U.ms c d hc hd
  · rw [if_neg ht, if_neg ht]
    refine (deliver_arg U.low (a := a) (b := b) (by
      rw [U.en]
      cases h1 : thereB t.n a
      · exact .inl rfl
      · cases h2 : thereB t.n b
        · exact .inr (.inl rfl)
        · exact .inr (.inr (Classical.byContradiction fun h3 => ht ⟨h1, h2, h3⟩)))).mono ?_
    rintro e1 w' ⟨he, m⟩
    exact ⟨he, mv_up U e m⟩
/-- What a tower shows. -/
def TS.insI (t : TS) : Int := headF (thoseF t.mood 2 t.n)
def TS.wai (t : TS) : List Int := thoseF t.mood 1 t.n
def TS.kno (t : TS) (i : Int) : List Int := if thereB t.n i = true then t.known.getD i.toNat [] else []
def TS.cals (t : TS) : List Cal := colL t.fl t.n t.n
theorem tw_inside (h : Tw w T t X) : Calls Try.prog 18 #[.pointer (some ⟨T, 0, none⟩)] w fun e w' => e = .returned (.int .i64 t.insI) ∧ Below w.heap.size w w' := by
  obtain ⟨s, U, _⟩ := h
  have := inside_calls U.low
  rw [U.em, U.en] at this
  exact this
theorem tw_waiting (h : Tw w T t X) : Calls Try.prog 21 #[.pointer (some ⟨T, 0, none⟩)] w fun e w' => ∃ v, e = .returned v ∧ Ow w' w.heap.size v t.wai ∧ Below w.heap.size w w' := by
  obtain ⟨s, U, _⟩ := h
  have := waiting_calls U.low
  rw [U.em, U.en] at this
  exact this
theorem tw_holder (h : Tw w T t X) : Calls Try.prog 17 #[.pointer (some ⟨T, 0, none⟩)] w fun e w' => e = .returned (.int .i64 t.holder) ∧ w = w' := by
  obtain ⟨s, U, _⟩ := h
  have := holder_calls U.low
  rw [U.eh] at this
  exact this
theorem tw_sent (h : Tw w T t X) : Calls Try.prog 22 #[.pointer (some ⟨T, 0, none⟩)] w fun e w' => e = .returned (.int .i64 t.sent) ∧ w = w' := by
  obtain ⟨s, U, _⟩ := h
  have := sent_calls U.low
  rw [U.ee] at this
  exact this
theorem tw_queue (h : Tw w T t X) (I : Inv t) : Calls Try.prog 24 #[.pointer (some ⟨T, 0, none⟩)] w fun e w' => ∃ v, e = .returned v ∧ Ow w' w.heap.size v t.queue ∧ Below w.heap.size w w' := by
  obtain ⟨s, U, _⟩ := h
  have := queue_calls U.low (U.cur I)
  rw [U.eq] at this
  exact this
theorem tw_served (h : Tw w T t X) (I : Inv t) : Calls Try.prog 25 #[.pointer (some ⟨T, 0, none⟩)] w fun e w' => ∃ v, e = .returned v ∧ Ow w' w.heap.size v t.served ∧ Below w.heap.size w w' := by
  obtain ⟨s, U, _⟩ := h
  have := served_calls U.low (U.cur I)
  rw [U.es] at this
  exact this
theorem tw_known (h : Tw w T t X) (i : Int) : Calls Try.prog 26 #[.pointer (some ⟨T, 0, none⟩), .int .i64 i] w fun e w' => ∃ v, e = .returned v ∧ Ow w' w.heap.size v (t.kno i) ∧ Below w.heap.size w w' := by
  obtain ⟨s, U, _⟩ := h
  unfold TS.kno
  by_cases ht : thereB t.n i = true
  · obtain ⟨a, rfl, ha⟩ := thereB_out ht
    rw [if_pos ht, Int.toNat_natCast]
    have := known_calls U.low (i := a) (by rw [U.en]; exact ha)
    rw [U.ek] at this
    exact this
  · rw [if_neg ht]
    refine (known_out U.low (i := i) (by rw [U.en]; simpa using ht)).mono ?_
    rintro e1 w' ⟨he, rfl⟩
    exact ⟨_, he, ow_nil _ _, Below.refl _ _⟩
theorem cals_len (t : TS) : t.cals.length = t.tot := by
  have h1 : ∀ a n, (rowL t.fl a n).length = sumN (fun b => (t.fl a b).length) n := by
    intro a n
    induction n with
    | zero => rfl
    | succ n ih => show (rowL t.fl a n ++ mkL a n (t.fl a n)).length = _; rw [List.length_append, ih, mkL, List.length_map]; rfl
  have h2 : ∀ m, (colL t.fl t.n m).length = sumN (fun a => sumN (fun b => (t.fl a b).length) t.n) m := by
    intro m
    induction m with
    | zero => rfl
    | succ m ih => show (colL t.fl t.n m ++ rowL t.fl m t.n).length = _; rw [List.length_append, ih, h1]; rfl
  exact h2 t.n
theorem tw_flight (h : Tw w T t X) (B : Bnd t k) (hk : k ≤ 10000) : Calls Try.prog 16 #[.pointer (some ⟨T, 0, none⟩)] w fun e w' => ∃ v, e = .returned v ∧ OwC w' w.heap.size v t.cals ∧ Below w.heap.size w w' := by
  obtain ⟨s, U, _⟩ := h
  have := flight_calls (f := t.fl) U.low (fun i j hi hj => U.ms i j (by rw [← U.en]; exact hi) (by rw [← U.en]; exact hj)) (by
    rw [U.en]
    show t.cals.length ≤ 90000
    rw [cals_len]
    have := B.s0
    have := B.tt
    omega)
  rw [U.en] at this
  exact this
end
end Go.Proofs.Ytahjgdikjaakbaa
