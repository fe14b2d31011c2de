/- What is proved: the search for a clique (contracts of functions of paint, and what they need). No condition beyond those in each statement. -/
import Derived.Test.YthnhmfmlhlpggaaPtA
import Derived.Deep.RegionHeld3
import Derived.Deep.DeepCutAuto
namespace Go.Proofs.Ythnhmfmlhlpggaa.Pt
open Go.RowKit
set_option maxRecDepth 100000

def firstFrom {β : Type} (g : Nat → Option β) : Nat → Nat → Option β
  | 0, _ => none
  | m + 1, v => match g v with
    | some r => some r
    | none => firstFrom g m (v + 1)
def fromOf (l : List Int) : Nat := match l.getLast? with
  | none => 0
  | some u => u.toNat + 1
def cliqueF (ok : List Int → Nat → Bool) (n : Nat) : Nat → List Int → Option (List Int)
  | 0, l => some l
  | f + 1, l => firstFrom (fun v => if ok l v then cliqueF ok n f (l ++ [(v : Int)]) else none) (n - fromOf l) (fromOf l)

def OptSl (w : World) (v : Value) : Option (List Int) → Prop
  | none => v = .slice none 0 0
  | some r => (∃ a n c, v = .slice (some a) n c) ∧ Sl w v r
theorem OptSl.below {w w' : World} {v : Value} {r : Option (List Int)} (h : OptSl w v r) (hb : Below w.heap.size w w') : OptSl w' v r := by
  cases r with
  | none => exact h
  | some r => exact ⟨h.1, h.2.below hb⟩

def okP (cs : List Int) (n : Nat) (color : Int) (l : List Int) (v : Nat) : Bool := !(l.any fun u => cs.getD (placeZ n u v).toNat 0 != color)

/-- rising vertices -/
def Ris (n : Nat) (l : List Int) : Prop := fromOf l ≤ n ∧ ∀ u ∈ l, 0 ≤ u ∧ u < fromOf l

theorem containsFunc_calls' (fid : Nat) (caps : Array Value) (hen : ∀ args w, (callFunc fid args).run Try.prog w = .ok (.enter fid args) w)
    (p : Int → Bool) (A : Option Addr) (nx c : Nat) (xs : List Int) (w : World) (hnx : nx = xs.length) (hx : Rd w A xs) (hl : nx ≤ c) (hc : c ≤ 9223372036854775807)
    (hp : ∀ (i : Nat) (W : World) (hi : i < xs.length), Below w.heap.size w W →
      Calls Try.prog fid (#[.int .i64 xs[i]] ++ caps) W fun e W' => e = .returned (.bool (p xs[i])) ∧ Below W.heap.size W W') :
    Calls Try.prog 61 #[.slice A nx c, .func (.func fid) #[] caps] w fun e w' =>
      e = .returned (.bool (xs.any p)) ∧ Below w.heap.size w w' := by
  subst hnx
  exact containsFunc_calls fid caps hen p A c xs w hx hl hc hp
/-- append as a step of a region of open order. -/
theorem step_app {ops : Array Oper} {o : Oper} {a : Act} {w : World} {K : Act → World → Prop} {Q : Exit → Act → World → Prop} {E : Prop}
    (hg : o.guard = none) (s x : Operand) (hop : o.op = Op.call { callee := Callee.builtin Builtin.append, args := #[s, x], argTypes := #[27, 27] }) (hty : o.type = 27)
    (A : Option Addr) (n : Nat) (xs : List Int) (hs : a.eval s = .slice A n n) (hn : n = xs.length) (hA : Rd w A xs) (hnone : A = none → xs = [])
    (B : Option Addr) (m cy : Nat) (ys : List Int) (hx : a.eval x = .slice B m cy) (hm : m = ys.length) (hB : Rd w B ys) (hne : ys ≠ []) (hb : xs.length + ys.length ≤ 1000000)
    (hK : ∀ g nn cap w', nn = xs.length + ys.length → cap ≤ 9223372036854775807 → nn ≤ cap → Rd w' (some ⟨g, 0, none⟩) (xs ++ ys) → Below w.heap.size w w' → K (a.put o.dst (.slice (some ⟨g, 0, none⟩) nn cap)) w') :
    if Region.wanted o (yielded ops a.tmps) = true then Oper.wp Try.prog o a w K Q else E := by
  subst hn hm
  have hw : Region.wanted o (yielded ops a.tmps) = true := by simp [Region.wanted, hg]
  rw [if_pos hw]
  obtain ⟨v', w', hrun, hown, hbel⟩ := app_run w A xs ys hA hnone B cy hB hne hb
  obtain ⟨A', c', rfl, h1, h2, h3, h4⟩ := hown.sl
  obtain ⟨g, oo, rfl, hg2, hc2⟩ := h4 (by simp [hne])
  have hoo : oo = 0 := by
    rcases hown.2 with ⟨e, _⟩ | ⟨g', cap, cur, e, _⟩
    · cases e
    · cases e; rfl
  subst hoo
  unfold Oper.wp
  rw [List.length_append] at hrun h1
  simp [execOp, hop, hty, resolve, invoke, builtin, hs, hx, hrun, Result.andThen]
  exact hK g _ c' w' rfl h2 h1 h4 hbel
theorem keep4 {W1 w' : World} {p1 p2 p3 p4 : Addr} {v1 v2 v3 v4 : Value} (d1 : W1.cell? p1 = some v1) (d2 : W1.cell? p2 = some v2) (d3 : W1.cell? p3 = some v3) (d4 : W1.cell? p4 = some v4) (hb : Below W1.heap.size W1 w') :
    w'.cell? p1 = some v1 ∧ w'.cell? p2 = some v2 ∧ w'.cell? p3 = some v3 ∧ w'.cell? p4 = some v4 ∧ Below W1.heap.size W1 w' :=
  ⟨(hb.cell (World.block_lt_of_cell? _ _ d1)).trans d1, (hb.cell (World.block_lt_of_cell? _ _ d2)).trans d2, (hb.cell (World.block_lt_of_cell? _ _ d3)).trans d3, (hb.cell (World.block_lt_of_cell? _ _ d4)).trans d4, hb⟩
theorem rd_one (w : World) (x : Int) (b : Nat) (hb : b = w.heap.size) : Rd (w.alloc (.cells #[.int .i64 x] 3)) (some ⟨b, 0, none⟩) [x] := fun _ => by
  subst hb
  refine ⟨_, 0, rfl, by simp, fun i hi => ?_⟩
  have : i = 0 := by simpa using hi
  subst this
  rw [World.cell?_alloc_at _ _ _ _ rfl]; rfl
theorem Rd.drew {w : World} {A : Option Addr} {xs : List Int} (h : Rd w A xs) : Rd w.drew A xs := h.below (Below.refl _ _).drew
theorem enters54 : ∀ args w, (callFunc 65 args).run Try.prog w = .ok (.enter 65 args) w := fun _ _ => rfl

theorem fromOf_snoc (l : List Int) (x : Nat) : fromOf (l ++ [(x : Int)]) = x + 1 := by simp [fromOf]
theorem ris_snoc {n : Nat} {l : List Int} {x : Nat} (h : Ris n l) (h1 : fromOf l ≤ x) (h2 : x < n) : Ris n (l ++ [(x : Int)]) := by
  refine ⟨by rw [fromOf_snoc]; omega, fun u hu => ?_⟩
  rw [fromOf_snoc]
  rcases List.mem_append.1 hu with hu | hu
  · have := h.2 u hu; omega
  · have : u = x := by simpa using hu
    omega
theorem box3 (w : World) (v1 v2 v3 : Value) (t1 t2 t3 : Nat) :
    (((w.alloc (.cells #[v1] t1)).alloc (.cells #[v2] t2)).alloc (.cells #[v3] t3)).cell? ⟨w.heap.size, 0, none⟩ = some v1 ∧
    (((w.alloc (.cells #[v1] t1)).alloc (.cells #[v2] t2)).alloc (.cells #[v3] t3)).cell? ⟨w.heap.size + 1, 0, none⟩ = some v2 ∧
    (((w.alloc (.cells #[v1] t1)).alloc (.cells #[v2] t2)).alloc (.cells #[v3] t3)).cell? ⟨w.heap.size + 1 + 1, 0, none⟩ = some v3 ∧
    (((w.alloc (.cells #[v1] t1)).alloc (.cells #[v2] t2)).alloc (.cells #[v3] t3)).heap.size = w.heap.size + 3 := by
  refine ⟨?_, ?_, ?_, by simp⟩
  · rw [World.cell?_alloc_past _ _ _ (by simp; omega), World.cell?_alloc_past _ _ _ (by simp), World.cell?_alloc_at _ _ _ _ rfl]; rfl
  · rw [World.cell?_alloc_past _ _ _ (by simp), World.cell?_alloc_at _ _ _ _ (by simp)]; rfl
  · rw [World.cell?_alloc_at _ _ _ _ (by simp)]; rfl
theorem frozen_new (w : World) (v : Value) (t : Nat) (b : Nat) (hb : b = w.heap.size) : (w.alloc (.cells #[v] t)).frozen? ⟨b, 0, none⟩ = false := World.frozen?_alloc_at _ _ _ _ (by simp [hb])
theorem cell_new (w : World) (v : Value) (t : Nat) (b : Nat) (hb : b = w.heap.size) : (w.alloc (.cells #[v] t)).cell? ⟨b, 0, none⟩ = some v := by
  subst hb
  rw [World.cell?_alloc_at _ _ _ _ rfl]; rfl

/-- What the search has come to. -/
def ScanI (N : Nat) (W1 : World) (n : Nat) (l : List Int) (G : Nat → Option (List Int)) (r : Option (List Int)) (g : Nat) (v : Value) (wr : World) : Prop :=
  ∃ bv x : Nat, v = .pointer (some ⟨bv, 0, none⟩) ∧ N + 3 ≤ bv ∧ wr.cell? ⟨bv, 0, none⟩ = some (.int .i64 x) ∧ wr.frozen? ⟨bv, 0, none⟩ = false ∧
    x ≤ n ∧ Hid (g = n - x ∧ fromOf l ≤ x ∧ r = firstFrom G (n - x) x) ∧ Hid (Below (N + 3) W1 wr)

theorem scan_start {N : Nat} {W1 : World} (hN : W1.heap.size = N + 3) {n : Nat} {l : List Int} (y : Int) (hy : y = (fromOf l : Nat)) (h : fromOf l ≤ n) {G : Nat → Option (List Int)} {r : Option (List Int)} (hr : r = firstFrom G (n - fromOf l) (fromOf l)) :
    ScanI N W1 n l G r (n - fromOf l) (.pointer (some ⟨N + 1 + 1 + 1, 0, none⟩)) (W1.alloc (.cells #[.int .i64 y] 3)) := by
  subst hy
  exact ⟨_, fromOf l, rfl, Nat.le_refl _, cell_new _ _ _ _ (by omega), frozen_new _ _ _ _ (by omega), h, ⟨rfl, Nat.le_refl _, hr⟩, (Below.refl _ _).alloc (by omega) _⟩

set_option maxHeartbeats 1000000 in
theorem clique_calls (n : Nat) (hn : n ≤ 8) (cs : List Int) (color : Int) (A : Option Addr) (cap : Nat) (_hcap : cs.length ≤ cap) (hcl : ∀ u v : Int, 0 ≤ u → u < v → v < n → placeZ n u v < cs.length) (f : Nat) :
    ∀ (l : List Int) (k : Int) (L : Option Addr) (ln cl : Nat) (w : World), ln = l.length → k = l.length + f → 0 < l.length + f → l.length + f ≤ 100 → Ris n l → Rd w A cs → Rd w L l → l.length ≤ cl → cl ≤ 9223372036854775807 → (L = none → cl = 0) →
      Calls Try.prog 27 #[.int .i64 n, .slice A cs.length cap, .int .i64 color, .int .i64 k, .slice L ln cl] w fun e w' =>
        ∃ v, e = .returned v ∧ OptSl w' v (cliqueF (okP cs n color) n f l) ∧ Below w.heap.size w w' := by
  induction f with
  | zero =>
    intro l k L ln cl w hln hk hpos hll hr hA hL h1 h2 h3
    subst hln
    obtain ⟨b, o, rfl, hb, hc⟩ := hL (by intro e; subst e; simp at hpos)
    have hk' : (((l.length : Nat) : Int) == k) = true := by rw [hk]; simp
    have HL := Lib.hid hL
    clear hk hL hc
    go_enter Try.func27, Try.ntmps27
    go_wp2
    go_ret
    refine ⟨_, rfl, ?_, (((Below.refl w.heap.size w).alloc (Nat.le_refl _) _).alloc (by simp) _).alloc (by simp; omega) _⟩
    refine ⟨⟨_, _, _, rfl⟩, _, cl, rfl, h1, h2, h3, ?_⟩
    exact HL.out.below ((((Below.refl w.heap.size w).alloc (Nat.le_refl _) _).alloc (by simp) _).alloc (by simp; omega) _)
  | succ f ih =>
    intro l k L ln cl w hln hk _ hll hr hA hL h1 h2 h3
    have hk' : (((l.length : Nat) : Int) == k) = false := by rw [hk]; simp; omega
    have HA := Lib.hid hA
    have HL := Lib.hid hL
    have HK := Lib.hid hk
    have HR := Lib.hid hr
    have HIH := Lib.hid ih
    have HCL := Lib.hid hcl
    clear hk hL hA hr ih hcl
    rw [← hln] at hk' h1
    have hll' : ln ≤ 100 := by omega
    have HLN := Lib.hid hln
    clear hln
    have B3 : Below w.heap.size w (((w.alloc (.cells #[.int .i64 n] 3)).alloc (.cells #[.slice A cs.length cap] 27)).alloc (.cells #[.int .i64 color] 3)) :=
      (((Below.refl w.heap.size w).alloc (Nat.le_refl _) _).alloc (by simp) _).alloc (by simp; omega) _
    have hk0 : ln = 0 → ((0 : Int) == k) = false := fun e => by subst e; exact hk'
    have hk1 : ∀ m : Nat, ln = m + 1 → (((m : Int) + 1) == k) = false := fun m e => by subst e; exact hk'
    clear hk'
    rcases Nat.eq_zero_or_pos ln with hz | hz
    case' inl =>
      subst hz
      have hk2 := hk0 rfl
      have HF : Hid (fromOf l = 0) := by
        have : l = [] := List.eq_nil_of_length_eq_zero HLN.out.symm
        subst this; rfl
      clear hk0 hk1
      have HN0 : Hid (L = none → l = []) := fun _ => List.eq_nil_of_length_eq_zero HLN.out.symm
      go_enter Try.func27, Try.ntmps27
      go_wp2_with fail
    case' inr =>
      clear hk0
      obtain ⟨m, rfl⟩ : ∃ m, ln = m + 1 := ⟨ln - 1, by omega⟩
      have hk2 := hk1 m rfl
      obtain ⟨b, o, rfl, hb, hc⟩ := HL.out.at m (by have := HLN.out; omega)
      have hm : m < l.length := by have := HLN.out; omega
      have hu : 0 ≤ l[m] ∧ l[m] ≤ 8 := by
        have := HR.out.2 l[m] (List.getElem_mem hm)
        have := HR.out.1
        omega
      obtain ⟨u, hu'⟩ := Int.eq_ofNat_of_zero_le hu.1
      have HF : Hid (fromOf l = u + 1) := by
        show fromOf l = u + 1
        unfold fromOf
        rw [List.getLast?_eq_getElem?]
        have : l.length - 1 = m := by have := HLN.out; omega
        rw [this, List.getElem?_eq_getElem hm, hu']
        rfl
      rw [hu'] at hu hc
      have hc' := (B3.cell (p := ⟨b, o + m, none⟩) hb).trans hc
      have HN0 : Hid (some (⟨b, o, none⟩ : Addr) = none → l = []) := fun h => by cases h
      clear hk1 hc hu'
      go_enter Try.func27, Try.ntmps27
      go_wp2_with fail
    all_goals
      go_loopg [12] (n - fromOf l) (ScanI w.heap.size (((w.alloc (.cells #[.int .i64 n] 3)).alloc (.cells #[.slice A cs.length cap] 27)).alloc (.cells #[.int .i64 color] 3)) n l
        (fun v => if okP cs n color l v then cliqueF (okP cs n color) n f (l ++ [(v : Int)]) else none) (cliqueF (okP cs n color) n (f + 1) l))
      case atStart => exact scan_start (box3 w _ _ _ 3 27 3).2.2.2 _ (by rw [HF.out]; simp) HR.out.1 rfl
      case round =>
        obtain ⟨bv, x, rfl, hbv, hcx, hfx, hxn, HG, HB⟩ := hrel
        obtain ⟨e1, e2, e3, e4⟩ := box3 w (.int .i64 n) (.slice A cs.length cap) (.int .i64 color) 3 27 3
        have c5 := (HB.out.cell (p := ⟨w.heap.size, 0, none⟩) (by simp)).trans e1
        have c6 := (HB.out.cell (p := ⟨w.heap.size + 1, 0, none⟩) (by simp)).trans e2
        have c7 := (HB.out.cell (p := ⟨w.heap.size + 1 + 1, 0, none⟩) (by simp)).trans e3
        have hsz0 : w.heap.size + 3 ≤ wr.heap.size := by have := HB.out.size; rw [e4] at this; exact this
        clear e1 e2 e3 e4
        by_cases hx : x < n
        · have HX := HL.out.below (B3.trans (HB.out.mono (by omega)))
          go_wp2_with fail
          refine (containsFunc_calls' 65 _ enters54 (fun u => cs.getD (placeZ n u x).toNat 0 != color) _ _ _ l wr HLN.out HX h1 h2 ?_).mono ?_
          · intro i W hi hbw
            have hr := HR.out.2 l[i] (List.getElem_mem hi)
            have hxx : fromOf l ≤ x := HG.out.2.1
            have q := clique1_calls l[i] n x color A cap cs (w.heap.size + 1) w.heap.size bv (w.heap.size + 1 + 1) W hr.1 (by omega) (by omega) (by omega)
              ((HA.out.below (B3.trans (HB.out.mono (by omega)))).below hbw) (HCL.out _ _ hr.1 (by omega) (by omega))
              ((hbw.cell (World.block_lt_of_cell? _ _ c6)).trans c6) ((hbw.cell (World.block_lt_of_cell? _ _ c5)).trans c5) ((hbw.cell (World.block_lt_of_cell? _ _ hcx)).trans hcx) ((hbw.cell (World.block_lt_of_cell? _ _ c7)).trans c7)
            exact q
          rintro e W1 ⟨rfl, hB1⟩
          cases hok : okP cs n color l x
          · have hany : (l.any fun u => cs.getD (placeZ n u x).toNat 0 != color) = true := by simpa [okP] using hok
            rw [hany]
            have HOK := Lib.hid hok
            have d12 := (hB1.cell (World.block_lt_of_cell? _ _ hcx)).trans hcx
            have f12 := (hB1.frozen (World.block_lt_of_cell? _ _ hcx)).trans hfx
            have hsz := hB1.size
            clear hok hany
            go_wp2_with fail
            go_roundg (n - (x + 1))
            case measure => have := HG.out.1; omega
            case rel =>
              refine ⟨_, x + 1, rfl, ?_, ?_, ?_, ?_, ?_, ?_⟩
              · omega
              · simp
              · exact frozen_new _ _ _ _ rfl
              · omega
              · refine ⟨rfl, by have := HG.out.2.1; omega, ?_⟩
                have hq := HG.out.2.2
                rw [show n - x = (n - (x + 1)) + 1 by omega] at hq
                rw [hq]
                simp only [firstFrom, HOK.out]
                rfl
              · exact (HB.out.trans (hB1.mono hsz0)).alloc (by omega) _
          · have hany : (l.any fun u => cs.getD (placeZ n u x).toNat 0 != color) = false := by simpa [okP] using hok
            rw [hany]
            have HOK := Lib.hid hok
            have d12 := (hB1.cell (World.block_lt_of_cell? _ _ hcx)).trans hcx
            have f12 := (hB1.frozen (World.block_lt_of_cell? _ _ hcx)).trans hfx
            have d5 := (hB1.cell (World.block_lt_of_cell? _ _ c5)).trans c5
            have d6 := (hB1.cell (World.block_lt_of_cell? _ _ c6)).trans c6
            have d7 := (hB1.cell (World.block_lt_of_cell? _ _ c7)).trans c7
            have hsz := hB1.size
            have HXW := HX.below hB1
            have HAW := (HA.out.below (B3.trans (HB.out.mono (by omega)))).below hB1
            clear hok hany c5 c6 c7 hcx hfx
            go_wp2_with fail
            go_region_held3 (fun w' => w'.cell? ⟨w.heap.size, 0, none⟩ = some (.int .i64 n) ∧ w'.cell? ⟨w.heap.size + 1, 0, none⟩ = some (.slice A cs.length cap) ∧
                w'.cell? ⟨w.heap.size + 1 + 1, 0, none⟩ = some (.int .i64 color) ∧ w'.cell? ⟨bv, 0, none⟩ = some (.int .i64 x) ∧ Below W1.heap.size W1 w')
              ((refine keep4 d5 d6 d7 d12 ?_; first | assumption | exact (Below.refl _ _).drew | exact ((Below.refl _ W1).alloc (Nat.le_refl _) _).drew | exact Below.alloc (by assumption) (Below.size (by assumption)) _ | exact (Below.alloc (by assumption) (Below.size (by assumption)) _).drew | exact Below.trans (by assumption) (Below.mono (by assumption) (Below.size (by assumption)))))
              (first | (go_at_call 67; refine (clip_calls _ _ _ _ h1).mono ?_; rintro e w' ⟨rfl, rfl⟩) | (refine step_app rfl (.tmp 44) (.tmp 46) rfl rfl _ _ l rfl HLN.out (HXW.below (((Below.refl _ W1).alloc (Nat.le_refl _) _).drew)) HN0.out _ _ _ [(x : Int)] rfl rfl (rd_one W1 _ _ rfl).drew (by simp) (by simp; omega) ?_; intro g nn cap' w2 hnn hcap1 hcap2 hrd hbel; have HNN := Lib.hid hnn; clear hnn; have hbW : Below W1.heap.size W1 w2 := (((Below.refl _ W1).alloc (Nat.le_refl _) _).drew).trans (hbel.mono (by simp)); clear hbel) | (go_at_call 27; (with_reducible refine (HIH.out (l ++ [(x : Int)]) k _ _ _ w2 (by have := HNN.out; simp at this ⊢; exact this) (by have := HK.out; simp; omega) (by simp; omega) (by simp; omega) (ris_snoc HR.out HG.out.2.1 hx) (HAW.below hbW) hrd (by have := HNN.out; simp at this ⊢; omega) hcap1 (fun h => by cases h)).mono ?_); rintro e w3 ⟨v3, rfl, hopt, hbel3⟩; have hbW3 : Below W1.heap.size W1 w3 := hbW.trans (hbel3.mono hbW.size); clear hbel3))
            all_goals
              have e12 := (hbW3.cell (World.block_lt_of_cell? _ _ d12)).trans d12
              have f123 := (hbW3.frozen (World.block_lt_of_cell? _ _ d12)).trans f12
              have hsz3 := hbW3.size
              have HB3 := Lib.hid hbW3
              have HOPT := Lib.hid hopt
              clear hbW3 hopt d12 d5 d6 d7 f12 HNN hrd hbW hcap1 hcap2
              have qT : ∀ (w : World) (a : Option Addr) (n c n' c' : Nat), (binOp .neq 27 (.slice a n c) (.slice none n' c')).run Try.prog w = .ok (.bool (!a.isNone)) w := fun w a n c n' c' => run_neq_slice_nil_any w _ _ a n c n' c' Try.underlying27
              cases hcl : cliqueF (okP cs n color) n f (l ++ [(x : Int)]) with
              | none =>
                rw [hcl] at HOPT
                obtain rfl : v3 = .slice none 0 0 := HOPT.out
                have HCQ := Lib.hid hcl
                clear hcl
                go_wp2_with fail
                go_roundg (n - (x + 1))
                case measure => have := HG.out.1; omega
                case rel =>
                  refine ⟨_, x + 1, rfl, by omega, by simp, frozen_new _ _ _ _ rfl, by omega, ?_, ?_⟩
                  · refine ⟨rfl, by have := HG.out.2.1; omega, ?_⟩
                    have hq := HG.out.2.2
                    rw [show n - x = (n - (x + 1)) + 1 by omega] at hq
                    rw [hq]
                    simp only [firstFrom, HOK.out, if_true, HCQ.out]
                  · exact ((HB.out.trans (hB1.mono hsz0)).trans (HB3.out.mono (by omega))).alloc (by omega) _
              | some r =>
                rw [hcl] at HOPT
                obtain ⟨⟨a3, n3, c3, rfl⟩, hs⟩ := HOPT.out
                have HCQ := Lib.hid hcl
                have HS := Lib.hid hs
                clear hcl hs
                go_wp2_with fail
                go_ret
                refine ⟨_, rfl, ?_, ((B3.trans (HB.out.mono (by omega))).trans (hB1.mono (by omega))).trans (HB3.out.mono (by omega))⟩
                have hq := HG.out.2.2
                rw [show n - x = (n - (x + 1)) + 1 by omega] at hq
                rw [hq]
                simp only [firstFrom, HOK.out, if_true, HCQ.out]
                exact ⟨⟨_, _, _, rfl⟩, HS.out⟩
        · go_wp2_with fail
          go_ret
          refine ⟨_, rfl, ?_, B3.trans (HB.out.mono (by omega))⟩
          have hq := HG.out.2.2
          rw [show n - x = 0 by omega] at hq
          rw [hq]
          rfl
end Go.Proofs.Ythnhmfmlhlpggaa.Pt
