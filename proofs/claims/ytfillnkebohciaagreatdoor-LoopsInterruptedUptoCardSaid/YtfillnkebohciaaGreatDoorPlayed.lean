/- The program's played: a run, all checked first. -/
import Derived.Test.YtfillnkebohciaaGreatDoorPwRun
import Derived.Test.YtfillnkebohciaaGreatDoorLooped
import Derived.Test.YtfillnkebohciaaGreatDoorRoundOk
namespace Go.Proofs.YtfillnkebohciaaGreatDoor.Rn
open Go.RowKit
open F (Fr Cl)
open L (Lp At lv)
open T (Step stK steps_at lng roundM rE rL rP ResR resF_rd)
open Come (tot Ok)

/-- What is wrong with a run's arguments, but for the round. -/
def argF (lf bf wf wt af : Int) : Int := if lf ≠ 0 then lf else if bf ≠ 0 then bf else if af < 1 ∨ 4 < af then 4 else if (wf < 0 ∨ wt < wf) ∨ 345686400000 < wt then 1 else 0
theorem outside1 (n low high : Int) (b : Bool) (hb : decide (n < low ∨ high < n) = b) (w : World) : Calls Tryz.prog 85 #[.int .i64 n, .int .i64 low, .int .i64 high] w fun e w' => e = .returned (.bool b) ∧ w' = w := Cut.outside n low high b hb w
def NoPlayer (q : Int) (e : Ending) : Prop := e = .returned (.tuple #[.pointer none, .int .i64 q])
set_option maxHeartbeats 4000000 in
set_option maxRecDepth 100000 in
theorem played_early (n : Nat) (x : Lp) (A As : Option Addr) (c c' : Nat) (wf wt af : Int) (A2 : Option Addr) (c2 : Nat) (bs : List Bk) (w : World) (h : At n w x A As) (hC : bkK.C w A2 bs) (hk : ∀ f ∈ bs, f.1.size ≤ 9223372036854775807) (hq : argF (L.lf (n + 1) x) (fault bs) wf wt af ≠ 0) :
    Calls Tryz.prog 57 #[lv x A As c c', .agg #[.int .i64 wf, .int .i64 wt], .slice A2 bs.length c2, .int .i64 af] w fun e w' => NoPlayer (argF (L.lf (n + 1) x) (fault bs) wf wt af) e ∧ Below w.heap.size w w' := by
  have HA := Lib.hid (fun (c d : Array Value) (e e' : TypeId) => (((Below.refl w.heap.size w).alloc (Nat.le_refl _) (.cells c e)).alloc (by simp) (.cells d e')))
  have CL := Lib.hid (fun W (hb : Below w.heap.size w W) => L.checkLoop n x A As c c' W (h.mono hb))
  have CB := Lib.hid (fun W (hb : Below w.heap.size w W) => checkBreaks (.slice A2 bs.length c2) bs hk W ⟨A2, c2, rfl, hC.mono hb⟩)
  have HT := Lib.hid (fun (c c' : Array Value) (o o' : TypeId) (w2 : World) => @Copy.two w w2 c c' o o')
  clear h hC hk
  obtain ⟨Q, hQ⟩ : ∃ Q, argF (L.lf (n + 1) x) (fault bs) wf wt af = Q := ⟨_, rfl⟩
  rw [hQ] at hq ⊢
  unfold argF at hQ
  generalize L.lf (n + 1) x = lf at *
  generalize fault bs = bf at *
  unfold lv at CL ⊢
  by_cases h1 : lf ≠ 0
  · rw [if_pos h1] at hQ
    subst hQ
    have h1b : (lf != 0) = true := bne_iff_ne.2 h1
    clear h1 hq CB
    go_enter Tryz.func57, Tryz.ntmps57
    go_wp2_with (go_at_call 47; refine (CL.out _ (HA.out _ _ _ _)).mono ?_; rintro e w2 ⟨rfl, hB2⟩; have HB2 := Lib.hid (B.below_trans (HA.out _ _ _ _) hB2); clear hB2)
    go_ret2
    exact ⟨rfl, HB2.out⟩
  · rw [if_neg h1] at hQ
    obtain rfl : lf = 0 := Decidable.not_not.1 h1
    by_cases h2 : bf ≠ 0
    · rw [if_pos h2] at hQ
      subst hQ
      have h2b : (bf != 0) = true := bne_iff_ne.2 h2
      clear h1 h2 hq
      go_enter Tryz.func57, Tryz.ntmps57
      go_wp2_with (first
        | (go_at_call 47; refine (CL.out _ (HA.out _ _ _ _)).mono ?_; rintro e w2 ⟨rfl, hB2⟩; have HB2 := Lib.hid (B.below_trans (HA.out _ _ _ _) hB2); clear hB2)
        | (go_at_call 28; refine (CB.out _ HB2.out).mono ?_; rintro e w3 ⟨rfl, hB3⟩; have HB3 := Lib.hid (B.below_trans HB2.out hB3); clear hB3))
      go_ret2
      exact ⟨rfl, HB3.out⟩
    · rw [if_neg h2] at hQ
      obtain rfl : bf = 0 := Decidable.not_not.1 h2
      by_cases h3 : af < 1 ∨ 4 < af
      · rw [if_pos h3] at hQ
        subst hQ
        have C3 := Lib.hid (fun W => outside1 af 1 4 true (decide_eq_true h3) W)
        clear h1 h2 h3 hq
        go_enter Tryz.func57, Tryz.ntmps57
        go_wp2_with (first
          | (go_at_call 47; refine (CL.out _ (HA.out _ _ _ _)).mono ?_; rintro e w2 ⟨rfl, hB2⟩; have HB2 := Lib.hid (B.below_trans (HA.out _ _ _ _) hB2); clear hB2)
          | (go_at_call 28; refine (CB.out _ HB2.out).mono ?_; rintro e w3 ⟨rfl, hB3⟩; have HB3 := Lib.hid (B.below_trans HB2.out hB3); clear hB3)
          | (go_at_call 85; refine (C3.out _).mono ?_; rintro e w4 ⟨rfl, rfl⟩))
        go_ret2
        exact ⟨rfl, HB3.out⟩
      · rw [if_neg h3] at hQ
        have h4 : (wf < 0 ∨ wt < wf) ∨ 345686400000 < wt := by
          by_cases h4 : (wf < 0 ∨ wt < wf) ∨ 345686400000 < wt
          · exact h4
          · rw [if_neg h4] at hQ; exact absurd hQ.symm hq
        rw [if_pos h4] at hQ
        subst hQ
        have C3 := Lib.hid (fun W => outside1 af 1 4 false (decide_eq_false h3) W)
        clear h1 h2 h3 hq
        by_cases h5 : wf < 0 ∨ wt < wf
        · have C4 := Lib.hid (fun W => outside1 wf 0 wt true (decide_eq_true h5) W)
          clear h4 h5
          go_enter Tryz.func57, Tryz.ntmps57
          go_upto_region 9 with (first
            | (go_at_call 47; refine (CL.out _ (HA.out _ _ _ _)).mono ?_; rintro e w2 ⟨rfl, hB2⟩; have HB2 := Lib.hid (B.below_trans (HA.out _ _ _ _) hB2); have HBT := Lib.hid hB2; clear hB2)
            | (go_at_call 28; refine (CB.out _ HB2.out).mono ?_; rintro e w3 ⟨rfl, hB3⟩; have HB3 := Lib.hid (B.below_trans HB2.out hB3); have HBU := Lib.hid (B.below_trans HBT.out hB3); clear hB3)
            | (go_at_call 85; refine (C3.out _).mono ?_; rintro e w4 ⟨rfl, rfl⟩))
          have HZ := HT.out _ _ _ _ _ HBU.out
          have y0 := HZ.2.1 0 _ rfl
          have y1 := HZ.2.1 1 _ rfl
          clear HZ
          go_wp2_with (go_at_call 85; refine (C4.out _).mono ?_; rintro e w4 ⟨rfl, rfl⟩)
          go_ret2
          exact ⟨rfl, HB3.out⟩
        · have C4 := Lib.hid (fun W => outside1 wf 0 wt false (decide_eq_false h5) W)
          have h6 : 345686400000 < wt := by omega
          clear h4 h5
          go_enter Tryz.func57, Tryz.ntmps57
          go_upto_region 9 with (first
            | (go_at_call 47; refine (CL.out _ (HA.out _ _ _ _)).mono ?_; rintro e w2 ⟨rfl, hB2⟩; have HB2 := Lib.hid (B.below_trans (HA.out _ _ _ _) hB2); have HBT := Lib.hid hB2; clear hB2)
            | (go_at_call 28; refine (CB.out _ HB2.out).mono ?_; rintro e w3 ⟨rfl, hB3⟩; have HB3 := Lib.hid (B.below_trans HB2.out hB3); have HBU := Lib.hid (B.below_trans HBT.out hB3); clear hB3)
            | (go_at_call 85; refine (C3.out _).mono ?_; rintro e w4 ⟨rfl, rfl⟩))
          have HZ := HT.out _ _ _ _ _ HBU.out
          have y0 := HZ.2.1 0 _ rfl
          have y1 := HZ.2.1 1 _ rfl
          clear HZ
          go_wp2_with (go_at_call 85; refine (C4.out _).mono ?_; rintro e w4 ⟨rfl, rfl⟩)
          go_ret2
          exact ⟨rfl, HB3.out⟩
theorem argF_zero {lf bf wf wt af : Int} (h : argF lf bf wf wt af = 0) : lf = 0 ∧ bf = 0 ∧ (1 ≤ af ∧ af ≤ 4) ∧ 0 ≤ wf ∧ wf ≤ wt ∧ wt ≤ 345686400000 := by
  unfold argF at h
  by_cases h1 : lf ≠ 0
  · rw [if_pos h1] at h; exact absurd h h1
  · rw [if_neg h1] at h
    by_cases h2 : bf ≠ 0
    · rw [if_pos h2] at h; exact absurd h h2
    · rw [if_neg h2] at h
      by_cases h3 : af < 1 ∨ 4 < af
      · rw [if_pos h3] at h; exact absurd h (by decide)
      · rw [if_neg h3] at h
        by_cases h4 : (wf < 0 ∨ wt < wf) ∨ 345686400000 < wt
        · rw [if_pos h4] at h; exact absurd h (by decide)
        · exact ⟨Decidable.not_not.1 h1, Decidable.not_not.1 h2, by omega, by omega, by omega, by omega⟩
theorem rnP_cnt (l : List Step) (wf wt af : Int) : ∀ (bs : List Bk) (a : Int) (s : PS), s.cnt ≤ 3002 → (rnP l wf wt af bs a s).cnt ≤ 3002
  | [], a, s, h => by
    have := gap_cnt (l := l) wf af a wt s
    show (gap l wf af a wt s).cnt ≤ 3002
    omega
  | b :: bs, a, s, h => by
    rw [rnP]
    split
    · exact rnP_cnt l wf wt af bs a s h
    · rename_i hc
      refine rnP_cnt l wf wt af bs _ _ ?_
      have := gap_cnt (l := l) wf af a (max b.2.1 wf) s
      rw [cnt_oth]
      omega
theorem pw_new {W : World} {A : Option Addr} {c : Nat} {l : List Step} (p wf wt af : Int) (t : TypeId) (h : stK.C W A l) (g : Nat) (hg : g = W.heap.size) :
    Pw W (W.alloc (.cells #[.int .i64 p, .slice A l.length c, .int .i64 (tot l), .int .i64 wf, .int .i64 wt, .int .i64 af, .slice none 0 0, .slice none 0 0, .int .i64 0, .int .i64 0, .bool false] t)) g A ⟨c, fun _ => False, W⟩ l p wf wt af (.slice none 0 0) (.slice none 0 0) s0 := by
  subst hg
  exact ⟨h, (Below.refl _ _).alloc (Nat.le_refl _) _, Cl.new W _ _ 0 _ rfl, Cl.new W _ _ 1 _ rfl, Cl.new W _ _ 2 _ rfl, Cl.new W _ _ 3 _ rfl, Cl.new W _ _ 4 _ rfl, Cl.new W _ _ 5 _ rfl, Cl.new W _ _ 6 _ rfl, Cl.new W _ _ 7 _ rfl, Cl.new W _ _ 8 _ rfl, Cl.new W _ _ 9 _ rfl, Cl.new W _ _ 10 _ rfl,
    B.Own.nil _ _ _ _ _, B.Own.nil _ _ _ _ _, Nat.le_refl _, by simp [Value.ownBlock], by simp [Value.ownBlock], by simp [Value.ownBlock], fun _ e => e.elim, fun e => e, fun _ _ e => e, fun _ _ e => e⟩
/-- A player that has played. -/
def Player (w : World) (l : List Step) (wf wt af : Int) (bs : List Bk) (e : Ending) (w' : World) : Prop :=
  ∃ (b : Nat) (w0 : World) (A : Option Addr) (c : Nat) (ps : Int) (vO vX : Value) (s : PS), e = .returned (.tuple #[.pointer (some ⟨b, 0, none⟩), .int .i64 0]) ∧ Pw w0 w' b A ⟨c, fun _ => False, w0⟩ l ps wf wt af vO vX s ∧ s.own = ownOf (all l wf wt af bs) ∧ s.oth = othOf (all l wf wt af bs) ∧ w.heap.size ≤ w0.heap.size
set_option maxHeartbeats 8000000 in
set_option maxRecDepth 100000 in
theorem played_run (n : Nat) (x : Lp) (A As : Option Addr) (c c' : Nat) (wf wt af : Int) (A2 : Option Addr) (c2 : Nat) (bs : List Bk) (w : World) (h : At n w x A As) (hC : bkK.C w A2 bs) (hk : ∀ f ∈ bs, f.1.size ≤ 9223372036854775807) (hq : argF (L.lf (n + 1) x) (fault bs) wf wt af = 0) (p : Nat) (l : List Step) (hr : roundM n x = some (p, l)) (big : Bool) (hbig : decide (3000 < (all l wf wt af bs).length) = big) :
    Calls Tryz.prog 57 #[lv x A As c c', .agg #[.int .i64 wf, .int .i64 wt], .slice A2 bs.length c2, .int .i64 af] w fun e w' => (if big = true then NoPlayer 2 e else Player w l wf wt af bs e w') ∧ Below w.heap.size w w' := by
  obtain ⟨hlf, hbf, haf, ha0, ha1, ha2⟩ := argF_zero hq
  obtain ⟨hok, hn, hl, hlng⟩ := Come.round_ok h hlf hr
  obtain ⟨hb1, hb2, hb3⟩ := fault_ok hbf
  have HA := Lib.hid (fun (c d : Array Value) (e e' : TypeId) => (((Below.refl w.heap.size w).alloc (Nat.le_refl _) (.cells c e)).alloc (by simp) (.cells d e')))
  have CL := Lib.hid (fun W (hb : Below w.heap.size w W) => L.checkLoop n x A As c c' W (h.mono hb))
  have CB := Lib.hid (fun W (hb : Below w.heap.size w W) => checkBreaks (.slice A2 bs.length c2) bs hk W ⟨A2, c2, rfl, hC.mono hb⟩)
  have CR := Lib.hid (fun W (hb : Below w.heap.size w W) => T.roundOf n x A As c c' W (h.mono hb) (T.lf_pf hlf))
  rw [hlf] at CL
  rw [hbf] at CB
  rw [hr] at CR
  simp only [ResR, hlng] at CR
  have HT := Lib.hid (fun (c c' : Array Value) (o o' : TypeId) (w2 : World) => @Copy.two w w2 c c' o o')
  have C3 := Lib.hid (fun W => outside1 af 1 4 false (decide_eq_false (by omega)) W)
  have C4 := Lib.hid (fun W => outside1 wf 0 wt false (decide_eq_false (by omega)) W)
  have HCB := Lib.hid (fun W (hb : Below w.heap.size w W) => hC.mono hb)
  have hcs : Cs wt (cuts wf wt bs) wf := cs_of wf wt bs wf (fun b hb => (hb2 b hb).2.1) hb3 (fun b _ => by omega) ha1 (Int.le_refl _)
  obtain ⟨r1, r2⟩ := rnP_all hok hn haf hcs
  have HRC := Lib.hid (rnP_cnt l wf wt af bs wf s0 (by decide))
  have HR1 := Lib.hid r1
  have HR2 := Lib.hid r2
  have HKP : Hid (Kp l s0) := Lib.hid ⟨len_pos hn, fun e => by cases e⟩
  have CRUN := Lib.hid (fun (W0 W : World) (b cc : Nat) (A3 : Option Addr) (ps : Int) (hP : Pw W0 W b A3 ⟨cc, fun _ => False, W0⟩ l ps wf wt af (.slice none 0 0) (.slice none 0 0) s0) (hC : bkK.C W0 A2 bs) => run_any hP hok hl HKP.out (by decide) ⟨ha0, ha1, ha2⟩ haf A2 c2 bs hC (fun x hx => ⟨(hb2 x hx).1, (hb2 x hx).2.1, (hb2 x hx).2.2.1⟩))
  have HLN := Lib.hid hlng
  have h6 : ¬ 345686400000 < wt := by omega
  have HBG := Lib.hid hbig
  clear h hC hk hq hlf hbf hok hn hl hlng hb1 hb2 hb3 hcs r1 r2 hr hbig
  unfold lv at CL CR ⊢
  go_enter Tryz.func57, Tryz.ntmps57
  go_upto_region 9 with (first
    | (go_at_call 47; refine (CL.out _ (HA.out _ _ _ _)).mono ?_; rintro e w2 ⟨rfl, hB2⟩; have HB2 := Lib.hid (B.below_trans (HA.out _ _ _ _) hB2); have HBT := Lib.hid hB2; have HZ2 := HT.out _ _ _ _ _ hB2; have u0 := HZ2.1 0 _ rfl; have u1 := HZ2.1 1 _ rfl; have u2 := HZ2.1 2 _ rfl; have u3 := HZ2.1 3 _ rfl; have u4 := HZ2.1 4 _ rfl; have u5 := HZ2.1 5 _ rfl; clear hB2 HZ2)
    | (go_at_call 28; refine (CB.out _ HB2.out).mono ?_; rintro e w3 ⟨rfl, hB3⟩; have HB3 := Lib.hid (B.below_trans HB2.out hB3); have HBU := Lib.hid (B.below_trans HBT.out hB3); clear hB3)
    | (go_at_call 85; refine (C3.out _).mono ?_; rintro e w4 ⟨rfl, rfl⟩))
  clear u0 u1 u2 u3 u4 u5
  have HZ := HT.out _ _ _ _ _ HBU.out
  have u0 := HZ.1 0 _ rfl
  have u1 := HZ.1 1 _ rfl
  have u2 := HZ.1 2 _ rfl
  have u3 := HZ.1 3 _ rfl
  have u4 := HZ.1 4 _ rfl
  have u5 := HZ.1 5 _ rfl
  have y0 := HZ.2.1 0 _ rfl
  have y1 := HZ.2.1 1 _ rfl
  have HY := Lib.hid (And.intro y0 y1)
  clear HZ
  go_upto_region 14 with (first
    | (go_at_call 85; refine (C4.out _).mono ?_; rintro e w4 ⟨rfl, rfl⟩)
    | (go_at_call 49; refine (CR.out _ HB3.out).mono ?_; rintro e w5 ⟨⟨A5, c5, rfl, hC5⟩, hB5⟩; have HC5 := Lib.hid hC5; have HB5 := Lib.hid (B.below_trans HB3.out hB5); have HB5' := Lib.hid hB5; clear hB5 hC5))
  obtain ⟨hy0, hy1⟩ := HY.out
  have v0 := fun o => B.cell_below ((Below.refl _ w5).alloc (Nat.le_refl _) o) (B.cell_below HB5'.out hy0)
  have v1 := fun o => B.cell_below ((Below.refl _ w5).alloc (Nat.le_refl _) o) (B.cell_below HB5'.out hy1)
  clear u0 u1 u2 u3 u4 u5 y0 y1 hy0 hy1
  go_upto_region 15 with (fail)
  clear v0 v1
  have HC6 := Lib.hid (HC5.out.mono ((Below.refl _ w5).alloc (Nat.le_refl _) (.cells #[.int .i64 p, .slice A5 l.length c5, .int .i64 (tot l)] 82)))
  have HSZ : Hid (w5.heap.size + 1 = (w5.alloc (.cells #[.int .i64 p, .slice A5 l.length c5, .int .i64 (tot l)] 82)).heap.size) := Lib.hid (by simp)
  have HB6 := Lib.hid (HB5.out.trans (((Below.refl _ w5).alloc (Nat.le_refl _) (.cells #[.int .i64 p, .slice A5 l.length c5, .int .i64 (tot l)] 82)).mono HB5.out.size))
  generalize w5.alloc (.cells #[.int .i64 p, .slice A5 l.length c5, .int .i64 (tot l)] 82) = W6 at *
  have HPW := Lib.hid (pw_new (c := c5) p wf wt af 111 HC6.out _ HSZ.out)
  have HBK := Lib.hid (HCB.out _ HB6.out)
  generalize w5.heap.size + 1 = g at *
  have crun := CRUN.out _ _ _ _ _ _ HPW.out HBK.out
  have HR7 := Lib.hid crun
  clear crun CRUN
  cases big with
  | true =>
    have hb := of_decide_eq_true HBG.out
    have h3 := HR2.out hb
    have CF := Lib.hid (fun (W : World) (vO vX : Value) (hP : Pw W6 W g A5 ⟨c5, fun _ => False, W6⟩ l p wf wt af vO vX (rnP l wf wt af bs wf s0)) => full hP (by have := HRC.out; omega) true (decide_eq_true h3))
    clear hb h3
    go_wp2_with (first
      | (go_at_call 86; refine HR7.out.mono ?_; rintro e w8 ⟨rfl, vO, vX, hP8⟩; have HP8 := Lib.hid hP8; clear hP8)
      | (go_at_call 87; refine (CF.out _ _ _ HP8.out).mono ?_; rintro e w9 ⟨rfl, q9, rfl⟩))
    go_ret2
    exact ⟨rfl, HB6.out.trans ((B.below_drew HP8.out.be _).mono HB6.out.size)⟩
  | false =>
    have hb := of_decide_eq_false HBG.out
    obtain ⟨e1, e2⟩ := HR1.out (by omega)
    have h3 : (rnP l wf wt af bs wf s0).cnt ≤ 3000 := by unfold PS.cnt; rw [e1, e2]; have := (own_oth (all l wf wt af bs)).1; omega
    have HE1 := Lib.hid e1
    have HE2 := Lib.hid e2
    have CF := Lib.hid (fun (W : World) (vO vX : Value) (hP : Pw W6 W g A5 ⟨c5, fun _ => False, W6⟩ l p wf wt af vO vX (rnP l wf wt af bs wf s0)) => full hP (by omega) false (decide_eq_false (by omega)))
    clear hb h3 e1 e2
    go_wp2_with (first
      | (go_at_call 86; refine HR7.out.mono ?_; rintro e w8 ⟨rfl, vO, vX, hP8⟩; have HP8 := Lib.hid hP8; clear hP8)
      | (go_at_call 87; refine (CF.out _ _ _ HP8.out).mono ?_; rintro e w9 ⟨rfl, q9, rfl⟩))
    go_ret2
    exact ⟨⟨g, W6, A5, c5, p, vO, vX, _, rfl, HP8.out.drew q9, HE1.out, HE2.out, HB6.out.size⟩, HB6.out.trans ((B.below_drew HP8.out.be _).mono HB6.out.size)⟩
set_option maxHeartbeats 4000000 in
set_option maxRecDepth 100000 in
theorem played_none (n : Nat) (x : Lp) (A As : Option Addr) (c c' : Nat) (wf wt af : Int) (A2 : Option Addr) (c2 : Nat) (bs : List Bk) (w : World) (h : At n w x A As) (hC : bkK.C w A2 bs) (hk : ∀ f ∈ bs, f.1.size ≤ 9223372036854775807) (hq : argF (L.lf (n + 1) x) (fault bs) wf wt af = 0) (hr : roundM n x = none) :
    Calls Tryz.prog 57 #[lv x A As c c', .agg #[.int .i64 wf, .int .i64 wt], .slice A2 bs.length c2, .int .i64 af] w fun e w' => NoPlayer 2 e ∧ Below w.heap.size w w' := by
  obtain ⟨hlf, hbf, haf, ha0, ha1, ha2⟩ := argF_zero hq
  have HA := Lib.hid (fun (c d : Array Value) (e e' : TypeId) => (((Below.refl w.heap.size w).alloc (Nat.le_refl _) (.cells c e)).alloc (by simp) (.cells d e')))
  have CL := Lib.hid (fun W (hb : Below w.heap.size w W) => L.checkLoop n x A As c c' W (h.mono hb))
  have CB := Lib.hid (fun W (hb : Below w.heap.size w W) => checkBreaks (.slice A2 bs.length c2) bs hk W ⟨A2, c2, rfl, hC.mono hb⟩)
  have CR := Lib.hid (fun W (hb : Below w.heap.size w W) => T.roundOf n x A As c c' W (h.mono hb) (T.lf_pf hlf))
  rw [hlf] at CL
  rw [hbf] at CB
  rw [hr] at CR
  simp only [ResR] at CR
  have HT := Lib.hid (fun (c c' : Array Value) (o o' : TypeId) (w2 : World) => @Copy.two w w2 c c' o o')
  have C3 := Lib.hid (fun W => outside1 af 1 4 false (decide_eq_false (by omega)) W)
  have C4 := Lib.hid (fun W => outside1 wf 0 wt false (decide_eq_false (by omega)) W)
  have h6 : ¬ 345686400000 < wt := by omega
  clear h hC hk hq hlf hbf hr
  unfold lv at CL CR ⊢
  go_enter Tryz.func57, Tryz.ntmps57
  go_upto_region 9 with (first
    | (go_at_call 47; refine (CL.out _ (HA.out _ _ _ _)).mono ?_; rintro e w2 ⟨rfl, hB2⟩; have HB2 := Lib.hid (B.below_trans (HA.out _ _ _ _) hB2); have HBT := Lib.hid hB2; clear hB2)
    | (go_at_call 28; refine (CB.out _ HB2.out).mono ?_; rintro e w3 ⟨rfl, hB3⟩; have HB3 := Lib.hid (B.below_trans HB2.out hB3); have HBU := Lib.hid (B.below_trans HBT.out hB3); clear hB3)
    | (go_at_call 85; refine (C3.out _).mono ?_; rintro e w4 ⟨rfl, rfl⟩))
  have HZ := HT.out _ _ _ _ _ HBU.out
  have u0 := HZ.1 0 _ rfl
  have u1 := HZ.1 1 _ rfl
  have u2 := HZ.1 2 _ rfl
  have u3 := HZ.1 3 _ rfl
  have u4 := HZ.1 4 _ rfl
  have u5 := HZ.1 5 _ rfl
  have y0 := HZ.2.1 0 _ rfl
  have y1 := HZ.2.1 1 _ rfl
  clear HZ
  go_wp2_with (first
    | (go_at_call 85; refine (C4.out _).mono ?_; rintro e w4 ⟨rfl, rfl⟩)
    | (go_at_call 49; refine (CR.out _ HB3.out).mono ?_; rintro e w5 ⟨rfl, hB5⟩; have HB5 := Lib.hid (B.below_trans HB3.out hB5); clear hB5))
  go_ret2
  exact ⟨rfl, HB5.out.alloc HB5.out.size _⟩
end Go.Proofs.YtfillnkebohciaaGreatDoor.Rn
