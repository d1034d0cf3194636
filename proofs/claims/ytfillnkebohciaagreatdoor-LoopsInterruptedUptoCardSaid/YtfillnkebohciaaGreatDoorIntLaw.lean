/- signlaw1.loopsInterrupted and LoopsInterrupted answer true. Printed by wip/gen/intlawgen.py. -/
import Derived.Test.YtfillnkebohciaaGreatDoorLost
import Derived.Test.YtfillnkebohciaaGreatDoorRefLost
import Derived.Test.YtfillnkebohciaaGreatDoorEqs
import Derived.Test.YtfillnkebohciaaGreatDoorLpStay
import Derived.Test.YtfillnkebohciaaGreatDoorLooped
import Derived.Test.YtfillnkebohciaaGreatDoorOr
import Derived.Test.YtfillnkebohciaaGreatDoorSmall
import Derived.Deep.Cut
namespace Go.Proofs.YtfillnkebohciaaGreatDoor.Rn
open Go.RowKit
open F (Fr Cl)
open L (Lp At lv)
open T (Step stK lng roundM rE rL rP RdRes)
open Come (tot Ok ptK)

def winF (wf wt : Int) : Int := if (wf < 0 ∨ wt < wf) ∨ 345686400000 < wt then 1 else 0
def kndF (af : Int) : Int := if af < 1 ∨ 4 < af then 4 else 0
set_option maxRecDepth 100000 in
theorem windowFault (wf wt : Int) (w : World) : Calls Tryz.prog 32 #[.agg #[.int .i64 wf, .int .i64 wt]] w fun e w' => e = .returned (.int .i64 (winF wf wt)) ∧ Below w.heap.size w w' := by
  by_cases h1 : 0 ≤ wf ∧ wf ≤ wt
  · have o1 := fun W => Cut.within wf 0 wt true (decide_eq_true h1) W
    by_cases h2 : 345686400000 < wt
    · have HF : Hid (winF wf wt = 1) := Lib.hid (if_pos (.inr h2))
      clear h1
      go_enter Tryz.func32, Tryz.ntmps32
      go_wp2_with (go_at_call 52; refine (o1 _).mono ?_; rintro e w' ⟨rfl, rfl⟩)
      go_ret
      exact ⟨by rw [HF.out]; rfl, (Below.refl _ _).alloc (Nat.le_refl _) _⟩
    · have HF : Hid (winF wf wt = 0) := Lib.hid (if_neg (by omega))
      clear h1
      go_enter Tryz.func32, Tryz.ntmps32
      go_wp2_with (go_at_call 52; refine (o1 _).mono ?_; rintro e w' ⟨rfl, rfl⟩)
      go_ret
      exact ⟨by rw [HF.out]; rfl, (Below.refl _ _).alloc (Nat.le_refl _) _⟩
  · have o1 := fun W => Cut.within wf 0 wt false (decide_eq_false h1) W
    have HF : Hid (winF wf wt = 1) := Lib.hid (if_pos (.inl (by omega)))
    clear h1
    go_enter Tryz.func32, Tryz.ntmps32
    go_wp2_with (go_at_call 52; refine (o1 _).mono ?_; rintro e w' ⟨rfl, rfl⟩)
    go_ret
    exact ⟨by rw [HF.out]; rfl, (Below.refl _ _).alloc (Nat.le_refl _) _⟩
theorem or_arg {lf bf af wf wt : Int} (E : Int) (h : argF lf bf wf wt af ≠ 0) : Or.firstNZ [lf, bf, kndF af, winF wf wt, E] = argF lf bf wf wt af := by
  unfold argF at h ⊢
  unfold Or.firstNZ
  by_cases h1 : lf ≠ 0
  · rw [if_pos h1, if_pos h1]
  · rw [if_neg h1] at h ⊢
    rw [if_neg h1]
    unfold Or.firstNZ
    by_cases h2 : bf ≠ 0
    · rw [if_pos h2, if_pos h2]
    · rw [if_neg h2] at h ⊢
      rw [if_neg h2]
      unfold Or.firstNZ kndF
      by_cases h3 : af < 1 ∨ 4 < af
      · rw [if_pos h3, if_pos h3, if_pos (by decide)]
      · rw [if_neg h3] at h ⊢
        rw [if_neg h3, if_neg (by decide)]
        unfold Or.firstNZ winF
        by_cases h4 : (wf < 0 ∨ wt < wf) ∨ 345686400000 < wt
        · rw [if_pos h4, if_pos (by decide)]
        · rw [if_neg h4] at h
          exact absurd rfl h
theorem or_zero {lf bf af wf wt : Int} (E : Int) (h : argF lf bf wf wt af = 0) : Or.firstNZ [lf, bf, kndF af, winF wf wt, E] = E := by
  obtain ⟨h1, h2, h3, h4, h5, h6⟩ := argF_zero h
  have e1 : kndF af = 0 := if_neg (by omega)
  have e2 : winF wf wt = 0 := if_neg (by omega)
  rw [h1, h2, e1, e2]
  simp only [Or.firstNZ]
  by_cases hE : E ≠ 0
  · simp [hE]
  · simp [Decidable.not_not.1 hE]
set_option maxHeartbeats 8000000 in
set_option maxRecDepth 100000 in
theorem int_lo (n : Nat) (x : Lp) (A As : Option Addr) (c c' : Nat) (wf wt af : Int) (A2 : Option Addr) (c2 : Nat) (bs : List Bk) (hk : ∀ f ∈ bs, f.1.size ≤ 9223372036854775807) (w : World) (h : At n w x A As) (hC : bkK.C w A2 bs) (haf : af < 1)
    (q : Int) (hq : q ≠ 0) (hor : Or.firstNZ [L.lf (n + 1) x, fault bs, kndF af, winF wf wt, rE (L.lf (n + 1) x) (roundM n x)] = q)
    (CR : ∀ W, Below w.heap.size w W → Calls Tryz.prog 30 #[lv x A As c c', .agg #[.int .i64 wf, .int .i64 wt], .slice A2 bs.length c2, .int .i64 af] W fun e w' => e = .returned (.tuple #[.slice none 0 0, .int .i64 q]) ∧ Below W.heap.size W w')
    (CL : ∀ W, Below w.heap.size w W → Calls Tryz.prog 31 #[lv x A As c c', .agg #[.int .i64 wf, .int .i64 wt], .slice A2 bs.length c2, .int .i64 af] W fun e w' => e = .returned (.tuple #[.slice none 0 0, .int .i64 q]) ∧ Below W.heap.size W w') :
    Calls Tryz.prog 9 #[lv x A As c c', .slice A2 bs.length c2, .agg #[.int .i64 wf, .int .i64 wt], .int .i64 af] w fun e w' => e = .returned (.bool true) ∧ Below w.heap.size w w' := by
  have HA := Lib.hid (fun (c d : Array Value) (e e' : TypeId) => (((Below.refl w.heap.size w).alloc (Nat.le_refl _) (.cells c e)).alloc (by simp) (.cells d e')))
  have HT := Lib.hid (fun (c c' : Array Value) (o o' : TypeId) (w2 : World) => @Copy.two w w2 c c' o o')
  have HBS := Lib.hid (fun W (hb : Below w.heap.size w W) => (⟨A2, c2, rfl, hC.mono hb⟩ : bkK.S W (.slice A2 bs.length c2) bs))
  have C1 := Lib.hid (fun W (hb : Below w.heap.size w W) => checkBreaks (.slice A2 bs.length c2) bs hk W (HBS.out W hb))
  have C2 := Lib.hid (fun W (hb : Below w.heap.size w W) => breaksFault (.slice A2 bs.length c2) bs hk W (HBS.out W hb))
  have C3 := Lib.hid CR
  have C4 := Lib.hid CL
  have C5 := Lib.hid (fun W (hb : Below w.heap.size w W) => T.rounded_any n x A As c c' W (h.mono hb))
  have C6 := Lib.hid (fun W (hb : Below w.heap.size w W) => L.refLoop n x A As c c' W (h.mono hb))
  have C7 := Lib.hid (fun W => windowFault wf wt W)
  have C8 := Lib.hid (fun b W => Or.when_any b 4 W)
  have HOR := Lib.hid hor
  have hqa : (q == q) = true := beq_iff_eq.2 rfl
  have hqb : (q != 0) = true := bne_iff_ne.2 hq
  have HK : Hid (kndF af = 4) := Lib.hid (if_pos (.inl haf))
  generalize rE (L.lf (n + 1) x) (roundM n x) = E at *
  generalize rP (L.lf (n + 1) x) (roundM n x) = P0 at *
  generalize rL (L.lf (n + 1) x) (roundM n x) = l at *
  generalize L.lf (n + 1) x = lf at *
  generalize hfb : fault bs = bf at *
  generalize winF wf wt = wn at *
  generalize kndF af = kf at *
  clear hfb CR CL hor hk h hC HBS
  unfold lv at C3 C4 C5 C6 ⊢
  go_enter Tryz.func9, Tryz.ntmps9
  go_upto_region 1 with (fail)
  have HB0 : Hid (Below ((w.alloc (.cells #[.int .i64 x.kind, .string x.item, .int .i64 x.long, .int .i64 x.many, .slice A x.kids.length c, .slice As x.shares.length c'] 25)).alloc (.cells #[.int .i64 wf, .int .i64 wt] 31)).heap.size ((w.alloc (.cells #[.int .i64 x.kind, .string x.item, .int .i64 x.long, .int .i64 x.many, .slice A x.kids.length c, .slice As x.shares.length c'] 25)).alloc (.cells #[.int .i64 wf, .int .i64 wt] 31)) ((w.alloc (.cells #[.int .i64 x.kind, .string x.item, .int .i64 x.long, .int .i64 x.many, .slice A x.kids.length c, .slice As x.shares.length c'] 25)).alloc (.cells #[.int .i64 wf, .int .i64 wt] 31))) := Lib.hid (Below.refl _ _)
  go_upto_region 3 with (first
    | (go_at_call 28; refine (C1.out _ (B.below_trans (HA.out _ _ _ _) HB0.out)).mono ?_; rintro e w1 ⟨rfl, hB1⟩; have HB1 := Lib.hid hB1; clear hB1)
    | (go_at_call 29; refine (C2.out _ (B.below_trans (HA.out _ _ _ _) HB1.out)).mono ?_; rintro e w2 ⟨rfl, hB2⟩; have HB2 := Lib.hid (B.below_trans HB1.out hB2); clear hB2))
  have HZ := HT.out _ _ _ _ _ HB2.out
  have y0 := HZ.1 0 _ rfl
  have y1 := HZ.1 1 _ rfl
  have y2 := HZ.1 2 _ rfl
  have y3 := HZ.1 3 _ rfl
  have y4 := HZ.1 4 _ rfl
  have y5 := HZ.1 5 _ rfl
  have z0 := HZ.2.1 0 _ rfl
  have z1 := HZ.2.1 1 _ rfl
  clear HZ
  go_upto_region 4 with (go_at_call 30; refine (C3.out _ (B.below_trans (HA.out _ _ _ _) HB2.out)).mono ?_; rintro e w3 ⟨rfl, hB3⟩; have HB3 := Lib.hid (B.below_trans HB2.out hB3); clear hB3)
  clear y0 y1 y2 y3 y4 y5 z0 z1
  have HZ := HT.out _ _ _ _ _ HB3.out
  have y0 := HZ.1 0 _ rfl
  have y1 := HZ.1 1 _ rfl
  have y2 := HZ.1 2 _ rfl
  have y3 := HZ.1 3 _ rfl
  have y4 := HZ.1 4 _ rfl
  have y5 := HZ.1 5 _ rfl
  have z0 := HZ.2.1 0 _ rfl
  have z1 := HZ.2.1 1 _ rfl
  clear HZ
  go_upto_region 5 with (go_at_call 31; refine (C4.out _ (B.below_trans (HA.out _ _ _ _) HB3.out)).mono ?_; rintro e w4 ⟨rfl, hB4⟩; have HB4 := Lib.hid (B.below_trans HB3.out hB4); clear hB4)
  clear y0 y1 y2 y3 y4 y5 z0 z1
  have HZ := HT.out _ _ _ _ _ HB4.out
  have y0 := HZ.1 0 _ rfl
  have y1 := HZ.1 1 _ rfl
  have y2 := HZ.1 2 _ rfl
  have y3 := HZ.1 3 _ rfl
  have y4 := HZ.1 4 _ rfl
  have y5 := HZ.1 5 _ rfl
  have z0 := HZ.2.1 0 _ rfl
  have z1 := HZ.2.1 1 _ rfl
  clear HZ
  go_upto_region 6 with (go_at_call 15; refine (C5.out _ (B.below_trans (HA.out _ _ _ _) HB4.out)).mono ?_; rintro e w5 ⟨⟨A5, k5, rfl, hC5⟩, hB5⟩; have HC5 := Lib.hid hC5; clear hC5; have HB5 := Lib.hid (B.below_trans HB4.out hB5); clear hB5)
  clear y0 y1 y2 y3 y4 y5 z0 z1
  have HXB := Lib.hid (fun (W : World) (hb : Below w5.heap.size w5 W) => HT.out _ _ _ _ _ (B.below_trans HB5.out hb))
  have HW5 := Lib.hid (B.below_trans (HA.out _ _ _ _) HB5.out)
  clear C1 C3 C4 C5 HT HA HB0 HB1 HB2 HB3 HB4 HB5
  have HOQ : Hid (Or.firstNZ [lf, bf, 4, wn, E] = q) := Lib.hid (by have h0 := HOR.out; rw [HK.out] at h0; exact h0)
  refine wp_region_held_drew (S := fun w' => Below w5.heap.size w5 w') (by kernel_rfl) (B.below_drew (Below.refl _ _) 1) (fun hHeld => ?_)
  refine wpAnyH_take (i := 0) (v := ?_) At.at0 (by kernel_rfl) (by kernel_rfl) (by kernel_rfl) (fun _ _ _ h => h) (Or.inl ⟨by rfl, ?_⟩) (by assumption) ?_
  rotate_left
  · (intro w9 hSw; (try dsimp only at hSw); have HZ := HXB.out w9 hSw; have y0 := HZ.1 0 _ rfl; have y1 := HZ.1 1 _ rfl; have y2 := HZ.1 2 _ rfl; have y3 := HZ.1 3 _ rfl; have y4 := HZ.1 4 _ rfl; have y5 := HZ.1 5 _ rfl; clear HZ; go_simp; try (with_reducible rfl))
  try simp only [Act.put, List.setIfInBounds_toArray, List.set_cons_zero, List.set_cons_succ]
  refine wpAnyH_take (i := 2) (v := ?_) At.at2 (by kernel_rfl) (by kernel_rfl) (by kernel_rfl) (fun _ _ _ h => h) (Or.inl ⟨by rfl, ?_⟩) (by assumption) ?_
  rotate_left
  · (intro w9 hSw; (try dsimp only at hSw); go_simp; try (with_reducible rfl))
  try simp only [Act.put, List.setIfInBounds_toArray, List.set_cons_zero, List.set_cons_succ]
  refine wpAnyH_take (i := 4) (v := ?_) At.at4 (by kernel_rfl) (by kernel_rfl) (by kernel_rfl) (fun _ _ _ h => h) (Or.inl ⟨by rfl, ?_⟩) (by assumption) ?_
  rotate_left
  · (intro w9 hSw; (try dsimp only at hSw); go_simp; try (with_reducible rfl))
  try simp only [Act.put, List.setIfInBounds_toArray, List.set_cons_zero, List.set_cons_succ]
  refine wpAnyH_take (i := 5) (v := ?_) At.at5 (by kernel_rfl) (by kernel_rfl) (by kernel_rfl) (fun _ _ _ h => h) (Or.inl ⟨by rfl, ?_⟩) (by assumption) ?_
  rotate_left
  · (intro w9 hSw; (try dsimp only at hSw); go_simp; try (with_reducible rfl))
  try simp only [Act.put, List.setIfInBounds_toArray, List.set_cons_zero, List.set_cons_succ]
  refine wpAnyH_take (i := 11) (v := ?_) At.at11 (by kernel_rfl) (by kernel_rfl) (by kernel_rfl) (fun _ _ _ h => h) (Or.inl ⟨by rfl, ?_⟩) (by assumption) ?_
  rotate_left
  · (intro w9 hSw; (try dsimp only at hSw); have HZ := HXB.out w9 hSw; have z0 := HZ.2.1 0 _ rfl; have z1 := HZ.2.1 1 _ rfl; clear HZ; go_simp; try (with_reducible rfl))
  try simp only [Act.put, List.setIfInBounds_toArray, List.set_cons_zero, List.set_cons_succ]
  refine wpAnyH_take (i := 13) (v := ?_) At.at13 (by kernel_rfl) (by kernel_rfl) (by kernel_rfl) (fun _ _ _ h => h) (Or.inl ⟨by rfl, ?_⟩) (by assumption) ?_
  rotate_left
  · (intro w9 hSw; (try dsimp only at hSw); go_simp; try (with_reducible rfl))
  try simp only [Act.put, List.setIfInBounds_toArray, List.set_cons_zero, List.set_cons_succ]
  refine wpAnyH_ready (rs := [1]) (by kernel_rfl) (by simp) ?_
  refine AllReadyH.cons At.at1 (fun K hK => ?_) AllReadyH.nil
  go_simp
  go_at_call 11; refine (C6.out _ (B.below_drew HW5.out 1)).mono ?_; rintro e w6 ⟨rfl, hB6⟩; have HB6 := Lib.hid (B.below_trans (w := w5) (B.below_drew (Below.refl _ _) 1) hB6); clear hB6
  go_simp
  refine hK.out _ _ (HB6.out) (fun hHeld => ?_)
  clear hK K
  try simp only [Act.put, List.setIfInBounds_toArray, List.set_cons_zero, List.set_cons_succ]
  refine wpAnyH_ready (rs := [3]) (by kernel_rfl) (by simp) ?_
  refine AllReadyH.cons At.at3 (fun K hK => ?_) AllReadyH.nil
  go_simp
  go_at_call 29; refine (C2.out _ (B.below_trans HW5.out HB6.out)).mono ?_; rintro e w7 ⟨rfl, hB7⟩; have HB7 := Lib.hid (B.below_trans (w := w5) HB6.out hB7); clear hB7
  go_simp
  refine hK.out _ _ (HB7.out) (fun hHeld => ?_)
  clear hK K
  try simp only [Act.put, List.setIfInBounds_toArray, List.set_cons_zero, List.set_cons_succ]
  refine wpAnyH_take (i := 6) (v := ?_) At.at6 (by kernel_rfl) (by kernel_rfl) (by kernel_rfl) (fun _ _ _ h => h) (Or.inl ⟨by rfl, ?_⟩) (by assumption) ?_
  rotate_left
  · (intro w9 hSw; (try dsimp only at hSw); go_simp; try (with_reducible rfl))
  try simp only [Act.put, List.setIfInBounds_toArray, List.set_cons_zero, List.set_cons_succ]
  refine wpAnyH_take (i := 7) (v := undef) At.at7 (by kernel_rfl) (by kernel_rfl) (by kernel_rfl) (fun _ _ _ h => h) (Or.inr ⟨by rfl, rfl⟩) (by assumption) ?_
  try simp only [Act.put, List.setIfInBounds_toArray, List.set_cons_zero, List.set_cons_succ]
  refine wpAnyH_take (i := 8) (v := undef) At.at8 (by kernel_rfl) (by kernel_rfl) (by kernel_rfl) (fun _ _ _ h => h) (Or.inr ⟨by rfl, rfl⟩) (by assumption) ?_
  try simp only [Act.put, List.setIfInBounds_toArray, List.set_cons_zero, List.set_cons_succ]
  refine wpAnyH_take (i := 9) (v := ?_) At.at9 (by kernel_rfl) (by kernel_rfl) (by kernel_rfl) (fun _ _ _ h => h) (Or.inl ⟨by rfl, ?_⟩) (by assumption) ?_
  rotate_left
  · (intro w9 hSw; (try dsimp only at hSw); go_simp; try (with_reducible rfl))
  try simp only [Act.put, List.setIfInBounds_toArray, List.set_cons_zero, List.set_cons_succ]
  refine wpAnyH_ready (rs := [10]) (by kernel_rfl) (by simp) ?_
  refine AllReadyH.cons At.at10 (fun K hK => ?_) AllReadyH.nil
  go_simp
  go_at_call 22; refine (C8.out true _).mono ?_; rintro e w8 ⟨rfl, rfl⟩
  go_simp
  refine hK.out _ _ (HB7.out) (fun hHeld => ?_)
  clear hK K
  try simp only [Act.put, List.setIfInBounds_toArray, List.set_cons_zero, List.set_cons_succ]
  refine wpAnyH_ready (rs := [12]) (by kernel_rfl) (by simp) ?_
  refine AllReadyH.cons At.at12 (fun K hK => ?_) AllReadyH.nil
  go_simp
  go_at_call 32; refine (C7.out _).mono ?_; rintro e w10 ⟨rfl, hB10⟩; have HB10 := Lib.hid (B.below_trans (w := w5) HB7.out hB10); clear hB10
  go_simp
  refine hK.out _ _ (HB10.out) (fun hHeld => ?_)
  clear hK K
  try simp only [Act.put, List.setIfInBounds_toArray, List.set_cons_zero, List.set_cons_succ]
  refine wpAnyH_ready (rs := [14]) (by kernel_rfl) (by simp) ?_
  refine AllReadyH.cons At.at14 (fun K hK => ?_) AllReadyH.nil
  go_simp
  refine hK.out _ _ (HB10.out.alloc HB10.out.size _) (fun hHeld => ?_)
  clear hK K
  try simp only [Act.put, List.setIfInBounds_toArray, List.set_cons_zero, List.set_cons_succ]
  refine wpAnyH_ready (rs := [15]) (by kernel_rfl) (by simp) ?_
  refine AllReadyH.cons At.at15 (fun K hK => ?_) AllReadyH.nil
  go_simp
  go_at_call 20; refine (Or.orOf _ [lf, bf, 4, wn, E] _ (Or.lit_ints _ _ _ _ 5 rfl (by rfl) (show 5 ≤ 140737488355328 by decide))).mono ?_; rintro e w11 ⟨he11, hB11⟩; rw [HOQ.out] at he11; obtain rfl := he11; have HB11 := Lib.hid (B.below_trans (w := w5) (HB10.out.alloc HB10.out.size _) hB11); clear hB11
  go_simp
  refine hK.out _ _ (HB11.out) (fun hHeld => ?_)
  clear hK K
  try simp only [Act.put, List.setIfInBounds_toArray, List.set_cons_zero, List.set_cons_succ]
  refine wpAnyH_take (i := 16) (v := ?_) At.at16 (by kernel_rfl) (by kernel_rfl) (by kernel_rfl) (fun _ _ _ h => h) (Or.inl ⟨by rfl, ?_⟩) (by assumption) ?_
  rotate_left
  · (intro w9 hSw; (try dsimp only at hSw); go_simp; try (with_reducible rfl))
  try simp only [Act.put, List.setIfInBounds_toArray, List.set_cons_zero, List.set_cons_succ]
  refine wpAnyH_done (by kernel_rfl) ?_ _
  have HW11 := Lib.hid (B.below_trans HW5.out HB11.out)
  go_wp2_with (go_at_call 25; refine (T.looped _).mono ?_; rintro e w23 ⟨rfl, hB23⟩)
  all_goals (go_ret; exact ⟨rfl, B.below_trans HW11.out hB23⟩)
set_option maxHeartbeats 8000000 in
set_option maxRecDepth 100000 in
theorem int_hi (n : Nat) (x : Lp) (A As : Option Addr) (c c' : Nat) (wf wt af : Int) (A2 : Option Addr) (c2 : Nat) (bs : List Bk) (hk : ∀ f ∈ bs, f.1.size ≤ 9223372036854775807) (w : World) (h : At n w x A As) (hC : bkK.C w A2 bs) (haf : 1 ≤ af)
    (q : Int) (hq : q ≠ 0) (hor : Or.firstNZ [L.lf (n + 1) x, fault bs, kndF af, winF wf wt, rE (L.lf (n + 1) x) (roundM n x)] = q)
    (CR : ∀ W, Below w.heap.size w W → Calls Tryz.prog 30 #[lv x A As c c', .agg #[.int .i64 wf, .int .i64 wt], .slice A2 bs.length c2, .int .i64 af] W fun e w' => e = .returned (.tuple #[.slice none 0 0, .int .i64 q]) ∧ Below W.heap.size W w')
    (CL : ∀ W, Below w.heap.size w W → Calls Tryz.prog 31 #[lv x A As c c', .agg #[.int .i64 wf, .int .i64 wt], .slice A2 bs.length c2, .int .i64 af] W fun e w' => e = .returned (.tuple #[.slice none 0 0, .int .i64 q]) ∧ Below W.heap.size W w') :
    Calls Tryz.prog 9 #[lv x A As c c', .slice A2 bs.length c2, .agg #[.int .i64 wf, .int .i64 wt], .int .i64 af] w fun e w' => e = .returned (.bool true) ∧ Below w.heap.size w w' := by
  have HA := Lib.hid (fun (c d : Array Value) (e e' : TypeId) => (((Below.refl w.heap.size w).alloc (Nat.le_refl _) (.cells c e)).alloc (by simp) (.cells d e')))
  have HT := Lib.hid (fun (c c' : Array Value) (o o' : TypeId) (w2 : World) => @Copy.two w w2 c c' o o')
  have HBS := Lib.hid (fun W (hb : Below w.heap.size w W) => (⟨A2, c2, rfl, hC.mono hb⟩ : bkK.S W (.slice A2 bs.length c2) bs))
  have C1 := Lib.hid (fun W (hb : Below w.heap.size w W) => checkBreaks (.slice A2 bs.length c2) bs hk W (HBS.out W hb))
  have C2 := Lib.hid (fun W (hb : Below w.heap.size w W) => breaksFault (.slice A2 bs.length c2) bs hk W (HBS.out W hb))
  have C3 := Lib.hid CR
  have C4 := Lib.hid CL
  have C5 := Lib.hid (fun W (hb : Below w.heap.size w W) => T.rounded_any n x A As c c' W (h.mono hb))
  have C6 := Lib.hid (fun W (hb : Below w.heap.size w W) => L.refLoop n x A As c c' W (h.mono hb))
  have C7 := Lib.hid (fun W => windowFault wf wt W)
  have C8 := Lib.hid (fun b W => Or.when_any b 4 W)
  have HOR := Lib.hid hor
  have hqa : (q == q) = true := beq_iff_eq.2 rfl
  have hqb : (q != 0) = true := bne_iff_ne.2 hq
  have HK : Hid (kndF af = if 4 < af then 4 else 0) := Lib.hid (by unfold kndF; by_cases h4 : 4 < af; rw [if_pos (.inr h4), if_pos h4]; rw [if_neg (by omega), if_neg h4])
  generalize rE (L.lf (n + 1) x) (roundM n x) = E at *
  generalize rP (L.lf (n + 1) x) (roundM n x) = P0 at *
  generalize rL (L.lf (n + 1) x) (roundM n x) = l at *
  generalize L.lf (n + 1) x = lf at *
  generalize hfb : fault bs = bf at *
  generalize winF wf wt = wn at *
  generalize kndF af = kf at *
  clear hfb CR CL hor hk h hC HBS
  unfold lv at C3 C4 C5 C6 ⊢
  go_enter Tryz.func9, Tryz.ntmps9
  go_upto_region 1 with (fail)
  have HB0 : Hid (Below ((w.alloc (.cells #[.int .i64 x.kind, .string x.item, .int .i64 x.long, .int .i64 x.many, .slice A x.kids.length c, .slice As x.shares.length c'] 25)).alloc (.cells #[.int .i64 wf, .int .i64 wt] 31)).heap.size ((w.alloc (.cells #[.int .i64 x.kind, .string x.item, .int .i64 x.long, .int .i64 x.many, .slice A x.kids.length c, .slice As x.shares.length c'] 25)).alloc (.cells #[.int .i64 wf, .int .i64 wt] 31)) ((w.alloc (.cells #[.int .i64 x.kind, .string x.item, .int .i64 x.long, .int .i64 x.many, .slice A x.kids.length c, .slice As x.shares.length c'] 25)).alloc (.cells #[.int .i64 wf, .int .i64 wt] 31))) := Lib.hid (Below.refl _ _)
  go_upto_region 3 with (first
    | (go_at_call 28; refine (C1.out _ (B.below_trans (HA.out _ _ _ _) HB0.out)).mono ?_; rintro e w1 ⟨rfl, hB1⟩; have HB1 := Lib.hid hB1; clear hB1)
    | (go_at_call 29; refine (C2.out _ (B.below_trans (HA.out _ _ _ _) HB1.out)).mono ?_; rintro e w2 ⟨rfl, hB2⟩; have HB2 := Lib.hid (B.below_trans HB1.out hB2); clear hB2))
  have HZ := HT.out _ _ _ _ _ HB2.out
  have y0 := HZ.1 0 _ rfl
  have y1 := HZ.1 1 _ rfl
  have y2 := HZ.1 2 _ rfl
  have y3 := HZ.1 3 _ rfl
  have y4 := HZ.1 4 _ rfl
  have y5 := HZ.1 5 _ rfl
  have z0 := HZ.2.1 0 _ rfl
  have z1 := HZ.2.1 1 _ rfl
  clear HZ
  go_upto_region 4 with (go_at_call 30; refine (C3.out _ (B.below_trans (HA.out _ _ _ _) HB2.out)).mono ?_; rintro e w3 ⟨rfl, hB3⟩; have HB3 := Lib.hid (B.below_trans HB2.out hB3); clear hB3)
  clear y0 y1 y2 y3 y4 y5 z0 z1
  have HZ := HT.out _ _ _ _ _ HB3.out
  have y0 := HZ.1 0 _ rfl
  have y1 := HZ.1 1 _ rfl
  have y2 := HZ.1 2 _ rfl
  have y3 := HZ.1 3 _ rfl
  have y4 := HZ.1 4 _ rfl
  have y5 := HZ.1 5 _ rfl
  have z0 := HZ.2.1 0 _ rfl
  have z1 := HZ.2.1 1 _ rfl
  clear HZ
  go_upto_region 5 with (go_at_call 31; refine (C4.out _ (B.below_trans (HA.out _ _ _ _) HB3.out)).mono ?_; rintro e w4 ⟨rfl, hB4⟩; have HB4 := Lib.hid (B.below_trans HB3.out hB4); clear hB4)
  clear y0 y1 y2 y3 y4 y5 z0 z1
  have HZ := HT.out _ _ _ _ _ HB4.out
  have y0 := HZ.1 0 _ rfl
  have y1 := HZ.1 1 _ rfl
  have y2 := HZ.1 2 _ rfl
  have y3 := HZ.1 3 _ rfl
  have y4 := HZ.1 4 _ rfl
  have y5 := HZ.1 5 _ rfl
  have z0 := HZ.2.1 0 _ rfl
  have z1 := HZ.2.1 1 _ rfl
  clear HZ
  go_upto_region 6 with (go_at_call 15; refine (C5.out _ (B.below_trans (HA.out _ _ _ _) HB4.out)).mono ?_; rintro e w5 ⟨⟨A5, k5, rfl, hC5⟩, hB5⟩; have HC5 := Lib.hid hC5; clear hC5; have HB5 := Lib.hid (B.below_trans HB4.out hB5); clear hB5)
  clear y0 y1 y2 y3 y4 y5 z0 z1
  have HXB := Lib.hid (fun (W : World) (hb : Below w5.heap.size w5 W) => HT.out _ _ _ _ _ (B.below_trans HB5.out hb))
  have HW5 := Lib.hid (B.below_trans (HA.out _ _ _ _) HB5.out)
  clear C1 C3 C4 C5 HT HA HB0 HB1 HB2 HB3 HB4 HB5
  have HOQ : Hid (Or.firstNZ [lf, bf, (if 4 < af then 4 else 0), wn, E] = q) := Lib.hid (by have h0 := HOR.out; rw [HK.out] at h0; exact h0)
  have haf3 : decide (af < 1) = false := decide_eq_false (by omega)
  refine wp_region_held_drew (S := fun w' => Below w5.heap.size w5 w') (by kernel_rfl) (B.below_drew (Below.refl _ _) 1) (fun hHeld => ?_)
  refine wpAnyH_take (i := 0) (v := ?_) At.at0 (by kernel_rfl) (by kernel_rfl) (by kernel_rfl) (fun _ _ _ h => h) (Or.inl ⟨by rfl, ?_⟩) (by assumption) ?_
  rotate_left
  · (intro w9 hSw; (try dsimp only at hSw); have HZ := HXB.out w9 hSw; have y0 := HZ.1 0 _ rfl; have y1 := HZ.1 1 _ rfl; have y2 := HZ.1 2 _ rfl; have y3 := HZ.1 3 _ rfl; have y4 := HZ.1 4 _ rfl; have y5 := HZ.1 5 _ rfl; clear HZ; go_simp; try (with_reducible rfl))
  try simp only [Act.put, List.setIfInBounds_toArray, List.set_cons_zero, List.set_cons_succ]
  refine wpAnyH_take (i := 2) (v := ?_) At.at2 (by kernel_rfl) (by kernel_rfl) (by kernel_rfl) (fun _ _ _ h => h) (Or.inl ⟨by rfl, ?_⟩) (by assumption) ?_
  rotate_left
  · (intro w9 hSw; (try dsimp only at hSw); go_simp; try (with_reducible rfl))
  try simp only [Act.put, List.setIfInBounds_toArray, List.set_cons_zero, List.set_cons_succ]
  refine wpAnyH_take (i := 4) (v := ?_) At.at4 (by kernel_rfl) (by kernel_rfl) (by kernel_rfl) (fun _ _ _ h => h) (Or.inl ⟨by rfl, ?_⟩) (by assumption) ?_
  rotate_left
  · (intro w9 hSw; (try dsimp only at hSw); go_simp; try (with_reducible rfl))
  try simp only [Act.put, List.setIfInBounds_toArray, List.set_cons_zero, List.set_cons_succ]
  refine wpAnyH_take (i := 5) (v := ?_) At.at5 (by kernel_rfl) (by kernel_rfl) (by kernel_rfl) (fun _ _ _ h => h) (Or.inl ⟨by rfl, ?_⟩) (by assumption) ?_
  rotate_left
  · (intro w9 hSw; (try dsimp only at hSw); go_simp; try (with_reducible rfl))
  try simp only [Act.put, List.setIfInBounds_toArray, List.set_cons_zero, List.set_cons_succ]
  refine wpAnyH_take (i := 11) (v := ?_) At.at11 (by kernel_rfl) (by kernel_rfl) (by kernel_rfl) (fun _ _ _ h => h) (Or.inl ⟨by rfl, ?_⟩) (by assumption) ?_
  rotate_left
  · (intro w9 hSw; (try dsimp only at hSw); have HZ := HXB.out w9 hSw; have z0 := HZ.2.1 0 _ rfl; have z1 := HZ.2.1 1 _ rfl; clear HZ; go_simp; try (with_reducible rfl))
  try simp only [Act.put, List.setIfInBounds_toArray, List.set_cons_zero, List.set_cons_succ]
  refine wpAnyH_take (i := 13) (v := ?_) At.at13 (by kernel_rfl) (by kernel_rfl) (by kernel_rfl) (fun _ _ _ h => h) (Or.inl ⟨by rfl, ?_⟩) (by assumption) ?_
  rotate_left
  · (intro w9 hSw; (try dsimp only at hSw); go_simp; try (with_reducible rfl))
  try simp only [Act.put, List.setIfInBounds_toArray, List.set_cons_zero, List.set_cons_succ]
  refine wpAnyH_ready (rs := [1]) (by kernel_rfl) (by simp) ?_
  refine AllReadyH.cons At.at1 (fun K hK => ?_) AllReadyH.nil
  go_simp
  go_at_call 11; refine (C6.out _ (B.below_drew HW5.out 1)).mono ?_; rintro e w6 ⟨rfl, hB6⟩; have HB6 := Lib.hid (B.below_trans (w := w5) (B.below_drew (Below.refl _ _) 1) hB6); clear hB6
  go_simp
  refine hK.out _ _ (HB6.out) (fun hHeld => ?_)
  clear hK K
  try simp only [Act.put, List.setIfInBounds_toArray, List.set_cons_zero, List.set_cons_succ]
  refine wpAnyH_ready (rs := [3]) (by kernel_rfl) (by simp) ?_
  refine AllReadyH.cons At.at3 (fun K hK => ?_) AllReadyH.nil
  go_simp
  go_at_call 29; refine (C2.out _ (B.below_trans HW5.out HB6.out)).mono ?_; rintro e w7 ⟨rfl, hB7⟩; have HB7 := Lib.hid (B.below_trans (w := w5) HB6.out hB7); clear hB7
  go_simp
  refine hK.out _ _ (HB7.out) (fun hHeld => ?_)
  clear hK K
  try simp only [Act.put, List.setIfInBounds_toArray, List.set_cons_zero, List.set_cons_succ]
  refine wpAnyH_take (i := 6) (v := ?_) At.at6 (by kernel_rfl) (by kernel_rfl) (by kernel_rfl) (fun _ _ _ h => h) (Or.inl ⟨by rfl, ?_⟩) (by assumption) ?_
  rotate_left
  · (intro w9 hSw; (try dsimp only at hSw); go_simp; try (with_reducible rfl))
  try simp only [Act.put, List.setIfInBounds_toArray, List.set_cons_zero, List.set_cons_succ]
  refine wpAnyH_take (i := 7) (v := ?_) At.at7 (by kernel_rfl) (by kernel_rfl) (by kernel_rfl) (fun _ _ _ h => h) (Or.inl ⟨by rfl, ?_⟩) (by assumption) ?_
  rotate_left
  · (intro w9 hSw; (try dsimp only at hSw); go_simp; try (with_reducible rfl))
  try simp only [Act.put, List.setIfInBounds_toArray, List.set_cons_zero, List.set_cons_succ]
  refine wpAnyH_take (i := 8) (v := ?_) At.at8 (by kernel_rfl) (by kernel_rfl) (by kernel_rfl) (fun _ _ _ h => h) (Or.inl ⟨by rfl, ?_⟩) (by assumption) ?_
  rotate_left
  · (intro w9 hSw; (try dsimp only at hSw); go_simp; try (with_reducible rfl))
  try simp only [Act.put, List.setIfInBounds_toArray, List.set_cons_zero, List.set_cons_succ]
  refine wpAnyH_take (i := 9) (v := ?_) At.at9 (by kernel_rfl) (by kernel_rfl) (by kernel_rfl) (fun _ _ _ h => h) (Or.inl ⟨by rfl, ?_⟩) (by assumption) ?_
  rotate_left
  · (intro w9 hSw; (try dsimp only at hSw); go_simp; try (with_reducible rfl))
  try simp only [Act.put, List.setIfInBounds_toArray, List.set_cons_zero, List.set_cons_succ]
  refine wpAnyH_ready (rs := [10]) (by kernel_rfl) (by simp) ?_
  refine AllReadyH.cons At.at10 (fun K hK => ?_) AllReadyH.nil
  go_simp
  go_at_call 22; refine (C8.out (decide (4 < af)) _).mono ?_; rintro e w8 ⟨rfl, rfl⟩
  go_simp
  refine hK.out _ _ (HB7.out) (fun hHeld => ?_)
  clear hK K
  try simp only [Act.put, List.setIfInBounds_toArray, List.set_cons_zero, List.set_cons_succ]
  refine wpAnyH_ready (rs := [12]) (by kernel_rfl) (by simp) ?_
  refine AllReadyH.cons At.at12 (fun K hK => ?_) AllReadyH.nil
  go_simp
  go_at_call 32; refine (C7.out _).mono ?_; rintro e w10 ⟨rfl, hB10⟩; have HB10 := Lib.hid (B.below_trans (w := w5) HB7.out hB10); clear hB10
  go_simp
  refine hK.out _ _ (HB10.out) (fun hHeld => ?_)
  clear hK K
  try simp only [Act.put, List.setIfInBounds_toArray, List.set_cons_zero, List.set_cons_succ]
  refine wpAnyH_ready (rs := [14]) (by kernel_rfl) (by simp) ?_
  refine AllReadyH.cons At.at14 (fun K hK => ?_) AllReadyH.nil
  go_simp
  refine hK.out _ _ (HB10.out.alloc HB10.out.size _) (fun hHeld => ?_)
  clear hK K
  try simp only [Act.put, List.setIfInBounds_toArray, List.set_cons_zero, List.set_cons_succ]
  refine wpAnyH_ready (rs := [15]) (by kernel_rfl) (by simp) ?_
  refine AllReadyH.cons At.at15 (fun K hK => ?_) AllReadyH.nil
  go_simp
  go_at_call 20; refine (Or.orOf _ [lf, bf, (if 4 < af then 4 else 0), wn, E] _ (Or.lit_ints _ _ _ _ 5 rfl (by rfl) (show 5 ≤ 140737488355328 by decide))).mono ?_; rintro e w11 ⟨he11, hB11⟩; rw [HOQ.out] at he11; obtain rfl := he11; have HB11 := Lib.hid (B.below_trans (w := w5) (HB10.out.alloc HB10.out.size _) hB11); clear hB11
  go_simp
  refine hK.out _ _ (HB11.out) (fun hHeld => ?_)
  clear hK K
  try simp only [Act.put, List.setIfInBounds_toArray, List.set_cons_zero, List.set_cons_succ]
  refine wpAnyH_take (i := 16) (v := ?_) At.at16 (by kernel_rfl) (by kernel_rfl) (by kernel_rfl) (fun _ _ _ h => h) (Or.inl ⟨by rfl, ?_⟩) (by assumption) ?_
  rotate_left
  · (intro w9 hSw; (try dsimp only at hSw); go_simp; try (with_reducible rfl))
  try simp only [Act.put, List.setIfInBounds_toArray, List.set_cons_zero, List.set_cons_succ]
  refine wpAnyH_done (by kernel_rfl) ?_ _
  have HW11 := Lib.hid (B.below_trans HW5.out HB11.out)
  go_wp2_with (go_at_call 25; refine (T.looped _).mono ?_; rintro e w23 ⟨rfl, hB23⟩)
  all_goals (go_ret; exact ⟨rfl, B.below_trans HW11.out hB23⟩)
set_option maxHeartbeats 8000000 in
set_option maxRecDepth 100000 in
theorem int_ok (n : Nat) (x : Lp) (A As : Option Addr) (c c' : Nat) (wf wt af : Int) (A2 : Option Addr) (c2 : Nat) (bs : List Bk) (hk : ∀ f ∈ bs, f.1.size ≤ 9223372036854775807) (w : World) (h : At n w x A As) (hC : bkK.C w A2 bs) (haf : 1 ≤ af)
    (haf2 : af ≤ 4) (hor : Or.firstNZ [L.lf (n + 1) x, fault bs, kndF af, winF wf wt, 0] = 0) (p : Nat) (l : List Step) (hlf : L.lf (n + 1) x = 0) (hr : roundM n x = some (p, l)) (X : List Pl) (Y : List Come.Pt) (e1 e2 : Int)
    (CR : ∀ W, Below w.heap.size w W → Calls Tryz.prog 30 #[lv x A As c c', .agg #[.int .i64 wf, .int .i64 wt], .slice A2 bs.length c2, .int .i64 af] W fun e w' => (∃ A c, e = .returned (.tuple #[.slice A X.length c, .int .i64 e1]) ∧ plK.C w' A X) ∧ Below W.heap.size W w')
    (CL : ∀ W, Below w.heap.size w W → Calls Tryz.prog 31 #[lv x A As c c', .agg #[.int .i64 wf, .int .i64 wt], .slice A2 bs.length c2, .int .i64 af] W fun e w' => (∃ A c, e = .returned (.tuple #[.slice A Y.length c, .int .i64 e2]) ∧ ptK.C w' A Y) ∧ Below W.heap.size W w')
    (CS : ∀ W A3 k3, Below w.heap.size w W → stK.C W A3 l → Calls Tryz.prog 33 #[.slice A3 l.length k3, .agg #[.int .i64 wf, .int .i64 wt], .slice A2 bs.length c2, .int .i64 af] W fun e w' => (∃ A c, e = .returned (.tuple #[.slice A X.length c, .int .i64 e1]) ∧ plK.C w' A X) ∧ Below W.heap.size W w')
    (CM : ∀ W A3 k3, Below w.heap.size w W → stK.C W A3 l → Calls Tryz.prog 34 #[.slice A3 l.length k3, .agg #[.int .i64 wf, .int .i64 wt], .slice A2 bs.length c2, .int .i64 af] W fun e w' => (∃ A c, e = .returned (.tuple #[.slice A Y.length c, .int .i64 e2]) ∧ ptK.C w' A Y) ∧ Below W.heap.size W w') :
    Calls Tryz.prog 9 #[lv x A As c c', .slice A2 bs.length c2, .agg #[.int .i64 wf, .int .i64 wt], .int .i64 af] w fun e w' => e = .returned (.bool true) ∧ Below w.heap.size w w' := by
  have HA := Lib.hid (fun (c d : Array Value) (e e' : TypeId) => (((Below.refl w.heap.size w).alloc (Nat.le_refl _) (.cells c e)).alloc (by simp) (.cells d e')))
  have HT := Lib.hid (fun (c c' : Array Value) (o o' : TypeId) (w2 : World) => @Copy.two w w2 c c' o o')
  have HBS := Lib.hid (fun W (hb : Below w.heap.size w W) => (⟨A2, c2, rfl, hC.mono hb⟩ : bkK.S W (.slice A2 bs.length c2) bs))
  have C1 := Lib.hid (fun W (hb : Below w.heap.size w W) => checkBreaks (.slice A2 bs.length c2) bs hk W (HBS.out W hb))
  have C2 := Lib.hid (fun W (hb : Below w.heap.size w W) => breaksFault (.slice A2 bs.length c2) bs hk W (HBS.out W hb))
  have C3 := Lib.hid CR
  have C4 := Lib.hid CL
  have C5 := Lib.hid (fun W (hb : Below w.heap.size w W) => T.rounded_any n x A As c c' W (h.mono hb))
  have C6 := Lib.hid (fun W (hb : Below w.heap.size w W) => L.refLoop n x A As c c' W (h.mono hb))
  have C7 := Lib.hid (fun W => windowFault wf wt W)
  have C8 := Lib.hid (fun b W => Or.when_any b 4 W)
  have HOR := Lib.hid hor
  have C9 := Lib.hid CS
  have C10 := Lib.hid CM
  have HK : Hid (kndF af = 0) := Lib.hid (if_neg (by omega))
  rw [hlf, hr] at C5
  rw [show rP 0 (some (p, l)) = p from rfl, show rL 0 (some (p, l)) = l from rfl, show rE 0 (some (p, l)) = 0 from rfl] at C5
  generalize L.lf (n + 1) x = lf at *
  clear hlf hr CS CM
  generalize hfb : fault bs = bf at *
  generalize winF wf wt = wn at *
  generalize kndF af = kf at *
  clear hfb CR CL hor hk h hC HBS
  unfold lv at C3 C4 C5 C6 ⊢
  go_enter Tryz.func9, Tryz.ntmps9
  go_upto_region 1 with (fail)
  have HB0 : Hid (Below ((w.alloc (.cells #[.int .i64 x.kind, .string x.item, .int .i64 x.long, .int .i64 x.many, .slice A x.kids.length c, .slice As x.shares.length c'] 25)).alloc (.cells #[.int .i64 wf, .int .i64 wt] 31)).heap.size ((w.alloc (.cells #[.int .i64 x.kind, .string x.item, .int .i64 x.long, .int .i64 x.many, .slice A x.kids.length c, .slice As x.shares.length c'] 25)).alloc (.cells #[.int .i64 wf, .int .i64 wt] 31)) ((w.alloc (.cells #[.int .i64 x.kind, .string x.item, .int .i64 x.long, .int .i64 x.many, .slice A x.kids.length c, .slice As x.shares.length c'] 25)).alloc (.cells #[.int .i64 wf, .int .i64 wt] 31))) := Lib.hid (Below.refl _ _)
  go_upto_region 3 with (first
    | (go_at_call 28; refine (C1.out _ (B.below_trans (HA.out _ _ _ _) HB0.out)).mono ?_; rintro e w1 ⟨rfl, hB1⟩; have HB1 := Lib.hid hB1; clear hB1)
    | (go_at_call 29; refine (C2.out _ (B.below_trans (HA.out _ _ _ _) HB1.out)).mono ?_; rintro e w2 ⟨rfl, hB2⟩; have HB2 := Lib.hid (B.below_trans HB1.out hB2); clear hB2))
  have HZ := HT.out _ _ _ _ _ HB2.out
  have y0 := HZ.1 0 _ rfl
  have y1 := HZ.1 1 _ rfl
  have y2 := HZ.1 2 _ rfl
  have y3 := HZ.1 3 _ rfl
  have y4 := HZ.1 4 _ rfl
  have y5 := HZ.1 5 _ rfl
  have z0 := HZ.2.1 0 _ rfl
  have z1 := HZ.2.1 1 _ rfl
  clear HZ
  go_upto_region 4 with (go_at_call 30; refine (C3.out _ (B.below_trans (HA.out _ _ _ _) HB2.out)).mono ?_; rintro e w3 ⟨⟨A3, k3, rfl, hC3⟩, hB3⟩; have HC3 := Lib.hid hC3; clear hC3; have HB3 := Lib.hid (B.below_trans HB2.out hB3); clear hB3)
  clear y0 y1 y2 y3 y4 y5 z0 z1
  have HZ := HT.out _ _ _ _ _ HB3.out
  have y0 := HZ.1 0 _ rfl
  have y1 := HZ.1 1 _ rfl
  have y2 := HZ.1 2 _ rfl
  have y3 := HZ.1 3 _ rfl
  have y4 := HZ.1 4 _ rfl
  have y5 := HZ.1 5 _ rfl
  have z0 := HZ.2.1 0 _ rfl
  have z1 := HZ.2.1 1 _ rfl
  clear HZ
  go_upto_region 5 with (go_at_call 31; refine (C4.out _ (B.below_trans (HA.out _ _ _ _) HB3.out)).mono ?_; rintro e w4 ⟨⟨A4, k4, rfl, hC4⟩, hB4⟩; have HC4 := Lib.hid hC4; have HC34 := Lib.hid (HC3.out.mono hB4); clear hC4; have HB4 := Lib.hid (B.below_trans HB3.out hB4); clear hB4)
  clear y0 y1 y2 y3 y4 y5 z0 z1
  have HZ := HT.out _ _ _ _ _ HB4.out
  have y0 := HZ.1 0 _ rfl
  have y1 := HZ.1 1 _ rfl
  have y2 := HZ.1 2 _ rfl
  have y3 := HZ.1 3 _ rfl
  have y4 := HZ.1 4 _ rfl
  have y5 := HZ.1 5 _ rfl
  have z0 := HZ.2.1 0 _ rfl
  have z1 := HZ.2.1 1 _ rfl
  clear HZ
  go_upto_region 6 with (go_at_call 15; refine (C5.out _ (B.below_trans (HA.out _ _ _ _) HB4.out)).mono ?_; rintro e w5 ⟨⟨A5, k5, rfl, hC5⟩, hB5⟩; have HC5 := Lib.hid hC5; have HC35 := Lib.hid (HC34.out.mono hB5); have HC45 := Lib.hid (HC4.out.mono hB5); clear hC5; have HB5 := Lib.hid (B.below_trans HB4.out hB5); clear hB5)
  clear y0 y1 y2 y3 y4 y5 z0 z1
  have HXB := Lib.hid (fun (W : World) (hb : Below w5.heap.size w5 W) => HT.out _ _ _ _ _ (B.below_trans HB5.out hb))
  have HW5 := Lib.hid (B.below_trans (HA.out _ _ _ _) HB5.out)
  clear C1 C3 C4 C5 HT HA HB0 HB1 HB2 HB3 HB4 HB5
  have HOQ : Hid (Or.firstNZ [lf, bf, 0, wn, 0] = 0) := Lib.hid (by have h0 := HOR.out; rw [HK.out] at h0; exact h0)
  have haf3 : ¬ af < 1 := by omega
  have haf4 : ¬ 4 < af := by omega
  refine wp_region_held_drew (S := fun w' => Below w5.heap.size w5 w') (by kernel_rfl) (B.below_drew (Below.refl _ _) 1) (fun hHeld => ?_)
  refine wpAnyH_take (i := 0) (v := ?_) At.at0 (by kernel_rfl) (by kernel_rfl) (by kernel_rfl) (fun _ _ _ h => h) (Or.inl ⟨by rfl, ?_⟩) (by assumption) ?_
  rotate_left
  · (intro w9 hSw; (try dsimp only at hSw); have HZ := HXB.out w9 hSw; have y0 := HZ.1 0 _ rfl; have y1 := HZ.1 1 _ rfl; have y2 := HZ.1 2 _ rfl; have y3 := HZ.1 3 _ rfl; have y4 := HZ.1 4 _ rfl; have y5 := HZ.1 5 _ rfl; clear HZ; go_simp; try (with_reducible rfl))
  try simp only [Act.put, List.setIfInBounds_toArray, List.set_cons_zero, List.set_cons_succ]
  refine wpAnyH_take (i := 2) (v := ?_) At.at2 (by kernel_rfl) (by kernel_rfl) (by kernel_rfl) (fun _ _ _ h => h) (Or.inl ⟨by rfl, ?_⟩) (by assumption) ?_
  rotate_left
  · (intro w9 hSw; (try dsimp only at hSw); go_simp; try (with_reducible rfl))
  try simp only [Act.put, List.setIfInBounds_toArray, List.set_cons_zero, List.set_cons_succ]
  refine wpAnyH_take (i := 4) (v := ?_) At.at4 (by kernel_rfl) (by kernel_rfl) (by kernel_rfl) (fun _ _ _ h => h) (Or.inl ⟨by rfl, ?_⟩) (by assumption) ?_
  rotate_left
  · (intro w9 hSw; (try dsimp only at hSw); go_simp; try (with_reducible rfl))
  try simp only [Act.put, List.setIfInBounds_toArray, List.set_cons_zero, List.set_cons_succ]
  refine wpAnyH_take (i := 5) (v := ?_) At.at5 (by kernel_rfl) (by kernel_rfl) (by kernel_rfl) (fun _ _ _ h => h) (Or.inl ⟨by rfl, ?_⟩) (by assumption) ?_
  rotate_left
  · (intro w9 hSw; (try dsimp only at hSw); go_simp; try (with_reducible rfl))
  try simp only [Act.put, List.setIfInBounds_toArray, List.set_cons_zero, List.set_cons_succ]
  refine wpAnyH_take (i := 11) (v := ?_) At.at11 (by kernel_rfl) (by kernel_rfl) (by kernel_rfl) (fun _ _ _ h => h) (Or.inl ⟨by rfl, ?_⟩) (by assumption) ?_
  rotate_left
  · (intro w9 hSw; (try dsimp only at hSw); have HZ := HXB.out w9 hSw; have z0 := HZ.2.1 0 _ rfl; have z1 := HZ.2.1 1 _ rfl; clear HZ; go_simp; try (with_reducible rfl))
  try simp only [Act.put, List.setIfInBounds_toArray, List.set_cons_zero, List.set_cons_succ]
  refine wpAnyH_take (i := 13) (v := ?_) At.at13 (by kernel_rfl) (by kernel_rfl) (by kernel_rfl) (fun _ _ _ h => h) (Or.inl ⟨by rfl, ?_⟩) (by assumption) ?_
  rotate_left
  · (intro w9 hSw; (try dsimp only at hSw); go_simp; try (with_reducible rfl))
  try simp only [Act.put, List.setIfInBounds_toArray, List.set_cons_zero, List.set_cons_succ]
  refine wpAnyH_ready (rs := [1]) (by kernel_rfl) (by simp) ?_
  refine AllReadyH.cons At.at1 (fun K hK => ?_) AllReadyH.nil
  go_simp
  go_at_call 11; refine (C6.out _ (B.below_drew HW5.out 1)).mono ?_; rintro e w6 ⟨rfl, hB6⟩; have HB6 := Lib.hid (B.below_trans (w := w5) (B.below_drew (Below.refl _ _) 1) hB6); clear hB6
  go_simp
  refine hK.out _ _ (HB6.out) (fun hHeld => ?_)
  clear hK K
  try simp only [Act.put, List.setIfInBounds_toArray, List.set_cons_zero, List.set_cons_succ]
  refine wpAnyH_ready (rs := [3]) (by kernel_rfl) (by simp) ?_
  refine AllReadyH.cons At.at3 (fun K hK => ?_) AllReadyH.nil
  go_simp
  go_at_call 29; refine (C2.out _ (B.below_trans HW5.out HB6.out)).mono ?_; rintro e w7 ⟨rfl, hB7⟩; have HB7 := Lib.hid (B.below_trans (w := w5) HB6.out hB7); clear hB7
  go_simp
  refine hK.out _ _ (HB7.out) (fun hHeld => ?_)
  clear hK K
  try simp only [Act.put, List.setIfInBounds_toArray, List.set_cons_zero, List.set_cons_succ]
  refine wpAnyH_take (i := 6) (v := ?_) At.at6 (by kernel_rfl) (by kernel_rfl) (by kernel_rfl) (fun _ _ _ h => h) (Or.inl ⟨by rfl, ?_⟩) (by assumption) ?_
  rotate_left
  · (intro w9 hSw; (try dsimp only at hSw); go_simp; try (with_reducible rfl))
  try simp only [Act.put, List.setIfInBounds_toArray, List.set_cons_zero, List.set_cons_succ]
  refine wpAnyH_take (i := 7) (v := ?_) At.at7 (by kernel_rfl) (by kernel_rfl) (by kernel_rfl) (fun _ _ _ h => h) (Or.inl ⟨by rfl, ?_⟩) (by assumption) ?_
  rotate_left
  · (intro w9 hSw; (try dsimp only at hSw); go_simp; try (with_reducible rfl))
  try simp only [Act.put, List.setIfInBounds_toArray, List.set_cons_zero, List.set_cons_succ]
  refine wpAnyH_take (i := 8) (v := ?_) At.at8 (by kernel_rfl) (by kernel_rfl) (by kernel_rfl) (fun _ _ _ h => h) (Or.inl ⟨by rfl, ?_⟩) (by assumption) ?_
  rotate_left
  · (intro w9 hSw; (try dsimp only at hSw); go_simp; try (with_reducible rfl))
  try simp only [Act.put, List.setIfInBounds_toArray, List.set_cons_zero, List.set_cons_succ]
  refine wpAnyH_take (i := 9) (v := ?_) At.at9 (by kernel_rfl) (by kernel_rfl) (by kernel_rfl) (fun _ _ _ h => h) (Or.inl ⟨by rfl, ?_⟩) (by assumption) ?_
  rotate_left
  · (intro w9 hSw; (try dsimp only at hSw); go_simp; try (with_reducible rfl))
  try simp only [Act.put, List.setIfInBounds_toArray, List.set_cons_zero, List.set_cons_succ]
  refine wpAnyH_ready (rs := [10]) (by kernel_rfl) (by simp) ?_
  refine AllReadyH.cons At.at10 (fun K hK => ?_) AllReadyH.nil
  go_simp
  go_at_call 22; refine (C8.out false _).mono ?_; rintro e w8 ⟨rfl, rfl⟩
  go_simp
  refine hK.out _ _ (HB7.out) (fun hHeld => ?_)
  clear hK K
  try simp only [Act.put, List.setIfInBounds_toArray, List.set_cons_zero, List.set_cons_succ]
  refine wpAnyH_ready (rs := [12]) (by kernel_rfl) (by simp) ?_
  refine AllReadyH.cons At.at12 (fun K hK => ?_) AllReadyH.nil
  go_simp
  go_at_call 32; refine (C7.out _).mono ?_; rintro e w10 ⟨rfl, hB10⟩; have HB10 := Lib.hid (B.below_trans (w := w5) HB7.out hB10); clear hB10
  go_simp
  refine hK.out _ _ (HB10.out) (fun hHeld => ?_)
  clear hK K
  try simp only [Act.put, List.setIfInBounds_toArray, List.set_cons_zero, List.set_cons_succ]
  refine wpAnyH_ready (rs := [14]) (by kernel_rfl) (by simp) ?_
  refine AllReadyH.cons At.at14 (fun K hK => ?_) AllReadyH.nil
  go_simp
  refine hK.out _ _ (HB10.out.alloc HB10.out.size _) (fun hHeld => ?_)
  clear hK K
  try simp only [Act.put, List.setIfInBounds_toArray, List.set_cons_zero, List.set_cons_succ]
  refine wpAnyH_ready (rs := [15]) (by kernel_rfl) (by simp) ?_
  refine AllReadyH.cons At.at15 (fun K hK => ?_) AllReadyH.nil
  go_simp
  go_at_call 20; refine (Or.orOf _ [lf, bf, 0, wn, 0] _ (Or.lit_ints _ _ _ _ 5 rfl (by rfl) (show 5 ≤ 140737488355328 by decide))).mono ?_; rintro e w11 ⟨he11, hB11⟩; rw [HOQ.out] at he11; obtain rfl := he11; have HB11 := Lib.hid (B.below_trans (w := w5) (HB10.out.alloc HB10.out.size _) hB11); clear hB11
  go_simp
  refine hK.out _ _ (HB11.out) (fun hHeld => ?_)
  clear hK K
  try simp only [Act.put, List.setIfInBounds_toArray, List.set_cons_zero, List.set_cons_succ]
  refine wpAnyH_take (i := 16) (v := ?_) At.at16 (by kernel_rfl) (by kernel_rfl) (by kernel_rfl) (fun _ _ _ h => h) (Or.inl ⟨by rfl, ?_⟩) (by assumption) ?_
  rotate_left
  · (intro w9 hSw; (try dsimp only at hSw); go_simp; try (with_reducible rfl))
  try simp only [Act.put, List.setIfInBounds_toArray, List.set_cons_zero, List.set_cons_succ]
  refine wpAnyH_done (by kernel_rfl) ?_ _
  have HW11 := Lib.hid (B.below_trans HW5.out HB11.out)
  have HC11 := Lib.hid (HC5.out.mono HB11.out)
  have HP11 := Lib.hid (HC35.out.mono HB11.out)
  have HQ11 := Lib.hid (HC45.out.mono HB11.out)
  have HXC := Lib.hid (fun (W : World) (hb : Below w11.heap.size w11 W) => HXB.out W (B.below_trans HB11.out hb))
  clear HXB HB6 HB7 HB10 HB11 HC3 HC34 HC4 HC35 HC45 HC5 C2 C6 C7 C8 HOR HK
  have he1 : (e1 == e1) = true := beq_iff_eq.2 rfl
  have he2 : (e2 == e2) = true := beq_iff_eq.2 rfl
  have z0 := (HXC.out _ (Below.refl _ _)).2.1 0 _ rfl
  have z1 := (HXC.out _ (Below.refl _ _)).2.1 1 _ rfl
  go_upto_region 10 with (go_at_call 33; refine (C9.out _ _ _ HW11.out HC11.out).mono ?_; rintro e w12 ⟨⟨A12, k12, rfl, hC12⟩, hB12⟩; have HB12 := Lib.hid hB12; have HC12 := Lib.hid hC12; clear hB12 hC12)
  clear z0 z1
  have z0 := (HXC.out _ HB12.out).2.1 0 _ rfl
  have z1 := (HXC.out _ HB12.out).2.1 1 _ rfl
  go_upto_region 11 with (go_at_call 34; refine (C10.out _ _ _ (B.below_trans HW11.out HB12.out) (HC11.out.mono HB12.out)).mono ?_; rintro e w13 ⟨⟨A13, k13, rfl, hC13⟩, hB13⟩; have HB13 := Lib.hid (B.below_trans HB12.out hB13); have HC13 := Lib.hid hC13; have HX13 := Lib.hid (HC12.out.mono hB13); clear hB13 hC13)
  clear z0 z1
  go_wp2_with (first
    | (go_at_call 35; refine (Eq.eq_pl _ _ X X _ ⟨_, _, rfl, HP11.out.mono HB13.out⟩ ⟨_, _, rfl, HX13.out⟩ true (decide_eq_true rfl)).mono ?_; rintro e w14 ⟨rfl, hB14⟩; have HB14 := Lib.hid (B.below_trans HB13.out hB14); have HC14 := Lib.hid (HC13.out.mono hB14); clear hB14)
    | (go_at_call 16; refine (Eq.eq_pt _ _ Y Y _ ⟨_, _, rfl, HQ11.out.mono HB14.out⟩ ⟨_, _, rfl, HC14.out⟩ true (decide_eq_true rfl)).mono ?_; rintro e w15 ⟨rfl, hB15⟩; have HB15 := Lib.hid (B.below_trans HB14.out hB15); clear hB15)
    | (go_at_call 25; refine (T.looped _).mono ?_; rintro e w23 ⟨rfl, hB23⟩))
  go_ret
  exact ⟨rfl, B.below_trans (B.below_trans HW11.out HB15.out) hB23⟩
theorem plc_nil (w : World) : plK.C w none [] := B.Kd.C_nil _ _ _
theorem ptc_nil (w : World) : ptK.C w none [] := B.Kd.C_nil _ _ _
theorem cs_arg {wf wt : Int} {bs : List Bk} (hf : fault bs = 0) (h : wf ≤ wt) : Cs wt (cuts wf wt bs) wf :=
  cs_of wf wt bs wf (fun b hb => ((fault_ok hf).2.1 b hb).2.1) (fault_ok hf).2.2 (fun b _ => by omega) h (Int.le_refl _)
theorem own_in {l : List T.Step} (hok : Ok l) (hn : l ≠ []) {wf wt af : Int} {bs : List Bk} (hC : Cs wt (cuts wf wt bs) wf) : ∀ p ∈ ownOf (all l wf wt af bs), p.1 ∈ l.map (·.1) := fun p hp => by
  unfold ownOf at hp
  obtain ⟨q, hq, rfl⟩ := List.mem_map.1 hp
  obtain ⟨h1, h2⟩ := List.mem_filter.1 hq
  exact (((all_ok hok hn hC).1 q h1).2 (by simpa using h2)).2
theorem own_le (x : List (Pl × Bool)) : (ownOf x).length ≤ x.length := by have := (own_oth x).1; omega
theorem int_any (n : Nat) (x : Lp) (A As : Option Addr) (c c' : Nat) (wf wt af : Int) (A2 : Option Addr) (c2 : Nat) (bs : List Bk) (hk : ∀ f ∈ bs, f.1.size ≤ 9223372036854775807) (w : World) (h : At n w x A As) (hC : bkK.C w A2 bs) :
    Calls Tryz.prog 9 #[lv x A As c c', .slice A2 bs.length c2, .agg #[.int .i64 wf, .int .i64 wt], .int .i64 af] w fun e w' => e = .returned (.bool true) ∧ Below w.heap.size w w' := by
  have badly : ∀ q : Int, q ≠ 0 → Or.firstNZ [L.lf (n + 1) x, fault bs, kndF af, winF wf wt, rE (L.lf (n + 1) x) (roundM n x)] = q →
      (∀ W, Below w.heap.size w W → Calls Tryz.prog 57 #[lv x A As c c', .agg #[.int .i64 wf, .int .i64 wt], .slice A2 bs.length c2, .int .i64 af] W fun e w' => NoPlayer q e ∧ Below W.heap.size W w') →
      Calls Tryz.prog 9 #[lv x A As c c', .slice A2 bs.length c2, .agg #[.int .i64 wf, .int .i64 wt], .int .i64 af] w fun e w' => e = .returned (.bool true) ∧ Below w.heap.size w w' := fun q hq hor CP => by
    have CR : ∀ W, Below w.heap.size w W → Calls Tryz.prog 30 #[lv x A As c c', .agg #[.int .i64 wf, .int .i64 wt], .slice A2 bs.length c2, .int .i64 af] W fun e w' => e = .returned (.tuple #[.slice none 0 0, .int .i64 q]) ∧ Below W.heap.size W w' := fun W hb =>
      run_bad x A As c c' wf wt af A2 c2 bs.length W q hq (fun V hv => CP V (B.below_trans hb hv))
    have CL : ∀ W, Below w.heap.size w W → Calls Tryz.prog 31 #[lv x A As c c', .agg #[.int .i64 wf, .int .i64 wt], .slice A2 bs.length c2, .int .i64 af] W fun e w' => e = .returned (.tuple #[.slice none 0 0, .int .i64 q]) ∧ Below W.heap.size W w' := fun W hb =>
      lost_bad x A As c c' wf wt af A2 c2 bs.length W q hq (fun V hv => CP V (B.below_trans hb hv))
    by_cases ha : af < 1
    · exact int_lo n x A As c c' wf wt af A2 c2 bs hk w h hC ha q hq hor CR CL
    · exact int_hi n x A As c c' wf wt af A2 c2 bs hk w h hC (by omega) q hq hor CR CL
  by_cases hq : argF (L.lf (n + 1) x) (fault bs) wf wt af = 0
  · have hz := argF_zero hq
    cases hr : roundM n x with
    | none =>
      refine badly 2 (by decide) ?_ (fun W hb => played_none n x A As c c' wf wt af A2 c2 bs W (h.mono hb) (hC.mono hb) hk hq hr)
      rw [or_zero _ hq, hr, hz.1]
      rfl
    | some r =>
      obtain ⟨p, l⟩ := r
      obtain ⟨hok, hn, hl, -⟩ := Come.round_ok h hz.1 hr
      have hfz := fault_ok hz.2.1
      have hcs := cs_arg hz.2.1 hz.2.2.2.2.1
      have hcs0 : Cs wt (cuts wf wt []) wf := hz.2.2.2.2.1
      have hwin : 0 ≤ wf ∧ wf ≤ wt ∧ wt ≤ 345686400000 := hz.2.2.2
      have hsz : ∀ s ∈ l, s.1.size ≤ 64 := fun s hs => by have := Come.key_size (Come.round_ok2 h hz.1 hr s hs).2; omega
      have hbs : ∀ x ∈ bs, 0 ≤ x.2.1 ∧ x.2.1 < x.2.2 ∧ x.2.2 ≤ 345686400000 := fun b hb => ⟨(hfz.2.1 b hb).1, (hfz.2.1 b hb).2.1, (hfz.2.1 b hb).2.2.1⟩
      have hq0 : argF (L.lf (n + 1) x) (fault []) wf wt af = 0 := by
        have e : fault [] = 0 := rfl
        rw [e]
        rw [hz.2.1] at hq
        exact hq
      have CP := fun (W : World) (hb : Below w.heap.size w W) => played_run n x A As c c' wf wt af A2 c2 bs W (h.mono hb) (hC.mono hb) hk hq p l hr _ rfl
      have CP0 := fun (W : World) (hb : Below w.heap.size w W) => played_run n x A As c c' wf wt af none 0 [] W (h.mono hb) (B.Kd.C_nil _ _ _) (by simp) hq0 p l hr _ rfl
      have hor : Or.firstNZ [L.lf (n + 1) x, fault bs, kndF af, winF wf wt, 0] = 0 := or_zero 0 hq
      have fin := fun X Y e1 e2 => int_ok n x A As c c' wf wt af A2 c2 bs hk w h hC hz.2.2.1.1 hz.2.2.1.2 hor p l hz.1 hr X Y e1 e2
      by_cases hb1 : 3000 < (all l wf wt af bs).length
      · rw [decide_eq_true hb1] at CP
        simp only [if_true] at CP
        refine fin [] [] 2 2 (fun W hb => ?_) (fun W hb => ?_) (fun W A3 k3 hb hC3 => ?_) (fun W A3 k3 hb hC3 => ?_)
        · refine (run_bad x A As c c' wf wt af A2 c2 bs.length W 2 (by decide) (fun V hv => CP V (B.below_trans hb hv))).mono ?_
          rintro e w' ⟨rfl, hw⟩
          exact ⟨⟨none, 0, rfl, plc_nil _⟩, hw⟩
        · refine (lost_bad x A As c c' wf wt af A2 c2 bs.length W 2 (by decide) (fun V hv => CP V (B.below_trans hb hv))).mono ?_
          rintro e w' ⟨rfl, hw⟩
          exact ⟨⟨none, 0, rfl, ptc_nil _⟩, hw⟩
        · refine (refRun_big A3 k3 l wf wt af A2 c2 bs W hC3 hok hn hl (hC.mono hb) hfz.1 hbs hcs hwin hz.2.2.1 hb1).mono ?_
          rintro e w' ⟨rfl, hw⟩
          exact ⟨⟨none, 0, rfl, plc_nil _⟩, hw⟩
        · refine (refLost_big A3 k3 l wf wt af A2 c2 bs W hC3 hok hn hl (hC.mono hb) hfz.1 hbs hcs hwin hz.2.2.1 hcs0 (.inl hb1)).mono ?_
          rintro e w' ⟨rfl, hw⟩
          exact ⟨⟨none, 0, rfl, ptc_nil _⟩, hw⟩
      · rw [decide_eq_false hb1] at CP
        simp only [Bool.false_eq_true, if_false] at CP
        have h1 : (all l wf wt af bs).length ≤ 3000 := by omega
        have R1 : ∀ W, Below w.heap.size w W → Calls Tryz.prog 30 #[lv x A As c c', .agg #[.int .i64 wf, .int .i64 wt], .slice A2 bs.length c2, .int .i64 af] W fun e w' => (∃ A c, e = .returned (.tuple #[.slice A ((all l wf wt af bs).map (·.1)).length c, .int .i64 0]) ∧ plK.C w' A ((all l wf wt af bs).map (·.1))) ∧ Below W.heap.size W w' := fun W hb =>
          run_good x A As c c' wf wt af A2 c2 bs.length W l bs hok hn h1 hcs hwin.1 hwin.2.2 (fun V hv => (CP V (B.below_trans hb hv)))
        have R2 := fun (W : World) (A3 : Option Addr) (k3 : Nat) (hb : Below w.heap.size w W) (hC3 : stK.C W A3 l) => refRun_good A3 k3 l wf wt af A2 c2 bs W hC3 hok hn hl (hC.mono hb) hfz.1 hbs hcs hwin hz.2.2.1 h1
        by_cases hb0 : 3000 < (all l wf wt af []).length
        · rw [decide_eq_true hb0] at CP0
          simp only [if_true] at CP0
          refine fin _ [] 0 2 R1 (fun W hb => ?_) R2 (fun W A3 k3 hb hC3 => ?_)
          · refine (lost_bad2 x A As c c' wf wt af A2 c2 bs.length W l bs 2 (by decide) (fun V hv => CP V (B.below_trans hb hv)) (fun V hv => CP0 V (B.below_trans hb hv))).mono ?_
            rintro e w' ⟨rfl, hw⟩
            exact ⟨⟨none, 0, rfl, ptc_nil _⟩, hw⟩
          · refine (refLost_big A3 k3 l wf wt af A2 c2 bs W hC3 hok hn hl (hC.mono hb) hfz.1 hbs hcs hwin hz.2.2.1 hcs0 (.inr hb0)).mono ?_
            rintro e w' ⟨rfl, hw⟩
            exact ⟨⟨none, 0, rfl, ptc_nil _⟩, hw⟩
        · rw [decide_eq_false hb0] at CP0
          simp only [Bool.false_eq_true, if_false] at CP0
          have h0 : (all l wf wt af []).length ≤ 3000 := by omega
          have hX := own_steps hok hn (af := af) hcs0
          have hY := own_steps hok hn (af := af) hcs
          refine fin _ (lost l (ownOf (all l wf wt af [])) (ownOf (all l wf wt af bs))) 0 0 R1 (fun W hb => ?_) R2 (fun W A3 k3 hb hC3 => ?_)
          · exact lost_good x A As c c' wf wt af A2 c2 bs.length W l bs (Nat.le_trans (own_le _) h1) (Nat.le_trans (own_le _) h0) hX hY (own_in hok hn hcs0) (own_in hok hn hcs) hsz (fun V hv => CP V (B.below_trans hb hv)) (fun V hv => CP0 V (B.below_trans hb hv))
          · rw [none_own] at hX ⊢
            exact refLost_good A3 k3 l wf wt af A2 c2 bs W hC3 hok hn hl (hC.mono hb) hfz.1 hbs hcs hwin hz.2.2.1 hcs0 h1 h0 hX hY
  · exact badly _ hq (or_arg _ hq) (fun W hb => played_early n x A As c c' wf wt af A2 c2 bs W (h.mono hb) (hC.mono hb) hk hq)
set_option maxHeartbeats 4000000 in
set_option maxRecDepth 100000 in
theorem loopsInterrupted (n : Nat) (x : Lp) (A As : Option Addr) (c c' : Nat) (A2 : Option Addr) (c2 : Nat) (bs : List Bk) (wf wt af : Int) (hk : ∀ f ∈ bs, f.1.size ≤ 9223372036854775807) (w : World) (h : At n w x A As) (hC : bkK.C w A2 bs) (hl : bs.length ≤ 1048576) :
    Calls Tryz.prog 4 #[lv x A As c c', .slice A2 bs.length c2, .agg #[.int .i64 wf, .int .i64 wt], .int .i64 af] w fun e w' => e = .returned (.bool true) ∧ Below w.heap.size w w' := by
  have HA := Lib.hid (fun (c d : Array Value) (e e' : TypeId) => (((Below.refl w.heap.size w).alloc (Nat.le_refl _) (.cells c e)).alloc (by simp) (.cells d e')))
  have HT := Lib.hid (fun (c c' : Array Value) (o o' : TypeId) (w2 : World) => @Copy.two w w2 c c' o o')
  have HX0 := Lib.hid (fun (e : TypeId) (w W : World) => @L.boxed x A As c c' w W e)
  have C1 := Lib.hid (fun W (hb : Below w.heap.size w W) => L.copyLoop n x A As c c' W (h.mono hb))
  have C2 := Lib.hid (fun W (hb : Below w.heap.size w W) => int_any n x A As c c' wf wt af A2 c2 bs hk W (h.mono hb) (hC.mono hb))
  have C3 := Lib.hid (fun A' As' d d' W (hb : Below w.heap.size w W) (h' : At n W x A' As') => L.staysLoop n x A As A' As' c c' d d' W (h.mono hb) h')
  have HBS := Lib.hid (fun W (hb : Below w.heap.size w W) => (⟨A2, c2, rfl, hC.mono hb⟩ : bkK.S W (.slice A2 bs.length c2) bs))
  have C4 := Lib.hid (fun W (hb : Below w.heap.size w W) => clone_bk (.slice A2 bs.length c2) bs W (HBS.out W hb) hl)
  have HLN := Lib.hid hl
  clear h hk hC
  unfold lv at C1 C2 C3 ⊢
  go_enter Tryz.func4, Tryz.ntmps4
  go_upto_region 1 with (fail)
  have HB0 : Hid (Below ((w.alloc (.cells #[.int .i64 x.kind, .string x.item, .int .i64 x.long, .int .i64 x.many, .slice A x.kids.length c, .slice As x.shares.length c'] 25)).alloc (.cells #[.int .i64 wf, .int .i64 wt] 31)).heap.size ((w.alloc (.cells #[.int .i64 x.kind, .string x.item, .int .i64 x.long, .int .i64 x.many, .slice A x.kids.length c, .slice As x.shares.length c'] 25)).alloc (.cells #[.int .i64 wf, .int .i64 wt] 31)) ((w.alloc (.cells #[.int .i64 x.kind, .string x.item, .int .i64 x.long, .int .i64 x.many, .slice A x.kids.length c, .slice As x.shares.length c'] 25)).alloc (.cells #[.int .i64 wf, .int .i64 wt] 31))) := Lib.hid (Below.refl _ _)
  have HZ := HT.out _ _ _ _ _ HB0.out
  have y0 := HZ.1 0 _ rfl
  have y1 := HZ.1 1 _ rfl
  have y2 := HZ.1 2 _ rfl
  have y3 := HZ.1 3 _ rfl
  have y4 := HZ.1 4 _ rfl
  have y5 := HZ.1 5 _ rfl
  have z0 := HZ.2.1 0 _ rfl
  have z1 := HZ.2.1 1 _ rfl
  clear HZ
  go_upto_region 2 with (first
    | (go_at_call 5; refine (C1.out _ (B.below_trans (HA.out _ _ _ _) HB0.out)).mono ?_; rintro e w1 ⟨A1, As1, d1, d1', rfl, hat, hB1⟩; have HB1 := Lib.hid (B.below_trans HB0.out hB1); have HAT := Lib.hid hat; clear hB1 hat)
    | (go_at_call 8; refine (C4.out _ (B.below_trans (HA.out _ _ _ _) HB1.out)).mono ?_; rintro e w2 ⟨v2, rfl, hO, hBc⟩; obtain ⟨Av, cv, rfl⟩ := Copy.shape hO; have HCV : Hid (bkK.C w2 Av bs) := Lib.hid (by obtain ⟨A', c', e, hC⟩ := B.own_S (k := 3) (enc := bkE) (hl := fun _ => rfl) (h1 := bkE1) hO (by have := HLN.out; omega); simp only [Value.slice.injEq] at e; obtain ⟨rfl, -, -⟩ := e; exact hC); have HAT2 := Lib.hid (HAT.out.mono hBc); have HB2 := Lib.hid (B.below_trans HB1.out hBc); clear hO hBc))
  clear y0 y1 y2 y3 y4 y5 z0 z1
  have HB3 := Lib.hid (HB2.out.trans (((Below.refl _ w2).alloc (Nat.le_refl _) (.cells #[.int .i64 x.kind, .string x.item, .int .i64 x.long, .int .i64 x.many, .slice A1 x.kids.length d1, .slice As1 x.shares.length d1'] 25)).mono HB2.out.size))
  have HAT3 := Lib.hid (HAT2.out.mono ((Below.refl _ w2).alloc (Nat.le_refl _) (.cells #[.int .i64 x.kind, .string x.item, .int .i64 x.long, .int .i64 x.many, .slice A1 x.kids.length d1, .slice As1 x.shares.length d1'] 25)))
  have HCV3 := Lib.hid (HCV.out.mono ((Below.refl _ w2).alloc (Nat.le_refl _) (.cells #[.int .i64 x.kind, .string x.item, .int .i64 x.long, .int .i64 x.many, .slice A1 x.kids.length d1, .slice As1 x.shares.length d1'] 25)))
  have HV := Lib.hid (fun (W : World) (hb : Below (w2.alloc (.cells #[.int .i64 x.kind, .string x.item, .int .i64 x.long, .int .i64 x.many, .slice A1 x.kids.length d1, .slice As1 x.shares.length d1'] 25)).heap.size (w2.alloc (.cells #[.int .i64 x.kind, .string x.item, .int .i64 x.long, .int .i64 x.many, .slice A1 x.kids.length d1, .slice As1 x.shares.length d1'] 25)) W) => L.boxed (x := x) (A := A1) (As := As1) (c := d1) (c' := d1') (w := w2) (e := 25) hb)
  have HY := Lib.hid (fun (W : World) (hb : Below (w2.alloc (.cells #[.int .i64 x.kind, .string x.item, .int .i64 x.long, .int .i64 x.many, .slice A1 x.kids.length d1, .slice As1 x.shares.length d1'] 25)).heap.size (w2.alloc (.cells #[.int .i64 x.kind, .string x.item, .int .i64 x.long, .int .i64 x.many, .slice A1 x.kids.length d1, .slice As1 x.shares.length d1'] 25)) W) => HT.out _ _ _ _ _ (B.below_trans HB3.out hb))
  have HWX := Lib.hid (B.below_trans (HA.out _ _ _ _) HB3.out)
  clear HA HT HX0 HB0 HB1 HB2 HB3 HAT HAT2 HCV C1 C4
  generalize w2.alloc (.cells #[.int .i64 x.kind, .string x.item, .int .i64 x.long, .int .i64 x.many, .slice A1 x.kids.length d1, .slice As1 x.shares.length d1'] 25) = W3 at *
  generalize w2.heap.size = n2 at *
  have HZ := HY.out _ (Below.refl _ W3)
  have y0 := HZ.1 0 _ rfl
  have y1 := HZ.1 1 _ rfl
  have y2 := HZ.1 2 _ rfl
  have y3 := HZ.1 3 _ rfl
  have y4 := HZ.1 4 _ rfl
  have y5 := HZ.1 5 _ rfl
  have z0 := HZ.2.1 0 _ rfl
  have z1 := HZ.2.1 1 _ rfl
  clear HZ
  go_wp2_with (first
    | (go_at_call 9; refine (C2.out _ HWX.out).mono ?_; rintro e w4 ⟨rfl, hB4⟩; have HB4 := Lib.hid hB4; clear hB4; clear y0 y1 y2 y3 y4 y5 z0 z1; have HZ := HY.out _ HB4.out; have y0 := HZ.1 0 _ rfl; have y1 := HZ.1 1 _ rfl; have y2 := HZ.1 2 _ rfl; have y3 := HZ.1 3 _ rfl; have y4 := HZ.1 4 _ rfl; have y5 := HZ.1 5 _ rfl; have z0 := HZ.2.1 0 _ rfl; have z1 := HZ.2.1 1 _ rfl; clear HZ; obtain ⟨v0, v1, v2, v3, v4, v5⟩ := HV.out _ HB4.out)
    | (go_at_call 7; refine (C3.out _ _ _ _ _ (B.below_trans HWX.out HB4.out) (HAT3.out.mono HB4.out)).mono ?_; rintro e w5 ⟨rfl, hB5⟩; have HB5 := Lib.hid (B.below_trans HB4.out hB5); clear hB5)
    | (go_at_call 10; refine (Eq.eq_bk _ _ bs bs _ (HBS.out _ (B.below_trans HWX.out HB5.out)) ⟨_, _, rfl, HCV3.out.mono HB5.out⟩ true (decide_eq_true rfl)).mono ?_; rintro e w6 ⟨rfl, hB6⟩))
  go_ret
  exact ⟨rfl, B.below_trans (B.below_trans HWX.out HB5.out) hB6⟩
end Go.Proofs.YtfillnkebohciaaGreatDoor.Rn
