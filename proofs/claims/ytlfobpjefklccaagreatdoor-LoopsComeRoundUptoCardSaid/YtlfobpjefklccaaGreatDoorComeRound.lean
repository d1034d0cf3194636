/- signlaw1.loopsComeRound and LoopsComeRound answer true. Printed by wip/gen/comegen.py. -/
import Derived.Test.YtlfobpjefklccaaGreatDoorUntil
import Derived.Test.YtlfobpjefklccaaGreatDoorParts
import Derived.Test.YtlfobpjefklccaaGreatDoorPortR
import Derived.Test.YtlfobpjefklccaaGreatDoorEqPt
import Derived.Test.YtlfobpjefklccaaGreatDoorOr
import Derived.Test.YtlfobpjefklccaaGreatDoorLpStay
import Derived.Test.YtlfobpjefklccaaGreatDoorSmall
import Derived.Deep.Cut
namespace Go.Proofs.YtlfobpjefklccaaGreatDoor.Come
open Go.RowKit
open L (Lp At lv)
open T (Step stK steps_at lng roundM rE rL rP RdRes)

theorem rE_bad {q : Int} {R : Option (Nat × List Step)} (h : rE q R ≠ 0) : rP q R = 0 ∧ rL q R = [] := by
  unfold rE at h
  unfold rP rL
  by_cases hq : q = 0
  · rw [if_neg (by simpa using hq)] at h ⊢
    rw [if_neg (by simpa using hq)]
    cases R with
    | none => exact ⟨rfl, rfl⟩
    | some r => exact absurd rfl h
  · rw [if_pos hq, if_pos hq]; exact ⟨rfl, rfl⟩
theorem onE_ne {q t E : Int} (h : E ≠ 0 ∨ q ≠ 0 ∨ t ≠ 0) : onE q t E ≠ 0 := by
  unfold onE
  by_cases hq : q = 0
  · rw [if_neg (by simpa using hq)]
    by_cases ht : t = 0
    · rw [if_neg (by simpa using ht)]
      rcases h with h | h | h
      · exact h
      · exact absurd hq h
      · exact absurd ht h
    · rw [if_pos ht]; exact ht
  · rw [if_pos hq]; exact hq
theorem utE_ne {q k t E : Int} (h : E ≠ 0 ∨ q ≠ 0 ∨ t ≠ 0 ∨ k ≠ 0) : utE q k t E ≠ 0 := by
  unfold utE
  by_cases hq : q = 0
  · rw [if_neg (by simpa using hq)]
    by_cases hk : k = 0
    · rw [if_neg (by simpa using hk)]
      by_cases ht : t = 0
      · rw [if_neg (by simpa using ht)]
        rcases h with h | h | h | h
        · exact h
        · exact absurd hq h
        · exact absurd ht h
        · exact absurd hk h
      · rw [if_pos ht]; exact ht
    · rw [if_pos hk]; exact hk
  · rw [if_pos hq]; exact hq
theorem or3 (a b c : Int) : Or.firstNZ [a, b, c] = onE a b c := by
  unfold onE
  by_cases ha : a = 0
  · by_cases hb : b = 0
    · by_cases hc : c = 0 <;> simp [Or.firstNZ, ha, hb, hc]
    · simp [Or.firstNZ, ha, hb]
  · simp [Or.firstNZ, ha]
theorem or4 (a b c d : Int) : Or.firstNZ [a, b, c, d] = utE a b c d := by
  unfold utE
  by_cases ha : a = 0
  · by_cases hb : b = 0
    · by_cases hc : c = 0
      · by_cases hd : d = 0 <;> simp [Or.firstNZ, ha, hb, hc, hd]
      · simp [Or.firstNZ, ha, hb, hc]
    · simp [Or.firstNZ, ha, hb]
  · simp [Or.firstNZ, ha]
theorem or_tf (a b : Int) : Or.firstNZ [mf a, mf b, if decide (b < a) = true then 7 else 0] = tf a b := by
  rw [or3]
  unfold onE tf mf
  cases ha : momB a with
  | false => simp
  | true =>
    cases hb : momB b with
    | false => simp
    | true =>
      by_cases h : b < a <;> simp [h]
theorem eq_pts (A A' : Option Addr) (l : List Pt) (c c' : Nat) (w : World) (h1 : ptK.C w A l) (h2 : ptK.C w A' l) :
    Calls Tryz.prog 16 #[.slice A l.length c, .slice A' l.length c'] w fun e w' => e = .returned (.bool true) ∧ Below w.heap.size w w' :=
  Eq.eq_pt _ _ l l w ⟨A, c, rfl, h1⟩ ⟨A', c', rfl, h2⟩ true (decide_eq_true rfl)
set_option maxHeartbeats 8000000 in
set_option maxRecDepth 100000 in
theorem come_1 (n : Nat) (x : Lp) (A As : Option Addr) (c c' : Nat) (fr a : Int) (item : ByteArray) (hsz : item.size ≤ 9223372036854775807) (w : World) (h : At n w x A As) (hE : rE (L.lf (n + 1) x) (roundM n x) ≠ 0) :
    Calls Tryz.prog 6 #[lv x A As c c', .int .i64 fr, .int .i64 a, .string item] w fun e w' => e = .returned (.bool true) ∧ Below w.heap.size w w' := by
  have HA := Lib.hid (fun (c : Array Value) (e : TypeId) => (Below.refl _ w).alloc (Nat.le_refl _) (.cells c e))
  have HX0 := Lib.hid (fun (e : TypeId) (W : World) => @L.boxed x A As c c' w W e)
  have C1 := Lib.hid (fun W (hb : Below w.heap.size w W) => T.round n x A As c c' W (h.mono hb))
  have C2 := Lib.hid (fun W (hb : Below w.heap.size w W) => parts_bad n x A As c c' W (h.mono hb) hE)
  have C3 := Lib.hid (fun W (hb : Below w.heap.size w W) => T.rounded_any n x A As c c' W (h.mono hb))
  have C4 := Lib.hid (fun W (hb : Below w.heap.size w W) => onAt n x A As c c' fr a W (h.mono hb))
  have C5 := Lib.hid (fun W (hb : Below w.heap.size w W) => until_any n x A As c c' fr a item hsz W (h.mono hb))
  have C6 := Lib.hid (fun W (hb : Below w.heap.size w W) => L.refLoop n x A As c c' W (h.mono hb))
  have C7 := Lib.hid (fun W => keyFault item hsz W)
  have HF0 := Lib.hid (or_tf fr a)
  have HF1 := Lib.hid (or3 (L.lf (n + 1) x) (tf fr a) (rE (L.lf (n + 1) x) (roundM n x)))
  have HF2 := Lib.hid (or4 (L.lf (n + 1) x) (kf item) (tf fr a) (rE (L.lf (n + 1) x) (roundM n x)))
  have C8 := Lib.hid (fun W => Or.when_any (decide (a < fr)) 7 W)
  have C9 := Lib.hid (fun W => momentFault fr W)
  have C10 := Lib.hid (fun W => momentFault a W)
  obtain ⟨e1, e2⟩ := rE_bad hE
  have h1 := onE_ne (q := L.lf (n + 1) x) (t := tf fr a) (.inl hE)
  have h2 := utE_ne (q := L.lf (n + 1) x) (k := kf item) (t := tf fr a) (.inl hE)
  rw [e1, e2] at C1 C3
  rw [if_neg h1] at C4
  rw [if_neg h2] at C5
  have hok : Ok ([] : List Step) := fun s hs => by cases hs
  have hl : ([] : List Step).length ≤ 5000 := by simp
  rw [lng_tot hok hl] at C1
  have hE0 : (rE (L.lf (n + 1) x) (roundM n x) == 0) = false := by rw [beq_eq_false_iff_ne]; exact hE
  have hE1 : (rE (L.lf (n + 1) x) (roundM n x) != 0) = true := bne_iff_ne.2 hE
  generalize rE (L.lf (n + 1) x) (roundM n x) = E at *
  generalize ([] : List Step) = l at *
  generalize (0 : Nat) = p at C1 C3
  clear e1 e2 hE
  generalize onE (L.lf (n + 1) x) (tf fr a) E = one at *
  have h1a : (one == 0) = false := by rw [beq_eq_false_iff_ne]; exact h1
  have h1b : (one != 0) = true := bne_iff_ne.2 h1
  clear h1
  generalize utE (L.lf (n + 1) x) (kf item) (tf fr a) E = two at *
  have h2a : (two == 0) = false := by rw [beq_eq_false_iff_ne]; exact h2
  have h2b : (two != 0) = true := bne_iff_ne.2 h2
  clear h2
  generalize L.lf (n + 1) x = q at *
  generalize tf fr a = t at *
  generalize kf item = kk at *
  generalize hS : zS = S at *
  have HZ : Hid (S = ((⟨#[]⟩, 0), 0)) := Lib.hid hS.symm
  clear hS
  generalize mf fr = m1 at *
  generalize mf a = m2 at *
  generalize (if decide (a < fr) = true then (7 : Int) else 0) = m3 at *
  have HOK := Lib.hid hok
  have HBD := Lib.hid (fun k => tot_in hok hl k)
  have HTL : Hid (tot (l.take l.length) = tot l) := Lib.hid (by rw [List.take_length])
  clear h hok 
  rw [HZ.out] at C4
  clear HZ
  unfold lv at C1 C2 C3 C4 C5 C6 ⊢
  unfold OnRes at C4
  unfold UtRes at C5
  go_enter Tryz.func6, Tryz.ntmps6
  go_upto_region 1 with (fail)
  have HB0 : Hid (Below (w.alloc (.cells #[.int .i64 x.kind, .string x.item, .int .i64 x.long, .int .i64 x.many, .slice A x.kids.length c, .slice As x.shares.length c'] 25)).heap.size (w.alloc (.cells #[.int .i64 x.kind, .string x.item, .int .i64 x.long, .int .i64 x.many, .slice A x.kids.length c, .slice As x.shares.length c'] 25)) (w.alloc (.cells #[.int .i64 x.kind, .string x.item, .int .i64 x.long, .int .i64 x.many, .slice A x.kids.length c, .slice As x.shares.length c'] 25))) := Lib.hid (Below.refl _ _)
  obtain ⟨y0, y1, y2, y3, y4, y5⟩ := HX0.out _ _ HB0.out
  have c1 := C1.out _ (B.below_trans (HA.out _ _) HB0.out)
  go_upto_region 2 with (go_at_call 13; refine c1.mono ?_; rintro e w1 ⟨rfl, hB1⟩; have HB1 := Lib.hid (B.below_trans HB0.out hB1); clear hB1)
  clear c1 C1
  clear y0 y1 y2 y3 y4 y5
  obtain ⟨y0, y1, y2, y3, y4, y5⟩ := HX0.out _ _ HB1.out
  have c2 := C2.out _ (B.below_trans (HA.out _ _) HB1.out)
  go_upto_region 3 with (go_at_call 14; refine c2.mono ?_; rintro e w2 ⟨⟨A2, k2, rfl, hC2⟩, hB2⟩; have HC2 := Lib.hid hC2; have HB2 := Lib.hid (B.below_trans HB1.out hB2); clear hB2 hC2)
  clear c2 C2
  clear y0 y1 y2 y3 y4 y5
  obtain ⟨y0, y1, y2, y3, y4, y5⟩ := HX0.out _ _ HB2.out
  have c3 := C3.out _ (B.below_trans (HA.out _ _) HB2.out)
  go_upto_region 4 with (go_at_call 15; refine c3.mono ?_; rintro e w3 ⟨⟨A3, k3, rfl, hC3⟩, hB3⟩; have HC3 := Lib.hid hC3; have HB3 := Lib.hid (B.below_trans HB2.out hB3); have HP3 := Lib.hid (HC2.out.mono hB3); clear hB3 hC3)
  clear c3 C3 y0 y1 y2 y3 y4 y5
  go_wp2
  go_loopw [18, 51] (fun s18 s51 wr => ∃ k : Nat, s51 = .int .i64 k ∧ s18 = .int .i64 (tot (l.take k)) ∧ k ≤ l.length ∧ Hid (Below w3.heap.size w3 wr)) (fun _ s _ => l.length - (intOf s).toNat)
  case atStart => exact ⟨0, rfl, rfl, Nat.zero_le _, Lib.hid (Below.refl _ _)⟩
  case round =>
    obtain ⟨k, rfl, rfl, hk, HB⟩ := hrel
    by_cases hlt : k < l.length
    · obtain ⟨b1, o1, rfl, f0, f1⟩ := steps_at (HC3.out.mono HB.out) k hlt
      have HTT := Lib.hid (tot_take hlt)
      obtain ⟨hb1, hb1'⟩ := HBD.out k
      obtain ⟨hb2, hb2'⟩ := HOK.out _ (List.getElem_mem hlt)
      have hk1 : (k : Int) < l.length := by omega
      generalize l[k] = s at *
      obtain ⟨s1, s2⟩ := s
      generalize tot (l.take k) = tt at *
      go_wp2
      go_roundw
      case rel => exact ⟨k + 1, by go_num, by rw [HTT.out], by omega, Lib.hid (HB.out.alloc HB.out.size _)⟩
      case measure => simp [intOf]; omega
    · obtain rfl : k = l.length := by omega
      rw [HTL.out]
      have HB4 := Lib.hid (B.below_trans HB3.out HB.out)
      have HC4 := Lib.hid (HC3.out.mono HB.out)
      have HP4 := Lib.hid (HP3.out.mono HB.out)
      clear HB HC3 HP3 HB3 HBD HTL hlt
      go_upto_region 12 with (fail)
      have HB6 := HB4
      have HC6 := HC4
      generalize wr = w6 at *
      obtain ⟨y0, y1, y2, y3, y4, y5⟩ := HX0.out _ _ HB6.out
      have c4 := C4.out _ (B.below_trans (HA.out _ _) HB6.out)
      go_upto_region 13 with (go_at_call 18; refine c4.mono ?_; rintro e w7 ⟨rfl, hB7⟩; have HC7 := Lib.hid ((HC6.out.mono hB7).mono ((Below.refl _ _).alloc (Nat.le_refl _) (.cells #[.string ⟨#[]⟩, .int .i64 0] 46))); have HB7 := Lib.hid ((B.below_trans HB6.out hB7).alloc (B.below_trans HB6.out hB7).size (.cells #[.string ⟨#[]⟩, .int .i64 0] 46)); have HT0 := Lib.hid (World.cell?_alloc_new w7 #[.string ⟨#[]⟩, .int .i64 0] 46 0); have HT1 := Lib.hid (World.cell?_alloc_new w7 #[.string ⟨#[]⟩, .int .i64 0] 46 1); clear hB7)
      clear c4 C4 HC6 HB6
      generalize hn7 : w7.heap.size = n7 at *
      generalize w7.alloc (.cells #[.string ⟨#[]⟩, .int .i64 0] 46) = w8 at *
      clear hn7
      clear y0 y1 y2 y3 y4 y5
      obtain ⟨y0, y1, y2, y3, y4, y5⟩ := HX0.out _ _ HB7.out
      have c5 := C5.out _ (B.below_trans (HA.out _ _) HB7.out)
      go_upto_region 14 with (go_at_call 19; refine c5.mono ?_; rintro e w9 ⟨rfl, hB9⟩; have HC9 := Lib.hid (HC7.out.mono hB9); have HT90 := Lib.hid (B.cell_below hB9 HT0.out); have HT91 := Lib.hid (B.cell_below hB9 HT1.out); have HB9 := Lib.hid (B.below_trans HB7.out hB9); clear hB9)
      clear c5 C5 HC7 HT0 HT1 HB7 y0 y1 y2 y3 y4 y5
      have c9 := C9.out
      have c10 := C10.out
      have c8 := C8.out
      go_upto_region 15 with (first
        | (go_at_call 21; (with_reducible refine (c9 _).mono ?_); rintro e w10 ⟨rfl, hB10⟩; have HC10 := Lib.hid (HC9.out.mono hB10); have HT100 := Lib.hid (B.cell_below hB10 HT90.out); have HT101 := Lib.hid (B.cell_below hB10 HT91.out); have HB10 := Lib.hid (B.below_trans HB9.out hB10); clear hB10)
        | (go_at_call 21; (with_reducible refine (c10 _).mono ?_); rintro e w11 ⟨rfl, hB11⟩; have HC11 := Lib.hid (HC10.out.mono hB11); have HT110 := Lib.hid (B.cell_below hB11 HT100.out); have HT111 := Lib.hid (B.cell_below hB11 HT101.out); have HB11 := Lib.hid (B.below_trans HB10.out hB11); clear hB11)
        | (go_at_call 22; refine (c8 _).mono ?_; rintro e w12 ⟨rfl, rfl⟩)
        | (go_at_call 20; refine (Or.orOf _ [m1, m2, m3] _ (Or.lit_ints _ _ _ _ 3 rfl (by rfl) (show 3 ≤ 140737488355328 by decide))).mono ?_; rintro e w13 ⟨he13, hB13⟩; rw [HF0.out] at he13; obtain rfl := he13; have HBL13 := Lib.hid (((Below.refl _ _).alloc (Nat.le_refl _) _).trans (hB13.mono (by simp))); have HC13 := Lib.hid (HC11.out.mono HBL13.out); have HT130 := Lib.hid (B.cell_below HBL13.out HT110.out); have HT131 := Lib.hid (B.cell_below HBL13.out HT111.out); have HB13 := Lib.hid (B.below_trans HB11.out HBL13.out); clear hB13 HBL13))
      clear HC9 HC10 HC11 HT90 HT91 HT100 HT101 HT110 HT111 HB9 HB10 HB11 c8 c9 c10 C8 C9 C10 HF0
      have HXB := Lib.hid (fun (W : World) (hb : Below w13.heap.size w13 W) => HX0.out _ W (B.below_trans HB13.out hb))
      have HW13 := Lib.hid (B.below_trans (HA.out _ _) HB13.out)
      refine wp_region_held_drew (S := fun w' => Below w13.heap.size w13 w') (by kernel_rfl) (B.below_drew (Below.refl _ _) 1) (fun hHeld => ?_)
      refine wpAnyH_take (i := 0) (v := ?_) At.at0 (by kernel_rfl) (by kernel_rfl) (by kernel_rfl) (fun _ _ _ h => h) (Or.inl ⟨by rfl, ?_⟩) (by assumption) ?_
      rotate_left
      · (intro w9 hSw; (try dsimp only at hSw); obtain ⟨y0, y1, y2, y3, y4, y5⟩ := HXB.out w9 hSw; go_simp; try (with_reducible rfl))
      try simp only [Act.put, List.setIfInBounds_toArray, List.set_cons_zero, List.set_cons_succ]
      refine wpAnyH_take (i := 2) (v := ?_) At.at2 (by kernel_rfl) (by kernel_rfl) (by kernel_rfl) (fun _ _ _ h => h) (Or.inl ⟨by rfl, ?_⟩) (by assumption) ?_
      rotate_left
      · (intro w9 hSw; (try dsimp only at hSw); go_simp; try (with_reducible rfl))
      try simp only [Act.put, List.setIfInBounds_toArray, List.set_cons_zero, List.set_cons_succ]
      refine wpAnyH_take (i := 3) (v := ?_) At.at3 (by kernel_rfl) (by kernel_rfl) (by kernel_rfl) (fun _ _ _ h => h) (Or.inl ⟨by rfl, ?_⟩) (by assumption) ?_
      rotate_left
      · (intro w9 hSw; (try dsimp only at hSw); go_simp; try (with_reducible rfl))
      try simp only [Act.put, List.setIfInBounds_toArray, List.set_cons_zero, List.set_cons_succ]
      refine wpAnyH_take (i := 6) (v := ?_) At.at6 (by kernel_rfl) (by kernel_rfl) (by kernel_rfl) (fun _ _ _ h => h) (Or.inl ⟨by rfl, ?_⟩) (by assumption) ?_
      rotate_left
      · (intro w9 hSw; (try dsimp only at hSw); obtain ⟨y0, y1, y2, y3, y4, y5⟩ := HXB.out w9 hSw; go_simp; try (with_reducible rfl))
      try simp only [Act.put, List.setIfInBounds_toArray, List.set_cons_zero, List.set_cons_succ]
      refine wpAnyH_take (i := 8) (v := ?_) At.at8 (by kernel_rfl) (by kernel_rfl) (by kernel_rfl) (fun _ _ _ h => h) (Or.inl ⟨by rfl, ?_⟩) (by assumption) ?_
      rotate_left
      · (intro w9 hSw; (try dsimp only at hSw); go_simp; try (with_reducible rfl))
      try simp only [Act.put, List.setIfInBounds_toArray, List.set_cons_zero, List.set_cons_succ]
      refine wpAnyH_take (i := 10) (v := ?_) At.at10 (by kernel_rfl) (by kernel_rfl) (by kernel_rfl) (fun _ _ _ h => h) (Or.inl ⟨by rfl, ?_⟩) (by assumption) ?_
      rotate_left
      · (intro w9 hSw; (try dsimp only at hSw); go_simp; try (with_reducible rfl))
      try simp only [Act.put, List.setIfInBounds_toArray, List.set_cons_zero, List.set_cons_succ]
      refine wpAnyH_take (i := 11) (v := ?_) At.at11 (by kernel_rfl) (by kernel_rfl) (by kernel_rfl) (fun _ _ _ h => h) (Or.inl ⟨by rfl, ?_⟩) (by assumption) ?_
      rotate_left
      · (intro w9 hSw; (try dsimp only at hSw); go_simp; try (with_reducible rfl))
      try simp only [Act.put, List.setIfInBounds_toArray, List.set_cons_zero, List.set_cons_succ]
      refine wpAnyH_ready (rs := [1]) (by kernel_rfl) (by simp) ?_
      refine AllReadyH.cons At.at1 (fun K hK => ?_) AllReadyH.nil
      go_simp
      go_at_call 11; refine (C6.out _ (B.below_drew HW13.out 1)).mono ?_; rintro e w14 ⟨rfl, hB14⟩; have HB14 := Lib.hid (B.below_trans (w := w13) (B.below_drew (Below.refl _ _) 1) hB14); clear hB14
      go_simp
      refine hK.out _ _ (HB14.out) (fun hHeld => ?_)
      clear hK K
      try simp only [Act.put, List.setIfInBounds_toArray, List.set_cons_zero, List.set_cons_succ]
      refine wpAnyH_ready (rs := [4]) (by kernel_rfl) (by simp) ?_
      refine AllReadyH.cons At.at4 (fun K hK => ?_) AllReadyH.nil
      go_simp
      refine hK.out _ _ (HB14.out.alloc HB14.out.size _) (fun hHeld => ?_)
      clear hK K
      try simp only [Act.put, List.setIfInBounds_toArray, List.set_cons_zero, List.set_cons_succ]
      refine wpAnyH_ready (rs := [5]) (by kernel_rfl) (by simp) ?_
      refine AllReadyH.cons At.at5 (fun K hK => ?_) AllReadyH.nil
      go_simp
      go_at_call 20; refine (Or.orOf _ [q, t, E] _ (Or.lit_ints _ _ _ _ 3 rfl (by rfl) (show 3 ≤ 140737488355328 by decide))).mono ?_; rintro e w15 ⟨he15, hB15⟩; rw [HF1.out] at he15; obtain rfl := he15; have HB15 := Lib.hid (B.below_trans (w := w13) (HB14.out.alloc HB14.out.size _) hB15); clear hB15
      go_simp
      refine hK.out _ _ (HB15.out) (fun hHeld => ?_)
      clear hK K
      try simp only [Act.put, List.setIfInBounds_toArray, List.set_cons_zero, List.set_cons_succ]
      refine wpAnyH_ready (rs := [7]) (by kernel_rfl) (by simp) ?_
      refine AllReadyH.cons At.at7 (fun K hK => ?_) AllReadyH.nil
      go_simp
      go_at_call 11; refine (C6.out _ (B.below_trans HW13.out HB15.out)).mono ?_; rintro e w16 ⟨rfl, hB16⟩; have HB16 := Lib.hid (B.below_trans (w := w13) HB15.out hB16); clear hB16
      go_simp
      refine hK.out _ _ (HB16.out) (fun hHeld => ?_)
      clear hK K
      try simp only [Act.put, List.setIfInBounds_toArray, List.set_cons_zero, List.set_cons_succ]
      refine wpAnyH_ready (rs := [9]) (by kernel_rfl) (by simp) ?_
      refine AllReadyH.cons At.at9 (fun K hK => ?_) AllReadyH.nil
      go_simp
      go_at_call 23; refine (C7.out _).mono ?_; rintro e w17 ⟨rfl, hB17⟩; have HB17 := Lib.hid (B.below_trans (w := w13) HB16.out hB17); clear hB17
      go_simp
      refine hK.out _ _ (HB17.out) (fun hHeld => ?_)
      clear hK K
      try simp only [Act.put, List.setIfInBounds_toArray, List.set_cons_zero, List.set_cons_succ]
      refine wpAnyH_ready (rs := [12]) (by kernel_rfl) (by simp) ?_
      refine AllReadyH.cons At.at12 (fun K hK => ?_) AllReadyH.nil
      go_simp
      refine hK.out _ _ (HB17.out.alloc HB17.out.size _) (fun hHeld => ?_)
      clear hK K
      try simp only [Act.put, List.setIfInBounds_toArray, List.set_cons_zero, List.set_cons_succ]
      refine wpAnyH_ready (rs := [13]) (by kernel_rfl) (by simp) ?_
      refine AllReadyH.cons At.at13 (fun K hK => ?_) AllReadyH.nil
      go_simp
      go_at_call 20; refine (Or.orOf _ [q, kk, t, E] _ (Or.lit_ints _ _ _ _ 4 rfl (by rfl) (show 4 ≤ 140737488355328 by decide))).mono ?_; rintro e w19 ⟨he19, hB19⟩; rw [HF2.out] at he19; obtain rfl := he19; have HB19 := Lib.hid (B.below_trans (w := w13) (HB17.out.alloc HB17.out.size _) hB19); clear hB19
      go_simp
      refine hK.out _ _ (HB19.out) (fun hHeld => ?_)
      clear hK K
      try simp only [Act.put, List.setIfInBounds_toArray, List.set_cons_zero, List.set_cons_succ]
      refine wpAnyH_take (i := 14) (v := ?_) At.at14 (by kernel_rfl) (by kernel_rfl) (by kernel_rfl) (fun _ _ _ h => h) (Or.inl ⟨by rfl, ?_⟩) (by assumption) ?_
      rotate_left
      · (intro w9 hSw; (try dsimp only at hSw); go_simp; try (with_reducible rfl))
      try simp only [Act.put, List.setIfInBounds_toArray, List.set_cons_zero, List.set_cons_succ]
      refine wpAnyH_take (i := 15) (v := ?_) At.at15 (by kernel_rfl) (by kernel_rfl) (by kernel_rfl) (fun _ _ _ h => h) (Or.inl ⟨by rfl, ?_⟩) (by assumption) ?_
      rotate_left
      · (intro w9 hSw; (try dsimp only at hSw); go_simp; try (with_reducible rfl))
      try simp only [Act.put, List.setIfInBounds_toArray, List.set_cons_zero, List.set_cons_succ]
      refine wpAnyH_done (by kernel_rfl) ?_ _
      have HC19 := Lib.hid (HC13.out.mono HB19.out)
      have h190 := B.cell_below HB19.out HT130.out
      have h191 := B.cell_below HB19.out HT131.out
      have HL19 : Hid (n7 < w19.heap.size) := Lib.hid (World.block_lt_of_cell? w19 _ h190)
      have HW19 := Lib.hid (B.below_trans HW13.out HB19.out)
      have hl19 : n7 < w19.heap.size := HL19.out
      clear HXB HB14 HB15 HB16 HB17 HB19 HC13 HT130 HT131 HB13 HW13 C6 C7 HF1 HF2 HX0
      go_wp2_with (go_at_call 25; refine (T.looped _).mono ?_; rintro e w23 ⟨rfl, hB23⟩)
      go_ret
      exact ⟨rfl, B.below_trans (HW19.out.alloc HW19.out.size _) hB23⟩
set_option maxHeartbeats 8000000 in
set_option maxRecDepth 100000 in
theorem come_2 (n : Nat) (x : Lp) (A As : Option Addr) (c c' : Nat) (fr a : Int) (item : ByteArray) (hsz : item.size ≤ 9223372036854775807) (w : World) (h : At n w x A As) (hq : L.lf (n + 1) x = 0) (p : Nat) (l : List Step) (hr : roundM n x = some (p, l)) (ht : tf fr a ≠ 0) :
    Calls Tryz.prog 6 #[lv x A As c c', .int .i64 fr, .int .i64 a, .string item] w fun e w' => e = .returned (.bool true) ∧ Below w.heap.size w w' := by
  have HA := Lib.hid (fun (c : Array Value) (e : TypeId) => (Below.refl _ w).alloc (Nat.le_refl _) (.cells c e))
  have HX0 := Lib.hid (fun (e : TypeId) (W : World) => @L.boxed x A As c c' w W e)
  have C1 := Lib.hid (fun W (hb : Below w.heap.size w W) => T.round n x A As c c' W (h.mono hb))
  have C2 := Lib.hid (fun W (hb : Below w.heap.size w W) => parts_ok n x A As c c' W (h.mono hb) hq p l hr)
  have C3 := Lib.hid (fun W (hb : Below w.heap.size w W) => T.rounded_any n x A As c c' W (h.mono hb))
  have C4 := Lib.hid (fun W (hb : Below w.heap.size w W) => onAt n x A As c c' fr a W (h.mono hb))
  have C5 := Lib.hid (fun W (hb : Below w.heap.size w W) => until_any n x A As c c' fr a item hsz W (h.mono hb))
  have C6 := Lib.hid (fun W (hb : Below w.heap.size w W) => L.refLoop n x A As c c' W (h.mono hb))
  have C7 := Lib.hid (fun W => keyFault item hsz W)
  have HF0 := Lib.hid (or_tf fr a)
  have HF1 := Lib.hid (or3 (L.lf (n + 1) x) (tf fr a) (rE (L.lf (n + 1) x) (roundM n x)))
  have HF2 := Lib.hid (or4 (L.lf (n + 1) x) (kf item) (tf fr a) (rE (L.lf (n + 1) x) (roundM n x)))
  have C8 := Lib.hid (fun W => Or.when_any (decide (a < fr)) 7 W)
  have C9 := Lib.hid (fun W => momentFault fr W)
  have C10 := Lib.hid (fun W => momentFault a W)
  obtain ⟨hok, hn, hl, hlng⟩ := round_ok h hq hr
  rw [hq, hr] at C1 C3 C4 C5 HF1 HF2
  rw [hq] at C6
  rw [show rP 0 (some (p, l)) = p from rfl, show rL 0 (some (p, l)) = l from rfl, show rE 0 (some (p, l)) = 0 from rfl] at C1 C3
  rw [show rE 0 (some (p, l)) = 0 from rfl] at HF1 HF2
  change Hid (∀ W, Below w.heap.size w W → Calls _ _ _ W (fun e w' => OnRes (if onE 0 (tf fr a) 0 = 0 then stAt l a (base l fr a) else zS) (onE 0 (tf fr a) 0) e ∧ _)) at C4
  change Hid (∀ W, Below w.heap.size w W → Calls _ _ _ W (fun e w' => UtRes (if utE 0 (kf item) (tf fr a) 0 = 0 then utR (un l item (base l fr a) a) else (0, false, utE 0 (kf item) (tf fr a) 0)) e ∧ _)) at C5
  rw [hlng] at C1
  have C11 := Lib.hid (fun (A : Option Addr) (c : Nat) (W : World) (hC : stK.C W A l) => portionsOf A c l W hC hok hn hl)
  have h1 := onE_ne (q := 0) (t := tf fr a) (E := 0) (.inr (.inr ht))
  have h2 := utE_ne (q := 0) (k := kf item) (t := tf fr a) (E := 0) (.inr (.inr (.inl ht)))
  rw [if_neg h1] at C4
  rw [if_neg h2] at C5
  generalize onE 0 (tf fr a) 0 = one at *
  have h1a : (one == 0) = false := by rw [beq_eq_false_iff_ne]; exact h1
  have h1b : (one != 0) = true := bne_iff_ne.2 h1
  clear h1
  generalize utE 0 (kf item) (tf fr a) 0 = two at *
  have h2a : (two == 0) = false := by rw [beq_eq_false_iff_ne]; exact h2
  have h2b : (two != 0) = true := bne_iff_ne.2 h2
  clear h2
  generalize tf fr a = t at *
  generalize kf item = kk at *
  generalize hS : zS = S at *
  have HZ : Hid (S = ((⟨#[]⟩, 0), 0)) := Lib.hid hS.symm
  clear hS
  generalize mf fr = m1 at *
  generalize mf a = m2 at *
  generalize (if decide (a < fr) = true then (7 : Int) else 0) = m3 at *
  have HOK := Lib.hid hok
  have HBD := Lib.hid (fun k => tot_in hok hl k)
  have HTL : Hid (tot (l.take l.length) = tot l) := Lib.hid (by rw [List.take_length])
  clear h hok hq hr ht hn hlng
  rw [HZ.out] at C4
  clear HZ
  unfold lv at C1 C2 C3 C4 C5 C6 ⊢
  unfold OnRes at C4
  unfold UtRes at C5
  go_enter Tryz.func6, Tryz.ntmps6
  go_upto_region 1 with (fail)
  have HB0 : Hid (Below (w.alloc (.cells #[.int .i64 x.kind, .string x.item, .int .i64 x.long, .int .i64 x.many, .slice A x.kids.length c, .slice As x.shares.length c'] 25)).heap.size (w.alloc (.cells #[.int .i64 x.kind, .string x.item, .int .i64 x.long, .int .i64 x.many, .slice A x.kids.length c, .slice As x.shares.length c'] 25)) (w.alloc (.cells #[.int .i64 x.kind, .string x.item, .int .i64 x.long, .int .i64 x.many, .slice A x.kids.length c, .slice As x.shares.length c'] 25))) := Lib.hid (Below.refl _ _)
  obtain ⟨y0, y1, y2, y3, y4, y5⟩ := HX0.out _ _ HB0.out
  have c1 := C1.out _ (B.below_trans (HA.out _ _) HB0.out)
  go_upto_region 2 with (go_at_call 13; refine c1.mono ?_; rintro e w1 ⟨rfl, hB1⟩; have HB1 := Lib.hid (B.below_trans HB0.out hB1); clear hB1)
  clear c1 C1
  clear y0 y1 y2 y3 y4 y5
  obtain ⟨y0, y1, y2, y3, y4, y5⟩ := HX0.out _ _ HB1.out
  have c2 := C2.out _ (B.below_trans (HA.out _ _) HB1.out)
  go_upto_region 3 with (go_at_call 14; refine c2.mono ?_; rintro e w2 ⟨⟨A2, k2, rfl, hC2⟩, hB2⟩; have HC2 := Lib.hid hC2; have HB2 := Lib.hid (B.below_trans HB1.out hB2); clear hB2 hC2)
  clear c2 C2
  clear y0 y1 y2 y3 y4 y5
  obtain ⟨y0, y1, y2, y3, y4, y5⟩ := HX0.out _ _ HB2.out
  have c3 := C3.out _ (B.below_trans (HA.out _ _) HB2.out)
  go_upto_region 4 with (go_at_call 15; refine c3.mono ?_; rintro e w3 ⟨⟨A3, k3, rfl, hC3⟩, hB3⟩; have HC3 := Lib.hid hC3; have HB3 := Lib.hid (B.below_trans HB2.out hB3); have HP3 := Lib.hid (HC2.out.mono hB3); clear hB3 hC3)
  clear c3 C3 y0 y1 y2 y3 y4 y5
  go_wp2
  go_loopw [18, 51] (fun s18 s51 wr => ∃ k : Nat, s51 = .int .i64 k ∧ s18 = .int .i64 (tot (l.take k)) ∧ k ≤ l.length ∧ Hid (Below w3.heap.size w3 wr)) (fun _ s _ => l.length - (intOf s).toNat)
  case atStart => exact ⟨0, rfl, rfl, Nat.zero_le _, Lib.hid (Below.refl _ _)⟩
  case round =>
    obtain ⟨k, rfl, rfl, hk, HB⟩ := hrel
    by_cases hlt : k < l.length
    · obtain ⟨b1, o1, rfl, f0, f1⟩ := steps_at (HC3.out.mono HB.out) k hlt
      have HTT := Lib.hid (tot_take hlt)
      obtain ⟨hb1, hb1'⟩ := HBD.out k
      obtain ⟨hb2, hb2'⟩ := HOK.out _ (List.getElem_mem hlt)
      have hk1 : (k : Int) < l.length := by omega
      generalize l[k] = s at *
      obtain ⟨s1, s2⟩ := s
      generalize tot (l.take k) = tt at *
      go_wp2
      go_roundw
      case rel => exact ⟨k + 1, by go_num, by rw [HTT.out], by omega, Lib.hid (HB.out.alloc HB.out.size _)⟩
      case measure => simp [intOf]; omega
    · obtain rfl : k = l.length := by omega
      rw [HTL.out]
      have HB4 := Lib.hid (B.below_trans HB3.out HB.out)
      have HC4 := Lib.hid (HC3.out.mono HB.out)
      have HP4 := Lib.hid (HP3.out.mono HB.out)
      clear HB HC3 HP3 HB3 HBD HTL hlt
      have c11 := C11.out A3 k3 wr HC4.out
      go_upto_region 12 with (first
        | (go_at_call 17; refine c11.mono ?_; rintro e w5 ⟨⟨A5, k5, rfl, hC5⟩, hB5⟩; have HP5 := Lib.hid hC5; have HP6 := Lib.hid (HP4.out.mono hB5); have HC5 := Lib.hid (HC4.out.mono hB5); have HB5 := Lib.hid (B.below_trans HB4.out hB5); clear hB5 hC5)
        | (go_at_call 16; refine (eq_pts _ _ _ _ _ _ HP6.out HP5.out).mono ?_; rintro e w6 ⟨rfl, hB6⟩; have HC6 := Lib.hid (HC5.out.mono hB6); have HB6 := Lib.hid (B.below_trans HB5.out hB6); clear hB6))
      clear c11 C11 HP4 HP5 HP6
      obtain ⟨y0, y1, y2, y3, y4, y5⟩ := HX0.out _ _ HB6.out
      have c4 := C4.out _ (B.below_trans (HA.out _ _) HB6.out)
      go_upto_region 13 with (go_at_call 18; refine c4.mono ?_; rintro e w7 ⟨rfl, hB7⟩; have HC7 := Lib.hid ((HC6.out.mono hB7).mono ((Below.refl _ _).alloc (Nat.le_refl _) (.cells #[.string ⟨#[]⟩, .int .i64 0] 46))); have HB7 := Lib.hid ((B.below_trans HB6.out hB7).alloc (B.below_trans HB6.out hB7).size (.cells #[.string ⟨#[]⟩, .int .i64 0] 46)); have HT0 := Lib.hid (World.cell?_alloc_new w7 #[.string ⟨#[]⟩, .int .i64 0] 46 0); have HT1 := Lib.hid (World.cell?_alloc_new w7 #[.string ⟨#[]⟩, .int .i64 0] 46 1); clear hB7)
      clear c4 C4 HC6 HB6
      generalize hn7 : w7.heap.size = n7 at *
      generalize w7.alloc (.cells #[.string ⟨#[]⟩, .int .i64 0] 46) = w8 at *
      clear hn7
      clear y0 y1 y2 y3 y4 y5
      obtain ⟨y0, y1, y2, y3, y4, y5⟩ := HX0.out _ _ HB7.out
      have c5 := C5.out _ (B.below_trans (HA.out _ _) HB7.out)
      go_upto_region 14 with (go_at_call 19; refine c5.mono ?_; rintro e w9 ⟨rfl, hB9⟩; have HC9 := Lib.hid (HC7.out.mono hB9); have HT90 := Lib.hid (B.cell_below hB9 HT0.out); have HT91 := Lib.hid (B.cell_below hB9 HT1.out); have HB9 := Lib.hid (B.below_trans HB7.out hB9); clear hB9)
      clear c5 C5 HC7 HT0 HT1 HB7 y0 y1 y2 y3 y4 y5
      have c9 := C9.out
      have c10 := C10.out
      have c8 := C8.out
      go_upto_region 15 with (first
        | (go_at_call 21; (with_reducible refine (c9 _).mono ?_); rintro e w10 ⟨rfl, hB10⟩; have HC10 := Lib.hid (HC9.out.mono hB10); have HT100 := Lib.hid (B.cell_below hB10 HT90.out); have HT101 := Lib.hid (B.cell_below hB10 HT91.out); have HB10 := Lib.hid (B.below_trans HB9.out hB10); clear hB10)
        | (go_at_call 21; (with_reducible refine (c10 _).mono ?_); rintro e w11 ⟨rfl, hB11⟩; have HC11 := Lib.hid (HC10.out.mono hB11); have HT110 := Lib.hid (B.cell_below hB11 HT100.out); have HT111 := Lib.hid (B.cell_below hB11 HT101.out); have HB11 := Lib.hid (B.below_trans HB10.out hB11); clear hB11)
        | (go_at_call 22; refine (c8 _).mono ?_; rintro e w12 ⟨rfl, rfl⟩)
        | (go_at_call 20; refine (Or.orOf _ [m1, m2, m3] _ (Or.lit_ints _ _ _ _ 3 rfl (by rfl) (show 3 ≤ 140737488355328 by decide))).mono ?_; rintro e w13 ⟨he13, hB13⟩; rw [HF0.out] at he13; obtain rfl := he13; have HBL13 := Lib.hid (((Below.refl _ _).alloc (Nat.le_refl _) _).trans (hB13.mono (by simp))); have HC13 := Lib.hid (HC11.out.mono HBL13.out); have HT130 := Lib.hid (B.cell_below HBL13.out HT110.out); have HT131 := Lib.hid (B.cell_below HBL13.out HT111.out); have HB13 := Lib.hid (B.below_trans HB11.out HBL13.out); clear hB13 HBL13))
      clear HC9 HC10 HC11 HT90 HT91 HT100 HT101 HT110 HT111 HB9 HB10 HB11 c8 c9 c10 C8 C9 C10 HF0
      have HXB := Lib.hid (fun (W : World) (hb : Below w13.heap.size w13 W) => HX0.out _ W (B.below_trans HB13.out hb))
      have HW13 := Lib.hid (B.below_trans (HA.out _ _) HB13.out)
      refine wp_region_held_drew (S := fun w' => Below w13.heap.size w13 w') (by kernel_rfl) (B.below_drew (Below.refl _ _) 1) (fun hHeld => ?_)
      refine wpAnyH_take (i := 0) (v := ?_) At.at0 (by kernel_rfl) (by kernel_rfl) (by kernel_rfl) (fun _ _ _ h => h) (Or.inl ⟨by rfl, ?_⟩) (by assumption) ?_
      rotate_left
      · (intro w9 hSw; (try dsimp only at hSw); obtain ⟨y0, y1, y2, y3, y4, y5⟩ := HXB.out w9 hSw; go_simp; try (with_reducible rfl))
      try simp only [Act.put, List.setIfInBounds_toArray, List.set_cons_zero, List.set_cons_succ]
      refine wpAnyH_take (i := 2) (v := ?_) At.at2 (by kernel_rfl) (by kernel_rfl) (by kernel_rfl) (fun _ _ _ h => h) (Or.inl ⟨by rfl, ?_⟩) (by assumption) ?_
      rotate_left
      · (intro w9 hSw; (try dsimp only at hSw); go_simp; try (with_reducible rfl))
      try simp only [Act.put, List.setIfInBounds_toArray, List.set_cons_zero, List.set_cons_succ]
      refine wpAnyH_take (i := 3) (v := ?_) At.at3 (by kernel_rfl) (by kernel_rfl) (by kernel_rfl) (fun _ _ _ h => h) (Or.inl ⟨by rfl, ?_⟩) (by assumption) ?_
      rotate_left
      · (intro w9 hSw; (try dsimp only at hSw); go_simp; try (with_reducible rfl))
      try simp only [Act.put, List.setIfInBounds_toArray, List.set_cons_zero, List.set_cons_succ]
      refine wpAnyH_take (i := 6) (v := ?_) At.at6 (by kernel_rfl) (by kernel_rfl) (by kernel_rfl) (fun _ _ _ h => h) (Or.inl ⟨by rfl, ?_⟩) (by assumption) ?_
      rotate_left
      · (intro w9 hSw; (try dsimp only at hSw); obtain ⟨y0, y1, y2, y3, y4, y5⟩ := HXB.out w9 hSw; go_simp; try (with_reducible rfl))
      try simp only [Act.put, List.setIfInBounds_toArray, List.set_cons_zero, List.set_cons_succ]
      refine wpAnyH_take (i := 8) (v := ?_) At.at8 (by kernel_rfl) (by kernel_rfl) (by kernel_rfl) (fun _ _ _ h => h) (Or.inl ⟨by rfl, ?_⟩) (by assumption) ?_
      rotate_left
      · (intro w9 hSw; (try dsimp only at hSw); go_simp; try (with_reducible rfl))
      try simp only [Act.put, List.setIfInBounds_toArray, List.set_cons_zero, List.set_cons_succ]
      refine wpAnyH_take (i := 10) (v := ?_) At.at10 (by kernel_rfl) (by kernel_rfl) (by kernel_rfl) (fun _ _ _ h => h) (Or.inl ⟨by rfl, ?_⟩) (by assumption) ?_
      rotate_left
      · (intro w9 hSw; (try dsimp only at hSw); go_simp; try (with_reducible rfl))
      try simp only [Act.put, List.setIfInBounds_toArray, List.set_cons_zero, List.set_cons_succ]
      refine wpAnyH_take (i := 11) (v := ?_) At.at11 (by kernel_rfl) (by kernel_rfl) (by kernel_rfl) (fun _ _ _ h => h) (Or.inl ⟨by rfl, ?_⟩) (by assumption) ?_
      rotate_left
      · (intro w9 hSw; (try dsimp only at hSw); go_simp; try (with_reducible rfl))
      try simp only [Act.put, List.setIfInBounds_toArray, List.set_cons_zero, List.set_cons_succ]
      refine wpAnyH_ready (rs := [1]) (by kernel_rfl) (by simp) ?_
      refine AllReadyH.cons At.at1 (fun K hK => ?_) AllReadyH.nil
      go_simp
      go_at_call 11; refine (C6.out _ (B.below_drew HW13.out 1)).mono ?_; rintro e w14 ⟨rfl, hB14⟩; have HB14 := Lib.hid (B.below_trans (w := w13) (B.below_drew (Below.refl _ _) 1) hB14); clear hB14
      go_simp
      refine hK.out _ _ (HB14.out) (fun hHeld => ?_)
      clear hK K
      try simp only [Act.put, List.setIfInBounds_toArray, List.set_cons_zero, List.set_cons_succ]
      refine wpAnyH_ready (rs := [4]) (by kernel_rfl) (by simp) ?_
      refine AllReadyH.cons At.at4 (fun K hK => ?_) AllReadyH.nil
      go_simp
      refine hK.out _ _ (HB14.out.alloc HB14.out.size _) (fun hHeld => ?_)
      clear hK K
      try simp only [Act.put, List.setIfInBounds_toArray, List.set_cons_zero, List.set_cons_succ]
      refine wpAnyH_ready (rs := [5]) (by kernel_rfl) (by simp) ?_
      refine AllReadyH.cons At.at5 (fun K hK => ?_) AllReadyH.nil
      go_simp
      go_at_call 20; refine (Or.orOf _ [0, t, 0] _ (Or.lit_ints _ _ _ _ 3 rfl (by rfl) (show 3 ≤ 140737488355328 by decide))).mono ?_; rintro e w15 ⟨he15, hB15⟩; rw [HF1.out] at he15; obtain rfl := he15; have HB15 := Lib.hid (B.below_trans (w := w13) (HB14.out.alloc HB14.out.size _) hB15); clear hB15
      go_simp
      refine hK.out _ _ (HB15.out) (fun hHeld => ?_)
      clear hK K
      try simp only [Act.put, List.setIfInBounds_toArray, List.set_cons_zero, List.set_cons_succ]
      refine wpAnyH_ready (rs := [7]) (by kernel_rfl) (by simp) ?_
      refine AllReadyH.cons At.at7 (fun K hK => ?_) AllReadyH.nil
      go_simp
      go_at_call 11; refine (C6.out _ (B.below_trans HW13.out HB15.out)).mono ?_; rintro e w16 ⟨rfl, hB16⟩; have HB16 := Lib.hid (B.below_trans (w := w13) HB15.out hB16); clear hB16
      go_simp
      refine hK.out _ _ (HB16.out) (fun hHeld => ?_)
      clear hK K
      try simp only [Act.put, List.setIfInBounds_toArray, List.set_cons_zero, List.set_cons_succ]
      refine wpAnyH_ready (rs := [9]) (by kernel_rfl) (by simp) ?_
      refine AllReadyH.cons At.at9 (fun K hK => ?_) AllReadyH.nil
      go_simp
      go_at_call 23; refine (C7.out _).mono ?_; rintro e w17 ⟨rfl, hB17⟩; have HB17 := Lib.hid (B.below_trans (w := w13) HB16.out hB17); clear hB17
      go_simp
      refine hK.out _ _ (HB17.out) (fun hHeld => ?_)
      clear hK K
      try simp only [Act.put, List.setIfInBounds_toArray, List.set_cons_zero, List.set_cons_succ]
      refine wpAnyH_ready (rs := [12]) (by kernel_rfl) (by simp) ?_
      refine AllReadyH.cons At.at12 (fun K hK => ?_) AllReadyH.nil
      go_simp
      refine hK.out _ _ (HB17.out.alloc HB17.out.size _) (fun hHeld => ?_)
      clear hK K
      try simp only [Act.put, List.setIfInBounds_toArray, List.set_cons_zero, List.set_cons_succ]
      refine wpAnyH_ready (rs := [13]) (by kernel_rfl) (by simp) ?_
      refine AllReadyH.cons At.at13 (fun K hK => ?_) AllReadyH.nil
      go_simp
      go_at_call 20; refine (Or.orOf _ [0, kk, t, 0] _ (Or.lit_ints _ _ _ _ 4 rfl (by rfl) (show 4 ≤ 140737488355328 by decide))).mono ?_; rintro e w19 ⟨he19, hB19⟩; rw [HF2.out] at he19; obtain rfl := he19; have HB19 := Lib.hid (B.below_trans (w := w13) (HB17.out.alloc HB17.out.size _) hB19); clear hB19
      go_simp
      refine hK.out _ _ (HB19.out) (fun hHeld => ?_)
      clear hK K
      try simp only [Act.put, List.setIfInBounds_toArray, List.set_cons_zero, List.set_cons_succ]
      refine wpAnyH_take (i := 14) (v := ?_) At.at14 (by kernel_rfl) (by kernel_rfl) (by kernel_rfl) (fun _ _ _ h => h) (Or.inl ⟨by rfl, ?_⟩) (by assumption) ?_
      rotate_left
      · (intro w9 hSw; (try dsimp only at hSw); go_simp; try (with_reducible rfl))
      try simp only [Act.put, List.setIfInBounds_toArray, List.set_cons_zero, List.set_cons_succ]
      refine wpAnyH_take (i := 15) (v := ?_) At.at15 (by kernel_rfl) (by kernel_rfl) (by kernel_rfl) (fun _ _ _ h => h) (Or.inl ⟨by rfl, ?_⟩) (by assumption) ?_
      rotate_left
      · (intro w9 hSw; (try dsimp only at hSw); go_simp; try (with_reducible rfl))
      try simp only [Act.put, List.setIfInBounds_toArray, List.set_cons_zero, List.set_cons_succ]
      refine wpAnyH_done (by kernel_rfl) ?_ _
      have HC19 := Lib.hid (HC13.out.mono HB19.out)
      have h190 := B.cell_below HB19.out HT130.out
      have h191 := B.cell_below HB19.out HT131.out
      have HL19 : Hid (n7 < w19.heap.size) := Lib.hid (World.block_lt_of_cell? w19 _ h190)
      have HW19 := Lib.hid (B.below_trans HW13.out HB19.out)
      have hl19 : n7 < w19.heap.size := HL19.out
      clear HXB HB14 HB15 HB16 HB17 HB19 HC13 HT130 HT131 HB13 HW13 C6 C7 HF1 HF2 HX0
      go_wp2_with (go_at_call 25; refine (T.looped _).mono ?_; rintro e w23 ⟨rfl, hB23⟩)
      go_ret
      exact ⟨rfl, B.below_trans (HW19.out.alloc HW19.out.size _) hB23⟩
set_option maxHeartbeats 8000000 in
set_option maxRecDepth 100000 in
theorem come_3 (n : Nat) (x : Lp) (A As : Option Addr) (c c' : Nat) (fr a : Int) (item : ByteArray) (hsz : item.size ≤ 9223372036854775807) (w : World) (h : At n w x A As) (hq : L.lf (n + 1) x = 0) (p : Nat) (l : List Step) (hr : roundM n x = some (p, l)) (ht : tf fr a = 0) (hk : kf item ≠ 0) :
    Calls Tryz.prog 6 #[lv x A As c c', .int .i64 fr, .int .i64 a, .string item] w fun e w' => e = .returned (.bool true) ∧ Below w.heap.size w w' := by
  have HA := Lib.hid (fun (c : Array Value) (e : TypeId) => (Below.refl _ w).alloc (Nat.le_refl _) (.cells c e))
  have HX0 := Lib.hid (fun (e : TypeId) (W : World) => @L.boxed x A As c c' w W e)
  have C1 := Lib.hid (fun W (hb : Below w.heap.size w W) => T.round n x A As c c' W (h.mono hb))
  have C2 := Lib.hid (fun W (hb : Below w.heap.size w W) => parts_ok n x A As c c' W (h.mono hb) hq p l hr)
  have C3 := Lib.hid (fun W (hb : Below w.heap.size w W) => T.rounded_any n x A As c c' W (h.mono hb))
  have C4 := Lib.hid (fun W (hb : Below w.heap.size w W) => onAt n x A As c c' fr a W (h.mono hb))
  have C5 := Lib.hid (fun W (hb : Below w.heap.size w W) => until_any n x A As c c' fr a item hsz W (h.mono hb))
  have C6 := Lib.hid (fun W (hb : Below w.heap.size w W) => L.refLoop n x A As c c' W (h.mono hb))
  have C7 := Lib.hid (fun W => keyFault item hsz W)
  have HF0 := Lib.hid (or_tf fr a)
  have HF1 := Lib.hid (or3 (L.lf (n + 1) x) (tf fr a) (rE (L.lf (n + 1) x) (roundM n x)))
  have HF2 := Lib.hid (or4 (L.lf (n + 1) x) (kf item) (tf fr a) (rE (L.lf (n + 1) x) (roundM n x)))
  have C8 := Lib.hid (fun W => Or.when_any (decide (a < fr)) 7 W)
  have C9 := Lib.hid (fun W => momentFault fr W)
  have C10 := Lib.hid (fun W => momentFault a W)
  obtain ⟨hok, hn, hl, hlng⟩ := round_ok h hq hr
  rw [hq, hr] at C1 C3 C4 C5 HF1 HF2
  rw [hq] at C6
  rw [show rP 0 (some (p, l)) = p from rfl, show rL 0 (some (p, l)) = l from rfl, show rE 0 (some (p, l)) = 0 from rfl] at C1 C3
  rw [show rE 0 (some (p, l)) = 0 from rfl] at HF1 HF2
  change Hid (∀ W, Below w.heap.size w W → Calls _ _ _ W (fun e w' => OnRes (if onE 0 (tf fr a) 0 = 0 then stAt l a (base l fr a) else zS) (onE 0 (tf fr a) 0) e ∧ _)) at C4
  change Hid (∀ W, Below w.heap.size w W → Calls _ _ _ W (fun e w' => UtRes (if utE 0 (kf item) (tf fr a) 0 = 0 then utR (un l item (base l fr a) a) else (0, false, utE 0 (kf item) (tf fr a) 0)) e ∧ _)) at C5
  rw [hlng] at C1
  have C11 := Lib.hid (fun (A : Option Addr) (c : Nat) (W : World) (hC : stK.C W A l) => portionsOf A c l W hC hok hn hl)
  obtain ⟨ht0, ht1, ht2, ht3⟩ := tf_ok ht
  rw [ht] at C4 C5 HF0 HF1 HF2
  rw [show onE 0 0 0 = 0 from rfl] at C4 HF1
  rw [if_pos rfl] at C4
  have C12 := Lib.hid (fun (A : Option Addr) (c : Nat) (W : World) (hC : stK.C W A l) => stepAt A c l fr a W hC hok hn hl ⟨ht0, ht1, by omega⟩)
  have h2 := utE_ne (q := 0) (k := kf item) (t := 0) (E := 0) (.inr (.inr (.inr hk)))
  rw [if_neg h2] at C5
  generalize utE 0 (kf item) 0 0 = two at *
  have h2a : (two == 0) = false := by rw [beq_eq_false_iff_ne]; exact h2
  have h2b : (two != 0) = true := bne_iff_ne.2 h2
  clear h2
  generalize kf item = kk at *
  generalize stAt l a (base l fr a) = S at *
  obtain ⟨⟨S1, S2⟩, S3⟩ := S
  generalize mf fr = m1 at *
  generalize mf a = m2 at *
  generalize (if decide (a < fr) = true then (7 : Int) else 0) = m3 at *
  have HOK := Lib.hid hok
  have HBD := Lib.hid (fun k => tot_in hok hl k)
  have HTL : Hid (tot (l.take l.length) = tot l) := Lib.hid (by rw [List.take_length])
  clear h hok hq hr ht hk hn hlng ht0 ht1 ht2 ht3
  unfold lv at C1 C2 C3 C4 C5 C6 ⊢
  unfold OnRes at C4
  unfold UtRes at C5
  go_enter Tryz.func6, Tryz.ntmps6
  go_upto_region 1 with (fail)
  have HB0 : Hid (Below (w.alloc (.cells #[.int .i64 x.kind, .string x.item, .int .i64 x.long, .int .i64 x.many, .slice A x.kids.length c, .slice As x.shares.length c'] 25)).heap.size (w.alloc (.cells #[.int .i64 x.kind, .string x.item, .int .i64 x.long, .int .i64 x.many, .slice A x.kids.length c, .slice As x.shares.length c'] 25)) (w.alloc (.cells #[.int .i64 x.kind, .string x.item, .int .i64 x.long, .int .i64 x.many, .slice A x.kids.length c, .slice As x.shares.length c'] 25))) := Lib.hid (Below.refl _ _)
  obtain ⟨y0, y1, y2, y3, y4, y5⟩ := HX0.out _ _ HB0.out
  have c1 := C1.out _ (B.below_trans (HA.out _ _) HB0.out)
  go_upto_region 2 with (go_at_call 13; refine c1.mono ?_; rintro e w1 ⟨rfl, hB1⟩; have HB1 := Lib.hid (B.below_trans HB0.out hB1); clear hB1)
  clear c1 C1
  clear y0 y1 y2 y3 y4 y5
  obtain ⟨y0, y1, y2, y3, y4, y5⟩ := HX0.out _ _ HB1.out
  have c2 := C2.out _ (B.below_trans (HA.out _ _) HB1.out)
  go_upto_region 3 with (go_at_call 14; refine c2.mono ?_; rintro e w2 ⟨⟨A2, k2, rfl, hC2⟩, hB2⟩; have HC2 := Lib.hid hC2; have HB2 := Lib.hid (B.below_trans HB1.out hB2); clear hB2 hC2)
  clear c2 C2
  clear y0 y1 y2 y3 y4 y5
  obtain ⟨y0, y1, y2, y3, y4, y5⟩ := HX0.out _ _ HB2.out
  have c3 := C3.out _ (B.below_trans (HA.out _ _) HB2.out)
  go_upto_region 4 with (go_at_call 15; refine c3.mono ?_; rintro e w3 ⟨⟨A3, k3, rfl, hC3⟩, hB3⟩; have HC3 := Lib.hid hC3; have HB3 := Lib.hid (B.below_trans HB2.out hB3); have HP3 := Lib.hid (HC2.out.mono hB3); clear hB3 hC3)
  clear c3 C3 y0 y1 y2 y3 y4 y5
  go_wp2
  go_loopw [18, 51] (fun s18 s51 wr => ∃ k : Nat, s51 = .int .i64 k ∧ s18 = .int .i64 (tot (l.take k)) ∧ k ≤ l.length ∧ Hid (Below w3.heap.size w3 wr)) (fun _ s _ => l.length - (intOf s).toNat)
  case atStart => exact ⟨0, rfl, rfl, Nat.zero_le _, Lib.hid (Below.refl _ _)⟩
  case round =>
    obtain ⟨k, rfl, rfl, hk, HB⟩ := hrel
    by_cases hlt : k < l.length
    · obtain ⟨b1, o1, rfl, f0, f1⟩ := steps_at (HC3.out.mono HB.out) k hlt
      have HTT := Lib.hid (tot_take hlt)
      obtain ⟨hb1, hb1'⟩ := HBD.out k
      obtain ⟨hb2, hb2'⟩ := HOK.out _ (List.getElem_mem hlt)
      have hk1 : (k : Int) < l.length := by omega
      generalize l[k] = s at *
      obtain ⟨s1, s2⟩ := s
      generalize tot (l.take k) = tt at *
      go_wp2
      go_roundw
      case rel => exact ⟨k + 1, by go_num, by rw [HTT.out], by omega, Lib.hid (HB.out.alloc HB.out.size _)⟩
      case measure => simp [intOf]; omega
    · obtain rfl : k = l.length := by omega
      rw [HTL.out]
      have HB4 := Lib.hid (B.below_trans HB3.out HB.out)
      have HC4 := Lib.hid (HC3.out.mono HB.out)
      have HP4 := Lib.hid (HP3.out.mono HB.out)
      clear HB HC3 HP3 HB3 HBD HTL hlt
      have c11 := C11.out A3 k3 wr HC4.out
      go_upto_region 12 with (first
        | (go_at_call 17; refine c11.mono ?_; rintro e w5 ⟨⟨A5, k5, rfl, hC5⟩, hB5⟩; have HP5 := Lib.hid hC5; have HP6 := Lib.hid (HP4.out.mono hB5); have HC5 := Lib.hid (HC4.out.mono hB5); have HB5 := Lib.hid (B.below_trans HB4.out hB5); clear hB5 hC5)
        | (go_at_call 16; refine (eq_pts _ _ _ _ _ _ HP6.out HP5.out).mono ?_; rintro e w6 ⟨rfl, hB6⟩; have HC6 := Lib.hid (HC5.out.mono hB6); have HB6 := Lib.hid (B.below_trans HB5.out hB6); clear hB6))
      clear c11 C11 HP4 HP5 HP6
      obtain ⟨y0, y1, y2, y3, y4, y5⟩ := HX0.out _ _ HB6.out
      have c4 := C4.out _ (B.below_trans (HA.out _ _) HB6.out)
      go_upto_region 13 with (go_at_call 18; refine c4.mono ?_; rintro e w7 ⟨rfl, hB7⟩; have HC7 := Lib.hid ((HC6.out.mono hB7).mono ((Below.refl _ _).alloc (Nat.le_refl _) (.cells #[.string S1, .int .i64 S2] 46))); have HB7 := Lib.hid ((B.below_trans HB6.out hB7).alloc (B.below_trans HB6.out hB7).size (.cells #[.string S1, .int .i64 S2] 46)); have HT0 := Lib.hid (World.cell?_alloc_new w7 #[.string S1, .int .i64 S2] 46 0); have HT1 := Lib.hid (World.cell?_alloc_new w7 #[.string S1, .int .i64 S2] 46 1); clear hB7)
      clear c4 C4 HC6 HB6
      generalize hn7 : w7.heap.size = n7 at *
      generalize w7.alloc (.cells #[.string S1, .int .i64 S2] 46) = w8 at *
      clear hn7
      clear y0 y1 y2 y3 y4 y5
      obtain ⟨y0, y1, y2, y3, y4, y5⟩ := HX0.out _ _ HB7.out
      have c5 := C5.out _ (B.below_trans (HA.out _ _) HB7.out)
      go_upto_region 14 with (go_at_call 19; refine c5.mono ?_; rintro e w9 ⟨rfl, hB9⟩; have HC9 := Lib.hid (HC7.out.mono hB9); have HT90 := Lib.hid (B.cell_below hB9 HT0.out); have HT91 := Lib.hid (B.cell_below hB9 HT1.out); have HB9 := Lib.hid (B.below_trans HB7.out hB9); clear hB9)
      clear c5 C5 HC7 HT0 HT1 HB7 y0 y1 y2 y3 y4 y5
      have c9 := C9.out
      have c10 := C10.out
      have c8 := C8.out
      go_upto_region 15 with (first
        | (go_at_call 21; (with_reducible refine (c9 _).mono ?_); rintro e w10 ⟨rfl, hB10⟩; have HC10 := Lib.hid (HC9.out.mono hB10); have HT100 := Lib.hid (B.cell_below hB10 HT90.out); have HT101 := Lib.hid (B.cell_below hB10 HT91.out); have HB10 := Lib.hid (B.below_trans HB9.out hB10); clear hB10)
        | (go_at_call 21; (with_reducible refine (c10 _).mono ?_); rintro e w11 ⟨rfl, hB11⟩; have HC11 := Lib.hid (HC10.out.mono hB11); have HT110 := Lib.hid (B.cell_below hB11 HT100.out); have HT111 := Lib.hid (B.cell_below hB11 HT101.out); have HB11 := Lib.hid (B.below_trans HB10.out hB11); clear hB11)
        | (go_at_call 22; refine (c8 _).mono ?_; rintro e w12 ⟨rfl, rfl⟩)
        | (go_at_call 20; refine (Or.orOf _ [m1, m2, m3] _ (Or.lit_ints _ _ _ _ 3 rfl (by rfl) (show 3 ≤ 140737488355328 by decide))).mono ?_; rintro e w13 ⟨he13, hB13⟩; rw [HF0.out] at he13; obtain rfl := he13; have HBL13 := Lib.hid (((Below.refl _ _).alloc (Nat.le_refl _) _).trans (hB13.mono (by simp))); have HC13 := Lib.hid (HC11.out.mono HBL13.out); have HT130 := Lib.hid (B.cell_below HBL13.out HT110.out); have HT131 := Lib.hid (B.cell_below HBL13.out HT111.out); have HB13 := Lib.hid (B.below_trans HB11.out HBL13.out); clear hB13 HBL13))
      clear HC9 HC10 HC11 HT90 HT91 HT100 HT101 HT110 HT111 HB9 HB10 HB11 c8 c9 c10 C8 C9 C10 HF0
      have HXB := Lib.hid (fun (W : World) (hb : Below w13.heap.size w13 W) => HX0.out _ W (B.below_trans HB13.out hb))
      have HW13 := Lib.hid (B.below_trans (HA.out _ _) HB13.out)
      refine wp_region_held_drew (S := fun w' => Below w13.heap.size w13 w') (by kernel_rfl) (B.below_drew (Below.refl _ _) 1) (fun hHeld => ?_)
      refine wpAnyH_take (i := 0) (v := ?_) At.at0 (by kernel_rfl) (by kernel_rfl) (by kernel_rfl) (fun _ _ _ h => h) (Or.inl ⟨by rfl, ?_⟩) (by assumption) ?_
      rotate_left
      · (intro w9 hSw; (try dsimp only at hSw); obtain ⟨y0, y1, y2, y3, y4, y5⟩ := HXB.out w9 hSw; go_simp; try (with_reducible rfl))
      try simp only [Act.put, List.setIfInBounds_toArray, List.set_cons_zero, List.set_cons_succ]
      refine wpAnyH_take (i := 2) (v := ?_) At.at2 (by kernel_rfl) (by kernel_rfl) (by kernel_rfl) (fun _ _ _ h => h) (Or.inl ⟨by rfl, ?_⟩) (by assumption) ?_
      rotate_left
      · (intro w9 hSw; (try dsimp only at hSw); go_simp; try (with_reducible rfl))
      try simp only [Act.put, List.setIfInBounds_toArray, List.set_cons_zero, List.set_cons_succ]
      refine wpAnyH_take (i := 3) (v := ?_) At.at3 (by kernel_rfl) (by kernel_rfl) (by kernel_rfl) (fun _ _ _ h => h) (Or.inl ⟨by rfl, ?_⟩) (by assumption) ?_
      rotate_left
      · (intro w9 hSw; (try dsimp only at hSw); go_simp; try (with_reducible rfl))
      try simp only [Act.put, List.setIfInBounds_toArray, List.set_cons_zero, List.set_cons_succ]
      refine wpAnyH_take (i := 6) (v := ?_) At.at6 (by kernel_rfl) (by kernel_rfl) (by kernel_rfl) (fun _ _ _ h => h) (Or.inl ⟨by rfl, ?_⟩) (by assumption) ?_
      rotate_left
      · (intro w9 hSw; (try dsimp only at hSw); obtain ⟨y0, y1, y2, y3, y4, y5⟩ := HXB.out w9 hSw; go_simp; try (with_reducible rfl))
      try simp only [Act.put, List.setIfInBounds_toArray, List.set_cons_zero, List.set_cons_succ]
      refine wpAnyH_take (i := 8) (v := ?_) At.at8 (by kernel_rfl) (by kernel_rfl) (by kernel_rfl) (fun _ _ _ h => h) (Or.inl ⟨by rfl, ?_⟩) (by assumption) ?_
      rotate_left
      · (intro w9 hSw; (try dsimp only at hSw); go_simp; try (with_reducible rfl))
      try simp only [Act.put, List.setIfInBounds_toArray, List.set_cons_zero, List.set_cons_succ]
      refine wpAnyH_take (i := 10) (v := ?_) At.at10 (by kernel_rfl) (by kernel_rfl) (by kernel_rfl) (fun _ _ _ h => h) (Or.inl ⟨by rfl, ?_⟩) (by assumption) ?_
      rotate_left
      · (intro w9 hSw; (try dsimp only at hSw); go_simp; try (with_reducible rfl))
      try simp only [Act.put, List.setIfInBounds_toArray, List.set_cons_zero, List.set_cons_succ]
      refine wpAnyH_take (i := 11) (v := ?_) At.at11 (by kernel_rfl) (by kernel_rfl) (by kernel_rfl) (fun _ _ _ h => h) (Or.inl ⟨by rfl, ?_⟩) (by assumption) ?_
      rotate_left
      · (intro w9 hSw; (try dsimp only at hSw); go_simp; try (with_reducible rfl))
      try simp only [Act.put, List.setIfInBounds_toArray, List.set_cons_zero, List.set_cons_succ]
      refine wpAnyH_ready (rs := [1]) (by kernel_rfl) (by simp) ?_
      refine AllReadyH.cons At.at1 (fun K hK => ?_) AllReadyH.nil
      go_simp
      go_at_call 11; refine (C6.out _ (B.below_drew HW13.out 1)).mono ?_; rintro e w14 ⟨rfl, hB14⟩; have HB14 := Lib.hid (B.below_trans (w := w13) (B.below_drew (Below.refl _ _) 1) hB14); clear hB14
      go_simp
      refine hK.out _ _ (HB14.out) (fun hHeld => ?_)
      clear hK K
      try simp only [Act.put, List.setIfInBounds_toArray, List.set_cons_zero, List.set_cons_succ]
      refine wpAnyH_ready (rs := [4]) (by kernel_rfl) (by simp) ?_
      refine AllReadyH.cons At.at4 (fun K hK => ?_) AllReadyH.nil
      go_simp
      refine hK.out _ _ (HB14.out.alloc HB14.out.size _) (fun hHeld => ?_)
      clear hK K
      try simp only [Act.put, List.setIfInBounds_toArray, List.set_cons_zero, List.set_cons_succ]
      refine wpAnyH_ready (rs := [5]) (by kernel_rfl) (by simp) ?_
      refine AllReadyH.cons At.at5 (fun K hK => ?_) AllReadyH.nil
      go_simp
      go_at_call 20; refine (Or.orOf _ [0, 0, 0] _ (Or.lit_ints _ _ _ _ 3 rfl (by rfl) (show 3 ≤ 140737488355328 by decide))).mono ?_; rintro e w15 ⟨he15, hB15⟩; rw [HF1.out] at he15; obtain rfl := he15; have HB15 := Lib.hid (B.below_trans (w := w13) (HB14.out.alloc HB14.out.size _) hB15); clear hB15
      go_simp
      refine hK.out _ _ (HB15.out) (fun hHeld => ?_)
      clear hK K
      try simp only [Act.put, List.setIfInBounds_toArray, List.set_cons_zero, List.set_cons_succ]
      refine wpAnyH_ready (rs := [7]) (by kernel_rfl) (by simp) ?_
      refine AllReadyH.cons At.at7 (fun K hK => ?_) AllReadyH.nil
      go_simp
      go_at_call 11; refine (C6.out _ (B.below_trans HW13.out HB15.out)).mono ?_; rintro e w16 ⟨rfl, hB16⟩; have HB16 := Lib.hid (B.below_trans (w := w13) HB15.out hB16); clear hB16
      go_simp
      refine hK.out _ _ (HB16.out) (fun hHeld => ?_)
      clear hK K
      try simp only [Act.put, List.setIfInBounds_toArray, List.set_cons_zero, List.set_cons_succ]
      refine wpAnyH_ready (rs := [9]) (by kernel_rfl) (by simp) ?_
      refine AllReadyH.cons At.at9 (fun K hK => ?_) AllReadyH.nil
      go_simp
      go_at_call 23; refine (C7.out _).mono ?_; rintro e w17 ⟨rfl, hB17⟩; have HB17 := Lib.hid (B.below_trans (w := w13) HB16.out hB17); clear hB17
      go_simp
      refine hK.out _ _ (HB17.out) (fun hHeld => ?_)
      clear hK K
      try simp only [Act.put, List.setIfInBounds_toArray, List.set_cons_zero, List.set_cons_succ]
      refine wpAnyH_ready (rs := [12]) (by kernel_rfl) (by simp) ?_
      refine AllReadyH.cons At.at12 (fun K hK => ?_) AllReadyH.nil
      go_simp
      refine hK.out _ _ (HB17.out.alloc HB17.out.size _) (fun hHeld => ?_)
      clear hK K
      try simp only [Act.put, List.setIfInBounds_toArray, List.set_cons_zero, List.set_cons_succ]
      refine wpAnyH_ready (rs := [13]) (by kernel_rfl) (by simp) ?_
      refine AllReadyH.cons At.at13 (fun K hK => ?_) AllReadyH.nil
      go_simp
      go_at_call 20; refine (Or.orOf _ [0, kk, 0, 0] _ (Or.lit_ints _ _ _ _ 4 rfl (by rfl) (show 4 ≤ 140737488355328 by decide))).mono ?_; rintro e w19 ⟨he19, hB19⟩; rw [HF2.out] at he19; obtain rfl := he19; have HB19 := Lib.hid (B.below_trans (w := w13) (HB17.out.alloc HB17.out.size _) hB19); clear hB19
      go_simp
      refine hK.out _ _ (HB19.out) (fun hHeld => ?_)
      clear hK K
      try simp only [Act.put, List.setIfInBounds_toArray, List.set_cons_zero, List.set_cons_succ]
      refine wpAnyH_take (i := 14) (v := ?_) At.at14 (by kernel_rfl) (by kernel_rfl) (by kernel_rfl) (fun _ _ _ h => h) (Or.inl ⟨by rfl, ?_⟩) (by assumption) ?_
      rotate_left
      · (intro w9 hSw; (try dsimp only at hSw); go_simp; try (with_reducible rfl))
      try simp only [Act.put, List.setIfInBounds_toArray, List.set_cons_zero, List.set_cons_succ]
      refine wpAnyH_take (i := 15) (v := ?_) At.at15 (by kernel_rfl) (by kernel_rfl) (by kernel_rfl) (fun _ _ _ h => h) (Or.inl ⟨by rfl, ?_⟩) (by assumption) ?_
      rotate_left
      · (intro w9 hSw; (try dsimp only at hSw); go_simp; try (with_reducible rfl))
      try simp only [Act.put, List.setIfInBounds_toArray, List.set_cons_zero, List.set_cons_succ]
      refine wpAnyH_done (by kernel_rfl) ?_ _
      have HC19 := Lib.hid (HC13.out.mono HB19.out)
      have h190 := B.cell_below HB19.out HT130.out
      have h191 := B.cell_below HB19.out HT131.out
      have HL19 : Hid (n7 < w19.heap.size) := Lib.hid (World.block_lt_of_cell? w19 _ h190)
      have HW19 := Lib.hid (B.below_trans HW13.out HB19.out)
      have hl19 : n7 < w19.heap.size := HL19.out
      clear HXB HB14 HB15 HB16 HB17 HB19 HC13 HT130 HT131 HB13 HW13 C6 C7 HF1 HF2 HX0
      have HAL := Lib.hid ((Below.refl _ w19).alloc (Nat.le_refl _) (.cells #[.string ⟨#[]⟩, .int .i64 0] 46))
      unfold StRes at C12
      have HN1 : ¬ n7 = w19.heap.size := by have := HL19.out; omega
      have HN2 : ¬ w19.heap.size = n7 := by have := HL19.out; omega
      go_wp2_with (first
        | (go_at_call 24; refine (C12.out _ _ _ (HC19.out.mono HAL.out)).mono ?_; rintro e w20 ⟨rfl, hB20⟩; have k0 : w20.cell? ⟨w19.heap.size, 0, none⟩ = some (.string ⟨#[]⟩) := (B.cell_below hB20 (by rw [World.cell?_alloc_new]; rfl)); have k1 : w20.cell? ⟨w19.heap.size, 1, none⟩ = some (.int .i64 0) := (B.cell_below hB20 (by rw [World.cell?_alloc_new]; rfl)); have kz := Copy.frozen_new hB20; have HB20 := Lib.hid (B.below_trans HAL.out hB20); have h200 := B.cell_below HB20.out h190; have h201 := B.cell_below HB20.out h191; clear hB20)
        | (go_at_call 25; refine (T.looped _).mono ?_; rintro e w23 ⟨rfl, hB23⟩))
      go_ret
      exact ⟨rfl, B.below_trans (B.below_trans HW19.out ((HB20.out.setCell (Nat.le_refl _) _).setCell (Nat.le_refl _) _)) hB23⟩
set_option maxHeartbeats 8000000 in
set_option maxRecDepth 100000 in
theorem come_4n (n : Nat) (x : Lp) (A As : Option Addr) (c c' : Nat) (fr a : Int) (item : ByteArray) (hsz : item.size ≤ 9223372036854775807) (w : World) (h : At n w x A As) (hq : L.lf (n + 1) x = 0) (p : Nat) (l : List Step) (hr : roundM n x = some (p, l)) (ht : tf fr a = 0) (hk : kf item = 0) (hU : un l item (base l fr a) a = none) :
    Calls Tryz.prog 6 #[lv x A As c c', .int .i64 fr, .int .i64 a, .string item] w fun e w' => e = .returned (.bool true) ∧ Below w.heap.size w w' := by
  have HA := Lib.hid (fun (c : Array Value) (e : TypeId) => (Below.refl _ w).alloc (Nat.le_refl _) (.cells c e))
  have HX0 := Lib.hid (fun (e : TypeId) (W : World) => @L.boxed x A As c c' w W e)
  have C1 := Lib.hid (fun W (hb : Below w.heap.size w W) => T.round n x A As c c' W (h.mono hb))
  have C2 := Lib.hid (fun W (hb : Below w.heap.size w W) => parts_ok n x A As c c' W (h.mono hb) hq p l hr)
  have C3 := Lib.hid (fun W (hb : Below w.heap.size w W) => T.rounded_any n x A As c c' W (h.mono hb))
  have C4 := Lib.hid (fun W (hb : Below w.heap.size w W) => onAt n x A As c c' fr a W (h.mono hb))
  have C5 := Lib.hid (fun W (hb : Below w.heap.size w W) => until_any n x A As c c' fr a item hsz W (h.mono hb))
  have C6 := Lib.hid (fun W (hb : Below w.heap.size w W) => L.refLoop n x A As c c' W (h.mono hb))
  have C7 := Lib.hid (fun W => keyFault item hsz W)
  have HF0 := Lib.hid (or_tf fr a)
  have HF1 := Lib.hid (or3 (L.lf (n + 1) x) (tf fr a) (rE (L.lf (n + 1) x) (roundM n x)))
  have HF2 := Lib.hid (or4 (L.lf (n + 1) x) (kf item) (tf fr a) (rE (L.lf (n + 1) x) (roundM n x)))
  have C8 := Lib.hid (fun W => Or.when_any (decide (a < fr)) 7 W)
  have C9 := Lib.hid (fun W => momentFault fr W)
  have C10 := Lib.hid (fun W => momentFault a W)
  obtain ⟨hok, hn, hl, hlng⟩ := round_ok h hq hr
  rw [hq, hr] at C1 C3 C4 C5 HF1 HF2
  rw [hq] at C6
  rw [show rP 0 (some (p, l)) = p from rfl, show rL 0 (some (p, l)) = l from rfl, show rE 0 (some (p, l)) = 0 from rfl] at C1 C3
  rw [show rE 0 (some (p, l)) = 0 from rfl] at HF1 HF2
  change Hid (∀ W, Below w.heap.size w W → Calls _ _ _ W (fun e w' => OnRes (if onE 0 (tf fr a) 0 = 0 then stAt l a (base l fr a) else zS) (onE 0 (tf fr a) 0) e ∧ _)) at C4
  change Hid (∀ W, Below w.heap.size w W → Calls _ _ _ W (fun e w' => UtRes (if utE 0 (kf item) (tf fr a) 0 = 0 then utR (un l item (base l fr a) a) else (0, false, utE 0 (kf item) (tf fr a) 0)) e ∧ _)) at C5
  rw [hlng] at C1
  have C11 := Lib.hid (fun (A : Option Addr) (c : Nat) (W : World) (hC : stK.C W A l) => portionsOf A c l W hC hok hn hl)
  obtain ⟨ht0, ht1, ht2, ht3⟩ := tf_ok ht
  rw [ht] at C4 C5 HF0 HF1 HF2
  rw [show onE 0 0 0 = 0 from rfl] at C4 HF1
  rw [if_pos rfl] at C4
  have C12 := Lib.hid (fun (A : Option Addr) (c : Nat) (W : World) (hC : stK.C W A l) => stepAt A c l fr a W hC hok hn hl ⟨ht0, ht1, by omega⟩)
  rw [hk] at C5 C7 HF2
  rw [show utE 0 0 0 0 = 0 from rfl] at C5 HF2
  rw [if_pos rfl, hU] at C5
  have C13 := Lib.hid (fun (A : Option Addr) (c : Nat) (W : World) (hC : stK.C W A l) => nextOf A c l fr a item W hC hok hn hl ⟨ht0, ht1, by omega⟩)
  rw [show nxt l fr a item = -1 by unfold nxt; rw [hU]] at C13
  rw [show utR none = (0, false, 0) from rfl] at C5
  generalize stAt l a (base l fr a) = S at *
  obtain ⟨⟨S1, S2⟩, S3⟩ := S
  generalize mf fr = m1 at *
  generalize mf a = m2 at *
  generalize (if decide (a < fr) = true then (7 : Int) else 0) = m3 at *
  have HOK := Lib.hid hok
  have HBD := Lib.hid (fun k => tot_in hok hl k)
  have HTL : Hid (tot (l.take l.length) = tot l) := Lib.hid (by rw [List.take_length])
  clear h hok hq hr ht hk hn hlng ht0 ht1 ht2 ht3 hU
  unfold lv at C1 C2 C3 C4 C5 C6 ⊢
  unfold OnRes at C4
  unfold UtRes at C5
  go_enter Tryz.func6, Tryz.ntmps6
  go_upto_region 1 with (fail)
  have HB0 : Hid (Below (w.alloc (.cells #[.int .i64 x.kind, .string x.item, .int .i64 x.long, .int .i64 x.many, .slice A x.kids.length c, .slice As x.shares.length c'] 25)).heap.size (w.alloc (.cells #[.int .i64 x.kind, .string x.item, .int .i64 x.long, .int .i64 x.many, .slice A x.kids.length c, .slice As x.shares.length c'] 25)) (w.alloc (.cells #[.int .i64 x.kind, .string x.item, .int .i64 x.long, .int .i64 x.many, .slice A x.kids.length c, .slice As x.shares.length c'] 25))) := Lib.hid (Below.refl _ _)
  obtain ⟨y0, y1, y2, y3, y4, y5⟩ := HX0.out _ _ HB0.out
  have c1 := C1.out _ (B.below_trans (HA.out _ _) HB0.out)
  go_upto_region 2 with (go_at_call 13; refine c1.mono ?_; rintro e w1 ⟨rfl, hB1⟩; have HB1 := Lib.hid (B.below_trans HB0.out hB1); clear hB1)
  clear c1 C1
  clear y0 y1 y2 y3 y4 y5
  obtain ⟨y0, y1, y2, y3, y4, y5⟩ := HX0.out _ _ HB1.out
  have c2 := C2.out _ (B.below_trans (HA.out _ _) HB1.out)
  go_upto_region 3 with (go_at_call 14; refine c2.mono ?_; rintro e w2 ⟨⟨A2, k2, rfl, hC2⟩, hB2⟩; have HC2 := Lib.hid hC2; have HB2 := Lib.hid (B.below_trans HB1.out hB2); clear hB2 hC2)
  clear c2 C2
  clear y0 y1 y2 y3 y4 y5
  obtain ⟨y0, y1, y2, y3, y4, y5⟩ := HX0.out _ _ HB2.out
  have c3 := C3.out _ (B.below_trans (HA.out _ _) HB2.out)
  go_upto_region 4 with (go_at_call 15; refine c3.mono ?_; rintro e w3 ⟨⟨A3, k3, rfl, hC3⟩, hB3⟩; have HC3 := Lib.hid hC3; have HB3 := Lib.hid (B.below_trans HB2.out hB3); have HP3 := Lib.hid (HC2.out.mono hB3); clear hB3 hC3)
  clear c3 C3 y0 y1 y2 y3 y4 y5
  go_wp2
  go_loopw [18, 51] (fun s18 s51 wr => ∃ k : Nat, s51 = .int .i64 k ∧ s18 = .int .i64 (tot (l.take k)) ∧ k ≤ l.length ∧ Hid (Below w3.heap.size w3 wr)) (fun _ s _ => l.length - (intOf s).toNat)
  case atStart => exact ⟨0, rfl, rfl, Nat.zero_le _, Lib.hid (Below.refl _ _)⟩
  case round =>
    obtain ⟨k, rfl, rfl, hk, HB⟩ := hrel
    by_cases hlt : k < l.length
    · obtain ⟨b1, o1, rfl, f0, f1⟩ := steps_at (HC3.out.mono HB.out) k hlt
      have HTT := Lib.hid (tot_take hlt)
      obtain ⟨hb1, hb1'⟩ := HBD.out k
      obtain ⟨hb2, hb2'⟩ := HOK.out _ (List.getElem_mem hlt)
      have hk1 : (k : Int) < l.length := by omega
      generalize l[k] = s at *
      obtain ⟨s1, s2⟩ := s
      generalize tot (l.take k) = tt at *
      go_wp2
      go_roundw
      case rel => exact ⟨k + 1, by go_num, by rw [HTT.out], by omega, Lib.hid (HB.out.alloc HB.out.size _)⟩
      case measure => simp [intOf]; omega
    · obtain rfl : k = l.length := by omega
      rw [HTL.out]
      have HB4 := Lib.hid (B.below_trans HB3.out HB.out)
      have HC4 := Lib.hid (HC3.out.mono HB.out)
      have HP4 := Lib.hid (HP3.out.mono HB.out)
      clear HB HC3 HP3 HB3 HBD HTL hlt
      have c11 := C11.out A3 k3 wr HC4.out
      go_upto_region 12 with (first
        | (go_at_call 17; refine c11.mono ?_; rintro e w5 ⟨⟨A5, k5, rfl, hC5⟩, hB5⟩; have HP5 := Lib.hid hC5; have HP6 := Lib.hid (HP4.out.mono hB5); have HC5 := Lib.hid (HC4.out.mono hB5); have HB5 := Lib.hid (B.below_trans HB4.out hB5); clear hB5 hC5)
        | (go_at_call 16; refine (eq_pts _ _ _ _ _ _ HP6.out HP5.out).mono ?_; rintro e w6 ⟨rfl, hB6⟩; have HC6 := Lib.hid (HC5.out.mono hB6); have HB6 := Lib.hid (B.below_trans HB5.out hB6); clear hB6))
      clear c11 C11 HP4 HP5 HP6
      obtain ⟨y0, y1, y2, y3, y4, y5⟩ := HX0.out _ _ HB6.out
      have c4 := C4.out _ (B.below_trans (HA.out _ _) HB6.out)
      go_upto_region 13 with (go_at_call 18; refine c4.mono ?_; rintro e w7 ⟨rfl, hB7⟩; have HC7 := Lib.hid ((HC6.out.mono hB7).mono ((Below.refl _ _).alloc (Nat.le_refl _) (.cells #[.string S1, .int .i64 S2] 46))); have HB7 := Lib.hid ((B.below_trans HB6.out hB7).alloc (B.below_trans HB6.out hB7).size (.cells #[.string S1, .int .i64 S2] 46)); have HT0 := Lib.hid (World.cell?_alloc_new w7 #[.string S1, .int .i64 S2] 46 0); have HT1 := Lib.hid (World.cell?_alloc_new w7 #[.string S1, .int .i64 S2] 46 1); clear hB7)
      clear c4 C4 HC6 HB6
      generalize hn7 : w7.heap.size = n7 at *
      generalize w7.alloc (.cells #[.string S1, .int .i64 S2] 46) = w8 at *
      clear hn7
      clear y0 y1 y2 y3 y4 y5
      obtain ⟨y0, y1, y2, y3, y4, y5⟩ := HX0.out _ _ HB7.out
      have c5 := C5.out _ (B.below_trans (HA.out _ _) HB7.out)
      go_upto_region 14 with (go_at_call 19; refine c5.mono ?_; rintro e w9 ⟨rfl, hB9⟩; have HC9 := Lib.hid (HC7.out.mono hB9); have HT90 := Lib.hid (B.cell_below hB9 HT0.out); have HT91 := Lib.hid (B.cell_below hB9 HT1.out); have HB9 := Lib.hid (B.below_trans HB7.out hB9); clear hB9)
      clear c5 C5 HC7 HT0 HT1 HB7 y0 y1 y2 y3 y4 y5
      have c9 := C9.out
      have c10 := C10.out
      have c8 := C8.out
      go_upto_region 15 with (first
        | (go_at_call 21; (with_reducible refine (c9 _).mono ?_); rintro e w10 ⟨rfl, hB10⟩; have HC10 := Lib.hid (HC9.out.mono hB10); have HT100 := Lib.hid (B.cell_below hB10 HT90.out); have HT101 := Lib.hid (B.cell_below hB10 HT91.out); have HB10 := Lib.hid (B.below_trans HB9.out hB10); clear hB10)
        | (go_at_call 21; (with_reducible refine (c10 _).mono ?_); rintro e w11 ⟨rfl, hB11⟩; have HC11 := Lib.hid (HC10.out.mono hB11); have HT110 := Lib.hid (B.cell_below hB11 HT100.out); have HT111 := Lib.hid (B.cell_below hB11 HT101.out); have HB11 := Lib.hid (B.below_trans HB10.out hB11); clear hB11)
        | (go_at_call 22; refine (c8 _).mono ?_; rintro e w12 ⟨rfl, rfl⟩)
        | (go_at_call 20; refine (Or.orOf _ [m1, m2, m3] _ (Or.lit_ints _ _ _ _ 3 rfl (by rfl) (show 3 ≤ 140737488355328 by decide))).mono ?_; rintro e w13 ⟨he13, hB13⟩; rw [HF0.out] at he13; obtain rfl := he13; have HBL13 := Lib.hid (((Below.refl _ _).alloc (Nat.le_refl _) _).trans (hB13.mono (by simp))); have HC13 := Lib.hid (HC11.out.mono HBL13.out); have HT130 := Lib.hid (B.cell_below HBL13.out HT110.out); have HT131 := Lib.hid (B.cell_below HBL13.out HT111.out); have HB13 := Lib.hid (B.below_trans HB11.out HBL13.out); clear hB13 HBL13))
      clear HC9 HC10 HC11 HT90 HT91 HT100 HT101 HT110 HT111 HB9 HB10 HB11 c8 c9 c10 C8 C9 C10 HF0
      have HXB := Lib.hid (fun (W : World) (hb : Below w13.heap.size w13 W) => HX0.out _ W (B.below_trans HB13.out hb))
      have HW13 := Lib.hid (B.below_trans (HA.out _ _) HB13.out)
      refine wp_region_held_drew (S := fun w' => Below w13.heap.size w13 w') (by kernel_rfl) (B.below_drew (Below.refl _ _) 1) (fun hHeld => ?_)
      refine wpAnyH_take (i := 0) (v := ?_) At.at0 (by kernel_rfl) (by kernel_rfl) (by kernel_rfl) (fun _ _ _ h => h) (Or.inl ⟨by rfl, ?_⟩) (by assumption) ?_
      rotate_left
      · (intro w9 hSw; (try dsimp only at hSw); obtain ⟨y0, y1, y2, y3, y4, y5⟩ := HXB.out w9 hSw; go_simp; try (with_reducible rfl))
      try simp only [Act.put, List.setIfInBounds_toArray, List.set_cons_zero, List.set_cons_succ]
      refine wpAnyH_take (i := 2) (v := ?_) At.at2 (by kernel_rfl) (by kernel_rfl) (by kernel_rfl) (fun _ _ _ h => h) (Or.inl ⟨by rfl, ?_⟩) (by assumption) ?_
      rotate_left
      · (intro w9 hSw; (try dsimp only at hSw); go_simp; try (with_reducible rfl))
      try simp only [Act.put, List.setIfInBounds_toArray, List.set_cons_zero, List.set_cons_succ]
      refine wpAnyH_take (i := 3) (v := ?_) At.at3 (by kernel_rfl) (by kernel_rfl) (by kernel_rfl) (fun _ _ _ h => h) (Or.inl ⟨by rfl, ?_⟩) (by assumption) ?_
      rotate_left
      · (intro w9 hSw; (try dsimp only at hSw); go_simp; try (with_reducible rfl))
      try simp only [Act.put, List.setIfInBounds_toArray, List.set_cons_zero, List.set_cons_succ]
      refine wpAnyH_take (i := 6) (v := ?_) At.at6 (by kernel_rfl) (by kernel_rfl) (by kernel_rfl) (fun _ _ _ h => h) (Or.inl ⟨by rfl, ?_⟩) (by assumption) ?_
      rotate_left
      · (intro w9 hSw; (try dsimp only at hSw); obtain ⟨y0, y1, y2, y3, y4, y5⟩ := HXB.out w9 hSw; go_simp; try (with_reducible rfl))
      try simp only [Act.put, List.setIfInBounds_toArray, List.set_cons_zero, List.set_cons_succ]
      refine wpAnyH_take (i := 8) (v := ?_) At.at8 (by kernel_rfl) (by kernel_rfl) (by kernel_rfl) (fun _ _ _ h => h) (Or.inl ⟨by rfl, ?_⟩) (by assumption) ?_
      rotate_left
      · (intro w9 hSw; (try dsimp only at hSw); go_simp; try (with_reducible rfl))
      try simp only [Act.put, List.setIfInBounds_toArray, List.set_cons_zero, List.set_cons_succ]
      refine wpAnyH_take (i := 10) (v := ?_) At.at10 (by kernel_rfl) (by kernel_rfl) (by kernel_rfl) (fun _ _ _ h => h) (Or.inl ⟨by rfl, ?_⟩) (by assumption) ?_
      rotate_left
      · (intro w9 hSw; (try dsimp only at hSw); go_simp; try (with_reducible rfl))
      try simp only [Act.put, List.setIfInBounds_toArray, List.set_cons_zero, List.set_cons_succ]
      refine wpAnyH_take (i := 11) (v := ?_) At.at11 (by kernel_rfl) (by kernel_rfl) (by kernel_rfl) (fun _ _ _ h => h) (Or.inl ⟨by rfl, ?_⟩) (by assumption) ?_
      rotate_left
      · (intro w9 hSw; (try dsimp only at hSw); go_simp; try (with_reducible rfl))
      try simp only [Act.put, List.setIfInBounds_toArray, List.set_cons_zero, List.set_cons_succ]
      refine wpAnyH_ready (rs := [1]) (by kernel_rfl) (by simp) ?_
      refine AllReadyH.cons At.at1 (fun K hK => ?_) AllReadyH.nil
      go_simp
      go_at_call 11; refine (C6.out _ (B.below_drew HW13.out 1)).mono ?_; rintro e w14 ⟨rfl, hB14⟩; have HB14 := Lib.hid (B.below_trans (w := w13) (B.below_drew (Below.refl _ _) 1) hB14); clear hB14
      go_simp
      refine hK.out _ _ (HB14.out) (fun hHeld => ?_)
      clear hK K
      try simp only [Act.put, List.setIfInBounds_toArray, List.set_cons_zero, List.set_cons_succ]
      refine wpAnyH_ready (rs := [4]) (by kernel_rfl) (by simp) ?_
      refine AllReadyH.cons At.at4 (fun K hK => ?_) AllReadyH.nil
      go_simp
      refine hK.out _ _ (HB14.out.alloc HB14.out.size _) (fun hHeld => ?_)
      clear hK K
      try simp only [Act.put, List.setIfInBounds_toArray, List.set_cons_zero, List.set_cons_succ]
      refine wpAnyH_ready (rs := [5]) (by kernel_rfl) (by simp) ?_
      refine AllReadyH.cons At.at5 (fun K hK => ?_) AllReadyH.nil
      go_simp
      go_at_call 20; refine (Or.orOf _ [0, 0, 0] _ (Or.lit_ints _ _ _ _ 3 rfl (by rfl) (show 3 ≤ 140737488355328 by decide))).mono ?_; rintro e w15 ⟨he15, hB15⟩; rw [HF1.out] at he15; obtain rfl := he15; have HB15 := Lib.hid (B.below_trans (w := w13) (HB14.out.alloc HB14.out.size _) hB15); clear hB15
      go_simp
      refine hK.out _ _ (HB15.out) (fun hHeld => ?_)
      clear hK K
      try simp only [Act.put, List.setIfInBounds_toArray, List.set_cons_zero, List.set_cons_succ]
      refine wpAnyH_ready (rs := [7]) (by kernel_rfl) (by simp) ?_
      refine AllReadyH.cons At.at7 (fun K hK => ?_) AllReadyH.nil
      go_simp
      go_at_call 11; refine (C6.out _ (B.below_trans HW13.out HB15.out)).mono ?_; rintro e w16 ⟨rfl, hB16⟩; have HB16 := Lib.hid (B.below_trans (w := w13) HB15.out hB16); clear hB16
      go_simp
      refine hK.out _ _ (HB16.out) (fun hHeld => ?_)
      clear hK K
      try simp only [Act.put, List.setIfInBounds_toArray, List.set_cons_zero, List.set_cons_succ]
      refine wpAnyH_ready (rs := [9]) (by kernel_rfl) (by simp) ?_
      refine AllReadyH.cons At.at9 (fun K hK => ?_) AllReadyH.nil
      go_simp
      go_at_call 23; refine (C7.out _).mono ?_; rintro e w17 ⟨rfl, hB17⟩; have HB17 := Lib.hid (B.below_trans (w := w13) HB16.out hB17); clear hB17
      go_simp
      refine hK.out _ _ (HB17.out) (fun hHeld => ?_)
      clear hK K
      try simp only [Act.put, List.setIfInBounds_toArray, List.set_cons_zero, List.set_cons_succ]
      refine wpAnyH_ready (rs := [12]) (by kernel_rfl) (by simp) ?_
      refine AllReadyH.cons At.at12 (fun K hK => ?_) AllReadyH.nil
      go_simp
      refine hK.out _ _ (HB17.out.alloc HB17.out.size _) (fun hHeld => ?_)
      clear hK K
      try simp only [Act.put, List.setIfInBounds_toArray, List.set_cons_zero, List.set_cons_succ]
      refine wpAnyH_ready (rs := [13]) (by kernel_rfl) (by simp) ?_
      refine AllReadyH.cons At.at13 (fun K hK => ?_) AllReadyH.nil
      go_simp
      go_at_call 20; refine (Or.orOf _ [0, 0, 0, 0] _ (Or.lit_ints _ _ _ _ 4 rfl (by rfl) (show 4 ≤ 140737488355328 by decide))).mono ?_; rintro e w19 ⟨he19, hB19⟩; rw [HF2.out] at he19; obtain rfl := he19; have HB19 := Lib.hid (B.below_trans (w := w13) (HB17.out.alloc HB17.out.size _) hB19); clear hB19
      go_simp
      refine hK.out _ _ (HB19.out) (fun hHeld => ?_)
      clear hK K
      try simp only [Act.put, List.setIfInBounds_toArray, List.set_cons_zero, List.set_cons_succ]
      refine wpAnyH_take (i := 14) (v := ?_) At.at14 (by kernel_rfl) (by kernel_rfl) (by kernel_rfl) (fun _ _ _ h => h) (Or.inl ⟨by rfl, ?_⟩) (by assumption) ?_
      rotate_left
      · (intro w9 hSw; (try dsimp only at hSw); go_simp; try (with_reducible rfl))
      try simp only [Act.put, List.setIfInBounds_toArray, List.set_cons_zero, List.set_cons_succ]
      refine wpAnyH_take (i := 15) (v := ?_) At.at15 (by kernel_rfl) (by kernel_rfl) (by kernel_rfl) (fun _ _ _ h => h) (Or.inl ⟨by rfl, ?_⟩) (by assumption) ?_
      rotate_left
      · (intro w9 hSw; (try dsimp only at hSw); go_simp; try (with_reducible rfl))
      try simp only [Act.put, List.setIfInBounds_toArray, List.set_cons_zero, List.set_cons_succ]
      refine wpAnyH_done (by kernel_rfl) ?_ _
      have HC19 := Lib.hid (HC13.out.mono HB19.out)
      have h190 := B.cell_below HB19.out HT130.out
      have h191 := B.cell_below HB19.out HT131.out
      have HL19 : Hid (n7 < w19.heap.size) := Lib.hid (World.block_lt_of_cell? w19 _ h190)
      have HW19 := Lib.hid (B.below_trans HW13.out HB19.out)
      have hl19 : n7 < w19.heap.size := HL19.out
      clear HXB HB14 HB15 HB16 HB17 HB19 HC13 HT130 HT131 HB13 HW13 C6 C7 HF1 HF2 HX0
      have HAL := Lib.hid ((Below.refl _ w19).alloc (Nat.le_refl _) (.cells #[.string ⟨#[]⟩, .int .i64 0] 46))
      unfold StRes at C12
      have HN1 : ¬ n7 = w19.heap.size := by have := HL19.out; omega
      have HN2 : ¬ w19.heap.size = n7 := by have := HL19.out; omega
      go_wp2_with (first
        | (go_at_call 24; refine (C12.out _ _ _ (HC19.out.mono HAL.out)).mono ?_; rintro e w20 ⟨rfl, hB20⟩; have k0 : w20.cell? ⟨w19.heap.size, 0, none⟩ = some (.string ⟨#[]⟩) := (B.cell_below hB20 (by rw [World.cell?_alloc_new]; rfl)); have k1 : w20.cell? ⟨w19.heap.size, 1, none⟩ = some (.int .i64 0) := (B.cell_below hB20 (by rw [World.cell?_alloc_new]; rfl)); have kz := Copy.frozen_new hB20; have HB20 := Lib.hid (B.below_trans HAL.out hB20); have h200 := B.cell_below HB20.out h190; have h201 := B.cell_below HB20.out h191; clear hB20)
        | (go_at_call 26; refine (C13.out _ _ _ (HC19.out.mono ((HB20.out.setCell (Nat.le_refl _) _).setCell (Nat.le_refl _) _))).mono ?_; rintro e w22 ⟨rfl, hB22⟩; have HB22 := Lib.hid (B.below_trans (B.below_trans HW19.out ((HB20.out.setCell (Nat.le_refl _) _).setCell (Nat.le_refl _) _)) hB22); clear hB22)
        | (go_at_call 25; refine (T.looped _).mono ?_; rintro e w23 ⟨rfl, hB23⟩))
      go_ret
      exact ⟨rfl, B.below_trans HB22.out hB23⟩
set_option maxHeartbeats 8000000 in
set_option maxRecDepth 100000 in
theorem come_4l (n : Nat) (x : Lp) (A As : Option Addr) (c c' : Nat) (fr a : Int) (item : ByteArray) (hsz : item.size ≤ 9223372036854775807) (w : World) (h : At n w x A As) (hq : L.lf (n + 1) x = 0) (p : Nat) (l : List Step) (hr : roundM n x = some (p, l)) (ht : tf fr a = 0) (hk : kf item = 0) (V : Int) (hU : un l item (base l fr a) a = some V) (hV : 345686400000 ≤ V) :
    Calls Tryz.prog 6 #[lv x A As c c', .int .i64 fr, .int .i64 a, .string item] w fun e w' => e = .returned (.bool true) ∧ Below w.heap.size w w' := by
  have HA := Lib.hid (fun (c : Array Value) (e : TypeId) => (Below.refl _ w).alloc (Nat.le_refl _) (.cells c e))
  have HX0 := Lib.hid (fun (e : TypeId) (W : World) => @L.boxed x A As c c' w W e)
  have C1 := Lib.hid (fun W (hb : Below w.heap.size w W) => T.round n x A As c c' W (h.mono hb))
  have C2 := Lib.hid (fun W (hb : Below w.heap.size w W) => parts_ok n x A As c c' W (h.mono hb) hq p l hr)
  have C3 := Lib.hid (fun W (hb : Below w.heap.size w W) => T.rounded_any n x A As c c' W (h.mono hb))
  have C4 := Lib.hid (fun W (hb : Below w.heap.size w W) => onAt n x A As c c' fr a W (h.mono hb))
  have C5 := Lib.hid (fun W (hb : Below w.heap.size w W) => until_any n x A As c c' fr a item hsz W (h.mono hb))
  have C6 := Lib.hid (fun W (hb : Below w.heap.size w W) => L.refLoop n x A As c c' W (h.mono hb))
  have C7 := Lib.hid (fun W => keyFault item hsz W)
  have HF0 := Lib.hid (or_tf fr a)
  have HF1 := Lib.hid (or3 (L.lf (n + 1) x) (tf fr a) (rE (L.lf (n + 1) x) (roundM n x)))
  have HF2 := Lib.hid (or4 (L.lf (n + 1) x) (kf item) (tf fr a) (rE (L.lf (n + 1) x) (roundM n x)))
  have C8 := Lib.hid (fun W => Or.when_any (decide (a < fr)) 7 W)
  have C9 := Lib.hid (fun W => momentFault fr W)
  have C10 := Lib.hid (fun W => momentFault a W)
  obtain ⟨hok, hn, hl, hlng⟩ := round_ok h hq hr
  rw [hq, hr] at C1 C3 C4 C5 HF1 HF2
  rw [hq] at C6
  rw [show rP 0 (some (p, l)) = p from rfl, show rL 0 (some (p, l)) = l from rfl, show rE 0 (some (p, l)) = 0 from rfl] at C1 C3
  rw [show rE 0 (some (p, l)) = 0 from rfl] at HF1 HF2
  change Hid (∀ W, Below w.heap.size w W → Calls _ _ _ W (fun e w' => OnRes (if onE 0 (tf fr a) 0 = 0 then stAt l a (base l fr a) else zS) (onE 0 (tf fr a) 0) e ∧ _)) at C4
  change Hid (∀ W, Below w.heap.size w W → Calls _ _ _ W (fun e w' => UtRes (if utE 0 (kf item) (tf fr a) 0 = 0 then utR (un l item (base l fr a) a) else (0, false, utE 0 (kf item) (tf fr a) 0)) e ∧ _)) at C5
  rw [hlng] at C1
  have C11 := Lib.hid (fun (A : Option Addr) (c : Nat) (W : World) (hC : stK.C W A l) => portionsOf A c l W hC hok hn hl)
  obtain ⟨ht0, ht1, ht2, ht3⟩ := tf_ok ht
  rw [ht] at C4 C5 HF0 HF1 HF2
  rw [show onE 0 0 0 = 0 from rfl] at C4 HF1
  rw [if_pos rfl] at C4
  have C12 := Lib.hid (fun (A : Option Addr) (c : Nat) (W : World) (hC : stK.C W A l) => stepAt A c l fr a W hC hok hn hl ⟨ht0, ht1, by omega⟩)
  rw [hk] at C5 C7 HF2
  rw [show utE 0 0 0 0 = 0 from rfl] at C5 HF2
  rw [if_pos rfl, hU] at C5
  have C13 := Lib.hid (fun (A : Option Addr) (c : Nat) (W : World) (hC : stK.C W A l) => nextOf A c l fr a item W hC hok hn hl ⟨ht0, ht1, by omega⟩)
  rw [show nxt l fr a item = V by unfold nxt; rw [hU]] at C13
  rw [show utR (some V) = (0, false, 2) from if_pos hV] at C5
  generalize stAt l a (base l fr a) = S at *
  obtain ⟨⟨S1, S2⟩, S3⟩ := S
  generalize mf fr = m1 at *
  generalize mf a = m2 at *
  generalize (if decide (a < fr) = true then (7 : Int) else 0) = m3 at *
  have HOK := Lib.hid hok
  have HBD := Lib.hid (fun k => tot_in hok hl k)
  have HTL : Hid (tot (l.take l.length) = tot l) := Lib.hid (by rw [List.take_length])
  clear h hok hq hr ht hk hn hlng ht0 ht1 ht2 ht3 hU
  unfold lv at C1 C2 C3 C4 C5 C6 ⊢
  unfold OnRes at C4
  unfold UtRes at C5
  go_enter Tryz.func6, Tryz.ntmps6
  go_upto_region 1 with (fail)
  have HB0 : Hid (Below (w.alloc (.cells #[.int .i64 x.kind, .string x.item, .int .i64 x.long, .int .i64 x.many, .slice A x.kids.length c, .slice As x.shares.length c'] 25)).heap.size (w.alloc (.cells #[.int .i64 x.kind, .string x.item, .int .i64 x.long, .int .i64 x.many, .slice A x.kids.length c, .slice As x.shares.length c'] 25)) (w.alloc (.cells #[.int .i64 x.kind, .string x.item, .int .i64 x.long, .int .i64 x.many, .slice A x.kids.length c, .slice As x.shares.length c'] 25))) := Lib.hid (Below.refl _ _)
  obtain ⟨y0, y1, y2, y3, y4, y5⟩ := HX0.out _ _ HB0.out
  have c1 := C1.out _ (B.below_trans (HA.out _ _) HB0.out)
  go_upto_region 2 with (go_at_call 13; refine c1.mono ?_; rintro e w1 ⟨rfl, hB1⟩; have HB1 := Lib.hid (B.below_trans HB0.out hB1); clear hB1)
  clear c1 C1
  clear y0 y1 y2 y3 y4 y5
  obtain ⟨y0, y1, y2, y3, y4, y5⟩ := HX0.out _ _ HB1.out
  have c2 := C2.out _ (B.below_trans (HA.out _ _) HB1.out)
  go_upto_region 3 with (go_at_call 14; refine c2.mono ?_; rintro e w2 ⟨⟨A2, k2, rfl, hC2⟩, hB2⟩; have HC2 := Lib.hid hC2; have HB2 := Lib.hid (B.below_trans HB1.out hB2); clear hB2 hC2)
  clear c2 C2
  clear y0 y1 y2 y3 y4 y5
  obtain ⟨y0, y1, y2, y3, y4, y5⟩ := HX0.out _ _ HB2.out
  have c3 := C3.out _ (B.below_trans (HA.out _ _) HB2.out)
  go_upto_region 4 with (go_at_call 15; refine c3.mono ?_; rintro e w3 ⟨⟨A3, k3, rfl, hC3⟩, hB3⟩; have HC3 := Lib.hid hC3; have HB3 := Lib.hid (B.below_trans HB2.out hB3); have HP3 := Lib.hid (HC2.out.mono hB3); clear hB3 hC3)
  clear c3 C3 y0 y1 y2 y3 y4 y5
  go_wp2
  go_loopw [18, 51] (fun s18 s51 wr => ∃ k : Nat, s51 = .int .i64 k ∧ s18 = .int .i64 (tot (l.take k)) ∧ k ≤ l.length ∧ Hid (Below w3.heap.size w3 wr)) (fun _ s _ => l.length - (intOf s).toNat)
  case atStart => exact ⟨0, rfl, rfl, Nat.zero_le _, Lib.hid (Below.refl _ _)⟩
  case round =>
    obtain ⟨k, rfl, rfl, hk, HB⟩ := hrel
    by_cases hlt : k < l.length
    · obtain ⟨b1, o1, rfl, f0, f1⟩ := steps_at (HC3.out.mono HB.out) k hlt
      have HTT := Lib.hid (tot_take hlt)
      obtain ⟨hb1, hb1'⟩ := HBD.out k
      obtain ⟨hb2, hb2'⟩ := HOK.out _ (List.getElem_mem hlt)
      have hk1 : (k : Int) < l.length := by omega
      generalize l[k] = s at *
      obtain ⟨s1, s2⟩ := s
      generalize tot (l.take k) = tt at *
      go_wp2
      go_roundw
      case rel => exact ⟨k + 1, by go_num, by rw [HTT.out], by omega, Lib.hid (HB.out.alloc HB.out.size _)⟩
      case measure => simp [intOf]; omega
    · obtain rfl : k = l.length := by omega
      rw [HTL.out]
      have HB4 := Lib.hid (B.below_trans HB3.out HB.out)
      have HC4 := Lib.hid (HC3.out.mono HB.out)
      have HP4 := Lib.hid (HP3.out.mono HB.out)
      clear HB HC3 HP3 HB3 HBD HTL hlt
      have c11 := C11.out A3 k3 wr HC4.out
      go_upto_region 12 with (first
        | (go_at_call 17; refine c11.mono ?_; rintro e w5 ⟨⟨A5, k5, rfl, hC5⟩, hB5⟩; have HP5 := Lib.hid hC5; have HP6 := Lib.hid (HP4.out.mono hB5); have HC5 := Lib.hid (HC4.out.mono hB5); have HB5 := Lib.hid (B.below_trans HB4.out hB5); clear hB5 hC5)
        | (go_at_call 16; refine (eq_pts _ _ _ _ _ _ HP6.out HP5.out).mono ?_; rintro e w6 ⟨rfl, hB6⟩; have HC6 := Lib.hid (HC5.out.mono hB6); have HB6 := Lib.hid (B.below_trans HB5.out hB6); clear hB6))
      clear c11 C11 HP4 HP5 HP6
      obtain ⟨y0, y1, y2, y3, y4, y5⟩ := HX0.out _ _ HB6.out
      have c4 := C4.out _ (B.below_trans (HA.out _ _) HB6.out)
      go_upto_region 13 with (go_at_call 18; refine c4.mono ?_; rintro e w7 ⟨rfl, hB7⟩; have HC7 := Lib.hid ((HC6.out.mono hB7).mono ((Below.refl _ _).alloc (Nat.le_refl _) (.cells #[.string S1, .int .i64 S2] 46))); have HB7 := Lib.hid ((B.below_trans HB6.out hB7).alloc (B.below_trans HB6.out hB7).size (.cells #[.string S1, .int .i64 S2] 46)); have HT0 := Lib.hid (World.cell?_alloc_new w7 #[.string S1, .int .i64 S2] 46 0); have HT1 := Lib.hid (World.cell?_alloc_new w7 #[.string S1, .int .i64 S2] 46 1); clear hB7)
      clear c4 C4 HC6 HB6
      generalize hn7 : w7.heap.size = n7 at *
      generalize w7.alloc (.cells #[.string S1, .int .i64 S2] 46) = w8 at *
      clear hn7
      clear y0 y1 y2 y3 y4 y5
      obtain ⟨y0, y1, y2, y3, y4, y5⟩ := HX0.out _ _ HB7.out
      have c5 := C5.out _ (B.below_trans (HA.out _ _) HB7.out)
      go_upto_region 14 with (go_at_call 19; refine c5.mono ?_; rintro e w9 ⟨rfl, hB9⟩; have HC9 := Lib.hid (HC7.out.mono hB9); have HT90 := Lib.hid (B.cell_below hB9 HT0.out); have HT91 := Lib.hid (B.cell_below hB9 HT1.out); have HB9 := Lib.hid (B.below_trans HB7.out hB9); clear hB9)
      clear c5 C5 HC7 HT0 HT1 HB7 y0 y1 y2 y3 y4 y5
      have c9 := C9.out
      have c10 := C10.out
      have c8 := C8.out
      go_upto_region 15 with (first
        | (go_at_call 21; (with_reducible refine (c9 _).mono ?_); rintro e w10 ⟨rfl, hB10⟩; have HC10 := Lib.hid (HC9.out.mono hB10); have HT100 := Lib.hid (B.cell_below hB10 HT90.out); have HT101 := Lib.hid (B.cell_below hB10 HT91.out); have HB10 := Lib.hid (B.below_trans HB9.out hB10); clear hB10)
        | (go_at_call 21; (with_reducible refine (c10 _).mono ?_); rintro e w11 ⟨rfl, hB11⟩; have HC11 := Lib.hid (HC10.out.mono hB11); have HT110 := Lib.hid (B.cell_below hB11 HT100.out); have HT111 := Lib.hid (B.cell_below hB11 HT101.out); have HB11 := Lib.hid (B.below_trans HB10.out hB11); clear hB11)
        | (go_at_call 22; refine (c8 _).mono ?_; rintro e w12 ⟨rfl, rfl⟩)
        | (go_at_call 20; refine (Or.orOf _ [m1, m2, m3] _ (Or.lit_ints _ _ _ _ 3 rfl (by rfl) (show 3 ≤ 140737488355328 by decide))).mono ?_; rintro e w13 ⟨he13, hB13⟩; rw [HF0.out] at he13; obtain rfl := he13; have HBL13 := Lib.hid (((Below.refl _ _).alloc (Nat.le_refl _) _).trans (hB13.mono (by simp))); have HC13 := Lib.hid (HC11.out.mono HBL13.out); have HT130 := Lib.hid (B.cell_below HBL13.out HT110.out); have HT131 := Lib.hid (B.cell_below HBL13.out HT111.out); have HB13 := Lib.hid (B.below_trans HB11.out HBL13.out); clear hB13 HBL13))
      clear HC9 HC10 HC11 HT90 HT91 HT100 HT101 HT110 HT111 HB9 HB10 HB11 c8 c9 c10 C8 C9 C10 HF0
      have HXB := Lib.hid (fun (W : World) (hb : Below w13.heap.size w13 W) => HX0.out _ W (B.below_trans HB13.out hb))
      have HW13 := Lib.hid (B.below_trans (HA.out _ _) HB13.out)
      refine wp_region_held_drew (S := fun w' => Below w13.heap.size w13 w') (by kernel_rfl) (B.below_drew (Below.refl _ _) 1) (fun hHeld => ?_)
      refine wpAnyH_take (i := 0) (v := ?_) At.at0 (by kernel_rfl) (by kernel_rfl) (by kernel_rfl) (fun _ _ _ h => h) (Or.inl ⟨by rfl, ?_⟩) (by assumption) ?_
      rotate_left
      · (intro w9 hSw; (try dsimp only at hSw); obtain ⟨y0, y1, y2, y3, y4, y5⟩ := HXB.out w9 hSw; go_simp; try (with_reducible rfl))
      try simp only [Act.put, List.setIfInBounds_toArray, List.set_cons_zero, List.set_cons_succ]
      refine wpAnyH_take (i := 2) (v := ?_) At.at2 (by kernel_rfl) (by kernel_rfl) (by kernel_rfl) (fun _ _ _ h => h) (Or.inl ⟨by rfl, ?_⟩) (by assumption) ?_
      rotate_left
      · (intro w9 hSw; (try dsimp only at hSw); go_simp; try (with_reducible rfl))
      try simp only [Act.put, List.setIfInBounds_toArray, List.set_cons_zero, List.set_cons_succ]
      refine wpAnyH_take (i := 3) (v := ?_) At.at3 (by kernel_rfl) (by kernel_rfl) (by kernel_rfl) (fun _ _ _ h => h) (Or.inl ⟨by rfl, ?_⟩) (by assumption) ?_
      rotate_left
      · (intro w9 hSw; (try dsimp only at hSw); go_simp; try (with_reducible rfl))
      try simp only [Act.put, List.setIfInBounds_toArray, List.set_cons_zero, List.set_cons_succ]
      refine wpAnyH_take (i := 6) (v := ?_) At.at6 (by kernel_rfl) (by kernel_rfl) (by kernel_rfl) (fun _ _ _ h => h) (Or.inl ⟨by rfl, ?_⟩) (by assumption) ?_
      rotate_left
      · (intro w9 hSw; (try dsimp only at hSw); obtain ⟨y0, y1, y2, y3, y4, y5⟩ := HXB.out w9 hSw; go_simp; try (with_reducible rfl))
      try simp only [Act.put, List.setIfInBounds_toArray, List.set_cons_zero, List.set_cons_succ]
      refine wpAnyH_take (i := 8) (v := ?_) At.at8 (by kernel_rfl) (by kernel_rfl) (by kernel_rfl) (fun _ _ _ h => h) (Or.inl ⟨by rfl, ?_⟩) (by assumption) ?_
      rotate_left
      · (intro w9 hSw; (try dsimp only at hSw); go_simp; try (with_reducible rfl))
      try simp only [Act.put, List.setIfInBounds_toArray, List.set_cons_zero, List.set_cons_succ]
      refine wpAnyH_take (i := 10) (v := ?_) At.at10 (by kernel_rfl) (by kernel_rfl) (by kernel_rfl) (fun _ _ _ h => h) (Or.inl ⟨by rfl, ?_⟩) (by assumption) ?_
      rotate_left
      · (intro w9 hSw; (try dsimp only at hSw); go_simp; try (with_reducible rfl))
      try simp only [Act.put, List.setIfInBounds_toArray, List.set_cons_zero, List.set_cons_succ]
      refine wpAnyH_take (i := 11) (v := ?_) At.at11 (by kernel_rfl) (by kernel_rfl) (by kernel_rfl) (fun _ _ _ h => h) (Or.inl ⟨by rfl, ?_⟩) (by assumption) ?_
      rotate_left
      · (intro w9 hSw; (try dsimp only at hSw); go_simp; try (with_reducible rfl))
      try simp only [Act.put, List.setIfInBounds_toArray, List.set_cons_zero, List.set_cons_succ]
      refine wpAnyH_ready (rs := [1]) (by kernel_rfl) (by simp) ?_
      refine AllReadyH.cons At.at1 (fun K hK => ?_) AllReadyH.nil
      go_simp
      go_at_call 11; refine (C6.out _ (B.below_drew HW13.out 1)).mono ?_; rintro e w14 ⟨rfl, hB14⟩; have HB14 := Lib.hid (B.below_trans (w := w13) (B.below_drew (Below.refl _ _) 1) hB14); clear hB14
      go_simp
      refine hK.out _ _ (HB14.out) (fun hHeld => ?_)
      clear hK K
      try simp only [Act.put, List.setIfInBounds_toArray, List.set_cons_zero, List.set_cons_succ]
      refine wpAnyH_ready (rs := [4]) (by kernel_rfl) (by simp) ?_
      refine AllReadyH.cons At.at4 (fun K hK => ?_) AllReadyH.nil
      go_simp
      refine hK.out _ _ (HB14.out.alloc HB14.out.size _) (fun hHeld => ?_)
      clear hK K
      try simp only [Act.put, List.setIfInBounds_toArray, List.set_cons_zero, List.set_cons_succ]
      refine wpAnyH_ready (rs := [5]) (by kernel_rfl) (by simp) ?_
      refine AllReadyH.cons At.at5 (fun K hK => ?_) AllReadyH.nil
      go_simp
      go_at_call 20; refine (Or.orOf _ [0, 0, 0] _ (Or.lit_ints _ _ _ _ 3 rfl (by rfl) (show 3 ≤ 140737488355328 by decide))).mono ?_; rintro e w15 ⟨he15, hB15⟩; rw [HF1.out] at he15; obtain rfl := he15; have HB15 := Lib.hid (B.below_trans (w := w13) (HB14.out.alloc HB14.out.size _) hB15); clear hB15
      go_simp
      refine hK.out _ _ (HB15.out) (fun hHeld => ?_)
      clear hK K
      try simp only [Act.put, List.setIfInBounds_toArray, List.set_cons_zero, List.set_cons_succ]
      refine wpAnyH_ready (rs := [7]) (by kernel_rfl) (by simp) ?_
      refine AllReadyH.cons At.at7 (fun K hK => ?_) AllReadyH.nil
      go_simp
      go_at_call 11; refine (C6.out _ (B.below_trans HW13.out HB15.out)).mono ?_; rintro e w16 ⟨rfl, hB16⟩; have HB16 := Lib.hid (B.below_trans (w := w13) HB15.out hB16); clear hB16
      go_simp
      refine hK.out _ _ (HB16.out) (fun hHeld => ?_)
      clear hK K
      try simp only [Act.put, List.setIfInBounds_toArray, List.set_cons_zero, List.set_cons_succ]
      refine wpAnyH_ready (rs := [9]) (by kernel_rfl) (by simp) ?_
      refine AllReadyH.cons At.at9 (fun K hK => ?_) AllReadyH.nil
      go_simp
      go_at_call 23; refine (C7.out _).mono ?_; rintro e w17 ⟨rfl, hB17⟩; have HB17 := Lib.hid (B.below_trans (w := w13) HB16.out hB17); clear hB17
      go_simp
      refine hK.out _ _ (HB17.out) (fun hHeld => ?_)
      clear hK K
      try simp only [Act.put, List.setIfInBounds_toArray, List.set_cons_zero, List.set_cons_succ]
      refine wpAnyH_ready (rs := [12]) (by kernel_rfl) (by simp) ?_
      refine AllReadyH.cons At.at12 (fun K hK => ?_) AllReadyH.nil
      go_simp
      refine hK.out _ _ (HB17.out.alloc HB17.out.size _) (fun hHeld => ?_)
      clear hK K
      try simp only [Act.put, List.setIfInBounds_toArray, List.set_cons_zero, List.set_cons_succ]
      refine wpAnyH_ready (rs := [13]) (by kernel_rfl) (by simp) ?_
      refine AllReadyH.cons At.at13 (fun K hK => ?_) AllReadyH.nil
      go_simp
      go_at_call 20; refine (Or.orOf _ [0, 0, 0, 0] _ (Or.lit_ints _ _ _ _ 4 rfl (by rfl) (show 4 ≤ 140737488355328 by decide))).mono ?_; rintro e w19 ⟨he19, hB19⟩; rw [HF2.out] at he19; obtain rfl := he19; have HB19 := Lib.hid (B.below_trans (w := w13) (HB17.out.alloc HB17.out.size _) hB19); clear hB19
      go_simp
      refine hK.out _ _ (HB19.out) (fun hHeld => ?_)
      clear hK K
      try simp only [Act.put, List.setIfInBounds_toArray, List.set_cons_zero, List.set_cons_succ]
      refine wpAnyH_take (i := 14) (v := ?_) At.at14 (by kernel_rfl) (by kernel_rfl) (by kernel_rfl) (fun _ _ _ h => h) (Or.inl ⟨by rfl, ?_⟩) (by assumption) ?_
      rotate_left
      · (intro w9 hSw; (try dsimp only at hSw); go_simp; try (with_reducible rfl))
      try simp only [Act.put, List.setIfInBounds_toArray, List.set_cons_zero, List.set_cons_succ]
      refine wpAnyH_take (i := 15) (v := ?_) At.at15 (by kernel_rfl) (by kernel_rfl) (by kernel_rfl) (fun _ _ _ h => h) (Or.inl ⟨by rfl, ?_⟩) (by assumption) ?_
      rotate_left
      · (intro w9 hSw; (try dsimp only at hSw); go_simp; try (with_reducible rfl))
      try simp only [Act.put, List.setIfInBounds_toArray, List.set_cons_zero, List.set_cons_succ]
      refine wpAnyH_done (by kernel_rfl) ?_ _
      have HC19 := Lib.hid (HC13.out.mono HB19.out)
      have h190 := B.cell_below HB19.out HT130.out
      have h191 := B.cell_below HB19.out HT131.out
      have HL19 : Hid (n7 < w19.heap.size) := Lib.hid (World.block_lt_of_cell? w19 _ h190)
      have HW19 := Lib.hid (B.below_trans HW13.out HB19.out)
      have hl19 : n7 < w19.heap.size := HL19.out
      clear HXB HB14 HB15 HB16 HB17 HB19 HC13 HT130 HT131 HB13 HW13 C6 C7 HF1 HF2 HX0
      have HAL := Lib.hid ((Below.refl _ w19).alloc (Nat.le_refl _) (.cells #[.string ⟨#[]⟩, .int .i64 0] 46))
      unfold StRes at C12
      have HN1 : ¬ n7 = w19.heap.size := by have := HL19.out; omega
      have HN2 : ¬ w19.heap.size = n7 := by have := HL19.out; omega
      go_wp2_with (first
        | (go_at_call 24; refine (C12.out _ _ _ (HC19.out.mono HAL.out)).mono ?_; rintro e w20 ⟨rfl, hB20⟩; have k0 : w20.cell? ⟨w19.heap.size, 0, none⟩ = some (.string ⟨#[]⟩) := (B.cell_below hB20 (by rw [World.cell?_alloc_new]; rfl)); have k1 : w20.cell? ⟨w19.heap.size, 1, none⟩ = some (.int .i64 0) := (B.cell_below hB20 (by rw [World.cell?_alloc_new]; rfl)); have kz := Copy.frozen_new hB20; have HB20 := Lib.hid (B.below_trans HAL.out hB20); have h200 := B.cell_below HB20.out h190; have h201 := B.cell_below HB20.out h191; clear hB20)
        | (go_at_call 26; refine (C13.out _ _ _ (HC19.out.mono ((HB20.out.setCell (Nat.le_refl _) _).setCell (Nat.le_refl _) _))).mono ?_; rintro e w22 ⟨rfl, hB22⟩; have HB22 := Lib.hid (B.below_trans (B.below_trans HW19.out ((HB20.out.setCell (Nat.le_refl _) _).setCell (Nat.le_refl _) _)) hB22); clear hB22)
        | (go_at_call 25; refine (T.looped _).mono ?_; rintro e w23 ⟨rfl, hB23⟩))
      go_ret
      exact ⟨rfl, B.below_trans HB22.out hB23⟩
set_option maxHeartbeats 8000000 in
set_option maxRecDepth 100000 in
theorem come_4v (n : Nat) (x : Lp) (A As : Option Addr) (c c' : Nat) (fr a : Int) (item : ByteArray) (hsz : item.size ≤ 9223372036854775807) (w : World) (h : At n w x A As) (hq : L.lf (n + 1) x = 0) (p : Nat) (l : List Step) (hr : roundM n x = some (p, l)) (ht : tf fr a = 0) (hk : kf item = 0) (V : Int) (hU : un l item (base l fr a) a = some V) (hV : ¬ 345686400000 ≤ V) :
    Calls Tryz.prog 6 #[lv x A As c c', .int .i64 fr, .int .i64 a, .string item] w fun e w' => e = .returned (.bool true) ∧ Below w.heap.size w w' := by
  have HA := Lib.hid (fun (c : Array Value) (e : TypeId) => (Below.refl _ w).alloc (Nat.le_refl _) (.cells c e))
  have HX0 := Lib.hid (fun (e : TypeId) (W : World) => @L.boxed x A As c c' w W e)
  have C1 := Lib.hid (fun W (hb : Below w.heap.size w W) => T.round n x A As c c' W (h.mono hb))
  have C2 := Lib.hid (fun W (hb : Below w.heap.size w W) => parts_ok n x A As c c' W (h.mono hb) hq p l hr)
  have C3 := Lib.hid (fun W (hb : Below w.heap.size w W) => T.rounded_any n x A As c c' W (h.mono hb))
  have C4 := Lib.hid (fun W (hb : Below w.heap.size w W) => onAt n x A As c c' fr a W (h.mono hb))
  have C5 := Lib.hid (fun W (hb : Below w.heap.size w W) => until_any n x A As c c' fr a item hsz W (h.mono hb))
  have C6 := Lib.hid (fun W (hb : Below w.heap.size w W) => L.refLoop n x A As c c' W (h.mono hb))
  have C7 := Lib.hid (fun W => keyFault item hsz W)
  have HF0 := Lib.hid (or_tf fr a)
  have HF1 := Lib.hid (or3 (L.lf (n + 1) x) (tf fr a) (rE (L.lf (n + 1) x) (roundM n x)))
  have HF2 := Lib.hid (or4 (L.lf (n + 1) x) (kf item) (tf fr a) (rE (L.lf (n + 1) x) (roundM n x)))
  have C8 := Lib.hid (fun W => Or.when_any (decide (a < fr)) 7 W)
  have C9 := Lib.hid (fun W => momentFault fr W)
  have C10 := Lib.hid (fun W => momentFault a W)
  obtain ⟨hok, hn, hl, hlng⟩ := round_ok h hq hr
  rw [hq, hr] at C1 C3 C4 C5 HF1 HF2
  rw [hq] at C6
  rw [show rP 0 (some (p, l)) = p from rfl, show rL 0 (some (p, l)) = l from rfl, show rE 0 (some (p, l)) = 0 from rfl] at C1 C3
  rw [show rE 0 (some (p, l)) = 0 from rfl] at HF1 HF2
  change Hid (∀ W, Below w.heap.size w W → Calls _ _ _ W (fun e w' => OnRes (if onE 0 (tf fr a) 0 = 0 then stAt l a (base l fr a) else zS) (onE 0 (tf fr a) 0) e ∧ _)) at C4
  change Hid (∀ W, Below w.heap.size w W → Calls _ _ _ W (fun e w' => UtRes (if utE 0 (kf item) (tf fr a) 0 = 0 then utR (un l item (base l fr a) a) else (0, false, utE 0 (kf item) (tf fr a) 0)) e ∧ _)) at C5
  rw [hlng] at C1
  have C11 := Lib.hid (fun (A : Option Addr) (c : Nat) (W : World) (hC : stK.C W A l) => portionsOf A c l W hC hok hn hl)
  obtain ⟨ht0, ht1, ht2, ht3⟩ := tf_ok ht
  rw [ht] at C4 C5 HF0 HF1 HF2
  rw [show onE 0 0 0 = 0 from rfl] at C4 HF1
  rw [if_pos rfl] at C4
  have C12 := Lib.hid (fun (A : Option Addr) (c : Nat) (W : World) (hC : stK.C W A l) => stepAt A c l fr a W hC hok hn hl ⟨ht0, ht1, by omega⟩)
  rw [hk] at C5 C7 HF2
  rw [show utE 0 0 0 0 = 0 from rfl] at C5 HF2
  rw [if_pos rfl, hU] at C5
  have C13 := Lib.hid (fun (A : Option Addr) (c : Nat) (W : World) (hC : stK.C W A l) => nextOf A c l fr a item W hC hok hn hl ⟨ht0, ht1, by omega⟩)
  rw [show nxt l fr a item = V by unfold nxt; rw [hU]] at C13
  rw [show utR (some V) = (V, true, 0) from if_neg hV] at C5
  have hV0 : 0 ≤ V := by
    have hm : item ∈ l.map (·.1) := by
      by_cases hm : item ∈ l.map (·.1)
      · exact hm
      · rw [un_none hok hm] at hU; cases hU
    obtain ⟨V', e', hv1, -⟩ := un_some hok hm (b := base l fr a) (a := a) (by have := (base_in hok hn fr a).2; omega)
    rw [hU] at e'
    cases e'
    omega
  generalize stAt l a (base l fr a) = S at *
  obtain ⟨⟨S1, S2⟩, S3⟩ := S
  generalize mf fr = m1 at *
  generalize mf a = m2 at *
  generalize (if decide (a < fr) = true then (7 : Int) else 0) = m3 at *
  have HOK := Lib.hid hok
  have HBD := Lib.hid (fun k => tot_in hok hl k)
  have HTL : Hid (tot (l.take l.length) = tot l) := Lib.hid (by rw [List.take_length])
  clear h hok hq hr ht hk hn hlng ht0 ht1 ht2 ht3 hU
  unfold lv at C1 C2 C3 C4 C5 C6 ⊢
  unfold OnRes at C4
  unfold UtRes at C5
  go_enter Tryz.func6, Tryz.ntmps6
  go_upto_region 1 with (fail)
  have HB0 : Hid (Below (w.alloc (.cells #[.int .i64 x.kind, .string x.item, .int .i64 x.long, .int .i64 x.many, .slice A x.kids.length c, .slice As x.shares.length c'] 25)).heap.size (w.alloc (.cells #[.int .i64 x.kind, .string x.item, .int .i64 x.long, .int .i64 x.many, .slice A x.kids.length c, .slice As x.shares.length c'] 25)) (w.alloc (.cells #[.int .i64 x.kind, .string x.item, .int .i64 x.long, .int .i64 x.many, .slice A x.kids.length c, .slice As x.shares.length c'] 25))) := Lib.hid (Below.refl _ _)
  obtain ⟨y0, y1, y2, y3, y4, y5⟩ := HX0.out _ _ HB0.out
  have c1 := C1.out _ (B.below_trans (HA.out _ _) HB0.out)
  go_upto_region 2 with (go_at_call 13; refine c1.mono ?_; rintro e w1 ⟨rfl, hB1⟩; have HB1 := Lib.hid (B.below_trans HB0.out hB1); clear hB1)
  clear c1 C1
  clear y0 y1 y2 y3 y4 y5
  obtain ⟨y0, y1, y2, y3, y4, y5⟩ := HX0.out _ _ HB1.out
  have c2 := C2.out _ (B.below_trans (HA.out _ _) HB1.out)
  go_upto_region 3 with (go_at_call 14; refine c2.mono ?_; rintro e w2 ⟨⟨A2, k2, rfl, hC2⟩, hB2⟩; have HC2 := Lib.hid hC2; have HB2 := Lib.hid (B.below_trans HB1.out hB2); clear hB2 hC2)
  clear c2 C2
  clear y0 y1 y2 y3 y4 y5
  obtain ⟨y0, y1, y2, y3, y4, y5⟩ := HX0.out _ _ HB2.out
  have c3 := C3.out _ (B.below_trans (HA.out _ _) HB2.out)
  go_upto_region 4 with (go_at_call 15; refine c3.mono ?_; rintro e w3 ⟨⟨A3, k3, rfl, hC3⟩, hB3⟩; have HC3 := Lib.hid hC3; have HB3 := Lib.hid (B.below_trans HB2.out hB3); have HP3 := Lib.hid (HC2.out.mono hB3); clear hB3 hC3)
  clear c3 C3 y0 y1 y2 y3 y4 y5
  go_wp2
  go_loopw [18, 51] (fun s18 s51 wr => ∃ k : Nat, s51 = .int .i64 k ∧ s18 = .int .i64 (tot (l.take k)) ∧ k ≤ l.length ∧ Hid (Below w3.heap.size w3 wr)) (fun _ s _ => l.length - (intOf s).toNat)
  case atStart => exact ⟨0, rfl, rfl, Nat.zero_le _, Lib.hid (Below.refl _ _)⟩
  case round =>
    obtain ⟨k, rfl, rfl, hk, HB⟩ := hrel
    by_cases hlt : k < l.length
    · obtain ⟨b1, o1, rfl, f0, f1⟩ := steps_at (HC3.out.mono HB.out) k hlt
      have HTT := Lib.hid (tot_take hlt)
      obtain ⟨hb1, hb1'⟩ := HBD.out k
      obtain ⟨hb2, hb2'⟩ := HOK.out _ (List.getElem_mem hlt)
      have hk1 : (k : Int) < l.length := by omega
      generalize l[k] = s at *
      obtain ⟨s1, s2⟩ := s
      generalize tot (l.take k) = tt at *
      go_wp2
      go_roundw
      case rel => exact ⟨k + 1, by go_num, by rw [HTT.out], by omega, Lib.hid (HB.out.alloc HB.out.size _)⟩
      case measure => simp [intOf]; omega
    · obtain rfl : k = l.length := by omega
      rw [HTL.out]
      have HB4 := Lib.hid (B.below_trans HB3.out HB.out)
      have HC4 := Lib.hid (HC3.out.mono HB.out)
      have HP4 := Lib.hid (HP3.out.mono HB.out)
      clear HB HC3 HP3 HB3 HBD HTL hlt
      have c11 := C11.out A3 k3 wr HC4.out
      go_upto_region 12 with (first
        | (go_at_call 17; refine c11.mono ?_; rintro e w5 ⟨⟨A5, k5, rfl, hC5⟩, hB5⟩; have HP5 := Lib.hid hC5; have HP6 := Lib.hid (HP4.out.mono hB5); have HC5 := Lib.hid (HC4.out.mono hB5); have HB5 := Lib.hid (B.below_trans HB4.out hB5); clear hB5 hC5)
        | (go_at_call 16; refine (eq_pts _ _ _ _ _ _ HP6.out HP5.out).mono ?_; rintro e w6 ⟨rfl, hB6⟩; have HC6 := Lib.hid (HC5.out.mono hB6); have HB6 := Lib.hid (B.below_trans HB5.out hB6); clear hB6))
      clear c11 C11 HP4 HP5 HP6
      obtain ⟨y0, y1, y2, y3, y4, y5⟩ := HX0.out _ _ HB6.out
      have c4 := C4.out _ (B.below_trans (HA.out _ _) HB6.out)
      go_upto_region 13 with (go_at_call 18; refine c4.mono ?_; rintro e w7 ⟨rfl, hB7⟩; have HC7 := Lib.hid ((HC6.out.mono hB7).mono ((Below.refl _ _).alloc (Nat.le_refl _) (.cells #[.string S1, .int .i64 S2] 46))); have HB7 := Lib.hid ((B.below_trans HB6.out hB7).alloc (B.below_trans HB6.out hB7).size (.cells #[.string S1, .int .i64 S2] 46)); have HT0 := Lib.hid (World.cell?_alloc_new w7 #[.string S1, .int .i64 S2] 46 0); have HT1 := Lib.hid (World.cell?_alloc_new w7 #[.string S1, .int .i64 S2] 46 1); clear hB7)
      clear c4 C4 HC6 HB6
      generalize hn7 : w7.heap.size = n7 at *
      generalize w7.alloc (.cells #[.string S1, .int .i64 S2] 46) = w8 at *
      clear hn7
      clear y0 y1 y2 y3 y4 y5
      obtain ⟨y0, y1, y2, y3, y4, y5⟩ := HX0.out _ _ HB7.out
      have c5 := C5.out _ (B.below_trans (HA.out _ _) HB7.out)
      go_upto_region 14 with (go_at_call 19; refine c5.mono ?_; rintro e w9 ⟨rfl, hB9⟩; have HC9 := Lib.hid (HC7.out.mono hB9); have HT90 := Lib.hid (B.cell_below hB9 HT0.out); have HT91 := Lib.hid (B.cell_below hB9 HT1.out); have HB9 := Lib.hid (B.below_trans HB7.out hB9); clear hB9)
      clear c5 C5 HC7 HT0 HT1 HB7 y0 y1 y2 y3 y4 y5
      have c9 := C9.out
      have c10 := C10.out
      have c8 := C8.out
      go_upto_region 15 with (first
        | (go_at_call 21; (with_reducible refine (c9 _).mono ?_); rintro e w10 ⟨rfl, hB10⟩; have HC10 := Lib.hid (HC9.out.mono hB10); have HT100 := Lib.hid (B.cell_below hB10 HT90.out); have HT101 := Lib.hid (B.cell_below hB10 HT91.out); have HB10 := Lib.hid (B.below_trans HB9.out hB10); clear hB10)
        | (go_at_call 21; (with_reducible refine (c10 _).mono ?_); rintro e w11 ⟨rfl, hB11⟩; have HC11 := Lib.hid (HC10.out.mono hB11); have HT110 := Lib.hid (B.cell_below hB11 HT100.out); have HT111 := Lib.hid (B.cell_below hB11 HT101.out); have HB11 := Lib.hid (B.below_trans HB10.out hB11); clear hB11)
        | (go_at_call 22; refine (c8 _).mono ?_; rintro e w12 ⟨rfl, rfl⟩)
        | (go_at_call 20; refine (Or.orOf _ [m1, m2, m3] _ (Or.lit_ints _ _ _ _ 3 rfl (by rfl) (show 3 ≤ 140737488355328 by decide))).mono ?_; rintro e w13 ⟨he13, hB13⟩; rw [HF0.out] at he13; obtain rfl := he13; have HBL13 := Lib.hid (((Below.refl _ _).alloc (Nat.le_refl _) _).trans (hB13.mono (by simp))); have HC13 := Lib.hid (HC11.out.mono HBL13.out); have HT130 := Lib.hid (B.cell_below HBL13.out HT110.out); have HT131 := Lib.hid (B.cell_below HBL13.out HT111.out); have HB13 := Lib.hid (B.below_trans HB11.out HBL13.out); clear hB13 HBL13))
      clear HC9 HC10 HC11 HT90 HT91 HT100 HT101 HT110 HT111 HB9 HB10 HB11 c8 c9 c10 C8 C9 C10 HF0
      have HXB := Lib.hid (fun (W : World) (hb : Below w13.heap.size w13 W) => HX0.out _ W (B.below_trans HB13.out hb))
      have HW13 := Lib.hid (B.below_trans (HA.out _ _) HB13.out)
      refine wp_region_held_drew (S := fun w' => Below w13.heap.size w13 w') (by kernel_rfl) (B.below_drew (Below.refl _ _) 1) (fun hHeld => ?_)
      refine wpAnyH_take (i := 0) (v := ?_) At.at0 (by kernel_rfl) (by kernel_rfl) (by kernel_rfl) (fun _ _ _ h => h) (Or.inl ⟨by rfl, ?_⟩) (by assumption) ?_
      rotate_left
      · (intro w9 hSw; (try dsimp only at hSw); obtain ⟨y0, y1, y2, y3, y4, y5⟩ := HXB.out w9 hSw; go_simp; try (with_reducible rfl))
      try simp only [Act.put, List.setIfInBounds_toArray, List.set_cons_zero, List.set_cons_succ]
      refine wpAnyH_take (i := 2) (v := ?_) At.at2 (by kernel_rfl) (by kernel_rfl) (by kernel_rfl) (fun _ _ _ h => h) (Or.inl ⟨by rfl, ?_⟩) (by assumption) ?_
      rotate_left
      · (intro w9 hSw; (try dsimp only at hSw); go_simp; try (with_reducible rfl))
      try simp only [Act.put, List.setIfInBounds_toArray, List.set_cons_zero, List.set_cons_succ]
      refine wpAnyH_take (i := 3) (v := ?_) At.at3 (by kernel_rfl) (by kernel_rfl) (by kernel_rfl) (fun _ _ _ h => h) (Or.inl ⟨by rfl, ?_⟩) (by assumption) ?_
      rotate_left
      · (intro w9 hSw; (try dsimp only at hSw); go_simp; try (with_reducible rfl))
      try simp only [Act.put, List.setIfInBounds_toArray, List.set_cons_zero, List.set_cons_succ]
      refine wpAnyH_take (i := 6) (v := ?_) At.at6 (by kernel_rfl) (by kernel_rfl) (by kernel_rfl) (fun _ _ _ h => h) (Or.inl ⟨by rfl, ?_⟩) (by assumption) ?_
      rotate_left
      · (intro w9 hSw; (try dsimp only at hSw); obtain ⟨y0, y1, y2, y3, y4, y5⟩ := HXB.out w9 hSw; go_simp; try (with_reducible rfl))
      try simp only [Act.put, List.setIfInBounds_toArray, List.set_cons_zero, List.set_cons_succ]
      refine wpAnyH_take (i := 8) (v := ?_) At.at8 (by kernel_rfl) (by kernel_rfl) (by kernel_rfl) (fun _ _ _ h => h) (Or.inl ⟨by rfl, ?_⟩) (by assumption) ?_
      rotate_left
      · (intro w9 hSw; (try dsimp only at hSw); go_simp; try (with_reducible rfl))
      try simp only [Act.put, List.setIfInBounds_toArray, List.set_cons_zero, List.set_cons_succ]
      refine wpAnyH_take (i := 10) (v := ?_) At.at10 (by kernel_rfl) (by kernel_rfl) (by kernel_rfl) (fun _ _ _ h => h) (Or.inl ⟨by rfl, ?_⟩) (by assumption) ?_
      rotate_left
      · (intro w9 hSw; (try dsimp only at hSw); go_simp; try (with_reducible rfl))
      try simp only [Act.put, List.setIfInBounds_toArray, List.set_cons_zero, List.set_cons_succ]
      refine wpAnyH_take (i := 11) (v := ?_) At.at11 (by kernel_rfl) (by kernel_rfl) (by kernel_rfl) (fun _ _ _ h => h) (Or.inl ⟨by rfl, ?_⟩) (by assumption) ?_
      rotate_left
      · (intro w9 hSw; (try dsimp only at hSw); go_simp; try (with_reducible rfl))
      try simp only [Act.put, List.setIfInBounds_toArray, List.set_cons_zero, List.set_cons_succ]
      refine wpAnyH_ready (rs := [1]) (by kernel_rfl) (by simp) ?_
      refine AllReadyH.cons At.at1 (fun K hK => ?_) AllReadyH.nil
      go_simp
      go_at_call 11; refine (C6.out _ (B.below_drew HW13.out 1)).mono ?_; rintro e w14 ⟨rfl, hB14⟩; have HB14 := Lib.hid (B.below_trans (w := w13) (B.below_drew (Below.refl _ _) 1) hB14); clear hB14
      go_simp
      refine hK.out _ _ (HB14.out) (fun hHeld => ?_)
      clear hK K
      try simp only [Act.put, List.setIfInBounds_toArray, List.set_cons_zero, List.set_cons_succ]
      refine wpAnyH_ready (rs := [4]) (by kernel_rfl) (by simp) ?_
      refine AllReadyH.cons At.at4 (fun K hK => ?_) AllReadyH.nil
      go_simp
      refine hK.out _ _ (HB14.out.alloc HB14.out.size _) (fun hHeld => ?_)
      clear hK K
      try simp only [Act.put, List.setIfInBounds_toArray, List.set_cons_zero, List.set_cons_succ]
      refine wpAnyH_ready (rs := [5]) (by kernel_rfl) (by simp) ?_
      refine AllReadyH.cons At.at5 (fun K hK => ?_) AllReadyH.nil
      go_simp
      go_at_call 20; refine (Or.orOf _ [0, 0, 0] _ (Or.lit_ints _ _ _ _ 3 rfl (by rfl) (show 3 ≤ 140737488355328 by decide))).mono ?_; rintro e w15 ⟨he15, hB15⟩; rw [HF1.out] at he15; obtain rfl := he15; have HB15 := Lib.hid (B.below_trans (w := w13) (HB14.out.alloc HB14.out.size _) hB15); clear hB15
      go_simp
      refine hK.out _ _ (HB15.out) (fun hHeld => ?_)
      clear hK K
      try simp only [Act.put, List.setIfInBounds_toArray, List.set_cons_zero, List.set_cons_succ]
      refine wpAnyH_ready (rs := [7]) (by kernel_rfl) (by simp) ?_
      refine AllReadyH.cons At.at7 (fun K hK => ?_) AllReadyH.nil
      go_simp
      go_at_call 11; refine (C6.out _ (B.below_trans HW13.out HB15.out)).mono ?_; rintro e w16 ⟨rfl, hB16⟩; have HB16 := Lib.hid (B.below_trans (w := w13) HB15.out hB16); clear hB16
      go_simp
      refine hK.out _ _ (HB16.out) (fun hHeld => ?_)
      clear hK K
      try simp only [Act.put, List.setIfInBounds_toArray, List.set_cons_zero, List.set_cons_succ]
      refine wpAnyH_ready (rs := [9]) (by kernel_rfl) (by simp) ?_
      refine AllReadyH.cons At.at9 (fun K hK => ?_) AllReadyH.nil
      go_simp
      go_at_call 23; refine (C7.out _).mono ?_; rintro e w17 ⟨rfl, hB17⟩; have HB17 := Lib.hid (B.below_trans (w := w13) HB16.out hB17); clear hB17
      go_simp
      refine hK.out _ _ (HB17.out) (fun hHeld => ?_)
      clear hK K
      try simp only [Act.put, List.setIfInBounds_toArray, List.set_cons_zero, List.set_cons_succ]
      refine wpAnyH_ready (rs := [12]) (by kernel_rfl) (by simp) ?_
      refine AllReadyH.cons At.at12 (fun K hK => ?_) AllReadyH.nil
      go_simp
      refine hK.out _ _ (HB17.out.alloc HB17.out.size _) (fun hHeld => ?_)
      clear hK K
      try simp only [Act.put, List.setIfInBounds_toArray, List.set_cons_zero, List.set_cons_succ]
      refine wpAnyH_ready (rs := [13]) (by kernel_rfl) (by simp) ?_
      refine AllReadyH.cons At.at13 (fun K hK => ?_) AllReadyH.nil
      go_simp
      go_at_call 20; refine (Or.orOf _ [0, 0, 0, 0] _ (Or.lit_ints _ _ _ _ 4 rfl (by rfl) (show 4 ≤ 140737488355328 by decide))).mono ?_; rintro e w19 ⟨he19, hB19⟩; rw [HF2.out] at he19; obtain rfl := he19; have HB19 := Lib.hid (B.below_trans (w := w13) (HB17.out.alloc HB17.out.size _) hB19); clear hB19
      go_simp
      refine hK.out _ _ (HB19.out) (fun hHeld => ?_)
      clear hK K
      try simp only [Act.put, List.setIfInBounds_toArray, List.set_cons_zero, List.set_cons_succ]
      refine wpAnyH_take (i := 14) (v := ?_) At.at14 (by kernel_rfl) (by kernel_rfl) (by kernel_rfl) (fun _ _ _ h => h) (Or.inl ⟨by rfl, ?_⟩) (by assumption) ?_
      rotate_left
      · (intro w9 hSw; (try dsimp only at hSw); go_simp; try (with_reducible rfl))
      try simp only [Act.put, List.setIfInBounds_toArray, List.set_cons_zero, List.set_cons_succ]
      refine wpAnyH_take (i := 15) (v := ?_) At.at15 (by kernel_rfl) (by kernel_rfl) (by kernel_rfl) (fun _ _ _ h => h) (Or.inl ⟨by rfl, ?_⟩) (by assumption) ?_
      rotate_left
      · (intro w9 hSw; (try dsimp only at hSw); go_simp; try (with_reducible rfl))
      try simp only [Act.put, List.setIfInBounds_toArray, List.set_cons_zero, List.set_cons_succ]
      refine wpAnyH_done (by kernel_rfl) ?_ _
      have HC19 := Lib.hid (HC13.out.mono HB19.out)
      have h190 := B.cell_below HB19.out HT130.out
      have h191 := B.cell_below HB19.out HT131.out
      have HL19 : Hid (n7 < w19.heap.size) := Lib.hid (World.block_lt_of_cell? w19 _ h190)
      have HW19 := Lib.hid (B.below_trans HW13.out HB19.out)
      have hl19 : n7 < w19.heap.size := HL19.out
      clear HXB HB14 HB15 HB16 HB17 HB19 HC13 HT130 HT131 HB13 HW13 C6 C7 HF1 HF2 HX0
      have HAL := Lib.hid ((Below.refl _ w19).alloc (Nat.le_refl _) (.cells #[.string ⟨#[]⟩, .int .i64 0] 46))
      unfold StRes at C12
      have HN1 : ¬ n7 = w19.heap.size := by have := HL19.out; omega
      have HN2 : ¬ w19.heap.size = n7 := by have := HL19.out; omega
      go_wp2_with (first
        | (go_at_call 24; refine (C12.out _ _ _ (HC19.out.mono HAL.out)).mono ?_; rintro e w20 ⟨rfl, hB20⟩; have k0 : w20.cell? ⟨w19.heap.size, 0, none⟩ = some (.string ⟨#[]⟩) := (B.cell_below hB20 (by rw [World.cell?_alloc_new]; rfl)); have k1 : w20.cell? ⟨w19.heap.size, 1, none⟩ = some (.int .i64 0) := (B.cell_below hB20 (by rw [World.cell?_alloc_new]; rfl)); have kz := Copy.frozen_new hB20; have HB20 := Lib.hid (B.below_trans HAL.out hB20); have h200 := B.cell_below HB20.out h190; have h201 := B.cell_below HB20.out h191; clear hB20)
        | (go_at_call 26; refine (C13.out _ _ _ (HC19.out.mono ((HB20.out.setCell (Nat.le_refl _) _).setCell (Nat.le_refl _) _))).mono ?_; rintro e w22 ⟨rfl, hB22⟩; have HB22 := Lib.hid (B.below_trans (B.below_trans HW19.out ((HB20.out.setCell (Nat.le_refl _) _).setCell (Nat.le_refl _) _)) hB22); clear hB22)
        | (go_at_call 25; refine (T.looped _).mono ?_; rintro e w23 ⟨rfl, hB23⟩))
      go_ret
      exact ⟨rfl, B.below_trans HB22.out hB23⟩
theorem come_any (n : Nat) (x : Lp) (A As : Option Addr) (c c' : Nat) (fr a : Int) (item : ByteArray) (hsz : item.size ≤ 9223372036854775807) (w : World) (h : At n w x A As) :
    Calls Tryz.prog 6 #[lv x A As c c', .int .i64 fr, .int .i64 a, .string item] w fun e w' => e = .returned (.bool true) ∧ Below w.heap.size w w' := by
  by_cases hE : rE (L.lf (n + 1) x) (roundM n x) = 0
  · obtain ⟨hq, p, l, hr⟩ := rE_ok hE
    by_cases ht : tf fr a = 0
    · by_cases hk : kf item = 0
      · cases hU : un l item (base l fr a) a with
        | none => exact come_4n n x A As c c' fr a item hsz w h hq p l hr ht hk hU
        | some V =>
          by_cases hV : 345686400000 ≤ V
          · exact come_4l n x A As c c' fr a item hsz w h hq p l hr ht hk V hU hV
          · exact come_4v n x A As c c' fr a item hsz w h hq p l hr ht hk V hU hV
      · exact come_3 n x A As c c' fr a item hsz w h hq p l hr ht hk
    · exact come_2 n x A As c c' fr a item hsz w h hq p l hr ht
  · exact come_1 n x A As c c' fr a item hsz w h hE
set_option maxHeartbeats 4000000 in
set_option maxRecDepth 100000 in
theorem loopsComeRound (n : Nat) (x : Lp) (A As : Option Addr) (c c' : Nat) (fr a : Int) (item : ByteArray) (hsz : item.size ≤ 9223372036854775807) (w : World) (h : At n w x A As) :
    Calls Tryz.prog 3 #[lv x A As c c', .int .i64 fr, .int .i64 a, .string item] w fun e w' => e = .returned (.bool true) ∧ Below w.heap.size w w' := by
  have HA := Lib.hid (fun (c : Array Value) (e : TypeId) => (Below.refl _ w).alloc (Nat.le_refl _) (.cells c e))
  have HX0 := Lib.hid (fun (e : TypeId) (W : World) => @L.boxed x A As c c' w W e)
  have c1 := fun W (hb : Below w.heap.size w W) => L.copyLoop n x A As c c' W (h.mono hb)
  have c2 := fun W (hb : Below w.heap.size w W) => come_any n x A As c c' fr a item hsz W (h.mono hb)
  have c3 := fun A' As' d d' W (hb : Below w.heap.size w W) (h' : At n W x A' As') => L.staysLoop n x A As A' As' c c' d d' W (h.mono hb) h'
  clear h hsz
  unfold lv at c1 c2 c3 ⊢
  go_enter Tryz.func3, Tryz.ntmps3
  go_wp2_with (first
    | (go_at_call 5; refine (c1 _ (HA.out _ _)).mono ?_; rintro e w1 ⟨A1, As1, d1, d1', rfl, hat, hB1⟩; have HB1 := Lib.hid hB1; have HAT := Lib.hid hat; clear hB1 hat; have HY := Lib.hid (fun o => HX0.out _ _ (HB1.out.trans (((Below.refl _ w1).alloc (Nat.le_refl _) o).mono HB1.out.size))); have y0 := fun o => (HY.out o).1; have y1 := fun o => (HY.out o).2.1; have y2 := fun o => (HY.out o).2.2.1; have y3 := fun o => (HY.out o).2.2.2.1; have y4 := fun o => (HY.out o).2.2.2.2.1; have y5 := fun o => (HY.out o).2.2.2.2.2; have HBX := Lib.hid (fun o => B.below_trans (B.below_trans (HA.out _ _) HB1.out) ((Below.refl _ w1).alloc (Nat.le_refl _) o)))
    | (go_at_call 6; refine (c2 _ (HBX.out _)).mono ?_; rintro e w2 ⟨rfl, hB2⟩; have HB2 := Lib.hid hB2; clear hB2; have HZ := HX0.out _ _ (HB1.out.trans ((B.below_trans ((Below.refl _ w1).alloc (Nat.le_refl _) _) HB2.out).mono HB1.out.size)); obtain ⟨z0, z1, z2, z3, z4, z5⟩ := HZ; obtain ⟨v0, v1, v2, v3, v4, v5⟩ := L.boxed HB2.out)
    | (go_at_call 7; refine (c3 _ _ _ _ _ (B.below_trans (HBX.out _) HB2.out) ((HAT.out.mono ((Below.refl _ w1).alloc (Nat.le_refl _) _)).mono HB2.out)).mono ?_; rintro e w3 ⟨rfl, hB3⟩))
  go_ret
  exact ⟨rfl, B.below_trans (B.below_trans (HBX.out _) HB2.out) hB3⟩
end Go.Proofs.YtlfobpjefklccaaGreatDoor.Come
