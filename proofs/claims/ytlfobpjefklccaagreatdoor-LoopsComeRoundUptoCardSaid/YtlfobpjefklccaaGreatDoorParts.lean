/- The program's Parts. Printed by wip/gen/portgen.py. -/
import Derived.Test.YtlfobpjefklccaaGreatDoorPort
import Derived.Test.YtlfobpjefklccaaGreatDoorTal2
import Derived.Test.YtlfobpjefklccaaGreatDoorRoundOk
import Derived.Test.YtlfobpjefklccaaGreatDoorSmall
import Derived.Deep.Cut
namespace Go.Proofs.YtlfobpjefklccaaGreatDoor.Come
open Go.RowKit
open L (Lp At lv)
open T (Step stK steps_at lng roundM rE rL rP)
open F (Fr Cl)

def PtRes (l : List Pt) (q : Int) (e : Ending) (w' : World) : Prop := ∃ A c, e = .returned (.tuple #[.slice A l.length c, .int .i64 q]) ∧ ptK.C w' A l
theorem rE_ok {q : Int} {R : Option (Nat × List Step)} (h : rE q R = 0) : q = 0 ∧ ∃ p l, R = some (p, l) := by
  unfold rE at h
  by_cases hq : q = 0
  · rw [if_neg (by simpa using hq)] at h
    cases R with
    | none => exact absurd h (by decide)
    | some r => exact ⟨hq, r.1, r.2, rfl⟩
  · rw [if_pos hq] at h; exact absurd h hq
set_option maxHeartbeats 4000000 in
set_option maxRecDepth 100000 in
theorem parts_bad (n : Nat) (x : Lp) (A As : Option Addr) (c c' : Nat) (w : World) (h : At n w x A As) (hE : rE (L.lf (n + 1) x) (roundM n x) ≠ 0) :
    Calls Tryz.prog 14 #[lv x A As c c'] w fun e w' => PtRes [] (rE (L.lf (n + 1) x) (roundM n x)) e w' ∧ Below w.heap.size w w' := by
  have HA := Lib.hid (fun (c : Array Value) (e : TypeId) => (Below.refl _ w).alloc (Nat.le_refl _) (.cells c e))
  have cc := fun c0 e0 => T.checked n x A As c c' _ (h.mono (HA.out c0 e0))
  have hEb : (rE (L.lf (n + 1) x) (roundM n x) != 0) = true := bne_iff_ne.2 hE
  clear h hE
  generalize rP (L.lf (n + 1) x) (roundM n x) = P0 at *
  generalize rL (L.lf (n + 1) x) (roundM n x) = L0 at *
  generalize rE (L.lf (n + 1) x) (roundM n x) = E0 at *
  unfold lv at cc ⊢
  go_enter Tryz.func14, Tryz.ntmps14
  go_wp2_with (go_at_call 38; refine (cc _ _).mono ?_; rintro e w2 ⟨⟨A5, c5, rfl, hC5⟩, hB2⟩; have HB2 := Lib.hid (B.below_trans (HA.out _ _) hB2); clear hB2 hC5)
  go_ret2
  exact ⟨⟨none, 0, rfl, B.Kd.C_nil _ _ _⟩, HB2.out.alloc HB2.out.size _⟩
set_option maxHeartbeats 8000000 in
set_option maxRecDepth 100000 in
theorem parts_ok (n : Nat) (x : Lp) (A As : Option Addr) (c c' : Nat) (w : World) (h : At n w x A As) (hq : L.lf (n + 1) x = 0) (p : Nat) (l : List Step) (hr : roundM n x = some (p, l)) :
    Calls Tryz.prog 14 #[lv x A As c c'] w fun e w' => PtRes (pts l) 0 e w' ∧ Below w.heap.size w w' := by
  have HA := Lib.hid (fun (c : Array Value) (e : TypeId) => (Below.refl _ w).alloc (Nat.le_refl _) (.cells c e))
  have cc := fun c0 e0 => T.checked n x A As c c' _ (h.mono (HA.out c0 e0))
  obtain ⟨hok, hn, hl, hlng⟩ := round_ok h hq hr
  rw [hq, hr, show rP 0 (some (p, l)) = p from rfl, show rL 0 (some (p, l)) = l from rfl, show rE 0 (some (p, l)) = 0 from rfl, hlng] at cc
  have hT1 := tot_pos hok hn
  have hT2 := (show tot l ≤ 18000000000 by have := (tot_in hok hl l.length).2; rwa [List.take_length] at this)
  have hlp : 1 ≤ l.length := List.length_pos_iff.2 hn
  have CT := Lib.hid (fun (A5 : Option Addr) (c5 : Nat) (W : World) (hC : stK.C W A5 l) => tallies A5 c5 l W hC hok hl)
  have HKE : Hid (SK.srt (nub l []) = Told.dd (l.map (·.1))) := Lib.hid (srt_dd l)
  have HPE : Hid (pts l = (Told.dd (l.map (·.1))).map (pt l)) := Lib.hid rfl
  have HDL := Lib.hid (dd_len l)
  have HDM := Lib.hid (fun k (hk : k ∈ Told.dd (l.map (·.1))) => (nub_mem l [] k).2 (.inr ((dd_mem _ _).1 hk)))
  have HNL : Hid ((nub l []).length ≤ 5000) := Lib.hid (by have e := congrArg List.length (srt_dd l); rw [SK.srt_length] at e; have := dd_len l; omega)
  have HSZ : Hid (∀ k ∈ nub l [], k.size ≤ maxLen) := Lib.hid (fun k hk => by
    rcases (nub_mem l [] k).1 hk with h1 | h1
    · cases h1
    · obtain ⟨s, hs, rfl⟩ := List.mem_map.1 h1
      have := key_size (round_ok2 h hq hr s hs).2
      simp only [maxLen]; omega)
  have HLOW := Lib.hid (fun k (W : World) => Low.lowestP (its l k).length l.length (by have := (its_le hok k).2.2; omega) ⟨by omega, by omega⟩ W)
  have HLOT : Hid (∀ k (W : World), Calls Tryz.prog 42 #[.int .i64 (tot (its l k)), .int .i64 (tot l)] W fun e w' => e = .returned (.agg #[.int .i64 (Low.low (tot (its l k)).toNat (tot l).toNat).1, .int .i64 (Low.low (tot (its l k)).toNat (tot l).toNat).2]) ∧ Below W.heap.size W w') := Lib.hid (fun k W => by
    obtain ⟨i1, i2, i3⟩ := its_le hok k
    have := Low.lowestP (tot (its l k)).toNat (tot l).toNat (by omega) ⟨by omega, by omega⟩ W
    rw [Int.toNat_of_nonneg i1, Int.toNat_of_nonneg (show 0 ≤ tot l by omega)] at this
    exact this)
  generalize Told.dd (l.map (·.1)) = ks at *
  generalize pts l = PL at *
  clear h hq hr hok hn hlng
  unfold lv at cc ⊢
  go_enter Tryz.func14, Tryz.ntmps14
  go_wp2_with (first
    | (go_at_call 38; refine (cc _ _).mono ?_; rintro e w2 ⟨⟨A5, c5, rfl, hC5⟩, hB2⟩; have HC5 := Lib.hid hC5; have HB2 := Lib.hid (B.below_trans (HA.out _ _) hB2); clear hB2 hC5)
    | (go_at_call 39; refine (CT.out _ _ _ (HC5.out.mono ((Below.refl _ _).alloc (Nat.le_refl _) _))).mono ?_; rintro e w3 ⟨mb, rfl, hTL, hB3⟩; have HTL := Lib.hid hTL; have HRW := Lib.hid (fun i v (h : (#[.int .i64 p, .slice A5 l.length c5, .int .i64 (tot l)] : Array Value)[i]? = some v) => B.cell_below (a := ⟨w2.heap.size, i, none⟩) (v := v) hB3 (by rw [World.cell?_alloc_new]; exact h)); have HB3 := Lib.hid (B.below_trans (HB2.out.alloc HB2.out.size _) hB3); clear hB3 hTL)
    | (go_at_call 41; refine (SK.keys_tally mb _).mono ?_; rintro e w9 ⟨rfl, rfl⟩)
    | (go_at_call 40; obtain ⟨bk, hTM⟩ := HTL.out; have HTM := Lib.hid hTM; refine (SK.sorted_tally mb _ w3 hTM.om (by intro q hq2; unfold ptrs at hq2; rw [List.mem_map] at hq2; obtain ⟨k, hk, rfl⟩ := hq2; exact HSZ.out k hk) (by unfold ptrs; rw [List.length_map]; have := HNL.out; omega)).mono ?_; rintro e W4 ⟨v4, rfl, hO4, hB4⟩; rw [ptrs_keys, HKE.out] at hO4; obtain ⟨A4, c4, rfl⟩ := Copy.shape hO4; have HO4 := Lib.hid hO4; have HB34 := Lib.hid (((Below.refl _ w3).alloc (Nat.le_refl _) (.cells #[.map (some mb)] 82)).trans (hB4.mono (by omega))); clear hO4 hB4 hTM))
  have HB4 := Lib.hid (B.below_trans HB3.out HB34.out)
  obtain ⟨bk, hTM⟩ := HTL.out
  have HTM := Lib.hid (hTM.below HB34.out)
  have HR4 := Lib.hid (fun i v h => B.cell_below HB34.out (HRW.out i v h))
  have HKS : Hid (B.Kd.str.C W4 A4 ks) := Lib.hid (by obtain ⟨A', c', e, hC⟩ := B.own_str HO4.out (by have := HDL.out; omega); cases e; exact hC)
  clear hTM HTL HRW HB34 HB3 HB2 HO4
  have HLKF := Lib.hid (fun (W : World) (hb : Below W4.heap.size W4 W) (k : ByteArray) => (HTM.out.below hb).om.run_look (P := Tryz.prog) (t := 82) Tryz.underlying82 Tryz.underlying9 (zeroTally _) k false)
  go_loopw [7, 25] (fun s7 s25 wr => ∃ j : Nat, s25 = .int .i64 j ∧ j ≤ ks.length ∧ Hid (B.Own wr W4.heap.size 51 5 ptE s7 ((ks.take j).map (pt l))) ∧ Hid (Below W4.heap.size W4 wr)) (fun _ s _ => ks.length - (intOf s).toNat)
  case atStart => exact ⟨0, rfl, Nat.zero_le _, Lib.hid (by rw [List.take_zero]; exact B.Own.nil _ _ _ _ _), Lib.hid (Below.refl _ _)⟩
  case round =>
    obtain ⟨j, rfl, hj, HO, HB⟩ := hrel
    by_cases hlt : j < ks.length
    · obtain ⟨b1, o1, rfl, f0⟩ := str_at (HKS.out.mono HB.out) j hlt
      have hj1 : (j : Int) < ks.length := by omega
      have hkl : ks.length ≤ 5000 := by have := HDL.out; omega
      have HTK : Hid ((ks.take (j + 1)).map (pt l) = (ks.take j).map (pt l) ++ [pt l ks[j]]) := Lib.hid (by rw [List.take_succ_eq_append_getElem hlt, List.map_append]; rfl)
      have HLT : Hid (((ks.take j).map (pt l)).length ≤ 5000) := Lib.hid (by rw [List.length_map, List.length_take]; have := HDL.out; omega)
      have hmem := HDM.out _ (List.getElem_mem hlt)
      have HC0 := Lib.hid (fun (W : World) (hb : Below W4.heap.size W4 W) => ((HTM.out.below hb).cl _ hmem).2.2.1.1)
      have HC1 := Lib.hid (fun (W : World) (hb : Below W4.heap.size W4 W) => ((HTM.out.below hb).cl _ hmem).2.2.2.1)
      have HR1 := Lib.hid (fun (W : World) (hb : Below W4.heap.size W4 W) => B.cell_below hb (HR4.out 1 _ rfl))
      have HR2 := Lib.hid (fun (W : World) (hb : Below W4.heap.size W4 W) => B.cell_below hb (HR4.out 2 _ rfl))
      have HLK := Lib.hid (fun (W : World) (hb : Below W4.heap.size W4 W) => (by have := HLKF.out W hb ks[j]; rw [look_ptrs, if_pos (has_iff.2 hmem), if_neg (by simp), Option.getD_some] at this; unfold ptr at this; exact this : (Instr.lookup 82 (.map (some mb)) (.string ks[j]) false).run Tryz.prog W = .ok (.pointer (some ⟨bk ks[j], 0, none⟩)) W))
      have HL1 := Lib.hid (fun (W : World) => HLOW.out ks[j] W)
      have HL2 := Lib.hid (fun (W : World) => HLOT.out ks[j] W)
      have HCS : Hid ((#[.string ks[j], .int .i64 (Low.low (its l ks[j]).length l.length).1, .int .i64 (Low.low (its l ks[j]).length l.length).2, .int .i64 (Low.low (tot (its l ks[j])).toNat (tot l).toNat).1, .int .i64 (Low.low (tot (its l ks[j])).toNat (tot l).toNat).2] : Array Value).toList = ptE (pt l ks[j])) := Lib.hid rfl
      generalize hpt : pt l ks[j] = PJ at HTK HCS
      generalize ((Low.low (its l ks[j]).length l.length).1 : Int) = x1 at *
      generalize ((Low.low (its l ks[j]).length l.length).2 : Int) = x2 at *
      generalize ((Low.low (tot (its l ks[j])).toNat (tot l).toNat).1 : Int) = x3 at *
      generalize ((Low.low (tot (its l ks[j])).toNat (tot l).toNat).2 : Int) = x4 at *
      generalize ((its l ks[j]).length : Int) = y1 at *
      generalize tot (its l ks[j]) = y2 at *
      generalize (ks.take j).map (pt l) = PS at *
      clear hpt hmem
      generalize ks[j] = k at *
      go_upto_region 9 with (fail)
      refine wp_region_held_drew (S := fun w' => Below W4.heap.size W4 w') (by kernel_rfl) (B.below_drew HB.out 1) (fun hHeld => ?_)
      refine wpAnyH_take (i := 0) (v := ?_) At.at0 (by kernel_rfl) (by kernel_rfl) (by kernel_rfl) (fun _ _ _ h => h) (Or.inl ⟨by rfl, ?_⟩) (by assumption) ?_
      rotate_left
      · (intro w9 hSw; (try dsimp only at hSw); go_simp; try (with_reducible rfl))
      try simp only [Act.put, List.setIfInBounds_toArray, List.set_cons_zero, List.set_cons_succ]
      refine wpAnyH_take (i := 1) (v := ?_) At.at1 (by kernel_rfl) (by kernel_rfl) (by kernel_rfl) (fun _ _ _ h => h) (Or.inl ⟨by rfl, ?_⟩) (by assumption) ?_
      rotate_left
      · (intro w9 hSw; (try dsimp only at hSw); go_simp; try (with_reducible rfl))
      try simp only [Act.put, List.setIfInBounds_toArray, List.set_cons_zero, List.set_cons_succ]
      refine wpAnyH_take (i := 2) (v := ?_) At.at2 (by kernel_rfl) (by kernel_rfl) (by kernel_rfl) (fun _ _ _ h => h) (Or.inl ⟨by rfl, ?_⟩) (by assumption) ?_
      rotate_left
      · (intro w9 hSw; (try dsimp only at hSw); go_simp; try (with_reducible rfl))
      try simp only [Act.put, List.setIfInBounds_toArray, List.set_cons_zero, List.set_cons_succ]
      refine wpAnyH_take (i := 3) (v := ?_) At.at3 (by kernel_rfl) (by kernel_rfl) (by kernel_rfl) (fun _ _ _ h => h) (Or.inl ⟨by rfl, ?_⟩) (by assumption) ?_
      rotate_left
      · (intro w9 hSw; (try dsimp only at hSw); go_simp; try (with_reducible rfl))
      try simp only [Act.put, List.setIfInBounds_toArray, List.set_cons_zero, List.set_cons_succ]
      refine wpAnyH_take (i := 4) (v := ?_) At.at4 (by kernel_rfl) (by kernel_rfl) (by kernel_rfl) (fun _ _ _ h => h) (Or.inl ⟨by rfl, ?_⟩) (by assumption) ?_
      rotate_left
      · (intro w9 hSw; (try dsimp only at hSw); have hlk := HLK.out w9 hSw; go_simp; try (with_reducible rfl))
      try simp only [Act.put, List.setIfInBounds_toArray, List.set_cons_zero, List.set_cons_succ]
      refine wpAnyH_take (i := 5) (v := ?_) At.at5 (by kernel_rfl) (by kernel_rfl) (by kernel_rfl) (fun _ _ _ h => h) (Or.inl ⟨by rfl, ?_⟩) (by assumption) ?_
      rotate_left
      · (intro w9 hSw; (try dsimp only at hSw); go_simp; try (with_reducible rfl))
      try simp only [Act.put, List.setIfInBounds_toArray, List.set_cons_zero, List.set_cons_succ]
      refine wpAnyH_take (i := 6) (v := ?_) At.at6 (by kernel_rfl) (by kernel_rfl) (by kernel_rfl) (fun _ _ _ h => h) (Or.inl ⟨by rfl, ?_⟩) (by assumption) ?_
      rotate_left
      · (intro w9 hSw; (try dsimp only at hSw); go_simp; try (with_reducible rfl))
      try simp only [Act.put, List.setIfInBounds_toArray, List.set_cons_zero, List.set_cons_succ]
      refine wpAnyH_take (i := 7) (v := ?_) At.at7 (by kernel_rfl) (by kernel_rfl) (by kernel_rfl) (fun _ _ _ h => h) (Or.inl ⟨by rfl, ?_⟩) (by assumption) ?_
      rotate_left
      · (intro w9 hSw; (try dsimp only at hSw); have hcc := HC0.out w9 hSw; go_simp; try (with_reducible rfl))
      try simp only [Act.put, List.setIfInBounds_toArray, List.set_cons_zero, List.set_cons_succ]
      refine wpAnyH_take (i := 8) (v := ?_) At.at8 (by kernel_rfl) (by kernel_rfl) (by kernel_rfl) (fun _ _ _ h => h) (Or.inl ⟨by rfl, ?_⟩) (by assumption) ?_
      rotate_left
      · (intro w9 hSw; (try dsimp only at hSw); go_simp; try (with_reducible rfl))
      try simp only [Act.put, List.setIfInBounds_toArray, List.set_cons_zero, List.set_cons_succ]
      refine wpAnyH_take (i := 9) (v := ?_) At.at9 (by kernel_rfl) (by kernel_rfl) (by kernel_rfl) (fun _ _ _ h => h) (Or.inl ⟨by rfl, ?_⟩) (by assumption) ?_
      rotate_left
      · (intro w9 hSw; (try dsimp only at hSw); have hcc := HR1.out w9 hSw; go_simp; try (with_reducible rfl))
      try simp only [Act.put, List.setIfInBounds_toArray, List.set_cons_zero, List.set_cons_succ]
      refine wpAnyH_take (i := 10) (v := ?_) At.at10 (by kernel_rfl) (by kernel_rfl) (by kernel_rfl) (fun _ _ _ h => h) (Or.inl ⟨by rfl, ?_⟩) (by assumption) ?_
      rotate_left
      · (intro w9 hSw; (try dsimp only at hSw); go_simp; try (with_reducible rfl))
      try simp only [Act.put, List.setIfInBounds_toArray, List.set_cons_zero, List.set_cons_succ]
      refine wpAnyH_take (i := 12) (v := ?_) At.at12 (by kernel_rfl) (by kernel_rfl) (by kernel_rfl) (fun _ _ _ h => h) (Or.inl ⟨by rfl, ?_⟩) (by assumption) ?_
      rotate_left
      · (intro w9 hSw; (try dsimp only at hSw); go_simp; try (with_reducible rfl))
      try simp only [Act.put, List.setIfInBounds_toArray, List.set_cons_zero, List.set_cons_succ]
      refine wpAnyH_take (i := 13) (v := ?_) At.at13 (by kernel_rfl) (by kernel_rfl) (by kernel_rfl) (fun _ _ _ h => h) (Or.inl ⟨by rfl, ?_⟩) (by assumption) ?_
      rotate_left
      · (intro w9 hSw; (try dsimp only at hSw); go_simp; try (with_reducible rfl))
      try simp only [Act.put, List.setIfInBounds_toArray, List.set_cons_zero, List.set_cons_succ]
      refine wpAnyH_take (i := 14) (v := ?_) At.at14 (by kernel_rfl) (by kernel_rfl) (by kernel_rfl) (fun _ _ _ h => h) (Or.inl ⟨by rfl, ?_⟩) (by assumption) ?_
      rotate_left
      · (intro w9 hSw; (try dsimp only at hSw); have hlk := HLK.out w9 hSw; go_simp; try (with_reducible rfl))
      try simp only [Act.put, List.setIfInBounds_toArray, List.set_cons_zero, List.set_cons_succ]
      refine wpAnyH_take (i := 15) (v := ?_) At.at15 (by kernel_rfl) (by kernel_rfl) (by kernel_rfl) (fun _ _ _ h => h) (Or.inl ⟨by rfl, ?_⟩) (by assumption) ?_
      rotate_left
      · (intro w9 hSw; (try dsimp only at hSw); go_simp; try (with_reducible rfl))
      try simp only [Act.put, List.setIfInBounds_toArray, List.set_cons_zero, List.set_cons_succ]
      refine wpAnyH_take (i := 16) (v := ?_) At.at16 (by kernel_rfl) (by kernel_rfl) (by kernel_rfl) (fun _ _ _ h => h) (Or.inl ⟨by rfl, ?_⟩) (by assumption) ?_
      rotate_left
      · (intro w9 hSw; (try dsimp only at hSw); go_simp; try (with_reducible rfl))
      try simp only [Act.put, List.setIfInBounds_toArray, List.set_cons_zero, List.set_cons_succ]
      refine wpAnyH_take (i := 17) (v := ?_) At.at17 (by kernel_rfl) (by kernel_rfl) (by kernel_rfl) (fun _ _ _ h => h) (Or.inl ⟨by rfl, ?_⟩) (by assumption) ?_
      rotate_left
      · (intro w9 hSw; (try dsimp only at hSw); have hcc := HC1.out w9 hSw; go_simp; try (with_reducible rfl))
      try simp only [Act.put, List.setIfInBounds_toArray, List.set_cons_zero, List.set_cons_succ]
      refine wpAnyH_take (i := 18) (v := ?_) At.at18 (by kernel_rfl) (by kernel_rfl) (by kernel_rfl) (fun _ _ _ h => h) (Or.inl ⟨by rfl, ?_⟩) (by assumption) ?_
      rotate_left
      · (intro w9 hSw; (try dsimp only at hSw); go_simp; try (with_reducible rfl))
      try simp only [Act.put, List.setIfInBounds_toArray, List.set_cons_zero, List.set_cons_succ]
      refine wpAnyH_take (i := 19) (v := ?_) At.at19 (by kernel_rfl) (by kernel_rfl) (by kernel_rfl) (fun _ _ _ h => h) (Or.inl ⟨by rfl, ?_⟩) (by assumption) ?_
      rotate_left
      · (intro w9 hSw; (try dsimp only at hSw); have hcc := HR2.out w9 hSw; go_simp; try (with_reducible rfl))
      try simp only [Act.put, List.setIfInBounds_toArray, List.set_cons_zero, List.set_cons_succ]
      refine wpAnyH_ready (rs := [11]) (by kernel_rfl) (by simp) ?_
      refine AllReadyH.cons At.at11 (fun K hK => ?_) AllReadyH.nil
      go_simp
      go_at_call 42; refine (HL1.out _).mono ?_; rintro e w5 ⟨rfl, hB5⟩; have HO5 := Lib.hid ((HO.out.drew 1).below hB5); have HB5 := Lib.hid (B.below_trans (w := W4) (B.below_drew HB.out 1) hB5); clear hB5
      go_simp
      refine hK.out _ _ (HB5.out) (fun hHeld => ?_)
      clear hK K
      try simp only [Act.put, List.setIfInBounds_toArray, List.set_cons_zero, List.set_cons_succ]
      refine wpAnyH_ready (rs := [20]) (by kernel_rfl) (by simp) ?_
      refine AllReadyH.cons At.at20 (fun K hK => ?_) AllReadyH.nil
      go_simp
      go_at_call 42; refine (HL2.out _).mono ?_; rintro e w6 ⟨rfl, hB6⟩; have HO6 := Lib.hid (HO5.out.below hB6); have HB6 := Lib.hid (B.below_trans (w := W4) HB5.out hB6); clear hB6
      go_simp
      refine hK.out _ _ (HB6.out) (fun hHeld => ?_)
      clear hK K
      try simp only [Act.put, List.setIfInBounds_toArray, List.set_cons_zero, List.set_cons_succ]
      refine wpAnyH_take (i := 21) (v := ?_) At.at21 (by kernel_rfl) (by kernel_rfl) (by kernel_rfl) (fun _ _ _ h => h) (Or.inl ⟨by rfl, ?_⟩) (by assumption) ?_
      rotate_left
      · (intro w9 hSw; (try dsimp only at hSw); go_simp; try (with_reducible rfl))
      try simp only [Act.put, List.setIfInBounds_toArray, List.set_cons_zero, List.set_cons_succ]
      refine wpAnyH_ready (rs := [22]) (by kernel_rfl) (by simp) ?_
      refine AllReadyH.cons At.at22 (fun K hK => ?_) AllReadyH.nil
      go_simp
      refine hK.out _ _ (HB6.out.alloc HB6.out.size _) (fun hHeld => ?_)
      clear hK K
      try simp only [Act.put, List.setIfInBounds_toArray, List.set_cons_zero, List.set_cons_succ]
      refine wpAnyH_ready (rs := [23]) (by kernel_rfl) (by simp) ?_
      refine AllReadyH.cons At.at23 (fun K hK => ?_) AllReadyH.nil
      refine At.step_append_b (w0 := W4) W4.heap.size rfl _ _ 39 51 (.agg #[.string ⟨#[]⟩, .int .i64 0, .int .i64 0, .int .i64 0, .int .i64 0]) 5 48 rfl Tryz.underlying39 info_pt rfl (by decide) (by decide) ptE (fun _ => rfl) ptE1 _ _ PJ _ HCS.out HO6.out rfl _ rfl rfl HB6.out HB6.out.size (by have := HLT.out; omega) ?_; intro v7 w7 hO7 hB7; have HO7 := Lib.hid hO7; have HB7 := Lib.hid hB7; clear hO7 hB7
      refine hK.out _ _ (HB7.out) (fun hHeld => ?_)
      clear hK K
      try simp only [Act.put, List.setIfInBounds_toArray, List.set_cons_zero, List.set_cons_succ]
      refine wpAnyH_take (i := 24) (v := ?_) At.at24 (by kernel_rfl) (by kernel_rfl) (by kernel_rfl) (fun _ _ _ h => h) (Or.inl ⟨by rfl, ?_⟩) (by assumption) ?_
      rotate_left
      · (intro w9 hSw; (try dsimp only at hSw); go_simp; try (with_reducible rfl))
      try simp only [Act.put, List.setIfInBounds_toArray, List.set_cons_zero, List.set_cons_succ]
      refine wpAnyH_done (by kernel_rfl) ?_ _
      go_wp2
      go_roundw
      case rel => exact ⟨j + 1, by go_num, by omega, by rw [HTK.out]; exact HO7, HB7⟩
      case measure => simp [intOf]; omega
    · obtain rfl : j = ks.length := by omega
      have ho := HO.out
      rw [List.take_length, ← HPE.out] at ho
      obtain ⟨A7, c7, rfl, hC7⟩ := own_pt ho (by rw [HPE.out, List.length_map]; have := HDL.out; omega)
      have HC7 := Lib.hid hC7
      clear ho hC7 HO
      go_wp2
      go_ret2
      exact ⟨⟨A7, c7, rfl, HC7.out⟩, B.below_trans HB4.out HB.out⟩
end Go.Proofs.YtlfobpjefklccaaGreatDoor.Come
