/- signlaw1.playsSpread and PlaysSpread answer true. Printed by wip/gen/spreadlawgen.py. -/
import Derived.Test.YtlfobpjefklccaaGreatDoorSprB
import Derived.Test.YtlfobpjefklccaaGreatDoorNears
import Derived.Test.YtlfobpjefklccaaGreatDoorEqs
import Derived.Test.YtlfobpjefklccaaGreatDoorLpStay
import Derived.Test.YtlfobpjefklccaaGreatDoorLooped
import Derived.Deep.Cut
namespace Go.Proofs.YtlfobpjefklccaaGreatDoor.Come
open Go.RowKit
open L (Lp At lv)
open T (Step stK steps_at lng roundM rE rL rP RdRes)

theorem rE_bad2 {q : Int} {R : Option (Nat × List Step)} (h : rE q R ≠ 0) : rP q R = 0 ∧ rL q R = [] := by
  unfold rE at h
  unfold rP rL
  by_cases hq : q = 0
  · rw [if_neg (by simpa using hq)] at h ⊢
    rw [if_neg (by simpa using hq)]
    cases R with
    | none => exact ⟨rfl, rfl⟩
    | some r => exact absurd rfl h
  · rw [if_pos hq, if_pos hq]; exact ⟨rfl, rfl⟩
theorem rE_ok2 {q : Int} {R : Option (Nat × List Step)} (h : rE q R = 0) : q = 0 ∧ ∃ p l, R = some (p, l) := by
  unfold rE at h
  by_cases hq : q = 0
  · rw [if_neg (by simpa using hq)] at h
    cases R with
    | none => exact absurd h (by decide)
    | some r => exact ⟨hq, r.1, r.2, rfl⟩
  · rw [if_pos hq] at h; exact absurd h hq
set_option maxHeartbeats 8000000 in
set_option maxRecDepth 100000 in
theorem spl_bad_bad (n : Nat) (x : Lp) (A As : Option Addr) (c c' : Nat) (Aw : Option Addr) (cw : Nat) (ws : List Wn.Wt) (hk : ∀ f ∈ ws, f.1.size ≤ 9223372036854775807) (w : World) (h : At n w x A As) (hW : Wn.wnK.C w Aw ws) (hE : rE (L.lf (n + 1) x) (roundM n x) ≠ 0) (hF : Wn.fault ws ≠ 0) :
    Calls Tryz.prog 9 #[lv x A As c c', .slice Aw ws.length cw] w fun e w' => e = .returned (.bool true) ∧ Below w.heap.size w w' := by
  have HA := Lib.hid (fun (c : Array Value) (e : TypeId) => (Below.refl _ w).alloc (Nat.le_refl _) (.cells c e))
  have HX0 := Lib.hid (fun (e : TypeId) (W : World) => @L.boxed x A As c c' w W e)
  have C2 := Lib.hid (fun W (hb : Below w.heap.size w W) => nearest_bad n x A As c c' W (h.mono hb) hE)
  have C3 := Lib.hid (fun W (hb : Below w.heap.size w W) => T.rounded_any n x A As c c' W (h.mono hb))
  have HWS := Lib.hid (fun W (hb : Below w.heap.size w W) => (⟨Aw, cw, rfl, hW.mono hb⟩ : Wn.wnK.S W (.slice Aw ws.length cw) ws))
  have C4 := Lib.hid (fun W (hb : Below w.heap.size w W) => Wn.wantedFault (.slice Aw ws.length cw) ws hk W (HWS.out W hb))
  have C5 := Lib.hid (fun W (hb : Below w.heap.size w W) => Wn.checkCounts (.slice Aw ws.length cw) ws hk W (HWS.out W hb))
  have C6 := Lib.hid (fun W (hb : Below w.heap.size w W) => Sp.spread_bad (.slice Aw ws.length cw) ws hk W (HWS.out W hb) hF)
  have hF0 : (Wn.fault ws == 0) = false := by rw [beq_eq_false_iff_ne]; exact hF
  have hF1 : (Wn.fault ws != 0) = true := bne_iff_ne.2 hF
  generalize Wn.fault ws = F at *
  obtain ⟨e1, e2⟩ := rE_bad2 hE
  rw [e1, e2] at C3
  have hE0 : (rE (L.lf (n + 1) x) (roundM n x) == 0) = false := by rw [beq_eq_false_iff_ne]; exact hE
  have hE1 : (rE (L.lf (n + 1) x) (roundM n x) != 0) = true := bne_iff_ne.2 hE
  generalize rE (L.lf (n + 1) x) (roundM n x) = E at *
  clear e1 e2 hE h hk hW hF HWS
  unfold lv at C2 C3 ⊢
  go_enter Tryz.func9, Tryz.ntmps9
  go_upto_region 1 with (fail)
  have HB0 : Hid (Below (w.alloc (.cells #[.int .i64 x.kind, .string x.item, .int .i64 x.long, .int .i64 x.many, .slice A x.kids.length c, .slice As x.shares.length c'] 25)).heap.size (w.alloc (.cells #[.int .i64 x.kind, .string x.item, .int .i64 x.long, .int .i64 x.many, .slice A x.kids.length c, .slice As x.shares.length c'] 25)) (w.alloc (.cells #[.int .i64 x.kind, .string x.item, .int .i64 x.long, .int .i64 x.many, .slice A x.kids.length c, .slice As x.shares.length c'] 25))) := Lib.hid (Below.refl _ _)
  obtain ⟨y0, y1, y2, y3, y4, y5⟩ := HX0.out _ _ HB0.out
  have c2 := C2.out _ (B.below_trans (HA.out _ _) HB0.out)
  go_upto_region 2 with (go_at_call 28; refine c2.mono ?_; rintro e w2 ⟨⟨A2, k2, rfl, hC2⟩, hB2⟩; have HC2 := Lib.hid hC2; have HB2 := Lib.hid (B.below_trans HB0.out hB2); clear hB2 hC2)
  clear c2 C2
  clear y0 y1 y2 y3 y4 y5
  obtain ⟨y0, y1, y2, y3, y4, y5⟩ := HX0.out _ _ HB2.out
  have c3 := C3.out _ (B.below_trans (HA.out _ _) HB2.out)
  go_upto_region 3 with (go_at_call 15; refine c3.mono ?_; rintro e w3 ⟨⟨A3, k3, rfl, hC3⟩, hB3⟩; have HC3 := Lib.hid hC3; have HB3 := Lib.hid (B.below_trans HB2.out hB3); have HP3 := Lib.hid (HC2.out.mono hB3); clear hB3 hC3)
  clear c3 C3 y0 y1 y2 y3 y4 y5
  have HW5 := Lib.hid (B.below_trans (HA.out _ _) HB3.out)
  go_upto_region 5 with (fail)
  have c4 := C4.out _ HW5.out
  go_upto_region 6 with (go_at_call 30; refine c4.mono ?_; rintro e w6 ⟨rfl, hB6⟩; have HW6 := Lib.hid (B.below_trans HW5.out hB6); clear hB6)
  have c5 := C5.out _ HW6.out
  go_upto_region 8 with (go_at_call 31; refine c5.mono ?_; rintro e w7 ⟨rfl, hB7⟩; have HW7 := Lib.hid (B.below_trans HW6.out hB7); clear hB7)
  clear c4 c5 C4 C5
  have c6 := C6.out _ HW7.out
  go_wp2_with (first
    | (go_at_call 32; refine c6.mono ?_; rintro e w8 ⟨rfl, hB8⟩; have HW8 := Lib.hid (B.below_trans HW7.out hB8); clear hB8)
    | (go_at_call 25; refine (T.looped _).mono ?_; rintro e w11 ⟨rfl, hB11⟩))
  go_ret
  exact ⟨rfl, B.below_trans HW8.out hB11⟩
set_option maxHeartbeats 8000000 in
set_option maxRecDepth 100000 in
theorem spl_bad_none (n : Nat) (x : Lp) (A As : Option Addr) (c c' : Nat) (Aw : Option Addr) (cw : Nat) (ws : List Wn.Wt) (hk : ∀ f ∈ ws, f.1.size ≤ 9223372036854775807) (w : World) (h : At n w x A As) (hW : Wn.wnK.C w Aw ws) (hE : rE (L.lf (n + 1) x) (roundM n x) ≠ 0) (hF : Wn.fault ws = 0) (hR : Sp.sr ws (Sp.sm (ws.map (·.2.1))).toNat (ws.map (·.2.1)) (List.replicate ws.length 0) = none) :
    Calls Tryz.prog 9 #[lv x A As c c', .slice Aw ws.length cw] w fun e w' => e = .returned (.bool true) ∧ Below w.heap.size w w' := by
  have HA := Lib.hid (fun (c : Array Value) (e : TypeId) => (Below.refl _ w).alloc (Nat.le_refl _) (.cells c e))
  have HX0 := Lib.hid (fun (e : TypeId) (W : World) => @L.boxed x A As c c' w W e)
  have C2 := Lib.hid (fun W (hb : Below w.heap.size w W) => nearest_bad n x A As c c' W (h.mono hb) hE)
  have C3 := Lib.hid (fun W (hb : Below w.heap.size w W) => T.rounded_any n x A As c c' W (h.mono hb))
  have HWS := Lib.hid (fun W (hb : Below w.heap.size w W) => (⟨Aw, cw, rfl, hW.mono hb⟩ : Wn.wnK.S W (.slice Aw ws.length cw) ws))
  have C4 := Lib.hid (fun W (hb : Below w.heap.size w W) => Wn.wantedFault (.slice Aw ws.length cw) ws hk W (HWS.out W hb))
  have C5 := Lib.hid (fun W (hb : Below w.heap.size w W) => Wn.checkCounts (.slice Aw ws.length cw) ws hk W (HWS.out W hb))
  have C6 := Lib.hid (fun W (hb : Below w.heap.size w W) => Sp.spread_ok (.slice Aw ws.length cw) ws hk W (HWS.out W hb) hF)
  have C7 := Lib.hid (fun W (hb : Below w.heap.size w W) => Sp.spreadOf (.slice Aw ws.length cw) ws W (HWS.out W hb) hF)
  rw [hF] at C4 C5
  rw [hR] at C6 C7
  clear hR
  obtain ⟨e1, e2⟩ := rE_bad2 hE
  rw [e1, e2] at C3
  have hE0 : (rE (L.lf (n + 1) x) (roundM n x) == 0) = false := by rw [beq_eq_false_iff_ne]; exact hE
  have hE1 : (rE (L.lf (n + 1) x) (roundM n x) != 0) = true := bne_iff_ne.2 hE
  generalize rE (L.lf (n + 1) x) (roundM n x) = E at *
  clear e1 e2 hE h hk hW hF HWS
  unfold lv at C2 C3 ⊢
  go_enter Tryz.func9, Tryz.ntmps9
  go_upto_region 1 with (fail)
  have HB0 : Hid (Below (w.alloc (.cells #[.int .i64 x.kind, .string x.item, .int .i64 x.long, .int .i64 x.many, .slice A x.kids.length c, .slice As x.shares.length c'] 25)).heap.size (w.alloc (.cells #[.int .i64 x.kind, .string x.item, .int .i64 x.long, .int .i64 x.many, .slice A x.kids.length c, .slice As x.shares.length c'] 25)) (w.alloc (.cells #[.int .i64 x.kind, .string x.item, .int .i64 x.long, .int .i64 x.many, .slice A x.kids.length c, .slice As x.shares.length c'] 25))) := Lib.hid (Below.refl _ _)
  obtain ⟨y0, y1, y2, y3, y4, y5⟩ := HX0.out _ _ HB0.out
  have c2 := C2.out _ (B.below_trans (HA.out _ _) HB0.out)
  go_upto_region 2 with (go_at_call 28; refine c2.mono ?_; rintro e w2 ⟨⟨A2, k2, rfl, hC2⟩, hB2⟩; have HC2 := Lib.hid hC2; have HB2 := Lib.hid (B.below_trans HB0.out hB2); clear hB2 hC2)
  clear c2 C2
  clear y0 y1 y2 y3 y4 y5
  obtain ⟨y0, y1, y2, y3, y4, y5⟩ := HX0.out _ _ HB2.out
  have c3 := C3.out _ (B.below_trans (HA.out _ _) HB2.out)
  go_upto_region 3 with (go_at_call 15; refine c3.mono ?_; rintro e w3 ⟨⟨A3, k3, rfl, hC3⟩, hB3⟩; have HC3 := Lib.hid hC3; have HB3 := Lib.hid (B.below_trans HB2.out hB3); have HP3 := Lib.hid (HC2.out.mono hB3); clear hB3 hC3)
  clear c3 C3 y0 y1 y2 y3 y4 y5
  have HW5 := Lib.hid (B.below_trans (HA.out _ _) HB3.out)
  go_upto_region 5 with (fail)
  have c4 := C4.out _ HW5.out
  go_upto_region 6 with (go_at_call 30; refine c4.mono ?_; rintro e w6 ⟨rfl, hB6⟩; have HW6 := Lib.hid (B.below_trans HW5.out hB6); clear hB6)
  have c5 := C5.out _ HW6.out
  go_upto_region 8 with (go_at_call 31; refine c5.mono ?_; rintro e w7 ⟨rfl, hB7⟩; have HW7 := Lib.hid (B.below_trans HW6.out hB7); clear hB7)
  clear c4 c5 C4 C5
  have c6 := C6.out _ HW7.out
  go_upto_region 11 with (go_at_call 32; refine c6.mono ?_; rintro e w8 ⟨rfl, hB8⟩; have HW8 := Lib.hid (B.below_trans HW7.out hB8); clear hB8)
  clear c6 C6
  have c7 := C7.out _ HW8.out
  go_wp2_with (first
    | (go_at_call 33; refine c7.mono ?_; rintro e w9 ⟨rfl, hB9⟩; have HW9 := Lib.hid (B.below_trans HW8.out hB9); clear hB9)
    | (go_at_call 34; refine (Eq.eq_str _ _ [] [] _ ⟨none, 0, rfl, B.Kd.C_nil _ _ _⟩ ⟨none, 0, rfl, B.Kd.C_nil _ _ _⟩ true (decide_eq_true rfl)).mono ?_; rintro e w10 ⟨rfl, hB10⟩; have HW10 := Lib.hid (B.below_trans HW9.out hB10); clear hB10)
    | (go_at_call 25; refine (T.looped _).mono ?_; rintro e w11 ⟨rfl, hB11⟩))
  go_ret
  exact ⟨rfl, B.below_trans HW10.out hB11⟩
set_option maxHeartbeats 8000000 in
set_option maxRecDepth 100000 in
theorem spl_bad_some (n : Nat) (x : Lp) (A As : Option Addr) (c c' : Nat) (Aw : Option Addr) (cw : Nat) (ws : List Wn.Wt) (hk : ∀ f ∈ ws, f.1.size ≤ 9223372036854775807) (w : World) (h : At n w x A As) (hW : Wn.wnK.C w Aw ws) (hE : rE (L.lf (n + 1) x) (roundM n x) ≠ 0) (hF : Wn.fault ws = 0) (r : List ByteArray) (hR : Sp.sr ws (Sp.sm (ws.map (·.2.1))).toNat (ws.map (·.2.1)) (List.replicate ws.length 0) = some r) :
    Calls Tryz.prog 9 #[lv x A As c c', .slice Aw ws.length cw] w fun e w' => e = .returned (.bool true) ∧ Below w.heap.size w w' := by
  have HA := Lib.hid (fun (c : Array Value) (e : TypeId) => (Below.refl _ w).alloc (Nat.le_refl _) (.cells c e))
  have HX0 := Lib.hid (fun (e : TypeId) (W : World) => @L.boxed x A As c c' w W e)
  have C2 := Lib.hid (fun W (hb : Below w.heap.size w W) => nearest_bad n x A As c c' W (h.mono hb) hE)
  have C3 := Lib.hid (fun W (hb : Below w.heap.size w W) => T.rounded_any n x A As c c' W (h.mono hb))
  have HWS := Lib.hid (fun W (hb : Below w.heap.size w W) => (⟨Aw, cw, rfl, hW.mono hb⟩ : Wn.wnK.S W (.slice Aw ws.length cw) ws))
  have C4 := Lib.hid (fun W (hb : Below w.heap.size w W) => Wn.wantedFault (.slice Aw ws.length cw) ws hk W (HWS.out W hb))
  have C5 := Lib.hid (fun W (hb : Below w.heap.size w W) => Wn.checkCounts (.slice Aw ws.length cw) ws hk W (HWS.out W hb))
  have C6 := Lib.hid (fun W (hb : Below w.heap.size w W) => Sp.spread_ok (.slice Aw ws.length cw) ws hk W (HWS.out W hb) hF)
  have C7 := Lib.hid (fun W (hb : Below w.heap.size w W) => Sp.spreadOf (.slice Aw ws.length cw) ws W (HWS.out W hb) hF)
  rw [hF] at C4 C5
  rw [hR] at C6 C7
  clear hR
  obtain ⟨e1, e2⟩ := rE_bad2 hE
  rw [e1, e2] at C3
  have hE0 : (rE (L.lf (n + 1) x) (roundM n x) == 0) = false := by rw [beq_eq_false_iff_ne]; exact hE
  have hE1 : (rE (L.lf (n + 1) x) (roundM n x) != 0) = true := bne_iff_ne.2 hE
  generalize rE (L.lf (n + 1) x) (roundM n x) = E at *
  clear e1 e2 hE h hk hW hF HWS
  unfold lv at C2 C3 ⊢
  go_enter Tryz.func9, Tryz.ntmps9
  go_upto_region 1 with (fail)
  have HB0 : Hid (Below (w.alloc (.cells #[.int .i64 x.kind, .string x.item, .int .i64 x.long, .int .i64 x.many, .slice A x.kids.length c, .slice As x.shares.length c'] 25)).heap.size (w.alloc (.cells #[.int .i64 x.kind, .string x.item, .int .i64 x.long, .int .i64 x.many, .slice A x.kids.length c, .slice As x.shares.length c'] 25)) (w.alloc (.cells #[.int .i64 x.kind, .string x.item, .int .i64 x.long, .int .i64 x.many, .slice A x.kids.length c, .slice As x.shares.length c'] 25))) := Lib.hid (Below.refl _ _)
  obtain ⟨y0, y1, y2, y3, y4, y5⟩ := HX0.out _ _ HB0.out
  have c2 := C2.out _ (B.below_trans (HA.out _ _) HB0.out)
  go_upto_region 2 with (go_at_call 28; refine c2.mono ?_; rintro e w2 ⟨⟨A2, k2, rfl, hC2⟩, hB2⟩; have HC2 := Lib.hid hC2; have HB2 := Lib.hid (B.below_trans HB0.out hB2); clear hB2 hC2)
  clear c2 C2
  clear y0 y1 y2 y3 y4 y5
  obtain ⟨y0, y1, y2, y3, y4, y5⟩ := HX0.out _ _ HB2.out
  have c3 := C3.out _ (B.below_trans (HA.out _ _) HB2.out)
  go_upto_region 3 with (go_at_call 15; refine c3.mono ?_; rintro e w3 ⟨⟨A3, k3, rfl, hC3⟩, hB3⟩; have HC3 := Lib.hid hC3; have HB3 := Lib.hid (B.below_trans HB2.out hB3); have HP3 := Lib.hid (HC2.out.mono hB3); clear hB3 hC3)
  clear c3 C3 y0 y1 y2 y3 y4 y5
  have HW5 := Lib.hid (B.below_trans (HA.out _ _) HB3.out)
  go_upto_region 5 with (fail)
  have c4 := C4.out _ HW5.out
  go_upto_region 6 with (go_at_call 30; refine c4.mono ?_; rintro e w6 ⟨rfl, hB6⟩; have HW6 := Lib.hid (B.below_trans HW5.out hB6); clear hB6)
  have c5 := C5.out _ HW6.out
  go_upto_region 8 with (go_at_call 31; refine c5.mono ?_; rintro e w7 ⟨rfl, hB7⟩; have HW7 := Lib.hid (B.below_trans HW6.out hB7); clear hB7)
  clear c4 c5 C4 C5
  have c6 := C6.out _ HW7.out
  go_upto_region 11 with (go_at_call 32; refine c6.mono ?_; rintro e w8 ⟨⟨A8, k8, rfl, hC8⟩, hB8⟩; have HC8 := Lib.hid hC8; clear hC8; have HW8 := Lib.hid (B.below_trans HW7.out hB8); clear hB8)
  clear c6 C6
  have c7 := C7.out _ HW8.out
  go_wp2_with (first
    | (go_at_call 33; refine c7.mono ?_; rintro e w9 ⟨⟨A9, k9, rfl, hC9⟩, hB9⟩; have HC9 := Lib.hid hC9; have HD9 := Lib.hid (HC8.out.mono hB9); clear hC9; have HW9 := Lib.hid (B.below_trans HW8.out hB9); clear hB9)
    | (go_at_call 34; refine (Eq.eq_str _ _ r r _ ⟨_, _, rfl, HD9.out⟩ ⟨_, _, rfl, HC9.out⟩ true (decide_eq_true rfl)).mono ?_; rintro e w10 ⟨rfl, hB10⟩; have HW10 := Lib.hid (B.below_trans HW9.out hB10); clear hB10)
    | (go_at_call 25; refine (T.looped _).mono ?_; rintro e w11 ⟨rfl, hB11⟩))
  go_ret
  exact ⟨rfl, B.below_trans HW10.out hB11⟩
set_option maxHeartbeats 8000000 in
set_option maxRecDepth 100000 in
theorem spl_ok_bad (n : Nat) (x : Lp) (A As : Option Addr) (c c' : Nat) (Aw : Option Addr) (cw : Nat) (ws : List Wn.Wt) (hk : ∀ f ∈ ws, f.1.size ≤ 9223372036854775807) (w : World) (h : At n w x A As) (hW : Wn.wnK.C w Aw ws) (hq : L.lf (n + 1) x = 0) (p : Nat) (l : List Step) (hr : roundM n x = some (p, l)) (hF : Wn.fault ws ≠ 0) :
    Calls Tryz.prog 9 #[lv x A As c c', .slice Aw ws.length cw] w fun e w' => e = .returned (.bool true) ∧ Below w.heap.size w w' := by
  have HA := Lib.hid (fun (c : Array Value) (e : TypeId) => (Below.refl _ w).alloc (Nat.le_refl _) (.cells c e))
  have HX0 := Lib.hid (fun (e : TypeId) (W : World) => @L.boxed x A As c c' w W e)
  have C2 := Lib.hid (fun W (hb : Below w.heap.size w W) => nearest_ok n x A As c c' W (h.mono hb) hq p l hr)
  have C3 := Lib.hid (fun W (hb : Below w.heap.size w W) => T.rounded_any n x A As c c' W (h.mono hb))
  have HWS := Lib.hid (fun W (hb : Below w.heap.size w W) => (⟨Aw, cw, rfl, hW.mono hb⟩ : Wn.wnK.S W (.slice Aw ws.length cw) ws))
  have C4 := Lib.hid (fun W (hb : Below w.heap.size w W) => Wn.wantedFault (.slice Aw ws.length cw) ws hk W (HWS.out W hb))
  have C5 := Lib.hid (fun W (hb : Below w.heap.size w W) => Wn.checkCounts (.slice Aw ws.length cw) ws hk W (HWS.out W hb))
  have C6 := Lib.hid (fun W (hb : Below w.heap.size w W) => Sp.spread_bad (.slice Aw ws.length cw) ws hk W (HWS.out W hb) hF)
  have hF0 : (Wn.fault ws == 0) = false := by rw [beq_eq_false_iff_ne]; exact hF
  have hF1 : (Wn.fault ws != 0) = true := bne_iff_ne.2 hF
  generalize Wn.fault ws = F at *
  obtain ⟨hok, hn, hl, hlng⟩ := round_ok h hq hr
  rw [hq, hr] at C3
  rw [show rP 0 (some (p, l)) = p from rfl, show rL 0 (some (p, l)) = l from rfl, show rE 0 (some (p, l)) = 0 from rfl] at C3
  have C8 := Lib.hid (fun (A : Option Addr) (c : Nat) (W : World) (hC : stK.C W A l) => nearestOf A c l W hC hok hn hl)
  generalize nws l = PL at *
  clear hok hn hl hlng hq hr h hk hW hF HWS
  unfold lv at C2 C3 ⊢
  go_enter Tryz.func9, Tryz.ntmps9
  go_upto_region 1 with (fail)
  have HB0 : Hid (Below (w.alloc (.cells #[.int .i64 x.kind, .string x.item, .int .i64 x.long, .int .i64 x.many, .slice A x.kids.length c, .slice As x.shares.length c'] 25)).heap.size (w.alloc (.cells #[.int .i64 x.kind, .string x.item, .int .i64 x.long, .int .i64 x.many, .slice A x.kids.length c, .slice As x.shares.length c'] 25)) (w.alloc (.cells #[.int .i64 x.kind, .string x.item, .int .i64 x.long, .int .i64 x.many, .slice A x.kids.length c, .slice As x.shares.length c'] 25))) := Lib.hid (Below.refl _ _)
  obtain ⟨y0, y1, y2, y3, y4, y5⟩ := HX0.out _ _ HB0.out
  have c2 := C2.out _ (B.below_trans (HA.out _ _) HB0.out)
  go_upto_region 2 with (go_at_call 28; refine c2.mono ?_; rintro e w2 ⟨⟨A2, k2, rfl, hC2⟩, hB2⟩; have HC2 := Lib.hid hC2; have HB2 := Lib.hid (B.below_trans HB0.out hB2); clear hB2 hC2)
  clear c2 C2
  clear y0 y1 y2 y3 y4 y5
  obtain ⟨y0, y1, y2, y3, y4, y5⟩ := HX0.out _ _ HB2.out
  have c3 := C3.out _ (B.below_trans (HA.out _ _) HB2.out)
  go_upto_region 3 with (go_at_call 15; refine c3.mono ?_; rintro e w3 ⟨⟨A3, k3, rfl, hC3⟩, hB3⟩; have HC3 := Lib.hid hC3; have HB3 := Lib.hid (B.below_trans HB2.out hB3); have HP3 := Lib.hid (HC2.out.mono hB3); clear hB3 hC3)
  clear c3 C3 y0 y1 y2 y3 y4 y5
  have HW3 := Lib.hid (B.below_trans (HA.out _ _) HB3.out)
  go_upto_region 5 with (first
    | (go_at_call 29; refine (C8.out _ _ _ HC3.out).mono ?_; rintro e w4 ⟨⟨A4, k4, rfl, hC4⟩, hB4⟩; have HC4 := Lib.hid hC4; have HP4 := Lib.hid (HP3.out.mono hB4); have HW4 := Lib.hid (B.below_trans HW3.out hB4); clear hB4 hC4)
    | (go_at_call 10; refine (Eq.eq_wn _ _ PL PL _ ⟨_, _, rfl, HP4.out⟩ ⟨_, _, rfl, HC4.out⟩ true (decide_eq_true rfl)).mono ?_; rintro e w5 ⟨rfl, hB5⟩; have HW5 := Lib.hid (B.below_trans HW4.out hB5); clear hB5))
  have c4 := C4.out _ HW5.out
  go_upto_region 6 with (go_at_call 30; refine c4.mono ?_; rintro e w6 ⟨rfl, hB6⟩; have HW6 := Lib.hid (B.below_trans HW5.out hB6); clear hB6)
  have c5 := C5.out _ HW6.out
  go_upto_region 8 with (go_at_call 31; refine c5.mono ?_; rintro e w7 ⟨rfl, hB7⟩; have HW7 := Lib.hid (B.below_trans HW6.out hB7); clear hB7)
  clear c4 c5 C4 C5
  have c6 := C6.out _ HW7.out
  go_wp2_with (first
    | (go_at_call 32; refine c6.mono ?_; rintro e w8 ⟨rfl, hB8⟩; have HW8 := Lib.hid (B.below_trans HW7.out hB8); clear hB8)
    | (go_at_call 25; refine (T.looped _).mono ?_; rintro e w11 ⟨rfl, hB11⟩))
  go_ret
  exact ⟨rfl, B.below_trans HW8.out hB11⟩
set_option maxHeartbeats 8000000 in
set_option maxRecDepth 100000 in
theorem spl_ok_none (n : Nat) (x : Lp) (A As : Option Addr) (c c' : Nat) (Aw : Option Addr) (cw : Nat) (ws : List Wn.Wt) (hk : ∀ f ∈ ws, f.1.size ≤ 9223372036854775807) (w : World) (h : At n w x A As) (hW : Wn.wnK.C w Aw ws) (hq : L.lf (n + 1) x = 0) (p : Nat) (l : List Step) (hr : roundM n x = some (p, l)) (hF : Wn.fault ws = 0) (hR : Sp.sr ws (Sp.sm (ws.map (·.2.1))).toNat (ws.map (·.2.1)) (List.replicate ws.length 0) = none) :
    Calls Tryz.prog 9 #[lv x A As c c', .slice Aw ws.length cw] w fun e w' => e = .returned (.bool true) ∧ Below w.heap.size w w' := by
  have HA := Lib.hid (fun (c : Array Value) (e : TypeId) => (Below.refl _ w).alloc (Nat.le_refl _) (.cells c e))
  have HX0 := Lib.hid (fun (e : TypeId) (W : World) => @L.boxed x A As c c' w W e)
  have C2 := Lib.hid (fun W (hb : Below w.heap.size w W) => nearest_ok n x A As c c' W (h.mono hb) hq p l hr)
  have C3 := Lib.hid (fun W (hb : Below w.heap.size w W) => T.rounded_any n x A As c c' W (h.mono hb))
  have HWS := Lib.hid (fun W (hb : Below w.heap.size w W) => (⟨Aw, cw, rfl, hW.mono hb⟩ : Wn.wnK.S W (.slice Aw ws.length cw) ws))
  have C4 := Lib.hid (fun W (hb : Below w.heap.size w W) => Wn.wantedFault (.slice Aw ws.length cw) ws hk W (HWS.out W hb))
  have C5 := Lib.hid (fun W (hb : Below w.heap.size w W) => Wn.checkCounts (.slice Aw ws.length cw) ws hk W (HWS.out W hb))
  have C6 := Lib.hid (fun W (hb : Below w.heap.size w W) => Sp.spread_ok (.slice Aw ws.length cw) ws hk W (HWS.out W hb) hF)
  have C7 := Lib.hid (fun W (hb : Below w.heap.size w W) => Sp.spreadOf (.slice Aw ws.length cw) ws W (HWS.out W hb) hF)
  rw [hF] at C4 C5
  rw [hR] at C6 C7
  clear hR
  obtain ⟨hok, hn, hl, hlng⟩ := round_ok h hq hr
  rw [hq, hr] at C3
  rw [show rP 0 (some (p, l)) = p from rfl, show rL 0 (some (p, l)) = l from rfl, show rE 0 (some (p, l)) = 0 from rfl] at C3
  have C8 := Lib.hid (fun (A : Option Addr) (c : Nat) (W : World) (hC : stK.C W A l) => nearestOf A c l W hC hok hn hl)
  generalize nws l = PL at *
  clear hok hn hl hlng hq hr h hk hW hF HWS
  unfold lv at C2 C3 ⊢
  go_enter Tryz.func9, Tryz.ntmps9
  go_upto_region 1 with (fail)
  have HB0 : Hid (Below (w.alloc (.cells #[.int .i64 x.kind, .string x.item, .int .i64 x.long, .int .i64 x.many, .slice A x.kids.length c, .slice As x.shares.length c'] 25)).heap.size (w.alloc (.cells #[.int .i64 x.kind, .string x.item, .int .i64 x.long, .int .i64 x.many, .slice A x.kids.length c, .slice As x.shares.length c'] 25)) (w.alloc (.cells #[.int .i64 x.kind, .string x.item, .int .i64 x.long, .int .i64 x.many, .slice A x.kids.length c, .slice As x.shares.length c'] 25))) := Lib.hid (Below.refl _ _)
  obtain ⟨y0, y1, y2, y3, y4, y5⟩ := HX0.out _ _ HB0.out
  have c2 := C2.out _ (B.below_trans (HA.out _ _) HB0.out)
  go_upto_region 2 with (go_at_call 28; refine c2.mono ?_; rintro e w2 ⟨⟨A2, k2, rfl, hC2⟩, hB2⟩; have HC2 := Lib.hid hC2; have HB2 := Lib.hid (B.below_trans HB0.out hB2); clear hB2 hC2)
  clear c2 C2
  clear y0 y1 y2 y3 y4 y5
  obtain ⟨y0, y1, y2, y3, y4, y5⟩ := HX0.out _ _ HB2.out
  have c3 := C3.out _ (B.below_trans (HA.out _ _) HB2.out)
  go_upto_region 3 with (go_at_call 15; refine c3.mono ?_; rintro e w3 ⟨⟨A3, k3, rfl, hC3⟩, hB3⟩; have HC3 := Lib.hid hC3; have HB3 := Lib.hid (B.below_trans HB2.out hB3); have HP3 := Lib.hid (HC2.out.mono hB3); clear hB3 hC3)
  clear c3 C3 y0 y1 y2 y3 y4 y5
  have HW3 := Lib.hid (B.below_trans (HA.out _ _) HB3.out)
  go_upto_region 5 with (first
    | (go_at_call 29; refine (C8.out _ _ _ HC3.out).mono ?_; rintro e w4 ⟨⟨A4, k4, rfl, hC4⟩, hB4⟩; have HC4 := Lib.hid hC4; have HP4 := Lib.hid (HP3.out.mono hB4); have HW4 := Lib.hid (B.below_trans HW3.out hB4); clear hB4 hC4)
    | (go_at_call 10; refine (Eq.eq_wn _ _ PL PL _ ⟨_, _, rfl, HP4.out⟩ ⟨_, _, rfl, HC4.out⟩ true (decide_eq_true rfl)).mono ?_; rintro e w5 ⟨rfl, hB5⟩; have HW5 := Lib.hid (B.below_trans HW4.out hB5); clear hB5))
  have c4 := C4.out _ HW5.out
  go_upto_region 6 with (go_at_call 30; refine c4.mono ?_; rintro e w6 ⟨rfl, hB6⟩; have HW6 := Lib.hid (B.below_trans HW5.out hB6); clear hB6)
  have c5 := C5.out _ HW6.out
  go_upto_region 8 with (go_at_call 31; refine c5.mono ?_; rintro e w7 ⟨rfl, hB7⟩; have HW7 := Lib.hid (B.below_trans HW6.out hB7); clear hB7)
  clear c4 c5 C4 C5
  have c6 := C6.out _ HW7.out
  go_upto_region 11 with (go_at_call 32; refine c6.mono ?_; rintro e w8 ⟨rfl, hB8⟩; have HW8 := Lib.hid (B.below_trans HW7.out hB8); clear hB8)
  clear c6 C6
  have c7 := C7.out _ HW8.out
  go_wp2_with (first
    | (go_at_call 33; refine c7.mono ?_; rintro e w9 ⟨rfl, hB9⟩; have HW9 := Lib.hid (B.below_trans HW8.out hB9); clear hB9)
    | (go_at_call 34; refine (Eq.eq_str _ _ [] [] _ ⟨none, 0, rfl, B.Kd.C_nil _ _ _⟩ ⟨none, 0, rfl, B.Kd.C_nil _ _ _⟩ true (decide_eq_true rfl)).mono ?_; rintro e w10 ⟨rfl, hB10⟩; have HW10 := Lib.hid (B.below_trans HW9.out hB10); clear hB10)
    | (go_at_call 25; refine (T.looped _).mono ?_; rintro e w11 ⟨rfl, hB11⟩))
  go_ret
  exact ⟨rfl, B.below_trans HW10.out hB11⟩
set_option maxHeartbeats 8000000 in
set_option maxRecDepth 100000 in
theorem spl_ok_some (n : Nat) (x : Lp) (A As : Option Addr) (c c' : Nat) (Aw : Option Addr) (cw : Nat) (ws : List Wn.Wt) (hk : ∀ f ∈ ws, f.1.size ≤ 9223372036854775807) (w : World) (h : At n w x A As) (hW : Wn.wnK.C w Aw ws) (hq : L.lf (n + 1) x = 0) (p : Nat) (l : List Step) (hr : roundM n x = some (p, l)) (hF : Wn.fault ws = 0) (r : List ByteArray) (hR : Sp.sr ws (Sp.sm (ws.map (·.2.1))).toNat (ws.map (·.2.1)) (List.replicate ws.length 0) = some r) :
    Calls Tryz.prog 9 #[lv x A As c c', .slice Aw ws.length cw] w fun e w' => e = .returned (.bool true) ∧ Below w.heap.size w w' := by
  have HA := Lib.hid (fun (c : Array Value) (e : TypeId) => (Below.refl _ w).alloc (Nat.le_refl _) (.cells c e))
  have HX0 := Lib.hid (fun (e : TypeId) (W : World) => @L.boxed x A As c c' w W e)
  have C2 := Lib.hid (fun W (hb : Below w.heap.size w W) => nearest_ok n x A As c c' W (h.mono hb) hq p l hr)
  have C3 := Lib.hid (fun W (hb : Below w.heap.size w W) => T.rounded_any n x A As c c' W (h.mono hb))
  have HWS := Lib.hid (fun W (hb : Below w.heap.size w W) => (⟨Aw, cw, rfl, hW.mono hb⟩ : Wn.wnK.S W (.slice Aw ws.length cw) ws))
  have C4 := Lib.hid (fun W (hb : Below w.heap.size w W) => Wn.wantedFault (.slice Aw ws.length cw) ws hk W (HWS.out W hb))
  have C5 := Lib.hid (fun W (hb : Below w.heap.size w W) => Wn.checkCounts (.slice Aw ws.length cw) ws hk W (HWS.out W hb))
  have C6 := Lib.hid (fun W (hb : Below w.heap.size w W) => Sp.spread_ok (.slice Aw ws.length cw) ws hk W (HWS.out W hb) hF)
  have C7 := Lib.hid (fun W (hb : Below w.heap.size w W) => Sp.spreadOf (.slice Aw ws.length cw) ws W (HWS.out W hb) hF)
  rw [hF] at C4 C5
  rw [hR] at C6 C7
  clear hR
  obtain ⟨hok, hn, hl, hlng⟩ := round_ok h hq hr
  rw [hq, hr] at C3
  rw [show rP 0 (some (p, l)) = p from rfl, show rL 0 (some (p, l)) = l from rfl, show rE 0 (some (p, l)) = 0 from rfl] at C3
  have C8 := Lib.hid (fun (A : Option Addr) (c : Nat) (W : World) (hC : stK.C W A l) => nearestOf A c l W hC hok hn hl)
  generalize nws l = PL at *
  clear hok hn hl hlng hq hr h hk hW hF HWS
  unfold lv at C2 C3 ⊢
  go_enter Tryz.func9, Tryz.ntmps9
  go_upto_region 1 with (fail)
  have HB0 : Hid (Below (w.alloc (.cells #[.int .i64 x.kind, .string x.item, .int .i64 x.long, .int .i64 x.many, .slice A x.kids.length c, .slice As x.shares.length c'] 25)).heap.size (w.alloc (.cells #[.int .i64 x.kind, .string x.item, .int .i64 x.long, .int .i64 x.many, .slice A x.kids.length c, .slice As x.shares.length c'] 25)) (w.alloc (.cells #[.int .i64 x.kind, .string x.item, .int .i64 x.long, .int .i64 x.many, .slice A x.kids.length c, .slice As x.shares.length c'] 25))) := Lib.hid (Below.refl _ _)
  obtain ⟨y0, y1, y2, y3, y4, y5⟩ := HX0.out _ _ HB0.out
  have c2 := C2.out _ (B.below_trans (HA.out _ _) HB0.out)
  go_upto_region 2 with (go_at_call 28; refine c2.mono ?_; rintro e w2 ⟨⟨A2, k2, rfl, hC2⟩, hB2⟩; have HC2 := Lib.hid hC2; have HB2 := Lib.hid (B.below_trans HB0.out hB2); clear hB2 hC2)
  clear c2 C2
  clear y0 y1 y2 y3 y4 y5
  obtain ⟨y0, y1, y2, y3, y4, y5⟩ := HX0.out _ _ HB2.out
  have c3 := C3.out _ (B.below_trans (HA.out _ _) HB2.out)
  go_upto_region 3 with (go_at_call 15; refine c3.mono ?_; rintro e w3 ⟨⟨A3, k3, rfl, hC3⟩, hB3⟩; have HC3 := Lib.hid hC3; have HB3 := Lib.hid (B.below_trans HB2.out hB3); have HP3 := Lib.hid (HC2.out.mono hB3); clear hB3 hC3)
  clear c3 C3 y0 y1 y2 y3 y4 y5
  have HW3 := Lib.hid (B.below_trans (HA.out _ _) HB3.out)
  go_upto_region 5 with (first
    | (go_at_call 29; refine (C8.out _ _ _ HC3.out).mono ?_; rintro e w4 ⟨⟨A4, k4, rfl, hC4⟩, hB4⟩; have HC4 := Lib.hid hC4; have HP4 := Lib.hid (HP3.out.mono hB4); have HW4 := Lib.hid (B.below_trans HW3.out hB4); clear hB4 hC4)
    | (go_at_call 10; refine (Eq.eq_wn _ _ PL PL _ ⟨_, _, rfl, HP4.out⟩ ⟨_, _, rfl, HC4.out⟩ true (decide_eq_true rfl)).mono ?_; rintro e w5 ⟨rfl, hB5⟩; have HW5 := Lib.hid (B.below_trans HW4.out hB5); clear hB5))
  have c4 := C4.out _ HW5.out
  go_upto_region 6 with (go_at_call 30; refine c4.mono ?_; rintro e w6 ⟨rfl, hB6⟩; have HW6 := Lib.hid (B.below_trans HW5.out hB6); clear hB6)
  have c5 := C5.out _ HW6.out
  go_upto_region 8 with (go_at_call 31; refine c5.mono ?_; rintro e w7 ⟨rfl, hB7⟩; have HW7 := Lib.hid (B.below_trans HW6.out hB7); clear hB7)
  clear c4 c5 C4 C5
  have c6 := C6.out _ HW7.out
  go_upto_region 11 with (go_at_call 32; refine c6.mono ?_; rintro e w8 ⟨⟨A8, k8, rfl, hC8⟩, hB8⟩; have HC8 := Lib.hid hC8; clear hC8; have HW8 := Lib.hid (B.below_trans HW7.out hB8); clear hB8)
  clear c6 C6
  have c7 := C7.out _ HW8.out
  go_wp2_with (first
    | (go_at_call 33; refine c7.mono ?_; rintro e w9 ⟨⟨A9, k9, rfl, hC9⟩, hB9⟩; have HC9 := Lib.hid hC9; have HD9 := Lib.hid (HC8.out.mono hB9); clear hC9; have HW9 := Lib.hid (B.below_trans HW8.out hB9); clear hB9)
    | (go_at_call 34; refine (Eq.eq_str _ _ r r _ ⟨_, _, rfl, HD9.out⟩ ⟨_, _, rfl, HC9.out⟩ true (decide_eq_true rfl)).mono ?_; rintro e w10 ⟨rfl, hB10⟩; have HW10 := Lib.hid (B.below_trans HW9.out hB10); clear hB10)
    | (go_at_call 25; refine (T.looped _).mono ?_; rintro e w11 ⟨rfl, hB11⟩))
  go_ret
  exact ⟨rfl, B.below_trans HW10.out hB11⟩
theorem spl_any (n : Nat) (x : Lp) (A As : Option Addr) (c c' : Nat) (Aw : Option Addr) (cw : Nat) (ws : List Wn.Wt) (hk : ∀ f ∈ ws, f.1.size ≤ 9223372036854775807) (w : World) (h : At n w x A As) (hW : Wn.wnK.C w Aw ws) :
    Calls Tryz.prog 9 #[lv x A As c c', .slice Aw ws.length cw] w fun e w' => e = .returned (.bool true) ∧ Below w.heap.size w w' := by
  by_cases hE : rE (L.lf (n + 1) x) (roundM n x) = 0
  · obtain ⟨hq, p, l, hr⟩ := rE_ok2 hE
    by_cases hF : Wn.fault ws = 0
    · cases hR : Sp.sr ws (Sp.sm (ws.map (·.2.1))).toNat (ws.map (·.2.1)) (List.replicate ws.length 0) with
      | none => exact spl_ok_none n x A As c c' Aw cw ws hk w h hW hq p l hr hF hR
      | some r => exact spl_ok_some n x A As c c' Aw cw ws hk w h hW hq p l hr hF r hR
    · exact spl_ok_bad n x A As c c' Aw cw ws hk w h hW hq p l hr hF
  · by_cases hF : Wn.fault ws = 0
    · cases hR : Sp.sr ws (Sp.sm (ws.map (·.2.1))).toNat (ws.map (·.2.1)) (List.replicate ws.length 0) with
      | none => exact spl_bad_none n x A As c c' Aw cw ws hk w h hW hE hF hR
      | some r => exact spl_bad_some n x A As c c' Aw cw ws hk w h hW hE hF r hR
    · exact spl_bad_bad n x A As c c' Aw cw ws hk w h hW hE hF
set_option maxHeartbeats 4000000 in
set_option maxRecDepth 100000 in
theorem playsSpread (n : Nat) (x : Lp) (A As : Option Addr) (c c' : Nat) (Aw : Option Addr) (cw : Nat) (ws : List Wn.Wt) (hk : ∀ f ∈ ws, f.1.size ≤ 9223372036854775807) (w : World) (h : At n w x A As) (hW : Wn.wnK.C w Aw ws) (hl : ws.length ≤ 1048576) :
    Calls Tryz.prog 4 #[lv x A As c c', .slice Aw ws.length cw] w fun e w' => e = .returned (.bool true) ∧ Below w.heap.size w w' := by
  have HA := Lib.hid (fun (c : Array Value) (e : TypeId) => (Below.refl _ w).alloc (Nat.le_refl _) (.cells c e))
  have HX0 := Lib.hid (fun (e : TypeId) (W : World) => @L.boxed x A As c c' w W e)
  have c1 := fun W (hb : Below w.heap.size w W) => L.copyLoop n x A As c c' W (h.mono hb)
  have c2 := fun W (hb : Below w.heap.size w W) => spl_any n x A As c c' Aw cw ws hk W (h.mono hb) (hW.mono hb)
  have c3 := fun A' As' d d' W (hb : Below w.heap.size w W) (h' : At n W x A' As') => L.staysLoop n x A As A' As' c c' d d' W (h.mono hb) h'
  have HWS := Lib.hid (fun W (hb : Below w.heap.size w W) => (⟨Aw, cw, rfl, hW.mono hb⟩ : Wn.wnK.S W (.slice Aw ws.length cw) ws))
  have c4 := fun W (hb : Below w.heap.size w W) => Wn.clone_wn (.slice Aw ws.length cw) ws W (HWS.out W hb) hl
  clear h hk hW
  unfold lv at c1 c2 c3 ⊢
  go_enter Tryz.func4, Tryz.ntmps4
  go_wp2_with (first
    | (go_at_call 5; refine (c1 _ (HA.out _ _)).mono ?_; rintro e w1 ⟨A1, As1, d1, d1', rfl, hat, hB1⟩; have HB1 := Lib.hid hB1; have HAT := Lib.hid hat; clear hB1 hat)
    | (go_at_call 8; refine (c4 _ (B.below_trans (HA.out _ _) HB1.out)).mono ?_; rintro e w2 ⟨v2, rfl, hO, hBc⟩; obtain ⟨Av, cv, rfl, hCv⟩ := own_wn hO (Nat.le_trans hl (by decide)); have HCV := Lib.hid hCv; have HAT2 := Lib.hid (HAT.out.mono hBc); have HB2 := Lib.hid (B.below_trans HB1.out hBc); clear hO hCv hBc; have HY := Lib.hid (fun o => HX0.out _ _ (HB2.out.trans (((Below.refl _ w2).alloc (Nat.le_refl _) o).mono HB2.out.size))); have y0 := fun o => (HY.out o).1; have y1 := fun o => (HY.out o).2.1; have y2 := fun o => (HY.out o).2.2.1; have y3 := fun o => (HY.out o).2.2.2.1; have y4 := fun o => (HY.out o).2.2.2.2.1; have y5 := fun o => (HY.out o).2.2.2.2.2; have HBX := Lib.hid (fun o => B.below_trans (B.below_trans (HA.out _ _) HB2.out) ((Below.refl _ w2).alloc (Nat.le_refl _) o)))
    | (go_at_call 9; refine (c2 _ (HBX.out _)).mono ?_; rintro e w3 ⟨rfl, hB3⟩; have HB3 := Lib.hid hB3; clear hB3; have HZ := HX0.out _ _ (HB2.out.trans ((B.below_trans ((Below.refl _ w2).alloc (Nat.le_refl _) _) HB3.out).mono HB2.out.size)); obtain ⟨z0, z1, z2, z3, z4, z5⟩ := HZ; obtain ⟨v0, v1, v2, v3, v4, v5⟩ := L.boxed HB3.out)
    | (go_at_call 7; refine (c3 _ _ _ _ _ (B.below_trans (HBX.out _) HB3.out) ((HAT2.out.mono ((Below.refl _ w2).alloc (Nat.le_refl _) _)).mono HB3.out)).mono ?_; rintro e w4 ⟨rfl, hB4⟩; have HB4 := Lib.hid hB4; clear hB4)
    | (go_at_call 10; refine (Eq.eq_wn _ _ ws ws _ (HWS.out _ (B.below_trans (B.below_trans (HBX.out _) HB3.out) HB4.out)) ⟨_, _, rfl, ((HCV.out.mono ((Below.refl _ w2).alloc (Nat.le_refl _) _)).mono HB3.out).mono HB4.out⟩ true (decide_eq_true rfl)).mono ?_; rintro e w5 ⟨rfl, hB5⟩))
  go_ret
  exact ⟨rfl, B.below_trans (B.below_trans (B.below_trans (HBX.out _) HB3.out) HB4.out) hB5⟩
end Go.Proofs.YtlfobpjefklccaaGreatDoor.Come
