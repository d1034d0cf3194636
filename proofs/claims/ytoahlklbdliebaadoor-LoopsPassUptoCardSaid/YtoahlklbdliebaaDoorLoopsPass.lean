/- signlaw1.loopsPass and LoopsPass answer true: the walks over the contracts. -/
import Derived.Test.YtoahlklbdliebaaDoorLooped
import Derived.Test.YtoahlklbdliebaaDoorOr
import Derived.Test.YtoahlklbdliebaaDoorEqStep
namespace Go.Proofs.YtoahlklbdliebaaDoor.T
open Go.RowKit
open L (Lp row row1 At AtR lv kdL kid_at)
open F (Fr Cl)

theorem eq_steps (A A' : Option Addr) (l : List Step) (c c' : Nat) (w : World) (h1 : stK.C w A l) (h2 : stK.C w A' l) :
    Calls Tryd.prog 16 #[.slice A l.length c, .slice A' l.length c'] w fun e w' => e = .returned (.bool true) ∧ Below w.heap.size w w' :=
  Eq.eq_step _ _ l l w ⟨A, c, rfl, h1⟩ ⟨A', c', rfl, h2⟩ true (decide_eq_true rfl)
set_option maxHeartbeats 4000000 in
set_option maxRecDepth 100000 in
theorem law_any (n : Nat) (x : Lp) (A As : Option Addr) (c c' : Nat) (many : Int) (w : World) (h : At n w x A As) :
    Calls Tryd.prog 6 #[lv x A As c c', .int .i64 many] w fun e w' => e = .returned (.bool true) ∧ Below w.heap.size w w' := by
  have HA := Lib.hid (fun (c : Array Value) (e : TypeId) => (Below.refl _ w).alloc (Nat.le_refl _) (.cells c e))
  have HX0 := Lib.hid (fun (e : TypeId) (W : World) => @L.boxed x A As c c' w W e)
  have c1 := fun W (hb : Below w.heap.size w W) => L.refLoop n x A As c c' W (h.mono hb)
  have c2 := fun W (hb : Below w.heap.size w W) => L.checkLoop n x A As c c' W (h.mono hb)
  have c3 := fun W (hb : Below w.heap.size w W) => passes n x A As c c' many W (h.mono hb)
  have c4 := fun (M : Nat) (hM : many = M) (hl : L.lf (n + 1) x = 0) (h5 : M ≤ 5000) W (hb : Below w.heap.size w W) => passesOf n x A As c c' M W (h.mono hb) hl h5
  have HE : Hid (psE n x many = if L.lf (n + 1) x ≠ 0 then L.lf (n + 1) x else if L.bad many 0 5000 = true then 1 else if 5000 < (tot n x many.toNat).length then 2 else 0) := Lib.hid rfl
  have HL0 : Hid (psE n x many ≠ 0 → psL n x many = []) := Lib.hid (fun h => by rw [psL, if_neg h])
  clear h
  unfold lv at c1 c2 c3 c4 ⊢
  generalize L.lf (n + 1) x = q at *
  by_cases hq : q = 0
  · subst hq
    cases hbd : L.bad many 0 5000 with
    | false =>
      have hbd' : 0 ≤ many ∧ many ≤ 5000 := by simpa [L.bad] using hbd
      obtain ⟨M, rfl⟩ : ∃ M : Nat, many = M := ⟨many.toNat, by omega⟩
      have c4' := c4 M rfl rfl (by omega)
      have hM : M ≤ 5000 := by omega
      have hb1 : decide ((M : Int) < 0) = false := decide_eq_false (by omega)
      have hb2 : decide ((5000 : Int) < (M : Int)) = false := decide_eq_false (by omega)
      generalize psE n x (M : Int) = E at *
      generalize psL n x (M : Int) = PL at *
      clear c4 hbd hbd' HE HL0
      go_enter Tryd.func6, Tryd.ntmps6
      go_wp2_with (first
        | (go_at_call 9; refine (c1 _ (HA.out _ _)).mono ?_; rintro e w1 ⟨rfl, hB1⟩; have HB1 := Lib.hid hB1; clear hB1; obtain ⟨y0, y1, y2, y3, y4, y5⟩ := HX0.out _ _ HB1.out)
        | (go_at_call 11; refine (c2 _ (B.below_trans (HA.out _ _) HB1.out)).mono ?_; rintro e w2 ⟨rfl, hB2⟩; have HB2 := Lib.hid (B.below_trans HB1.out hB2); clear hB2; obtain ⟨z0, z1, z2, z3, z4, z5⟩ := HX0.out _ _ HB2.out)
        | (go_at_call 12; refine (c3 _ (B.below_trans (HA.out _ _) HB2.out)).mono ?_; rintro e w3 ⟨⟨A3, k3, rfl, hC3⟩, hB3⟩; have HB3 := Lib.hid (B.below_trans HB2.out hB3); have HC3 := Lib.hid hC3; clear hB3 hC3)
        | (go_at_call 14; refine (Or.when_any _ _ _).mono ?_; rintro e w3 ⟨rfl, rfl⟩)
        | (go_at_call 13; refine (Or.orOf _ [0, 0] _ (Or.lit_ints _ _ _ _ 2 rfl (by rfl) (show 2 ≤ 140737488355328 by decide))).mono ?_; rintro e w4 ⟨rfl, hB4⟩; have HB4 := Lib.hid (B.below_trans (B.below_trans HB3.out ((Below.refl _ _).alloc (Nat.le_refl _) _)) hB4); have HC4 := Lib.hid ((HC3.out.mono ((Below.refl _ _).alloc (Nat.le_refl _) _)).mono hB4); clear hB4; obtain ⟨v0, v1, v2, v3, v4, v5⟩ := HX0.out _ _ HB4.out)
        | (go_at_call 15; refine (c4' _ (B.below_trans (HA.out _ _) HB4.out)).mono ?_; rintro e w5 ⟨⟨A5, k5, rfl, hC5⟩, hB5⟩; have HB5 := Lib.hid (B.below_trans HB4.out hB5); have HC5 := Lib.hid hC5; have HC6 := Lib.hid (HC4.out.mono hB5); clear hB5 hC5)
        | (go_at_call 16; refine (eq_steps _ _ _ _ _ _ HC6.out HC5.out).mono ?_; rintro e w6 ⟨rfl, hB6⟩; have HB6 := Lib.hid (B.below_trans HB5.out hB6); clear hB6)
        | (go_at_call 17; refine (looped _).mono ?_; rintro e w7 ⟨rfl, hB7⟩; have HB7 := Lib.hid (B.below_trans HB6.out hB7); clear hB7))
      go_ret
      exact ⟨rfl, B.below_trans (HA.out _ _) HB7.out⟩
    | true =>
      have HEE : psE n x many = 1 := by rw [HE.out, if_neg (by simp), if_pos hbd]
      have HLL : psL n x many = [] := HL0.out (by rw [HEE]; decide)
      rw [HEE, HLL] at c3
      have HFN : Hid (Or.firstNZ [0, 1] = 1) := Lib.hid rfl
      have hbd' : many < 0 ∨ 5000 < many := by simpa [L.bad] using hbd
      clear c4 hbd HE HL0 HEE HLL
      by_cases hng : many < 0
      · have hb1 : decide (many < 0) = true := decide_eq_true hng
        clear hng hbd'
        go_enter Tryd.func6, Tryd.ntmps6
        go_wp2_with (first
          | (go_at_call 9; refine (c1 _ (HA.out _ _)).mono ?_; rintro e w1 ⟨rfl, hB1⟩; have HB1 := Lib.hid hB1; clear hB1; obtain ⟨y0, y1, y2, y3, y4, y5⟩ := HX0.out _ _ HB1.out)
          | (go_at_call 11; refine (c2 _ (B.below_trans (HA.out _ _) HB1.out)).mono ?_; rintro e w2 ⟨rfl, hB2⟩; have HB2 := Lib.hid (B.below_trans HB1.out hB2); clear hB2; obtain ⟨z0, z1, z2, z3, z4, z5⟩ := HX0.out _ _ HB2.out)
          | (go_at_call 12; refine (c3 _ (B.below_trans (HA.out _ _) HB2.out)).mono ?_; rintro e w3 ⟨⟨A3, k3, rfl, hC3⟩, hB3⟩; have HB3 := Lib.hid (B.below_trans HB2.out hB3); have HC3 := Lib.hid hC3; clear hB3 hC3)
          | (go_at_call 14; refine (Or.when_any _ _ _).mono ?_; rintro e w3 ⟨rfl, rfl⟩)
          | (go_at_call 13; refine (Or.orOf _ [0, 1] _ (Or.lit_ints _ _ _ _ 2 rfl (by rfl) (show 2 ≤ 140737488355328 by decide))).mono ?_; rintro e w4 ⟨he4, hB4⟩; rw [HFN.out] at he4; obtain rfl := he4; have HB4 := Lib.hid (B.below_trans (B.below_trans HB3.out ((Below.refl _ _).alloc (Nat.le_refl _) _)) hB4); have HC4 := Lib.hid ((HC3.out.mono ((Below.refl _ _).alloc (Nat.le_refl _) _)).mono hB4); clear hB4)
          | (go_at_call 16; refine (eq_steps _ _ [] _ _ _ HC4.out (B.Kd.C_nil _ _ _)).mono ?_; rintro e w6 ⟨rfl, hB6⟩; have HB6 := Lib.hid (B.below_trans HB4.out hB6); clear hB6)
          | (go_at_call 17; refine (looped _).mono ?_; rintro e w7 ⟨rfl, hB7⟩; have HB7 := Lib.hid (B.below_trans HB6.out hB7); clear hB7))
        go_ret
        exact ⟨rfl, B.below_trans (HA.out _ _) HB7.out⟩
      · have hb2 : decide ((5000 : Int) < many) = true := decide_eq_true (by omega)
        have hb1 : decide (many < 0) = false := decide_eq_false hng
        clear hng hbd'
        go_enter Tryd.func6, Tryd.ntmps6
        go_wp2_with (first
          | (go_at_call 9; refine (c1 _ (HA.out _ _)).mono ?_; rintro e w1 ⟨rfl, hB1⟩; have HB1 := Lib.hid hB1; clear hB1; obtain ⟨y0, y1, y2, y3, y4, y5⟩ := HX0.out _ _ HB1.out)
          | (go_at_call 11; refine (c2 _ (B.below_trans (HA.out _ _) HB1.out)).mono ?_; rintro e w2 ⟨rfl, hB2⟩; have HB2 := Lib.hid (B.below_trans HB1.out hB2); clear hB2; obtain ⟨z0, z1, z2, z3, z4, z5⟩ := HX0.out _ _ HB2.out)
          | (go_at_call 12; refine (c3 _ (B.below_trans (HA.out _ _) HB2.out)).mono ?_; rintro e w3 ⟨⟨A3, k3, rfl, hC3⟩, hB3⟩; have HB3 := Lib.hid (B.below_trans HB2.out hB3); have HC3 := Lib.hid hC3; clear hB3 hC3)
          | (go_at_call 14; refine (Or.when_any _ _ _).mono ?_; rintro e w3 ⟨rfl, rfl⟩)
          | (go_at_call 13; refine (Or.orOf _ [0, 1] _ (Or.lit_ints _ _ _ _ 2 rfl (by rfl) (show 2 ≤ 140737488355328 by decide))).mono ?_; rintro e w4 ⟨he4, hB4⟩; rw [HFN.out] at he4; obtain rfl := he4; have HB4 := Lib.hid (B.below_trans (B.below_trans HB3.out ((Below.refl _ _).alloc (Nat.le_refl _) _)) hB4); have HC4 := Lib.hid ((HC3.out.mono ((Below.refl _ _).alloc (Nat.le_refl _) _)).mono hB4); clear hB4)
          | (go_at_call 16; refine (eq_steps _ _ [] _ _ _ HC4.out (B.Kd.C_nil _ _ _)).mono ?_; rintro e w6 ⟨rfl, hB6⟩; have HB6 := Lib.hid (B.below_trans HB4.out hB6); clear hB6)
          | (go_at_call 17; refine (looped _).mono ?_; rintro e w7 ⟨rfl, hB7⟩; have HB7 := Lib.hid (B.below_trans HB6.out hB7); clear hB7))
        go_ret
        exact ⟨rfl, B.below_trans (HA.out _ _) HB7.out⟩
  · have HEE : psE n x many = q := by rw [HE.out, if_pos hq]
    have HLL : psL n x many = [] := HL0.out (by rw [HEE]; exact hq)
    rw [HEE, HLL] at c3
    have hq0 : (q == 0) = false := by rw [beq_eq_false_iff_ne]; exact hq
    have HFN : Hid (∀ b : Int, Or.firstNZ [q, b] = q) := Lib.hid (fun b => by unfold Or.firstNZ; rw [if_pos hq])
    clear c4 HE HL0 HEE HLL hq
    by_cases hng : many < 0
    · have hb1 : decide (many < 0) = true := decide_eq_true hng
      clear hng
      go_enter Tryd.func6, Tryd.ntmps6
      go_wp2_with (first
        | (go_at_call 9; refine (c1 _ (HA.out _ _)).mono ?_; rintro e w1 ⟨rfl, hB1⟩; have HB1 := Lib.hid hB1; clear hB1; obtain ⟨y0, y1, y2, y3, y4, y5⟩ := HX0.out _ _ HB1.out)
        | (go_at_call 11; refine (c2 _ (B.below_trans (HA.out _ _) HB1.out)).mono ?_; rintro e w2 ⟨rfl, hB2⟩; have HB2 := Lib.hid (B.below_trans HB1.out hB2); clear hB2; obtain ⟨z0, z1, z2, z3, z4, z5⟩ := HX0.out _ _ HB2.out)
        | (go_at_call 12; refine (c3 _ (B.below_trans (HA.out _ _) HB2.out)).mono ?_; rintro e w3 ⟨⟨A3, k3, rfl, hC3⟩, hB3⟩; have HB3 := Lib.hid (B.below_trans HB2.out hB3); have HC3 := Lib.hid hC3; clear hB3 hC3)
        | (go_at_call 14; refine (Or.when_any _ _ _).mono ?_; rintro e w3 ⟨rfl, rfl⟩)
        | (go_at_call 13; refine (Or.orOf _ [q, 1] _ (Or.lit_ints _ _ _ _ 2 rfl (by rfl) (show 2 ≤ 140737488355328 by decide))).mono ?_; rintro e w4 ⟨he4, hB4⟩; rw [HFN.out] at he4; obtain rfl := he4; have HB4 := Lib.hid (B.below_trans (B.below_trans HB3.out ((Below.refl _ _).alloc (Nat.le_refl _) _)) hB4); have HC4 := Lib.hid ((HC3.out.mono ((Below.refl _ _).alloc (Nat.le_refl _) _)).mono hB4); clear hB4)
        | (go_at_call 16; refine (eq_steps _ _ [] _ _ _ HC4.out (B.Kd.C_nil _ _ _)).mono ?_; rintro e w6 ⟨rfl, hB6⟩; have HB6 := Lib.hid (B.below_trans HB4.out hB6); clear hB6)
        | (go_at_call 17; refine (looped _).mono ?_; rintro e w7 ⟨rfl, hB7⟩; have HB7 := Lib.hid (B.below_trans HB6.out hB7); clear hB7))
      go_ret
      exact ⟨rfl, B.below_trans (HA.out _ _) HB7.out⟩
    · have hb1 : decide (many < 0) = false := decide_eq_false hng
      by_cases hgt : 5000 < many
      · have hb2 : decide ((5000 : Int) < many) = true := decide_eq_true hgt
        clear hng hgt
        go_enter Tryd.func6, Tryd.ntmps6
        go_wp2_with (first
          | (go_at_call 9; refine (c1 _ (HA.out _ _)).mono ?_; rintro e w1 ⟨rfl, hB1⟩; have HB1 := Lib.hid hB1; clear hB1; obtain ⟨y0, y1, y2, y3, y4, y5⟩ := HX0.out _ _ HB1.out)
          | (go_at_call 11; refine (c2 _ (B.below_trans (HA.out _ _) HB1.out)).mono ?_; rintro e w2 ⟨rfl, hB2⟩; have HB2 := Lib.hid (B.below_trans HB1.out hB2); clear hB2; obtain ⟨z0, z1, z2, z3, z4, z5⟩ := HX0.out _ _ HB2.out)
          | (go_at_call 12; refine (c3 _ (B.below_trans (HA.out _ _) HB2.out)).mono ?_; rintro e w3 ⟨⟨A3, k3, rfl, hC3⟩, hB3⟩; have HB3 := Lib.hid (B.below_trans HB2.out hB3); have HC3 := Lib.hid hC3; clear hB3 hC3)
          | (go_at_call 14; refine (Or.when_any _ _ _).mono ?_; rintro e w3 ⟨rfl, rfl⟩)
          | (go_at_call 13; refine (Or.orOf _ [q, 1] _ (Or.lit_ints _ _ _ _ 2 rfl (by rfl) (show 2 ≤ 140737488355328 by decide))).mono ?_; rintro e w4 ⟨he4, hB4⟩; rw [HFN.out] at he4; obtain rfl := he4; have HB4 := Lib.hid (B.below_trans (B.below_trans HB3.out ((Below.refl _ _).alloc (Nat.le_refl _) _)) hB4); have HC4 := Lib.hid ((HC3.out.mono ((Below.refl _ _).alloc (Nat.le_refl _) _)).mono hB4); clear hB4)
          | (go_at_call 16; refine (eq_steps _ _ [] _ _ _ HC4.out (B.Kd.C_nil _ _ _)).mono ?_; rintro e w6 ⟨rfl, hB6⟩; have HB6 := Lib.hid (B.below_trans HB4.out hB6); clear hB6)
          | (go_at_call 17; refine (looped _).mono ?_; rintro e w7 ⟨rfl, hB7⟩; have HB7 := Lib.hid (B.below_trans HB6.out hB7); clear hB7))
        go_ret
        exact ⟨rfl, B.below_trans (HA.out _ _) HB7.out⟩
      · have hb2 : decide ((5000 : Int) < many) = false := decide_eq_false hgt
        clear hng hgt
        go_enter Tryd.func6, Tryd.ntmps6
        go_wp2_with (first
          | (go_at_call 9; refine (c1 _ (HA.out _ _)).mono ?_; rintro e w1 ⟨rfl, hB1⟩; have HB1 := Lib.hid hB1; clear hB1; obtain ⟨y0, y1, y2, y3, y4, y5⟩ := HX0.out _ _ HB1.out)
          | (go_at_call 11; refine (c2 _ (B.below_trans (HA.out _ _) HB1.out)).mono ?_; rintro e w2 ⟨rfl, hB2⟩; have HB2 := Lib.hid (B.below_trans HB1.out hB2); clear hB2; obtain ⟨z0, z1, z2, z3, z4, z5⟩ := HX0.out _ _ HB2.out)
          | (go_at_call 12; refine (c3 _ (B.below_trans (HA.out _ _) HB2.out)).mono ?_; rintro e w3 ⟨⟨A3, k3, rfl, hC3⟩, hB3⟩; have HB3 := Lib.hid (B.below_trans HB2.out hB3); have HC3 := Lib.hid hC3; clear hB3 hC3)
          | (go_at_call 14; refine (Or.when_any _ _ _).mono ?_; rintro e w3 ⟨rfl, rfl⟩)
          | (go_at_call 13; refine (Or.orOf _ [q, 0] _ (Or.lit_ints _ _ _ _ 2 rfl (by rfl) (show 2 ≤ 140737488355328 by decide))).mono ?_; rintro e w4 ⟨he4, hB4⟩; rw [HFN.out] at he4; obtain rfl := he4; have HB4 := Lib.hid (B.below_trans (B.below_trans HB3.out ((Below.refl _ _).alloc (Nat.le_refl _) _)) hB4); have HC4 := Lib.hid ((HC3.out.mono ((Below.refl _ _).alloc (Nat.le_refl _) _)).mono hB4); clear hB4)
          | (go_at_call 16; refine (eq_steps _ _ [] _ _ _ HC4.out (B.Kd.C_nil _ _ _)).mono ?_; rintro e w6 ⟨rfl, hB6⟩; have HB6 := Lib.hid (B.below_trans HB4.out hB6); clear hB6)
          | (go_at_call 17; refine (looped _).mono ?_; rintro e w7 ⟨rfl, hB7⟩; have HB7 := Lib.hid (B.below_trans HB6.out hB7); clear hB7))
        go_ret
        exact ⟨rfl, B.below_trans (HA.out _ _) HB7.out⟩
set_option maxHeartbeats 4000000 in
set_option maxRecDepth 100000 in
theorem loopsPass (n : Nat) (x : Lp) (A As : Option Addr) (c c' : Nat) (many : Int) (w : World) (h : At n w x A As) :
    Calls Tryd.prog 3 #[lv x A As c c', .int .i64 many] w fun e w' => e = .returned (.bool true) ∧ Below w.heap.size w w' := by
  have HA := Lib.hid (fun (c : Array Value) (e : TypeId) => (Below.refl _ w).alloc (Nat.le_refl _) (.cells c e))
  have HX0 := Lib.hid (fun (e : TypeId) (W : World) => @L.boxed x A As c c' w W e)
  have c1 := fun W (hb : Below w.heap.size w W) => L.copyLoop n x A As c c' W (h.mono hb)
  have c2 := fun W (hb : Below w.heap.size w W) => law_any n x A As c c' many W (h.mono hb)
  have c3 := fun A' As' d d' W (hb : Below w.heap.size w W) (h' : At n W x A' As') => L.staysLoop n x A As A' As' c c' d d' W (h.mono hb) h'
  clear h
  unfold lv at c1 c2 c3 ⊢
  go_enter Tryd.func3, Tryd.ntmps3
  go_wp2_with (first
    | (go_at_call 5; refine (c1 _ (HA.out _ _)).mono ?_; rintro e w1 ⟨A1, As1, d1, d1', rfl, hat, hB1⟩; have HB1 := Lib.hid hB1; have HAT := Lib.hid hat; clear hB1 hat; have HY := Lib.hid (fun o => HX0.out _ _ (HB1.out.trans (((Below.refl _ w1).alloc (Nat.le_refl _) o).mono HB1.out.size))); have y0 := fun o => (HY.out o).1; have y1 := fun o => (HY.out o).2.1; have y2 := fun o => (HY.out o).2.2.1; have y3 := fun o => (HY.out o).2.2.2.1; have y4 := fun o => (HY.out o).2.2.2.2.1; have y5 := fun o => (HY.out o).2.2.2.2.2; have HBX := Lib.hid (fun o => B.below_trans (B.below_trans (HA.out _ _) HB1.out) ((Below.refl _ w1).alloc (Nat.le_refl _) o)))
    | (go_at_call 6; refine (c2 _ (HBX.out _)).mono ?_; rintro e w2 ⟨rfl, hB2⟩; have HB2 := Lib.hid hB2; clear hB2; have HZ := HX0.out _ _ (HB1.out.trans ((B.below_trans ((Below.refl _ w1).alloc (Nat.le_refl _) _) HB2.out).mono HB1.out.size)); obtain ⟨z0, z1, z2, z3, z4, z5⟩ := HZ; obtain ⟨v0, v1, v2, v3, v4, v5⟩ := L.boxed HB2.out)
    | (go_at_call 7; refine (c3 _ _ _ _ _ (B.below_trans (HBX.out _) HB2.out) ((HAT.out.mono ((Below.refl _ w1).alloc (Nat.le_refl _) _)).mono HB2.out)).mono ?_; rintro e w3 ⟨rfl, hB3⟩))
  go_ret
  exact ⟨rfl, B.below_trans (B.below_trans (HBX.out _) HB2.out) hB3⟩
end Go.Proofs.YtoahlklbdliebaaDoor.T
