/- Whether a part plays the same in each pass: isPlain, still. Printed by wip/gen/shgen.py. -/
import Derived.Test.YtlfobpjefklccaaDoorShEq
namespace Go.Proofs.YtlfobpjefklccaaDoor.H
open Go.RowKit
open L (Lp row row1 At AtR lv kdL kid_at rowR)
open F (Fr Cl)

theorem plainL_drop {l : List Lp} {k : Nat} (h : k < l.length) : plainL (l.drop k) = (plain l[k] && plainL (l.drop (k + 1))) := by rw [List.drop_eq_getElem_cons h, plainL]
theorem plain_eq (x : Lp) : plain x = ((x.kind != 3) && (x.kind != 4) && plainL x.kids) := by cases x; rfl
def isPlainAt (x : Lp) : Prop := ∀ (R : Nat → Prop) (A As : Option Addr) (c c' : Nat) (w : World), LR R w x A As → Calls Tryd.prog 61 #[lv x A As c c'] w fun e w' => e = .returned (.bool (plain x)) ∧ Below w.heap.size w w'
theorem isPlainclos {x : Lp} (ih : isPlainAt x) (R : Nat → Prop) (A As : Option Addr) (c c' : Nat) (w : World) (h : LR R w x A As) :
    Calls Tryd.prog 82 #[lv x A As c c'] w fun e w' => e = .returned (.bool (!plain x)) ∧ Below w.heap.size w w' := by
  have HA := Lib.hid (fun (c0 : Array Value) (e : TypeId) => (Below.refl _ w).alloc (Nat.le_refl _) (.cells c0 e))
  have cc := fun c0 e => ih R A As c c' _ (h.below (HA.out c0 e))
  clear h ih
  generalize plain x = p at cc ⊢
  unfold lv at cc ⊢
  go_enter Tryd.func82, Tryd.ntmps82
  go_wp2_with (go_at_call 61; refine (cc _ _).mono ?_; rintro e w2 ⟨rfl, hB2⟩)
  go_ret
  exact ⟨rfl, B.below_trans (HA.out _ _) hB2⟩
set_option maxRecDepth 100000 in
theorem isPlainidx (xs : List Lp) (ih : ∀ x ∈ xs, isPlainAt x) (R : Nat → Prop) (A : Option Addr) (c : Nat) (w : World) (h : SR R w A xs) :
    Calls Tryd.prog 63 #[.slice A xs.length c, .func (.func 82) #[] #[]] w fun e w' => (∃ i : Int, e = .returned (.int .i64 i) ∧ decide (0 ≤ i) = !(plainL xs)) ∧ Below w.heap.size w w' := by
  have LX := h.1
  have HH := Lib.hid h
  have HIH := Lib.hid ih
  obtain ⟨P, hP⟩ : ∃ P, plainL xs = P := ⟨_, rfl⟩
  rw [hP]
  have HP := Lib.hid hP
  clear h ih hP
  go_enter Tryd.func63, Tryd.ntmps63
  go_wp2
  go_loopw [8] (fun s wr => ∃ k : Nat, s = .int .i64 k ∧ k ≤ xs.length ∧ Hid (plainL (xs.drop k) = P) ∧ Hid (Below w.heap.size w wr)) (fun s _ => xs.length - (intOf s).toNat)
  case atStart => exact ⟨0, rfl, by omega, Lib.hid (by rw [List.drop_zero]; exact HP.out), Lib.hid (Below.refl _ _)⟩
  case round =>
    obtain ⟨k, rfl, hk, HN, HB⟩ := hrel
    by_cases hlt : k < xs.length
    · obtain ⟨b1, o1, A2, As2, c2, c2', rfl, -, e1, hat⟩ := HH.out.at k hlt
      have f0 := B.cell_below HB.out (e1 0 _ rfl)
      have f1 := B.cell_below HB.out (e1 1 _ rfl)
      have f2 := B.cell_below HB.out (e1 2 _ rfl)
      have f3 := B.cell_below HB.out (e1 3 _ rfl)
      have f4 := B.cell_below HB.out (e1 4 _ rfl)
      have f5 := B.cell_below HB.out (e1 5 _ rfl)
      simp only [Nat.add_zero] at f0
      have hk1 : (k : Int) < xs.length := by omega
      have cc := isPlainclos (HIH.out xs[k] (List.getElem_mem hlt)) R A2 As2 c2 c2' wr (hat.below HB.out)
      unfold lv at cc
      have HN2 := HN.out
      rw [plainL_drop hlt] at HN2
      generalize plain xs[k] = p at cc HN2
      have HN3 := Lib.hid HN2
      clear HN2 HN e1 hat
      cases p with
      | false =>
        have HR2 : Hid (P = false) := Lib.hid (by rw [← HN3.out]; rfl)
        go_wp2_with (go_at_call 82; refine cc.mono ?_; rintro e w2 ⟨rfl, hB5⟩)
        go_ret
        exact ⟨⟨k, rfl, by rw [HR2.out]; simp⟩, B.below_trans HB.out hB5⟩
      | true =>
        have HN4 : Hid (plainL (xs.drop (k + 1)) = P) := Lib.hid (by rw [← HN3.out]; rfl)
        go_wp2_with (go_at_call 82; refine cc.mono ?_; rintro e w2 ⟨rfl, hB5⟩; have HB5 := Lib.hid (B.below_trans HB.out hB5); clear hB5)
        go_roundw
        case rel => exact ⟨k + 1, by go_num, by omega, HN4, HB5⟩
        case measure => simp [intOf]; omega
    · have hkl : k = xs.length := by omega
      have HR2 : Hid (P = true) := Lib.hid (by rw [← HN.out, List.drop_eq_nil_of_le (by omega)]; rfl)
      subst hkl
      go_wp2
      go_ret
      exact ⟨⟨-1, rfl, by rw [HR2.out]; rfl⟩, HB.out⟩
set_option maxRecDepth 100000 in
theorem isPlainany (xs : List Lp) (ih : ∀ x ∈ xs, isPlainAt x) (R : Nat → Prop) (A : Option Addr) (c : Nat) (w : World) (h : SR R w A xs) :
    Calls Tryd.prog 38 #[.slice A xs.length c, .func (.func 82) #[] #[]] w fun e w' => e = .returned (.bool (!(plainL xs))) ∧ Below w.heap.size w w' := by
  have ci := isPlainidx xs ih R A c w h
  generalize plainL xs = r at ci ⊢
  clear h ih
  go_enter Tryd.func38, Tryd.ntmps38
  go_wp2_with (go_at_call 63; refine ci.mono ?_; rintro e w3 ⟨⟨i, rfl, hi⟩, HB⟩; have HI := Lib.hid hi; clear hi)
  go_ret
  exact ⟨by rw [← HI.out]; rfl, HB⟩
set_option maxRecDepth 100000 in
theorem isPlain : ∀ (k : Nat) (x : Lp), parts x ≤ k → isPlainAt x := by
  intro k
  induction k with
  | zero => intro x h; rw [parts_eq] at h; omega
  | succ k ih =>
    intro x hk R A As c c' w h
    have cany := fun W (hb : Below w.heap.size w W) => isPlainany x.kids (fun y hy => ih y (by have := partsL_mem hy; rw [parts_eq] at hk; omega)) R A c W (h.kids.below hb)
    have HA := Lib.hid (fun (c0 : Array Value) (e : TypeId) => (Below.refl _ w).alloc (Nat.le_refl _) (.cells c0 e))
    have HE := Lib.hid (plain_eq x)
    generalize plain x = p at HE ⊢
    generalize plainL x.kids = q at cany HE
    clear h ih hk
    unfold lv
    by_cases h3 : x.kind = 3
    · have b3 : (x.kind != 3) = false := by rw [h3]; rfl
      have HP : Hid (p = false) := Lib.hid (by rw [HE.out, b3]; rfl)
      clear cany HE h3
      go_enter Tryd.func61, Tryd.ntmps61
      go_wp2
      go_ret
      exact ⟨by rw [HP.out]; rfl, HA.out _ _⟩
    · have b3 : (x.kind != 3) = true := bne_iff_ne.2 h3
      by_cases h4 : x.kind = 4
      · have b4 : (x.kind != 4) = false := by rw [h4]; rfl
        have HP : Hid (p = false) := Lib.hid (by rw [HE.out, b4, b3]; rfl)
        clear cany HE h4 h3
        go_enter Tryd.func61, Tryd.ntmps61
        go_wp2
        go_ret
        exact ⟨by rw [HP.out]; rfl, HA.out _ _⟩
      · have b4 : (x.kind != 4) = true := bne_iff_ne.2 h4
        have HP : Hid (p = q) := Lib.hid (by rw [HE.out, b4, b3]; rfl)
        clear HE h4 h3
        go_enter Tryd.func61, Tryd.ntmps61
        go_wp2_with (go_at_call 38; refine (cany _ (HA.out _ _)).mono ?_; rintro e w2 ⟨rfl, hB2⟩)
        go_ret
        exact ⟨by rw [HP.out]; simp, B.below_trans (HA.out _ _) hB2⟩
def stillAt (x : Lp) : Prop := ∀ (R : Nat → Prop) (A As : Option Addr) (c c' : Nat) (w : World), LR R w x A As → Calls Tryd.prog 37 #[lv x A As c c'] w fun e w' => e = .returned (.bool (plain x)) ∧ Below w.heap.size w w'
theorem stillclos {x : Lp} (ih : stillAt x) (R : Nat → Prop) (A As : Option Addr) (c c' : Nat) (w : World) (h : LR R w x A As) :
    Calls Tryd.prog 62 #[lv x A As c c'] w fun e w' => e = .returned (.bool (!plain x)) ∧ Below w.heap.size w w' := by
  have HA := Lib.hid (fun (c0 : Array Value) (e : TypeId) => (Below.refl _ w).alloc (Nat.le_refl _) (.cells c0 e))
  have cc := fun c0 e => ih R A As c c' _ (h.below (HA.out c0 e))
  clear h ih
  generalize plain x = p at cc ⊢
  unfold lv at cc ⊢
  go_enter Tryd.func62, Tryd.ntmps62
  go_wp2_with (go_at_call 37; refine (cc _ _).mono ?_; rintro e w2 ⟨rfl, hB2⟩)
  go_ret
  exact ⟨rfl, B.below_trans (HA.out _ _) hB2⟩
set_option maxRecDepth 100000 in
theorem stillidx (xs : List Lp) (ih : ∀ x ∈ xs, stillAt x) (R : Nat → Prop) (A : Option Addr) (c : Nat) (w : World) (h : SR R w A xs) :
    Calls Tryd.prog 63 #[.slice A xs.length c, .func (.func 62) #[] #[]] w fun e w' => (∃ i : Int, e = .returned (.int .i64 i) ∧ decide (0 ≤ i) = !(plainL xs)) ∧ Below w.heap.size w w' := by
  have LX := h.1
  have HH := Lib.hid h
  have HIH := Lib.hid ih
  obtain ⟨P, hP⟩ : ∃ P, plainL xs = P := ⟨_, rfl⟩
  rw [hP]
  have HP := Lib.hid hP
  clear h ih hP
  go_enter Tryd.func63, Tryd.ntmps63
  go_wp2
  go_loopw [8] (fun s wr => ∃ k : Nat, s = .int .i64 k ∧ k ≤ xs.length ∧ Hid (plainL (xs.drop k) = P) ∧ Hid (Below w.heap.size w wr)) (fun s _ => xs.length - (intOf s).toNat)
  case atStart => exact ⟨0, rfl, by omega, Lib.hid (by rw [List.drop_zero]; exact HP.out), Lib.hid (Below.refl _ _)⟩
  case round =>
    obtain ⟨k, rfl, hk, HN, HB⟩ := hrel
    by_cases hlt : k < xs.length
    · obtain ⟨b1, o1, A2, As2, c2, c2', rfl, -, e1, hat⟩ := HH.out.at k hlt
      have f0 := B.cell_below HB.out (e1 0 _ rfl)
      have f1 := B.cell_below HB.out (e1 1 _ rfl)
      have f2 := B.cell_below HB.out (e1 2 _ rfl)
      have f3 := B.cell_below HB.out (e1 3 _ rfl)
      have f4 := B.cell_below HB.out (e1 4 _ rfl)
      have f5 := B.cell_below HB.out (e1 5 _ rfl)
      simp only [Nat.add_zero] at f0
      have hk1 : (k : Int) < xs.length := by omega
      have cc := stillclos (HIH.out xs[k] (List.getElem_mem hlt)) R A2 As2 c2 c2' wr (hat.below HB.out)
      unfold lv at cc
      have HN2 := HN.out
      rw [plainL_drop hlt] at HN2
      generalize plain xs[k] = p at cc HN2
      have HN3 := Lib.hid HN2
      clear HN2 HN e1 hat
      cases p with
      | false =>
        have HR2 : Hid (P = false) := Lib.hid (by rw [← HN3.out]; rfl)
        go_wp2_with (go_at_call 62; refine cc.mono ?_; rintro e w2 ⟨rfl, hB5⟩)
        go_ret
        exact ⟨⟨k, rfl, by rw [HR2.out]; simp⟩, B.below_trans HB.out hB5⟩
      | true =>
        have HN4 : Hid (plainL (xs.drop (k + 1)) = P) := Lib.hid (by rw [← HN3.out]; rfl)
        go_wp2_with (go_at_call 62; refine cc.mono ?_; rintro e w2 ⟨rfl, hB5⟩; have HB5 := Lib.hid (B.below_trans HB.out hB5); clear hB5)
        go_roundw
        case rel => exact ⟨k + 1, by go_num, by omega, HN4, HB5⟩
        case measure => simp [intOf]; omega
    · have hkl : k = xs.length := by omega
      have HR2 : Hid (P = true) := Lib.hid (by rw [← HN.out, List.drop_eq_nil_of_le (by omega)]; rfl)
      subst hkl
      go_wp2
      go_ret
      exact ⟨⟨-1, rfl, by rw [HR2.out]; rfl⟩, HB.out⟩
set_option maxRecDepth 100000 in
theorem stillany (xs : List Lp) (ih : ∀ x ∈ xs, stillAt x) (R : Nat → Prop) (A : Option Addr) (c : Nat) (w : World) (h : SR R w A xs) :
    Calls Tryd.prog 38 #[.slice A xs.length c, .func (.func 62) #[] #[]] w fun e w' => e = .returned (.bool (!(plainL xs))) ∧ Below w.heap.size w w' := by
  have ci := stillidx xs ih R A c w h
  generalize plainL xs = r at ci ⊢
  clear h ih
  go_enter Tryd.func38, Tryd.ntmps38
  go_wp2_with (go_at_call 63; refine ci.mono ?_; rintro e w3 ⟨⟨i, rfl, hi⟩, HB⟩; have HI := Lib.hid hi; clear hi)
  go_ret
  exact ⟨by rw [← HI.out]; rfl, HB⟩
set_option maxRecDepth 100000 in
theorem still : ∀ (k : Nat) (x : Lp), parts x ≤ k → stillAt x := by
  intro k
  induction k with
  | zero => intro x h; rw [parts_eq] at h; omega
  | succ k ih =>
    intro x hk R A As c c' w h
    have cany := fun W (hb : Below w.heap.size w W) => stillany x.kids (fun y hy => ih y (by have := partsL_mem hy; rw [parts_eq] at hk; omega)) R A c W (h.kids.below hb)
    have HA := Lib.hid (fun (c0 : Array Value) (e : TypeId) => (Below.refl _ w).alloc (Nat.le_refl _) (.cells c0 e))
    have HE := Lib.hid (plain_eq x)
    generalize plain x = p at HE ⊢
    generalize plainL x.kids = q at cany HE
    clear h ih hk
    unfold lv
    by_cases h3 : x.kind = 3
    · have b3 : (x.kind != 3) = false := by rw [h3]; rfl
      have HP : Hid (p = false) := Lib.hid (by rw [HE.out, b3]; rfl)
      clear cany HE h3
      go_enter Tryd.func37, Tryd.ntmps37
      go_wp2
      go_ret
      exact ⟨by rw [HP.out]; rfl, HA.out _ _⟩
    · have b3 : (x.kind != 3) = true := bne_iff_ne.2 h3
      by_cases h4 : x.kind = 4
      · have b4 : (x.kind != 4) = false := by rw [h4]; rfl
        have HP : Hid (p = false) := Lib.hid (by rw [HE.out, b4, b3]; rfl)
        clear cany HE h4 h3
        go_enter Tryd.func37, Tryd.ntmps37
        go_wp2
        go_ret
        exact ⟨by rw [HP.out]; rfl, HA.out _ _⟩
      · have b4 : (x.kind != 4) = true := bne_iff_ne.2 h4
        have HP : Hid (p = q) := Lib.hid (by rw [HE.out, b4, b3]; rfl)
        clear HE h4 h3
        go_enter Tryd.func37, Tryd.ntmps37
        go_wp2_with (go_at_call 38; refine (cany _ (HA.out _ _)).mono ?_; rintro e w2 ⟨rfl, hB2⟩)
        go_ret
        exact ⟨by rw [HP.out]; simp, B.below_trans (HA.out _ _) hB2⟩
end Go.Proofs.YtlfobpjefklccaaDoor.H
