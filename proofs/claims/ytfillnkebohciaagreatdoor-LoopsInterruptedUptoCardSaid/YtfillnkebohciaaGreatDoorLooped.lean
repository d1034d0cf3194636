/- checked, Round; and the law's looped. -/
import Derived.Test.YtfillnkebohciaaGreatDoorRound
namespace Go.Proofs.YtfillnkebohciaaGreatDoor.T
open Go.RowKit
open L (Lp row row1 At AtR lv kdL kid_at)
open F (Fr Cl)

/-- A round, or an error, of a loop that is checked. -/
def ResC (q : Int) (R : Option (Nat × List Step)) (e : Ending) (w' : World) : Prop := if q ≠ 0 then e = .returned (.tuple #[.agg #[.int .i64 0, .slice none 0 0, .int .i64 0], .int .i64 q]) else ResR R e w'
/-- The numbers of a round. -/
def rE (q : Int) (R : Option (Nat × List Step)) : Int := if q ≠ 0 then q else match R with | some _ => 0 | none => 2
def rP (q : Int) (R : Option (Nat × List Step)) : Nat := if q ≠ 0 then 0 else match R with | some (p, _) => p | none => 0
def rL (q : Int) (R : Option (Nat × List Step)) : List Step := if q ≠ 0 then [] else match R with | some (_, l) => l | none => []
theorem resC_form {q : Int} {R : Option (Nat × List Step)} {e : Ending} {w' : World} (h : ResC q R e w') : ∃ A c, e = .returned (.tuple #[.agg #[.int .i64 (rP q R), .slice A (rL q R).length c, .int .i64 (lng (rL q R))], .int .i64 (rE q R)]) ∧ stK.C w' A (rL q R) := by
  unfold ResC at h
  split at h
  · rename_i hq
    have e1 : rP q R = 0 := by unfold rP; rw [if_pos hq]
    have e2 : rL q R = [] := by unfold rL; rw [if_pos hq]
    have e3 : rE q R = q := by unfold rE; rw [if_pos hq]
    exact ⟨none, 0, by rw [h, e1, e2, e3]; rfl, by rw [e2]; exact B.Kd.C_nil _ _ _⟩
  · rename_i hq
    have hq' : q = 0 := by simpa using hq
    subst hq'
    cases R with
    | none => exact ⟨none, 0, h, B.Kd.C_nil _ _ _⟩
    | some r => obtain ⟨p, l⟩ := r; exact h
/-- A row of steps lies in no block of a round. -/
theorem stC_set {w W' : World} {A : Option Addr} {l : List Step} {g : Nat} {a d : Int} {B : Option Addr} {m k : Nat} {t : TypeId} {fr : Nat × Nat} (h : stK.C w A l) (hrow : w.heap[g]? = some (.cells #[.int .i64 a, .slice B m k, .int .i64 d] t fr)) (hf : Fr (fun k => k = g) w W') : stK.C W' A l :=
  ⟨h.1, fun hp => by
    obtain ⟨b, off, e, hc⟩ := h.2 hp
    refine ⟨b, off, e, fun j hj => ?_⟩
    obtain ⟨cs, hK, hcs⟩ := hc j hj
    have hK' : cs = stE l[j] := hK
    refine ⟨cs, hK, fun i hi => hf.cell (fun e2 => ?_) (hcs i hi)⟩
    have e2' : b = g := e2
    subst e2'
    have h0 := hcs 0 (by rw [hK']; simp [stE])
    simp only [hK', stE, List.getElem_cons_zero] at h0
    generalize off + j * stK.sz + 0 = q at h0
    simp only [World.cell?, hrow] at h0
    rcases (by omega : q = 0 ∨ q = 1 ∨ q = 2 ∨ 3 ≤ q) with rfl | rfl | rfl | hq
    · simp at h0
    · simp at h0
    · simp at h0
    · simp [hq] at h0⟩
theorem checked (n : Nat) (x : Lp) (A As : Option Addr) (c c' : Nat) (w : World) (h : At n w x A As) :
    Calls Tryz.prog 39 #[lv x A As c c'] w fun e w' => (∃ A c, e = .returned (.tuple #[.agg #[.int .i64 (rP (L.lf (n + 1) x) (roundM n x)), .slice A (rL (L.lf (n + 1) x) (roundM n x)).length c, .int .i64 (lng (rL (L.lf (n + 1) x) (roundM n x)))], .int .i64 (rE (L.lf (n + 1) x) (roundM n x))]) ∧ stK.C w' A (rL (L.lf (n + 1) x) (roundM n x))) ∧ Below w.heap.size w w' := by
  have HA := Lib.hid (fun (c d : Array Value) (e e' : TypeId) => (((Below.refl w.heap.size w).alloc (Nat.le_refl _) (.cells c e)).alloc (by simp) (.cells d e')))
  have cl := fun c0 d0 e0 e1 => L.checkLoop n x A As c c' _ (h.mono (HA.out c0 d0 e0 e1))
  have cr := fun W hb hp => roundOf n x A As c c' W (h.mono hb) hp
  have HT := Lib.hid (fun (c c' : Array Value) (o o' : TypeId) (w2 : World) => @Copy.two w w2 c c' o o')
  have HSR := Lib.hid (fun (c d : Array Value) (e e' : TypeId) => (by simp : ((w.alloc (.cells c e)).alloc (.cells d e')).heap.size = w.heap.size + 2))
  have HROW : Hid (∀ c e W, Below (w.heap.size + 2) ((w.alloc (.cells c e)).alloc (.cells #[.int .i64 0, .slice none 0 0, .int .i64 0] 82)) W → W.heap[w.heap.size + 1]? = some (.cells #[.int .i64 0, .slice none 0 0, .int .i64 0] 82 (0, 0))) := Lib.hid (fun c e W hb => by
    rw [hb.block _ (by omega)]
    exact heap_alloc2_new w _ _)
  have HLF : Hid (L.lf (n + 1) x = 0 → L.pf (n + 1) x = 0) := Lib.hid lf_pf
  clear h
  generalize roundM n x = R at cr ⊢
  generalize L.lf (n + 1) x = q at cl HLF ⊢
  unfold lv at cl cr ⊢
  by_cases hq : q = 0
  · subst hq
    have cr' := fun W hb => cr W hb (HLF.out rfl)
    have HFM : Hid (∀ e w', ResR R e w' → ∃ A c, e = .returned (.tuple #[.agg #[.int .i64 (rP 0 R), .slice A (rL 0 R).length c, .int .i64 (lng (rL 0 R))], .int .i64 (rE 0 R)]) ∧ stK.C w' A (rL 0 R)) := Lib.hid (fun e w' h => resC_form (by unfold ResC; rw [if_neg (by simp)]; exact h))
    clear cr
    generalize rP 0 R = P0 at *
    generalize rL 0 R = L0 at *
    generalize rE 0 R = E0 at *
    go_enter Tryz.func39, Tryz.ntmps39
    go_wp2_with (first
      | (go_at_call 47; refine (cl _ _ _ _).mono ?_; rintro e w2 ⟨rfl, hB2⟩; have HB2 := Lib.hid hB2; clear hB2; have HZ := HT.out _ _ _ _ _ HB2.out; have y0 := HZ.1 0 _ rfl; have y1 := HZ.1 1 _ rfl; have y2 := HZ.1 2 _ rfl; have y3 := HZ.1 3 _ rfl; have y4 := HZ.1 4 _ rfl; have y5 := HZ.1 5 _ rfl; clear HZ)
      | (go_at_call 49; refine (cr' _ (B.below_trans (HA.out _ _ _ _) HB2.out)).mono ?_; rintro e w3 ⟨hr, hB3⟩; obtain ⟨A5, c5, rfl, hC5⟩ := HFM.out _ _ hr; have HC5 := Lib.hid hC5; have HB3 := Lib.hid (B.below_trans HB2.out hB3); clear hr hC5 hB3; have HZ := HT.out _ _ _ _ _ HB3.out; have v0 := HZ.2.1 0 _ rfl; have v1 := HZ.2.1 1 _ rfl; have v2 := HZ.2.1 2 _ rfl; have fz := HZ.2.2.2; clear HZ))
    refine bodyPost_ret (results_cell_tmp_row rfl _ _ (w.heap.size + 1) 82 #[.int .i64 P0, .slice A5 L0.length c5, .int .i64 (lng L0)] (0, 0) _ rfl (set3 (a := .int .i64 0) (b := .slice none 0 0) (c := .int .i64 0) (HROW.out _ _ _ (HB3.out.mono (by rw [HSR.out]; exact Nat.le_refl _)))) Tryz.underlying82 rfl (by kernel_rfl)) rfl ?_
    have hf : Fr (fun k => k = w.heap.size + 1) w3 (((w3.setCell ⟨w.heap.size + 1, 0, none⟩ (.int .i64 P0)).setCell ⟨w.heap.size + 1, 1, none⟩ (.slice A5 L0.length c5)).setCell ⟨w.heap.size + 1, 2, none⟩ (.int .i64 (lng L0))) := Fr.set (p := ⟨w.heap.size + 1, 2, none⟩) (Fr.set (p := ⟨w.heap.size + 1, 1, none⟩) (Fr.set (p := ⟨w.heap.size + 1, 0, none⟩) (Fr.refl (fun k => k = w.heap.size + 1) _) (fun _ => rfl) _) (fun _ => rfl) _) (fun _ => rfl) _
    exact ⟨⟨A5, c5, rfl, stC_set HC5.out (HROW.out _ _ _ (HB3.out.mono (by rw [HSR.out]; exact Nat.le_refl _))) hf⟩, below3 (B.below_trans (HA.out _ _ _ _) HB3.out) (by omega) _ _ _⟩
  · have hq' : (q != 0) = true := bne_iff_ne.2 hq
    have HQ := Lib.hid hq
    clear hq cr
    go_enter Tryz.func39, Tryz.ntmps39
    go_wp2_with (go_at_call 47; refine (cl _ _ _ _).mono ?_; rintro e w2 ⟨rfl, hB2⟩; have HB2 := Lib.hid hB2; clear hB2; have HZ := HT.out _ _ _ _ _ HB2.out; have v0 := HZ.2.1 0 _ rfl; have v1 := HZ.2.1 1 _ rfl; have v2 := HZ.2.1 2 _ rfl; have fz := HZ.2.2.2; clear HZ)
    refine bodyPost_ret (results_cell_tmp_row rfl _ _ (w.heap.size + 1) 82 #[.int .i64 0, .slice none 0 0, .int .i64 0] (0, 0) _ rfl (set3 (a := .int .i64 0) (b := .slice none 0 0) (c := .int .i64 0) (HROW.out _ _ _ (HB2.out.mono (by rw [HSR.out]; exact Nat.le_refl _)))) Tryz.underlying82 rfl (by kernel_rfl)) rfl ?_
    exact ⟨resC_form (by unfold ResC; rw [if_pos HQ.out]; rfl), below3 (B.below_trans (HA.out _ _ _ _) HB2.out) (by omega) _ _ _⟩
set_option maxRecDepth 100000 in
theorem round (n : Nat) (x : Lp) (A As : Option Addr) (c c' : Nat) (w : World) (h : At n w x A As) :
    Calls Tryz.prog 13 #[lv x A As c c'] w fun e w' => e = .returned (.tuple #[.int .i64 (rP (L.lf (n + 1) x) (roundM n x)), .int .i64 (rL (L.lf (n + 1) x) (roundM n x)).length, .int .i64 (lng (rL (L.lf (n + 1) x) (roundM n x))), .int .i64 (rE (L.lf (n + 1) x) (roundM n x))]) ∧ Below w.heap.size w w' := by
  have HA := Lib.hid (fun (c : Array Value) (e : TypeId) => (Below.refl _ w).alloc (Nat.le_refl _) (.cells c e))
  have cc := fun c0 e0 => checked n x A As c c' _ (h.mono (HA.out c0 e0))
  clear h
  have HZ : Hid (rE (L.lf (n + 1) x) (roundM n x) ≠ 0 → rP (L.lf (n + 1) x) (roundM n x) = 0 ∧ rL (L.lf (n + 1) x) (roundM n x) = []) := Lib.hid (fun h => by
    unfold rE at h
    unfold rP rL
    split at h
    · rename_i hq; rw [if_pos hq, if_pos hq]; exact ⟨rfl, rfl⟩
    · rename_i hq
      rw [if_neg hq, if_neg hq]
      cases hR : roundM n x with
      | none => exact ⟨rfl, rfl⟩
      | some r => rw [hR] at h; exact absurd rfl h)
  generalize rP (L.lf (n + 1) x) (roundM n x) = P0 at *
  generalize rL (L.lf (n + 1) x) (roundM n x) = L0 at *
  generalize rE (L.lf (n + 1) x) (roundM n x) = E0 at *
  unfold lv at cc ⊢
  by_cases hq : E0 = 0
  · subst hq
    go_enter Tryz.func13, Tryz.ntmps13
    go_wp2_with (go_at_call 39; refine (cc _ _).mono ?_; rintro e w2 ⟨⟨A5, c5, rfl, hC5⟩, hB2⟩; have HB2 := Lib.hid hB2; clear hB2 hC5)
    go_quiet (fail)
    go_wp2
    exact bodyPost_ret (v := .tuple #[.int .i64 P0, .int .i64 L0.length, .int .i64 (lng L0), .int .i64 0]) (by simp [results, Tryz.results13, go_sem]) rfl ⟨rfl, B.below_trans (B.below_trans (HA.out _ _) HB2.out) (B.below_drew ((Below.refl _ _).alloc (Nat.le_refl _) _) _)⟩
  · obtain ⟨rfl, rfl⟩ := HZ.out hq
    have hq' : (E0 != 0) = true := bne_iff_ne.2 hq
    clear hq HZ
    go_enter Tryz.func13, Tryz.ntmps13
    go_wp2_with (go_at_call 39; refine (cc _ _).mono ?_; rintro e w2 ⟨⟨A5, c5, rfl, hC5⟩, hB2⟩; have HB2 := Lib.hid hB2; clear hB2 hC5)
    exact bodyPost_ret (v := .tuple #[.int .i64 0, .int .i64 0, .int .i64 0, .int .i64 E0]) (by simp [results, Tryz.results13, go_sem]) rfl ⟨rfl, B.below_trans (B.below_trans (HA.out _ _) HB2.out) ((Below.refl _ _).alloc (Nat.le_refl _) _)⟩

/-! ### looped -/
def itA : Lp := .mk 1 ⟨#[97]⟩ 5 0 [] []
def itB : Lp := .mk 1 ⟨#[98]⟩ 7 0 [] []
def two : Lp := .mk 3 ⟨#[]⟩ 0 0 [itA, itB] []
theorem two_lf : L.lf 2 two = 0 := by kernel_rfl
theorem two_round : roundM 1 two = some (2, [(⟨#[97]⟩, 5), (⟨#[98]⟩, 7)]) := by kernel_rfl
theorem two_at (w : World) (e : TypeId) : At 1 (w.alloc (.cells #[.int .i64 1, .string ⟨#[97]⟩, .int .i64 5, .int .i64 0, .slice none 0 0, .slice none 0 0, .int .i64 1, .string ⟨#[98]⟩, .int .i64 7, .int .i64 0, .slice none 0 0, .slice none 0 0] e)) two (some ⟨w.heap.size, 0, none⟩) none := by
  have ok : ∀ (n m : Int), -1000 ≤ n ∧ n ≤ 1000 → O.okI n := fun n _ h => by unfold O.okI; omega
  refine ⟨⟨by decide, fun _ => ⟨_, 0, rfl, fun j hj => ?_⟩⟩, B.Kd.C_nil _ _ _, ?_⟩
  · have hj' : j = 0 ∨ j = 1 := by have : j < 2 := hj; omega
    rcases hj' with rfl | rfl
    · refine ⟨row itA none none 0 0, ⟨none, none, 0, 0, rfl, B.Kd.C_nil _ _ _, B.Kd.C_nil _ _ _, ?_⟩, fun i hi => ?_⟩
      · show itA.ok
        exact ⟨⟨ok 1 0 (by omega), ok 5 0 (by omega), ok 0 0 (by omega)⟩, by decide, by decide, by decide, fun n h => by cases h⟩
      · have hi' : i = 0 ∨ i = 1 ∨ i = 2 ∨ i = 3 ∨ i = 4 ∨ i = 5 := by have : i < 6 := hi; omega
        rcases hi' with rfl | rfl | rfl | rfl | rfl | rfl <;> (rw [World.cell?_alloc_new]; rfl)
    · refine ⟨row itB none none 0 0, ⟨none, none, 0, 0, rfl, B.Kd.C_nil _ _ _, B.Kd.C_nil _ _ _, ?_⟩, fun i hi => ?_⟩
      · show itB.ok
        exact ⟨⟨ok 1 0 (by omega), ok 7 0 (by omega), ok 0 0 (by omega)⟩, by decide, by decide, by decide, fun n h => by cases h⟩
      · have hi' : i = 0 ∨ i = 1 ∨ i = 2 ∨ i = 3 ∨ i = 4 ∨ i = 5 := by have : i < 6 := hi; omega
        rcases hi' with rfl | rfl | rfl | rfl | rfl | rfl <;> (rw [World.cell?_alloc_new]; rfl)
  · exact ⟨⟨ok 3 0 (by omega), ok 0 0 (by omega), ok 0 0 (by omega)⟩, by decide, by decide, by decide, fun n h => by cases h⟩
theorem looped (w : World) : Calls Tryz.prog 25 #[] w fun e w' => e = .returned (.bool true) ∧ Below w.heap.size w w' := by
  have cr := fun W e (hb : Below _ _ W) => round 1 two (some ⟨w.heap.size, 0, none⟩) none 2 0 W ((two_at w e).mono hb)
  rw [two_lf, two_round, show lng (rL 0 (some (2, [(⟨#[97]⟩, 5), (⟨#[98]⟩, 7)]))) = 12 by kernel_rfl] at cr
  have HA := Lib.hid (fun (c d : Array Value) (e e' : TypeId) => (((Below.refl w.heap.size w).alloc (Nat.le_refl _) (.cells c e)).alloc (by simp) (.cells d e')))
  have HA1 := Lib.hid (fun (c : Array Value) (e : TypeId) (o : Obj) => ((Below.refl _ (w.alloc (.cells c e))).alloc (Nat.le_refl _) o))
  unfold lv at cr
  go_enter Tryz.func25, Tryz.ntmps25
  go_wp2_with (go_at_call 13; refine (cr _ _ (HA1.out _ _ _)).mono ?_; rintro e w2 ⟨rfl, hB2⟩)
  go_ret
  exact ⟨rfl, B.below_trans (HA.out _ _ _ _) hB2⟩
end Go.Proofs.YtfillnkebohciaaGreatDoor.T
