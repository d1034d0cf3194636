/- Are two rows of steps the same for ever: the reference's SameSteps. -/
import Derived.Test.YtfillnkebohciaaGreatDoorRoundOf
import Derived.WalkLawsBesides
import Derived.WalkSpells
namespace Go.Proofs.YtfillnkebohciaaGreatDoor.T
open Go.RowKit
open L (Lp row row1 At AtR lv kdL kid_at)
open F (Fr Cl)

/-- Are the steps at these places the same. -/
def smAt (a b : List Step) (i : Nat) : Bool := decide (a[i % a.length]? = b[i % b.length]?)
/-- The same as long as both take together. -/
def smS (a b : List Step) : Bool := (List.range (a.length + b.length)).all (smAt a b)
def smF (a b : List Step) (k : Nat) : Bool := ((List.range (a.length + b.length)).drop k).all (smAt a b)
theorem smF_zero (a b : List Step) : smF a b 0 = smS a b := by unfold smF smS; rw [List.drop_zero]
theorem smF_next {a b : List Step} {k : Nat} (h : k < a.length + b.length) : smF a b k = (smAt a b k && smF a b (k + 1)) := by
  unfold smF
  rw [List.drop_eq_getElem_cons (by rw [List.length_range]; exact h), List.all_cons, List.getElem_range]
theorem smF_end (a b : List Step) : smF a b (a.length + b.length) = true := by
  unfold smF
  rw [List.drop_eq_nil_of_le (by rw [List.length_range]; exact Nat.le_refl _)]
  rfl
theorem step_cases (s1 t1 : ByteArray) (s2 t2 : Int) : ((s1.toList == t1.toList) = true ∧ (s2 == t2) = true ∧ Hid (decide ((s1, s2) = (t1, t2)) = true)) ∨ ((s1.toList == t1.toList) = true ∧ (s2 == t2) = false ∧ Hid (decide ((s1, s2) = (t1, t2)) = false)) ∨ ((s1.toList == t1.toList) = false ∧ Hid (decide ((s1, s2) = (t1, t2)) = false)) := by
  by_cases q0 : s1 = t1
  · by_cases q1 : s2 = t2
    · exact .inl ⟨by rw [q0]; exact beq_self_eq_true _, by rw [q1]; exact beq_self_eq_true _, Lib.hid (decide_eq_true (by rw [q0, q1]))⟩
    · exact .inr (.inl ⟨by rw [q0]; exact beq_self_eq_true _, by rw [beq_eq_false_iff_ne]; exact q1, Lib.hid (decide_eq_false (fun e => q1 (congrArg Prod.snd e)))⟩)
  · exact .inr (.inr ⟨by rw [beq_eq_false_iff_ne]; intro e; exact q0 (ByteArray.ext (Array.toList_inj.1 (by simpa [ByteArray.toList_eq] using e))), Lib.hid (decide_eq_false (fun e => q0 (congrArg Prod.fst e)))⟩)
theorem steps_at {w : World} {A : Option Addr} {l : List Step} (h : stK.C w A l) (k : Nat) (hk : k < l.length) : ∃ b off, A = some ⟨b, off, none⟩ ∧ w.cell? ⟨b, off + k * 2, none⟩ = some (.string l[k].1) ∧ w.cell? ⟨b, off + k * 2 + 1, none⟩ = some (.int .i64 l[k].2) := by
  obtain ⟨b, off, cs, e, K, hc⟩ := h.at k hk
  have K' : cs = [.string l[k].1, .int .i64 l[k].2] := K
  subst K'
  have h0 := hc 0 (by simp)
  have h1 := hc 1 (by simp)
  exact ⟨b, off, e, by simpa [stK, B.Kd.flat] using h0, by simpa [stK, B.Kd.flat] using h1⟩
/-! ### rounded -/
/-- Steps, how many passes, and the error. -/
def RdRes (p : Nat) (l : List Step) (q : Int) (e : Ending) (w' : World) : Prop := ∃ A c, e = .returned (.tuple #[.int .i64 p, .slice A l.length c, .int .i64 q]) ∧ stK.C w' A l
theorem resF_rd {R : Option (Nat × List Step)} {e : Ending} {w' : World} (h : ResF R e w') : RdRes (rP 0 R) (rL 0 R) (rE 0 R) e w' := by
  cases R with
  | none => exact ⟨none, 0, h, B.Kd.C_nil _ _ _⟩
  | some r =>
    obtain ⟨p, l⟩ := r
    obtain ⟨A, c, e1, hC⟩ := h
    exact ⟨A, c, e1, hC⟩
theorem rd_bad {q : Int} (hq : q ≠ 0) (R : Option (Nat × List Step)) : rP q R = 0 ∧ rL q R = [] ∧ rE q R = q := by
  unfold rP rL rE
  rw [if_pos hq, if_pos hq, if_pos hq]
  exact ⟨rfl, rfl, rfl⟩
set_option maxHeartbeats 4000000 in
set_option maxRecDepth 100000 in
theorem rounded_any (n : Nat) (x : Lp) (A As : Option Addr) (c c' : Nat) (w : World) (h : At n w x A As) :
    Calls Tryz.prog 15 #[lv x A As c c'] w fun e w' => RdRes (rP (L.lf (n + 1) x) (roundM n x)) (rL (L.lf (n + 1) x) (roundM n x)) (rE (L.lf (n + 1) x) (roundM n x)) e w' ∧ Below w.heap.size w w' := by
  have HA := Lib.hid (fun (c : Array Value) (e : TypeId) => (Below.refl _ w).alloc (Nat.le_refl _) (.cells c e))
  have HX0 := Lib.hid (fun (e : TypeId) (W : World) => @L.boxed x A As c c' w W e)
  have c1 := fun W (hb : Below w.heap.size w W) => L.refLoop n x A As c c' W (h.mono hb)
  by_cases hq : L.lf (n + 1) x = 0
  · have c2 := fun W (hb : Below w.heap.size w W) => (roundOfR n x A As c c' W (h.mono hb) hq).mono fun e w' he => (⟨resF_rd he.1, he.2⟩ : _ ∧ _)
    rw [hq] at c1 ⊢
    generalize rP 0 (roundM n x) = P at *
    generalize rL 0 (roundM n x) = LL at *
    generalize rE 0 (roundM n x) = EE at *
    clear h hq
    unfold lv at c1 c2 ⊢
    go_enter Tryz.func15, Tryz.ntmps15
    go_wp2_with (first
      | (go_at_call 11; refine (c1 _ (HA.out _ _)).mono ?_; rintro e w1 ⟨rfl, hB1⟩; have HB1 := Lib.hid hB1; clear hB1; obtain ⟨y0, y1, y2, y3, y4, y5⟩ := HX0.out _ _ HB1.out)
      | (go_at_call 44; refine (c2 _ (B.below_trans (HA.out _ _) HB1.out)).mono ?_; rintro e w2 ⟨⟨A2, k2, rfl, hC2⟩, hB2⟩; have HB2 := Lib.hid (B.below_trans HB1.out hB2); have HC2 := Lib.hid hC2; clear hB2 hC2))
    go_ret3
    exact ⟨⟨A2, k2, rfl, HC2.out⟩, B.below_trans (HA.out _ _) HB2.out⟩
  · obtain ⟨e1, e2, e3⟩ := rd_bad hq (roundM n x)
    rw [e1, e2, e3]
    have hb : (L.lf (n + 1) x != 0) = true := bne_iff_ne.2 hq
    generalize L.lf (n + 1) x = q at *
    clear h e1 e2 e3 hq
    unfold lv at c1 ⊢
    go_enter Tryz.func15, Tryz.ntmps15
    go_wp2_with (go_at_call 11; refine (c1 _ (HA.out _ _)).mono ?_; rintro e w1 ⟨rfl, hB1⟩; have HB1 := Lib.hid hB1; clear hB1)
    go_ret3
    exact ⟨⟨none, 0, rfl, B.Kd.C_nil _ _ _⟩, B.below_trans (HA.out _ _) HB1.out⟩
/-! ### the program's Same -/
theorem rnd_len {n : Nat} {x : Lp} (hg : Gd n x) : ∀ (fu : Nat) (st : St) (p : Nat) (l : List Step) (p' : Nat) (l' : List Step), Bd l.length n x st → rnd n x fu st p l = some (p', l') → 0 < l'.length ∧ l'.length ≤ 5000 := by
  intro fu
  induction fu with
  | zero => intro st p l p' l' _ h; cases h
  | succ fu ih =>
    intro st p l p' l' hb h
    obtain ⟨h1, h2⟩ := pass_bd n x l.length st hg hb
    by_cases hf : l.length + (passS (n + 1) x st).2.length ≤ 5000
    · rw [rnd_fit hf] at h
      split at h
      · cases h
        rw [List.length_append]
        omega
      · exact ih _ _ _ _ _ (by rw [List.length_append]; exact h2 hf) h
    · rw [rnd_over (by omega)] at h; cases h
theorem roundM_len {n : Nat} {w : World} {x : Lp} {A As : Option Addr} (h : At n w x A As) (hl : L.lf (n + 1) x = 0) {p : Nat} {l : List Step} (hr : roundM n x = some (p, l)) : 0 < l.length ∧ l.length ≤ 5000 := by
  have hg := gd_at n w x A As h (lf_pf hl)
  exact rnd_len hg 5001 (st0 n x) 0 [] p l (bd_st0 n x hg) hr
end Go.Proofs.YtfillnkebohciaaGreatDoor.T
