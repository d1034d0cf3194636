/- The reference's partFault. -/
import Derived.Test.YtfillnkebohciaaGreatDoorLpFault
namespace Go.Proofs.YtfillnkebohciaaGreatDoor.L
open Go.RowKit

theorem clos46 (n : Int) (w : World) : Calls Tryz.prog 65 #[.int .i64 n] w fun e w' => e = .returned (.bool (bad n 1 1000)) ∧ w' = w := by
  go_enter Tryz.func65, Tryz.ntmps65
  go_wp2_with (go_at_call 52; refine (inB _ _ _ _).mono ?_; rintro e w2 ⟨rfl, rfl⟩)
  go_ret
  exact ⟨by simp, rfl⟩
set_option maxRecDepth 100000 in
theorem idxS (l : List Int) (A : Option Addr) (c : Nat) (w : World) (h : B.Kd.int.C w A l) :
    Calls Tryz.prog 94 #[.slice A l.length c, .func (.func 65) #[] #[]] w fun e w' => (∃ i : Int, e = .returned (.int .i64 i) ∧ decide (0 ≤ i) = l.any (fun n => bad n 1 1000)) ∧ w' = w := by
  have L := h.1
  go_enter Tryz.func94, Tryz.ntmps94
  go_wp2
  go_loop [8] (fun s => ∃ k : Nat, s = .int .i64 k ∧ k ≤ l.length ∧ Hid (l.any (fun n => bad n 1 1000) = (l.drop k).any (fun n => bad n 1 1000))) (fun s => l.length - (intOf s).toNat)
  case atStart => exact ⟨0, rfl, by omega, Lib.hid (by rw [List.drop_zero])⟩
  case round =>
    obtain ⟨k, rfl, hk, HN⟩ := hrel
    by_cases hlt : k < l.length
    · obtain ⟨b1, o1, cs1, rfl, K1, e1⟩ := h.at k hlt
      obtain rfl : cs1 = [.int .i64 l[k]] := K1
      have f0 : w.cell? ⟨b1, o1 + k, none⟩ = some (.int .i64 l[k]) := by simpa [B.Kd.int, B.Kd.flat] using e1 0 (by simp)
      have hk1 : (k : Int) < l.length := by omega
      have HN2 := HN.out
      rw [any_drop hlt] at HN2
      clear e1 HN
      cases hb : bad l[k] 1 1000 with
      | true =>
        have HF : Hid (l.any (fun n => bad n 1 1000) = true) := Lib.hid (by rw [HN2, hb]; rfl)
        clear HN2
        go_wp2_with (go_at_call 65; refine (clos46 _ _).mono ?_; rintro e w3 ⟨rfl, rfl⟩)
        go_ret
        exact ⟨⟨k, rfl, by rw [HF.out]; simp⟩, rfl⟩
      | false =>
        rw [hb, Bool.false_or] at HN2
        have HN3 := Lib.hid HN2
        clear HN2
        go_wp2_with (go_at_call 65; refine (clos46 _ _).mono ?_; rintro e w3 ⟨rfl, rfl⟩)
        exact ⟨⟨k + 1, by go_num, by omega, HN3⟩, by simp [intOf]; omega⟩
    · obtain rfl : k = l.length := by omega
      have HF : Hid (l.any (fun n => bad n 1 1000) = false) := Lib.hid (by rw [HN.out, List.drop_length]; rfl)
      go_wp2
      go_ret
      exact ⟨⟨-1, rfl, by rw [HF.out]; simp⟩, rfl⟩
theorem anyS (l : List Int) (A : Option Addr) (c : Nat) (w : World) (h : B.Kd.int.C w A l) (b : Bool) (hb : l.any (fun n => bad n 1 1000) = b) :
    Calls Tryz.prog 64 #[.slice A l.length c, .func (.func 65) #[] #[]] w fun e w' => e = .returned (.bool b) ∧ w' = w := by
  have ci := idxS l A c w h
  rw [hb] at ci
  clear h hb
  go_enter Tryz.func64, Tryz.ntmps64
  go_wp2_with (go_at_call 94; refine ci.mono ?_; rintro e w3 ⟨⟨i, rfl, hi⟩, rfl⟩; have HI := Lib.hid hi; clear hi)
  go_ret
  exact ⟨by rw [← HI.out]; rfl, rfl⟩
set_option maxHeartbeats 8000000 in
set_option maxRecDepth 100000 in
theorem refPart : ∀ (n : Nat) (x : Lp) (A As : Option Addr) (c c' : Nat) (w : World), At n w x A As →
    Calls Tryz.prog 37 #[lv x A As c c'] w fun e w' => e = .returned (.int .i64 (pf (n + 1) x)) ∧ Below w.heap.size w w' := by
  intro n
  induction n using Nat.strongRecOn with
  | ind n ih =>
    intro x A As c c' w h
    obtain ⟨C, D, hok⟩ := h
    have HIH := Lib.hid ih
    clear ih
    have HP := Lib.hid (show pf (n + 1) x = if own x ≠ 0 then own x else first (pf n) x.kids from rfl)
    generalize pf (n + 1) x = p at HP ⊢
    have HA := Lib.hid (fun (e : TypeId) (nq : Nat) => B.below_drew ((Below.refl _ w).alloc (Nat.le_refl _) (.cells #[.int .i64 x.kind, .string x.item, .int .i64 x.long, .int .i64 x.many, .slice A x.kids.length c, .slice As x.shares.length c'] e)) nq)
    have HA2 := Lib.hid (fun (o : Obj) (nq : Nat) => B.below_drew (Below.refl (w.alloc o).heap.size (w.alloc o)) nq)
    have HX0 := Lib.hid (fun (e : TypeId) (W : World) => @boxed x A As c c' w W e)
    have LK := C.1
    have LS := D.1
    have HC := Lib.hid C
    have HD := Lib.hid D
    have ck := refKey x.item hok.2.1
    clear C D hok
    have HZ : Hid (((x.shares.length : Int) != 0) = decide (0 < x.shares.length)) := Lib.hid (by rw [Bool.eq_iff_iff]; simp only [bne_iff_ne, decide_eq_true_eq]; omega)
    obtain ⟨qa, hqa⟩ : ∃ q, x.shares.any (fun n => bad n 1 1000) = q := ⟨_, rfl⟩
    have HQ := Lib.hid hqa
    clear hqa
    unfold lv
    by_cases h1 : x.kind = 1
    · have H1 := Lib.hid h1
      rw [h1] at HA HX0 ⊢
      clear h1
      cases hl : bad x.long 1 3600000 with
      | true =>
        go_enter Tryz.func37, Tryz.ntmps37
        go_wp2
        go_quiet (fail)
        go_wp2_with (first
          | (go_at_call 52; refine (inB _ _ _ _).mono ?_; rintro e w2 ⟨rfl, rfl⟩; try simp only [hl])
          | (go_at_call 53; refine (ck _).mono ?_; rintro e w2 ⟨rfl, HB⟩; obtain ⟨q0, q1, q2, q3, q4, q5⟩ := HX0.out _ _ (B.below_trans (HA2.out _ _) HB))
          | (go_at_call 64; refine (anyS _ _ _ _ (HD.out.mono (by first | exact B.below_trans (HA.out _ _) HB | exact HA.out _ _)) _ HQ.out).mono ?_; rintro e w2 ⟨rfl, rfl⟩))
        all_goals first
          | (go_ret
             refine ⟨?_, by first | exact B.below_trans (HA.out _ _) HB | exact HA.out _ _⟩
             try simp only [Bool.not_eq_true', Bool.not_eq_false'] at *
             first
               | (have h4 : own x = 3 := (by unfold own fb; simp [H1.out, HZ.out, HQ.out, -List.any_eq_true, -List.any_eq_false, *]); rw [HP.out, h4]; rfl)
               | (have h4 : own x = 1 := (by unfold own fb; simp [H1.out, HZ.out, HQ.out, -List.any_eq_true, -List.any_eq_false, *]); rw [HP.out, h4]; rfl)
               | (have h4 : own x = 5 := (by unfold own fb; simp [H1.out, HZ.out, HQ.out, -List.any_eq_true, -List.any_eq_false, *]); rw [HP.out, h4]; rfl)
               | (have h4 : own x = 4 := (by unfold own fb; simp [H1.out, HZ.out, HQ.out, -List.any_eq_true, -List.any_eq_false, *]); rw [HP.out, h4]; rfl))
      | false =>
        cases hb : Key.keyB x.item with
        | false =>
          go_enter Tryz.func37, Tryz.ntmps37
          go_wp2
          go_quiet (fail)
          go_wp2_with (first
            | (go_at_call 52; refine (inB _ _ _ _).mono ?_; rintro e w2 ⟨rfl, rfl⟩; try simp only [hl])
            | (go_at_call 53; refine (ck _).mono ?_; rintro e w2 ⟨rfl, HB⟩; try simp only [hb]; obtain ⟨q0, q1, q2, q3, q4, q5⟩ := HX0.out _ _ (B.below_trans (HA2.out _ _) HB))
            | (go_at_call 64; refine (anyS _ _ _ _ (HD.out.mono (by first | exact B.below_trans (HA.out _ _) HB | exact HA.out _ _)) _ HQ.out).mono ?_; rintro e w2 ⟨rfl, rfl⟩))
          all_goals first
            | (go_ret
               refine ⟨?_, by first | exact B.below_trans (HA.out _ _) HB | exact HA.out _ _⟩
               try simp only [Bool.not_eq_true', Bool.not_eq_false'] at *
               first
                 | (have h4 : own x = 3 := (by unfold own fb; simp [H1.out, HZ.out, HQ.out, -List.any_eq_true, -List.any_eq_false, *]); rw [HP.out, h4]; rfl)
                 | (have h4 : own x = 1 := (by unfold own fb; simp [H1.out, HZ.out, HQ.out, -List.any_eq_true, -List.any_eq_false, *]); rw [HP.out, h4]; rfl)
                 | (have h4 : own x = 5 := (by unfold own fb; simp [H1.out, HZ.out, HQ.out, -List.any_eq_true, -List.any_eq_false, *]); rw [HP.out, h4]; rfl)
                 | (have h4 : own x = 4 := (by unfold own fb; simp [H1.out, HZ.out, HQ.out, -List.any_eq_true, -List.any_eq_false, *]); rw [HP.out, h4]; rfl))
        | true =>
          go_enter Tryz.func37, Tryz.ntmps37
          go_wp2
          go_quiet (fail)
          go_wp2_with (first
            | (go_at_call 52; refine (inB _ _ _ _).mono ?_; rintro e w2 ⟨rfl, rfl⟩; try simp only [hl])
            | (go_at_call 53; refine (ck _).mono ?_; rintro e w2 ⟨rfl, HB⟩; try simp only [hb]; obtain ⟨q0, q1, q2, q3, q4, q5⟩ := HX0.out _ _ (B.below_trans (HA2.out _ _) HB))
            | (go_at_call 64; refine (anyS _ _ _ _ (HD.out.mono (by first | exact B.below_trans (HA.out _ _) HB | exact HA.out _ _)) _ HQ.out).mono ?_; rintro e w2 ⟨rfl, rfl⟩))
          all_goals first
            | (go_ret
               refine ⟨?_, by first | exact B.below_trans (HA.out _ _) HB | exact HA.out _ _⟩
               try simp only [Bool.not_eq_true', Bool.not_eq_false'] at *
               first
                 | (have h4 : own x = 3 := (by unfold own fb; simp [H1.out, HZ.out, HQ.out, -List.any_eq_true, -List.any_eq_false, *]); rw [HP.out, h4]; rfl)
                 | (have h4 : own x = 1 := (by unfold own fb; simp [H1.out, HZ.out, HQ.out, -List.any_eq_true, -List.any_eq_false, *]); rw [HP.out, h4]; rfl)
                 | (have h4 : own x = 5 := (by unfold own fb; simp [H1.out, HZ.out, HQ.out, -List.any_eq_true, -List.any_eq_false, *]); rw [HP.out, h4]; rfl)
                 | (have h4 : own x = 4 := (by unfold own fb; simp [H1.out, HZ.out, HQ.out, -List.any_eq_true, -List.any_eq_false, *]); rw [HP.out, h4]; rfl))
            | skip
          try simp only [Bool.not_eq_true', Bool.not_eq_false'] at *
          obtain rfl : qa = false := by assumption
          have hown : own x = 0 := by unfold own fb; simp [H1.out, HZ.out, HQ.out, -List.any_eq_true, -List.any_eq_false, *]
          have HPP : Hid (p = first (pf n) (x.kids.drop 0)) := Lib.hid (by rw [HP.out, hown, if_neg (by simp), List.drop_zero])
          have HBA := Lib.hid (by first | exact B.below_trans (HA.out _ _) HB | exact HA.out _ _)
          have HC2 := Lib.hid (HC.out.mono HBA.out)
          clear HP hown
          generalize hw9 : w2 = w9 at HBA HC2 ⊢
          clear hw9
          clear hl hb
          go_loopw [110] (fun s wr => ∃ k : Nat, s = .int .i64 k ∧ k ≤ x.kids.length ∧ Hid (p = first (pf n) (x.kids.drop k)) ∧ Hid (Below w9.heap.size w9 wr)) (fun s _ => x.kids.length - (intOf s).toNat)
          case atStart => exact ⟨0, rfl, by omega, HPP, Lib.hid (Below.refl _ _)⟩
          case round =>
            obtain ⟨k, rfl, hk, HN, HB3⟩ := hrel
            by_cases hlt : k < x.kids.length
            · obtain ⟨b1, o1, m, A2, As2, c2, c2', rfl, rfl, hat, e1⟩ := kid_at (HC2.out.mono HB3.out) k hlt
              have f0 := e1 0 _ rfl
              have f1 := e1 1 _ rfl
              have f2 := e1 2 _ rfl
              have f3 := e1 3 _ rfl
              have f4 := e1 4 _ rfl
              have f5 := e1 5 _ rfl
              simp only [Nat.add_zero] at f0
              have hk1 : (k : Int) < x.kids.length := by omega
              have HA3 := Lib.hid (fun (c : Array Value) (e : TypeId) => HB3.out.alloc (show w9.heap.size ≤ wr.heap.size from HB3.out.size) (.cells c e))
              have HA4 := Lib.hid (fun (c : Array Value) (e : TypeId) => (Below.refl _ wr).alloc (Nat.le_refl _) (.cells c e))
              have cc := fun W (hb : Below wr.heap.size wr W) => HIH.out m (by omega) x.kids[k] A2 As2 c2 c2' W (hat.mono hb)
              unfold lv at cc
              have HN2 := HN.out
              rw [first_drop _ hlt] at HN2
              clear e1 hat HN
              generalize hq : pf (m + 1) x.kids[k] = q at cc HN2
              clear hq
              by_cases hz : q = 0
              · subst hz
                rw [if_neg (by simp)] at HN2
                have HN3 := Lib.hid HN2
                clear HN2
                go_wp2_with (go_at_call 37; refine (cc _ (HA4.out _ _)).mono ?_; rintro e w3 ⟨rfl, HB4⟩)
                go_roundw
                case rel => exact ⟨k + 1, by go_num, by omega, HN3, Lib.hid (B.below_trans (HA3.out _ _) HB4)⟩
                case measure => simp [intOf]; omega
              · rw [if_pos hz] at HN2
                have HN3 := Lib.hid HN2
                clear HN2
                have hz' : (q != 0) = true := bne_iff_ne.2 hz
                clear hz
                go_wp2_with (go_at_call 37; refine (cc _ (HA4.out _ _)).mono ?_; rintro e w3 ⟨rfl, HB4⟩)
                go_ret
                exact ⟨by rw [HN3.out]; rfl, B.below_trans HBA.out (B.below_trans (HA3.out _ _) HB4)⟩
            · obtain rfl : k = x.kids.length := by omega
              have HF : Hid (p = 0) := Lib.hid (by rw [HN.out, List.drop_length]; rfl)
              go_wp2
              go_ret
              exact ⟨by rw [HF.out]; rfl, B.below_trans HBA.out HB3.out⟩
    · by_cases h5 : x.kind = 5
      · have H5 := Lib.hid h5
        rw [h5] at HA HX0 ⊢
        clear h5 h1
        go_enter Tryz.func37, Tryz.ntmps37
        go_wp2
        go_quiet (fail)
        go_wp2_with (first
          | (go_at_call 52; refine (inB _ _ _ _).mono ?_; rintro e w2 ⟨rfl, rfl⟩)
          | (go_at_call 53; refine (ck _).mono ?_; rintro e w2 ⟨rfl, HB⟩; obtain ⟨q0, q1, q2, q3, q4, q5⟩ := HX0.out _ _ (B.below_trans (HA2.out _ _) HB))
          | (go_at_call 64; refine (anyS _ _ _ _ (HD.out.mono (HA.out _ _)) _ HQ.out).mono ?_; rintro e w2 ⟨rfl, rfl⟩))
        all_goals first
          | (go_ret
             refine ⟨?_, HA.out _ _⟩
             try simp only [Bool.not_eq_true', Bool.not_eq_false'] at *
             first
               | (have h4 : own x = 3 := (by unfold own fb; simp [H5.out, HZ.out, HQ.out, -List.any_eq_true, -List.any_eq_false, *]); rw [HP.out, h4]; rfl)
               | (have h4 : own x = 1 := (by unfold own fb; simp [H5.out, HZ.out, HQ.out, -List.any_eq_true, -List.any_eq_false, *]); rw [HP.out, h4]; rfl)
               | (have h4 : own x = 5 := (by unfold own fb; simp [H5.out, HZ.out, HQ.out, -List.any_eq_true, -List.any_eq_false, *]); rw [HP.out, h4]; rfl)
               | (have h4 : own x = 4 := (by unfold own fb; simp [H5.out, HZ.out, HQ.out, -List.any_eq_true, -List.any_eq_false, *]); rw [HP.out, h4]; rfl))
          | skip
        try simp only [Bool.not_eq_true', Bool.not_eq_false'] at *
        obtain rfl : qa = false := by assumption
        have hown : own x = 0 := by unfold own fb; simp [H5.out, HZ.out, HQ.out, -List.any_eq_true, -List.any_eq_false, *]
        have HPP : Hid (p = first (pf n) (x.kids.drop 0)) := Lib.hid (by rw [HP.out, hown, if_neg (by simp), List.drop_zero])
        have HBA := Lib.hid (HA.out 25 nq)
        have HC2 := Lib.hid (HC.out.mono HBA.out)
        clear HP hown
        generalize hw9 : ((w.alloc (.cells #[.int .i64 5, .string x.item, .int .i64 x.long, .int .i64 x.many, .slice A x.kids.length c, .slice As x.shares.length c'] 25)).drewN nq) = w9 at HBA HC2 ⊢
        clear hw9
        go_loopw [110] (fun s wr => ∃ k : Nat, s = .int .i64 k ∧ k ≤ x.kids.length ∧ Hid (p = first (pf n) (x.kids.drop k)) ∧ Hid (Below w9.heap.size w9 wr)) (fun s _ => x.kids.length - (intOf s).toNat)
        case atStart => exact ⟨0, rfl, by omega, HPP, Lib.hid (Below.refl _ _)⟩
        case round =>
          obtain ⟨k, rfl, hk, HN, HB3⟩ := hrel
          by_cases hlt : k < x.kids.length
          · obtain ⟨b1, o1, m, A2, As2, c2, c2', rfl, rfl, hat, e1⟩ := kid_at (HC2.out.mono HB3.out) k hlt
            have f0 := e1 0 _ rfl
            have f1 := e1 1 _ rfl
            have f2 := e1 2 _ rfl
            have f3 := e1 3 _ rfl
            have f4 := e1 4 _ rfl
            have f5 := e1 5 _ rfl
            simp only [Nat.add_zero] at f0
            have hk1 : (k : Int) < x.kids.length := by omega
            have HA3 := Lib.hid (fun (c : Array Value) (e : TypeId) => HB3.out.alloc (show w9.heap.size ≤ wr.heap.size from HB3.out.size) (.cells c e))
            have HA4 := Lib.hid (fun (c : Array Value) (e : TypeId) => (Below.refl _ wr).alloc (Nat.le_refl _) (.cells c e))
            have cc := fun W (hb : Below wr.heap.size wr W) => HIH.out m (by omega) x.kids[k] A2 As2 c2 c2' W (hat.mono hb)
            unfold lv at cc
            have HN2 := HN.out
            rw [first_drop _ hlt] at HN2
            clear e1 hat HN
            generalize hq : pf (m + 1) x.kids[k] = q at cc HN2
            clear hq
            by_cases hz : q = 0
            · subst hz
              rw [if_neg (by simp)] at HN2
              have HN3 := Lib.hid HN2
              clear HN2
              go_wp2_with (go_at_call 37; refine (cc _ (HA4.out _ _)).mono ?_; rintro e w3 ⟨rfl, HB4⟩)
              go_roundw
              case rel => exact ⟨k + 1, by go_num, by omega, HN3, Lib.hid (B.below_trans (HA3.out _ _) HB4)⟩
              case measure => simp [intOf]; omega
            · rw [if_pos hz] at HN2
              have HN3 := Lib.hid HN2
              clear HN2
              have hz' : (q != 0) = true := bne_iff_ne.2 hz
              clear hz
              go_wp2_with (go_at_call 37; refine (cc _ (HA4.out _ _)).mono ?_; rintro e w3 ⟨rfl, HB4⟩)
              go_ret
              exact ⟨by rw [HN3.out]; rfl, B.below_trans HBA.out (B.below_trans (HA3.out _ _) HB4)⟩
          · obtain rfl : k = x.kids.length := by omega
            have HF : Hid (p = 0) := Lib.hid (by rw [HN.out, List.drop_length]; rfl)
            go_wp2
            go_ret
            exact ⟨by rw [HF.out]; rfl, B.below_trans HBA.out HB3.out⟩
      · by_cases h4 : x.kind = 4
        · have H4 := Lib.hid h4
          rw [h4] at HA HX0 ⊢
          clear h4 h5 h1
          go_enter Tryz.func37, Tryz.ntmps37
          go_wp2
          go_quiet (fail)
          go_wp2_with (first
            | (go_at_call 52; refine (inB _ _ _ _).mono ?_; rintro e w2 ⟨rfl, rfl⟩)
            | (go_at_call 53; refine (ck _).mono ?_; rintro e w2 ⟨rfl, HB⟩; obtain ⟨q0, q1, q2, q3, q4, q5⟩ := HX0.out _ _ (B.below_trans (HA2.out _ _) HB))
            | (go_at_call 64; refine (anyS _ _ _ _ (HD.out.mono (HA.out _ _)) _ HQ.out).mono ?_; rintro e w2 ⟨rfl, rfl⟩))
          all_goals first
            | (go_ret
               refine ⟨?_, HA.out _ _⟩
               try simp only [Bool.not_eq_true', Bool.not_eq_false'] at *
               first
                 | (have h4 : own x = 3 := (by unfold own fb; simp [H4.out, HZ.out, HQ.out, -List.any_eq_true, -List.any_eq_false, *]); rw [HP.out, h4]; rfl)
                 | (have h4 : own x = 1 := (by unfold own fb; simp [H4.out, HZ.out, HQ.out, -List.any_eq_true, -List.any_eq_false, *]); rw [HP.out, h4]; rfl)
                 | (have h4 : own x = 5 := (by unfold own fb; simp [H4.out, HZ.out, HQ.out, -List.any_eq_true, -List.any_eq_false, *]); rw [HP.out, h4]; rfl)
                 | (have h4 : own x = 4 := (by unfold own fb; simp [H4.out, HZ.out, HQ.out, -List.any_eq_true, -List.any_eq_false, *]); rw [HP.out, h4]; rfl))
            | skip
          try simp only [Bool.not_eq_true', Bool.not_eq_false'] at *
          obtain rfl : qa = false := by assumption
          have hown : own x = 0 := by unfold own fb; simp [H4.out, HZ.out, HQ.out, -List.any_eq_true, -List.any_eq_false, *]
          have HPP : Hid (p = first (pf n) (x.kids.drop 0)) := Lib.hid (by rw [HP.out, hown, if_neg (by simp), List.drop_zero])
          have HBA := Lib.hid (HA.out 25 nq)
          have HC2 := Lib.hid (HC.out.mono HBA.out)
          clear HP hown
          generalize hw9 : ((w.alloc (.cells #[.int .i64 4, .string x.item, .int .i64 x.long, .int .i64 x.many, .slice A x.kids.length c, .slice As x.shares.length c'] 25)).drewN nq) = w9 at HBA HC2 ⊢
          clear hw9
          go_loopw [110] (fun s wr => ∃ k : Nat, s = .int .i64 k ∧ k ≤ x.kids.length ∧ Hid (p = first (pf n) (x.kids.drop k)) ∧ Hid (Below w9.heap.size w9 wr)) (fun s _ => x.kids.length - (intOf s).toNat)
          case atStart => exact ⟨0, rfl, by omega, HPP, Lib.hid (Below.refl _ _)⟩
          case round =>
            obtain ⟨k, rfl, hk, HN, HB3⟩ := hrel
            by_cases hlt : k < x.kids.length
            · obtain ⟨b1, o1, m, A2, As2, c2, c2', rfl, rfl, hat, e1⟩ := kid_at (HC2.out.mono HB3.out) k hlt
              have f0 := e1 0 _ rfl
              have f1 := e1 1 _ rfl
              have f2 := e1 2 _ rfl
              have f3 := e1 3 _ rfl
              have f4 := e1 4 _ rfl
              have f5 := e1 5 _ rfl
              simp only [Nat.add_zero] at f0
              have hk1 : (k : Int) < x.kids.length := by omega
              have HA3 := Lib.hid (fun (c : Array Value) (e : TypeId) => HB3.out.alloc (show w9.heap.size ≤ wr.heap.size from HB3.out.size) (.cells c e))
              have HA4 := Lib.hid (fun (c : Array Value) (e : TypeId) => (Below.refl _ wr).alloc (Nat.le_refl _) (.cells c e))
              have cc := fun W (hb : Below wr.heap.size wr W) => HIH.out m (by omega) x.kids[k] A2 As2 c2 c2' W (hat.mono hb)
              unfold lv at cc
              have HN2 := HN.out
              rw [first_drop _ hlt] at HN2
              clear e1 hat HN
              generalize hq : pf (m + 1) x.kids[k] = q at cc HN2
              clear hq
              by_cases hz : q = 0
              · subst hz
                rw [if_neg (by simp)] at HN2
                have HN3 := Lib.hid HN2
                clear HN2
                go_wp2_with (go_at_call 37; refine (cc _ (HA4.out _ _)).mono ?_; rintro e w3 ⟨rfl, HB4⟩)
                go_roundw
                case rel => exact ⟨k + 1, by go_num, by omega, HN3, Lib.hid (B.below_trans (HA3.out _ _) HB4)⟩
                case measure => simp [intOf]; omega
              · rw [if_pos hz] at HN2
                have HN3 := Lib.hid HN2
                clear HN2
                have hz' : (q != 0) = true := bne_iff_ne.2 hz
                clear hz
                go_wp2_with (go_at_call 37; refine (cc _ (HA4.out _ _)).mono ?_; rintro e w3 ⟨rfl, HB4⟩)
                go_ret
                exact ⟨by rw [HN3.out]; rfl, B.below_trans HBA.out (B.below_trans (HA3.out _ _) HB4)⟩
            · obtain rfl : k = x.kids.length := by omega
              have HF : Hid (p = 0) := Lib.hid (by rw [HN.out, List.drop_length]; rfl)
              go_wp2
              go_ret
              exact ⟨by rw [HF.out]; rfl, B.below_trans HBA.out HB3.out⟩
        · have k1 : (x.kind == 1) = false := beq_eq_false_iff_ne.2 h1
          have k4 : (x.kind == 4) = false := beq_eq_false_iff_ne.2 h4
          have k5 : (x.kind == 5) = false := beq_eq_false_iff_ne.2 h5
          go_enter Tryz.func37, Tryz.ntmps37
          go_wp2
          go_quiet (fail)
          go_wp2_with (first
            | (go_at_call 52; refine (inB _ _ _ _).mono ?_; rintro e w2 ⟨rfl, rfl⟩)
            | (go_at_call 53; refine (ck _).mono ?_; rintro e w2 ⟨rfl, HB⟩; obtain ⟨q0, q1, q2, q3, q4, q5⟩ := HX0.out _ _ (B.below_trans (HA2.out _ _) HB))
            | (go_at_call 64; refine (anyS _ _ _ _ (HD.out.mono (HA.out _ _)) _ HQ.out).mono ?_; rintro e w2 ⟨rfl, rfl⟩))
          all_goals first
            | (go_ret
               refine ⟨?_, HA.out _ _⟩
               try simp only [Bool.not_eq_true', Bool.not_eq_false'] at *
               first
                 | (have h4 : own x = 3 := (by unfold own fb; simp [h1, HZ.out, HQ.out, -List.any_eq_true, -List.any_eq_false, *]); rw [HP.out, h4]; rfl)
                 | (have h4 : own x = 1 := (by unfold own fb; simp [h1, HZ.out, HQ.out, -List.any_eq_true, -List.any_eq_false, *]); rw [HP.out, h4]; rfl)
                 | (have h4 : own x = 5 := (by unfold own fb; simp [h1, HZ.out, HQ.out, -List.any_eq_true, -List.any_eq_false, *]); rw [HP.out, h4]; rfl)
                 | (have h4 : own x = 4 := (by unfold own fb; simp [h1, HZ.out, HQ.out, -List.any_eq_true, -List.any_eq_false, *]); rw [HP.out, h4]; rfl))
            | skip
          try simp only [Bool.not_eq_true', Bool.not_eq_false'] at *
          obtain rfl : qa = false := by assumption
          have hown : own x = 0 := by unfold own fb; simp [h1, HZ.out, HQ.out, -List.any_eq_true, -List.any_eq_false, *]
          have HPP : Hid (p = first (pf n) (x.kids.drop 0)) := Lib.hid (by rw [HP.out, hown, if_neg (by simp), List.drop_zero])
          have HBA := Lib.hid (HA.out 25 nq)
          have HC2 := Lib.hid (HC.out.mono HBA.out)
          clear HP hown
          generalize hw9 : ((w.alloc (.cells #[.int .i64 x.kind, .string x.item, .int .i64 x.long, .int .i64 x.many, .slice A x.kids.length c, .slice As x.shares.length c'] 25)).drewN nq) = w9 at HBA HC2 ⊢
          clear hw9
          go_loopw [110] (fun s wr => ∃ k : Nat, s = .int .i64 k ∧ k ≤ x.kids.length ∧ Hid (p = first (pf n) (x.kids.drop k)) ∧ Hid (Below w9.heap.size w9 wr)) (fun s _ => x.kids.length - (intOf s).toNat)
          case atStart => exact ⟨0, rfl, by omega, HPP, Lib.hid (Below.refl _ _)⟩
          case round =>
            obtain ⟨k, rfl, hk, HN, HB3⟩ := hrel
            by_cases hlt : k < x.kids.length
            · obtain ⟨b1, o1, m, A2, As2, c2, c2', rfl, rfl, hat, e1⟩ := kid_at (HC2.out.mono HB3.out) k hlt
              have f0 := e1 0 _ rfl
              have f1 := e1 1 _ rfl
              have f2 := e1 2 _ rfl
              have f3 := e1 3 _ rfl
              have f4 := e1 4 _ rfl
              have f5 := e1 5 _ rfl
              simp only [Nat.add_zero] at f0
              have hk1 : (k : Int) < x.kids.length := by omega
              have HA3 := Lib.hid (fun (c : Array Value) (e : TypeId) => HB3.out.alloc (show w9.heap.size ≤ wr.heap.size from HB3.out.size) (.cells c e))
              have HA4 := Lib.hid (fun (c : Array Value) (e : TypeId) => (Below.refl _ wr).alloc (Nat.le_refl _) (.cells c e))
              have cc := fun W (hb : Below wr.heap.size wr W) => HIH.out m (by omega) x.kids[k] A2 As2 c2 c2' W (hat.mono hb)
              unfold lv at cc
              have HN2 := HN.out
              rw [first_drop _ hlt] at HN2
              clear e1 hat HN
              generalize hq : pf (m + 1) x.kids[k] = q at cc HN2
              clear hq
              by_cases hz : q = 0
              · subst hz
                rw [if_neg (by simp)] at HN2
                have HN3 := Lib.hid HN2
                clear HN2
                go_wp2_with (go_at_call 37; refine (cc _ (HA4.out _ _)).mono ?_; rintro e w3 ⟨rfl, HB4⟩)
                go_roundw
                case rel => exact ⟨k + 1, by go_num, by omega, HN3, Lib.hid (B.below_trans (HA3.out _ _) HB4)⟩
                case measure => simp [intOf]; omega
              · rw [if_pos hz] at HN2
                have HN3 := Lib.hid HN2
                clear HN2
                have hz' : (q != 0) = true := bne_iff_ne.2 hz
                clear hz
                go_wp2_with (go_at_call 37; refine (cc _ (HA4.out _ _)).mono ?_; rintro e w3 ⟨rfl, HB4⟩)
                go_ret
                exact ⟨by rw [HN3.out]; rfl, B.below_trans HBA.out (B.below_trans (HA3.out _ _) HB4)⟩
            · obtain rfl : k = x.kids.length := by omega
              have HF : Hid (p = 0) := Lib.hid (by rw [HN.out, List.drop_length]; rfl)
              go_wp2
              go_ret
              exact ⟨by rw [HF.out]; rfl, B.below_trans HBA.out HB3.out⟩
end Go.Proofs.YtfillnkebohciaaGreatDoor.L
