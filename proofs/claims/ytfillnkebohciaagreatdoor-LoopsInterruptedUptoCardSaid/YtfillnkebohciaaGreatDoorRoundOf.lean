/- The reference's RoundOf and signlaw1.rounded. -/
import Derived.Test.YtfillnkebohciaaGreatDoorLooped
import Derived.Deep.QuietTactic
import Derived.BigQuiet
import Derived.OwnWalk
namespace Go.Proofs.YtfillnkebohciaaGreatDoor.T
open Go.RowKit
open L (Lp row row1 At AtR lv kdL kid_at)
open F (Fr Cl)

/-- A round as the reference tells it, or the error. -/
def ResF (R : Option (Nat × List Step)) (e : Ending) (w' : World) : Prop := match R with
  | some (p, l) => ∃ A c, e = .returned (.tuple #[.int .i64 p, .slice A l.length c, .int .i64 0]) ∧ stK.C w' A l
  | none => e = .returned (.tuple #[.int .i64 0, .slice none 0 0, .int .i64 2])
set_option maxHeartbeats 4000000 in
set_option maxRecDepth 100000 in
theorem roundOfR (n : Nat) (x : Lp) (A As : Option Addr) (c c' : Nat) (w : World) (h : At n w x A As) (hl : L.lf (n + 1) x = 0) :
    Calls Tryz.prog 44 #[lv x A As c c'] w fun e w' => ResF (roundM n x) e w' ∧ Below w.heap.size w w' := by
  have HA := Lib.hid (fun (c d : Array Value) (e e' : TypeId) => (((Below.refl w.heap.size w).alloc (Nat.le_refl _) (.cells c e)).alloc (by simp) (.cells d e')))
  have cn := fun W hb => newRunner n x A As c c' w W h hb
  have HAT := Lib.hid h
  have HLF2 : Hid (L.pf (n + 1) x = 0) := Lib.hid (lf_pf hl)
  have HRM : Hid (roundM n x = rnd n x 5001 (st0 n x) 0 []) := Lib.hid rfl
  generalize roundM n x = R at HRM ⊢
  clear h hl
  unfold lv at cn ⊢
  have HOBC := Lib.hid (fun (c : Array Value) (e e' : TypeId) => Cl.new (w.alloc (.cells c e)) #[.slice none 0 0] e' 0 _ rfl)
  have HSQ := Lib.hid (fun (c : Array Value) (e : TypeId) => (by simp : (w.alloc (.cells c e)).heap.size = w.heap.size + 1))
  have HSR := Lib.hid (fun (c d : Array Value) (e e' : TypeId) => (by simp : ((w.alloc (.cells c e)).alloc (.cells d e')).heap.size = w.heap.size + 2))
  go_enter Tryz.func44, Tryz.ntmps44
  go_wp2_with (go_at_call 70; refine (cn _ (HA.out _ _ _ _)).mono ?_; rintro e w3 ⟨bk, rfl, hT3, hB3⟩; rw [HSR.out] at hT3; have HT3 := Lib.hid hT3; have HB3 := Lib.hid hB3; clear hT3 hB3)
  have HW4 : Hid (Below w.heap.size w w3) := Lib.hid (B.below_trans (HA.out _ _ _ _) HB3.out)
  have HPR : Hid (Pre false w w3 n (w.heap.size + 2) w3.heap.size x bk (st0 n x) ⟨w.heap.size + 1, w3.heap.size⟩ (.slice none 0 0) []) := Lib.hid (pre_start (A := A) (As := As) HT3.out HAT.out HLF2.out ⟨.inl (by show w.heap.size + 1 < _; omega), Nat.le_refl _, by have := HB3.out.size; rw [HSR.out] at this; show w.heap.size + 1 < w3.heap.size; omega⟩
    (by have := (HOBC.out _ _ _).below HB3.out; rw [HSQ.out] at this; exact this) (fun h => by cases h) (Nat.le_refl _) HW4.out (by omega) (by show w.heap.size ≤ w.heap.size + 1; omega))
  generalize hhi : w3.heap.size = hi at HPR
  have HHI : Hid (w.heap.size + 2 ≤ hi) := Lib.hid (by have := HB3.out.size; rw [HSR.out] at this; omega)
  clear HB3 HT3 hhi cn
  go_loopw [7] (fun s wr => ∃ (p : Nat) (st : St) (v : Value) (l : List Step), s = .int .i64 ((p : Int) + 1) ∧ p ≤ 5000 ∧ Hid (p ≤ l.length) ∧ Hid (Pre false w wr n (w.heap.size + 2) hi x bk st ⟨w.heap.size + 1, hi⟩ v l) ∧ Hid (rnd n x (5001 - p) st p l = R)) (fun s _ => 5001 - (intOf s).toNat)
  case atStart => exact ⟨0, st0 n x, _, [], rfl, by omega, Lib.hid (Nat.zero_le _), HPR, Lib.hid HRM.out.symm⟩
  case round =>
    obtain ⟨p, st, v, l, rfl, hp, HPL, HPre, HRN⟩ := hrel
    have HPO := Lib.hid ((pass_bd n x l.length st HPre.out.gd HPre.out.bd).1)
    have hrn := HRN.out
    rw [show 5001 - p = (5000 - p) + 1 from by omega] at hrn
    by_cases hlt : p < 5000
    · have hd : decide ((p : Int) + 1 ≤ 5000) = true := decide_eq_true (by omega)
      have hk1 : (p : Int) + 1 ≤ 5000 := by omega
      by_cases hf : l.length + (passS (n + 1) x st).2.length ≤ 5000
      · rw [rnd_fit hf] at hrn
        have cc := (passR n x bk st (w.heap.size + 2) hi ⟨w.heap.size + 1, hi⟩ v l w wr HPre.out).mono (R' := fun e w' => e = .returned (.bool true) ∧ (∃ v', Pre false w w' n (w.heap.size + 2) hi x bk (passS (n + 1) x st).1 ⟨w.heap.size + 1, hi⟩ v' (l ++ (passS (n + 1) x st).2) ∧ NewV wr v v')) fun e w' he => ⟨by rw [he.1, decide_eq_true hf], (post_fit HPre.out hf he.2).1⟩
        have HLL : Hid (p + 1 ≤ (l ++ (passS (n + 1) x st).2).length) := Lib.hid (by rw [List.length_append]; have := HPL.out; have := HPO.out; omega)
        generalize (passS (n + 1) x st).1 = st1 at *
        generalize l ++ (passS (n + 1) x st).2 = l1 at *
        have HRF := Lib.hid hrn
        have HCB := Lib.hid (fun (W : World) (v1 : Value) (hP : Pre false w W n (w.heap.size + 2) hi x bk st1 ⟨w.heap.size + 1, hi⟩ v1 l1) => home n x bk st1 (w.heap.size + 2) hi w W hP.tr hP.gd (hP.bd.le hP.le) hP.hw0)
        clear hrn hf HPO HRN
        cases hh : homeB n x st1 with
        | true =>
          rw [hh] at HCB
          have HRR : Hid (R = some (p + 1, l1)) := Lib.hid (by have := HRF.out; rw [if_pos hh] at this; exact this.symm)
          clear hh
          go_wp2_with (first
            | (go_at_call 71; refine cc.mono ?_; rintro e w5 ⟨rfl, v5, hP5, -⟩; obtain ⟨A5, c5, rfl⟩ := Copy.shape hP5.out.2.2.1; have HP5 := Lib.hid hP5; clear hP5)
            | (go_at_call 72; refine (HCB.out w5 _ HP5.out).mono ?_; rintro e w6 ⟨rfl, hB6⟩; have HB6 := Lib.hid hB6; have g0 := B.cell_below hB6 (show w5.cell? ⟨w.heap.size + 1, 0, none⟩ = some (.slice A5 l1.length c5) from HP5.out.out.1.1); clear hB6))
          first | go_quiet (fail) | go_region_law (fail)
          all_goals
            go_wp2
            go_ret3
            refine ⟨?_, B.below_drew (HP5.out.hw0.trans (HB6.out.mono HP5.out.hw0.size)) _⟩
            rw [HRR.out]
            obtain ⟨A6, c6, e6, hC⟩ := B.own_S (k := 2) (enc := stE) (hl := fun _ => rfl) (h1 := stE1) HP5.out.out.2.2.1 (by have := HP5.out.le; omega)
            cases e6
            exact ⟨A5, c5, by simp, (hC.mono HB6.out).mono (B.below_drew (Below.refl _ _) _)⟩
        | false =>
          rw [hh] at HCB
          have HRR : Hid (rnd n x (5001 - (p + 1)) st1 (p + 1) l1 = R) := Lib.hid (by have := HRF.out; rw [if_neg (by rw [hh]; simp)] at this; rw [show 5001 - (p + 1) = 5000 - p from by omega]; exact this)
          clear hh
          go_wp2_with (first
            | (go_at_call 71; refine cc.mono ?_; rintro e w5 ⟨rfl, v5, hP5, -⟩; have HP5 := Lib.hid hP5; clear hP5)
            | (go_at_call 72; refine (HCB.out w5 _ HP5.out).mono ?_; rintro e w6 ⟨rfl, hB6⟩; have HP6 := Lib.hid (HP5.out.fr (S := fun _ => False) (Fr.of_below hB6) (fun _ _ _ h => h) (fun h => h) (fun _ _ h => h) (fun _ h => h.elim)); clear hB6))
          go_roundw
          case rel => exact ⟨p + 1, st1, v5, l1, by go_num, by omega, HLL, HP6, HRR⟩
          case measure => simp [intOf]; omega
      · have hf' : 5000 < l.length + (passS (n + 1) x st).2.length := by omega
        rw [rnd_over hf'] at hrn
        have HRF := Lib.hid hrn
        have cc := (passR n x bk st (w.heap.size + 2) hi ⟨w.heap.size + 1, hi⟩ v l w wr HPre.out).mono (R' := fun e w' => e = .returned (.bool false) ∧ Below w.heap.size w w') fun e w' he => ⟨by rw [he.1, decide_eq_false hf], by
          obtain ⟨v', -, hf2, -⟩ := he.2
          refine HPre.out.hw0.trans (hf2.below HPre.out.hw0.size (fun k hS => ?_))
          have := HHI.out
          rcases hS with hS | hS | hS
          · omega
          · have e : k = w.heap.size + 1 := hS
            omega
          · have : hi ≤ k := (World.ownsRow.lt HPre.out.out.2.2.1 _ hS).1
            omega⟩
        clear hrn hf hf' HPO HRN
        go_wp2_with (go_at_call 71; refine cc.mono ?_; rintro e w5 ⟨rfl, hB5⟩; have HB5 := Lib.hid hB5; clear hB5)
        go_ret3
        exact ⟨by rw [← HRF.out]; rfl, HB5.out⟩
    · obtain rfl : p = 5000 := by omega
      rw [show 5000 - 5000 + 1 = 0 + 1 from rfl, rnd_over (by have := HPL.out; have := HPO.out; omega)] at hrn
      have HRF := Lib.hid hrn
      have hd : decide (((5000 : Nat) : Int) + 1 ≤ 5000) = false := decide_eq_false (by omega)
      have HBB := Lib.hid HPre.out.hw0
      clear hrn HRN HPO
      go_wp2
      go_ret3
      exact ⟨by rw [← HRF.out]; rfl, HBB.out⟩
end Go.Proofs.YtfillnkebohciaaGreatDoor.T
