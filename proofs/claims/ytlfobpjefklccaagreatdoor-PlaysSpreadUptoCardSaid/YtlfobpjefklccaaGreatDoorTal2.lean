/- The program's tallies: the walk. Printed by wip/gen/talgen.py. -/
import Derived.Test.YtlfobpjefklccaaGreatDoorTal
import Derived.Test.YtlfobpjefklccaaGreatDoorComeA
import Derived.StillTailTactics
import Derived.Deep.Cut
import Derived.Carry
namespace Go.Proofs.YtlfobpjefklccaaGreatDoor.Come
open Go.RowKit
open T (Step stK steps_at)
open F (Fr Cl)

theorem zeroTally (w : World) : (zeroValue 88).run Tryz.prog w = .ok (.pointer none) w := by kernel_rfl
set_option maxHeartbeats 4000000 in
set_option maxRecDepth 100000 in
theorem tallies (A : Option Addr) (c : Nat) (l : List Step) (w : World) (h1 : stK.C w A l) (hok : Ok l) (hl : l.length ≤ 5000) :
    Calls Tryz.prog 39 #[.slice A l.length c] w fun e w' => ∃ mb, e = .returned (.map (some mb)) ∧ TL w' mb w.heap.size l ∧ Below w.heap.size w w' := by
  have H1 := Lib.hid h1
  have HOK := Lib.hid hok
  have hmm := @run_makeMap Tryz.prog
  have HM0 := Lib.hid (M.OM.made w)
  clear h1 hok
  go_enter Tryz.func39, Tryz.ntmps39
  go_wp2
  clear hmm
  have HLM := Lib.hid (Nat.le_refl w.heap.size)
  generalize hmb : w.heap.size = mb at HM0 ⊢
  have HMB : Hid (w.heap.size ≤ mb) := Lib.hid (by omega)
  go_loopw [9] (fun s9 wr => ∃ (k : Nat), s9 = .int .i64 k ∧ k ≤ l.length ∧ Hid (TL wr mb w.heap.size (l.take k)) ∧ Hid (Below w.heap.size w wr)) (fun s _ => l.length - (intOf s).toNat)
  case atStart => exact ⟨0, rfl, Nat.zero_le _, Lib.hid ⟨fun _ => 0, by rw [List.take_zero]; exact ⟨HM0.out, HMB.out, fun k hk => (by cases hk), fun k hk => (by cases hk)⟩⟩, Lib.hid ((Below.refl _ _).alloc (Nat.le_refl _) _)⟩
  case round =>
    clear hmb
    obtain ⟨k, rfl, hk, HT, HB⟩ := hrel
    by_cases hlt : k < l.length
    · obtain ⟨b1, o1, rfl, f0, f1⟩ := steps_at (H1.out.mono HB.out) k hlt
      have hk1 : (k : Int) < l.length := by omega
      have HTS : Hid (l.take (k + 1) = l.take k ++ [l[k]]) := Lib.hid (List.take_succ_eq_append_getElem hlt)
      obtain ⟨hb2, hb2'⟩ := HOK.out _ (List.getElem_mem hlt)
      obtain ⟨bk, hT⟩ := HT.out
      have hil := its_le (ok_take HOK.out k) l[k].1
      have hil2 := tot_in HOK.out hl k
      have hil3 : (l.take k).length ≤ 5000 := by rw [List.length_take]; omega
      have hcnt : (its (l.take k) l[k].1).length ≤ 5000 := by omega
      have htt0 : 0 ≤ tot (its (l.take k) l[k].1) := hil.1
      have htt1 : tot (its (l.take k) l[k].1) ≤ 18000000000 := by omega
      clear hil hil2 hil3
      generalize l[k] = s at *
      obtain ⟨s1, s2⟩ := s
      have hcnt' : (its (l.take k) s1).length ≤ 5000 := hcnt
      have htt0' : 0 ≤ tot (its (l.take k) s1) := htt0
      have htt1' : tot (its (l.take k) s1) ≤ 18000000000 := htt1
      have hs2 : 1 ≤ s2 := hb2
      have hs2' : s2 ≤ 3600000 := hb2'
      clear hcnt htt0 htt1 hb2 hb2'
      have HSS : Hid (nub (l.take k ++ [(s1, s2)]) [] = if has (nub (l.take k) []) s1 = true then nub (l.take k) [] else nub (l.take k) [] ++ [s1]) := Lib.hid (nub_snoc _ _ _)
      go_upto_region 5 with (fail)
      have HAL : Hid (Below wr.heap.size wr (wr.alloc (.cells #[.string s1, .int .i64 s2] 46))) := Lib.hid ((Below.refl _ _).alloc (Nat.le_refl _) _)
      have p0 : (wr.alloc (.cells #[.string s1, .int .i64 s2] 46)).cell? ⟨wr.heap.size, 0, none⟩ = some (.string s1) := by rw [World.cell?_alloc_new]; rfl
      have p1 : (wr.alloc (.cells #[.string s1, .int .i64 s2] 46)).cell? ⟨wr.heap.size, 1, none⟩ = some (.int .i64 s2) := by rw [World.cell?_alloc_new]; rfl
      have HTA := Lib.hid (hT.below HAL.out)
      have HBA := Lib.hid (HB.out.alloc HB.out.size (.cells #[.string s1, .int .i64 s2] 46))
      have HLT : Hid (∀ x ∈ nub (l.take k) [], bk x < wr.heap.size) := Lib.hid (fun x hx => (hT.cl x hx).2.2.1.lt)
      clear hT HT f0 f1 HB HAL
      have HSZA : Hid ((wr.alloc (.cells #[.string s1, .int .i64 s2] 46)).heap.size = wr.heap.size + 1) := Lib.hid (by simp)
      generalize wr.alloc (.cells #[.string s1, .int .i64 s2] 46) = W1 at *
      generalize wr.heap.size = n5 at *
      cases hh : has (nub (l.take k) []) s1 with
      | true =>
        have HNK : Hid (nub (l.take (k + 1)) [] = nub (l.take k) []) := Lib.hid (by rw [HTS.out, HSS.out, if_pos hh])
        have HMEM : Hid (s1 ∈ nub (l.take k) []) := Lib.hid (has_iff.1 hh)
        have HLK : Hid (M.look (ptrs (nub (l.take k) []) bk) s1 = some (ptr (bk s1))) := Lib.hid (by rw [look_ptrs, if_pos hh])
        have HNE : Hid (n5 ≠ bk s1) := Lib.hid (by have := HLT.out s1 HMEM.out; omega)
        clear HSS HLT hh
        go_upto_region 7 with (at_lookup; refine M.wpl_look rfl _ _ 82 rfl 9 88 Tryz.underlying82 Tryz.underlying9 _ (zeroTally _) mb _ HTA.out.om rfl _ rfl ?_; simp only [HLK.out, Option.getD_some, ptr])
        obtain ⟨-, -, ⟨c0, z0⟩, c1, z1⟩ := HTA.out.cl s1 HMEM.out
        have HTM := HTA
        have HB7 := HBA
        clear HTA HBA
        generalize W1 = W7 at *
        generalize nub (l.take k) [] = ks7 at *
        generalize bk = bk7 at *
        go_wp2_with (at_lookup; refine M.wpl_look rfl _ _ 82 rfl 9 88 Tryz.underlying82 Tryz.underlying9 _ (zeroTally _) mb _ HTM.out.om rfl _ rfl ?_; simp only [HLK.out, Option.getD_some, ptr])
        have HT2 := Lib.hid (HTM.out.set0 HMEM.out (((its (l.take k) s1).length : Int) + 1))
        have HB8 : Hid (Below w.heap.size w (W7.setCell ⟨bk7 s1, 0, none⟩ (.int .i64 (((its (l.take k) s1).length : Int) + 1)))) := Lib.hid (HB7.out.setCell (HTM.out.cl s1 HMEM.out).1 _)
        have P0 : Hid ((W7.setCell ⟨bk7 s1, 0, none⟩ (.int .i64 (((its (l.take k) s1).length : Int) + 1))).cell? ⟨n5, 0, none⟩ = some (.string s1)) := Lib.hid (by rw [World.cell?_setCell_other _ _ _ _ (by intro e; cases e; exact HNE.out rfl)]; exact p0)
        have P1 : Hid ((W7.setCell ⟨bk7 s1, 0, none⟩ (.int .i64 (((its (l.take k) s1).length : Int) + 1))).cell? ⟨n5, 1, none⟩ = some (.int .i64 s2)) := Lib.hid (by rw [World.cell?_setCell_other _ _ _ _ (by intro e; cases e)]; exact p1)
        clear p0 p1 c0 z0 c1 z1
        generalize W7.setCell ⟨bk7 s1, 0, none⟩ (.int .i64 (((its (l.take k) s1).length : Int) + 1)) = W8 at *
        have p0 := P0.out
        have p1 := P1.out
        obtain ⟨-, -, c0, c1, z1⟩ := HT2.out.cl s1 HMEM.out
        have hlk := (HT2.out.below (B.below_drew (Below.refl _ _) 1)).om.run_look (w := W8.drew) (P := Tryz.prog) (t := 82) Tryz.underlying82 Tryz.underlying9 (zeroTally _) s1 false
        rw [HLK.out, if_neg (by simp), Option.getD_some] at hlk
        clear c0
        have c1' : W8.drew.cell? ⟨bk7 s1, 1, none⟩ = some (.int .i64 (tot (its (l.take k) s1))) := c1
        have z1' : W8.drew.frozen? ⟨bk7 s1, 1, none⟩ = false := z1
        have HT3 : Hid (TM W8.drew mb w.heap.size ks7 bk7 (fun x => if x = s1 then ((its (l.take k) s1).length : Int) + 1 else ((its (l.take k) x).length : Int)) (fun x => tot (its (l.take k) x))) := Lib.hid (HT2.out.below (B.below_drew (Below.refl _ _) 1))
        have HB9 : Hid (Below w.heap.size w W8.drew) := Lib.hid (B.below_drew HB8.out 1)
        unfold ptr at hlk
        go_still_tail 12, (by kernel_rfl)
        change wpList _ _ _ _ _ W8.drew
        generalize W8.drew = W9 at *
        clear hlk p0 p1 c1 z1
        go_wp2
        go_roundw
        case rel => exact ⟨k + 1, by go_num, by omega, Lib.hid ⟨bk7, by
          have h := HT3.out.set1 HMEM.out (tot (its (l.take k) s1) + s2)
          rw [← HNK.out] at h
          refine h.congr (fun x hx => ?_) (fun x hx => ?_)
          · rw [HTS.out, its_snoc]
            by_cases e : x = s1
            · subst e; rw [if_pos rfl, if_pos rfl]; simp
            · rw [if_neg e, if_neg (fun e2 => e e2.symm), List.append_nil]
          · rw [HTS.out, its_snoc]
            by_cases e : x = s1
            · subst e; rw [if_pos rfl, if_pos rfl, tot_app, tot, tot, Int.add_zero]
            · rw [if_neg e, if_neg (fun e2 => e e2.symm), List.append_nil]⟩, Lib.hid (HB9.out.setCell (HT3.out.cl s1 HMEM.out).1 _)⟩
        case measure => simp [intOf]; omega
      | false =>
        have HNK : Hid (nub (l.take (k + 1)) [] = nub (l.take k) [] ++ [s1]) := Lib.hid (by rw [HTS.out, HSS.out, if_neg (by rw [hh]; simp)])
        have HMEM : Hid (s1 ∈ nub (l.take k) [] ++ [s1]) := Lib.hid (by simp)
        have HLK0 : Hid (M.look (ptrs (nub (l.take k) []) bk) s1 = none) := Lib.hid (by rw [look_ptrs, if_neg (by rw [hh]; simp)])
        have HH := Lib.hid hh
        have HI0 : Hid (its (l.take k) s1 = []) := Lib.hid (its_none hh)
        clear HSS hh
        have HBA2 : Hid (Below w.heap.size w (W1.alloc (.cells #[.int .i64 0, .int .i64 0] 91))) := Lib.hid (HBA.out.alloc HBA.out.size _)
        have HOA : Hid (M.OM (W1.alloc (.cells #[.int .i64 0, .int .i64 0] 91)) mb (ptrs (nub (l.take k) []) bk)) := Lib.hid (HTA.out.om.below ((Below.refl _ _).alloc (Nat.le_refl _) _))
        have HPA0 : Hid ((W1.alloc (.cells #[.int .i64 0, .int .i64 0] 91)).cell? ⟨n5, 0, none⟩ = some (.string s1)) := Lib.hid (B.cell_below ((Below.refl _ _).alloc (Nat.le_refl _) _) p0)
        have HPA1 : Hid ((W1.alloc (.cells #[.int .i64 0, .int .i64 0] 91)).cell? ⟨n5, 1, none⟩ = some (.int .i64 s2)) := Lib.hid (B.cell_below ((Below.refl _ _).alloc (Nat.le_refl _) _) p1)
        have HMN : Hid (n5 ≠ mb) := Lib.hid (fun e => by
          obtain ⟨arr, cl, hb, _⟩ := HTA.out.om
          rw [← e] at hb
          have h0 := p0
          simp [World.cell?, hb] at h0)
        go_upto_region 7 with (first
          | (at_lookup; refine M.wpl_look rfl _ _ 82 rfl 9 88 Tryz.underlying82 Tryz.underlying9 _ (zeroTally _) mb _ HTA.out.om rfl _ rfl ?_; simp only [HLK0.out, Option.getD_none])
          | (at_mapUpdate; refine M.wpl_put rfl _ _ _ 82 rfl 9 88 Tryz.underlying82 Tryz.underlying9 mb _ HOA.out rfl _ rfl _ rfl w w.heap.size HBA2.out HMB.out ?_; intro w7 HO7 HB7 HG7; have HO7 := Lib.hid HO7; have HB7 := Lib.hid HB7; have HG7 := Lib.hid HG7))
        have HTM : Hid (TM w7 mb w.heap.size (nub (l.take k) [] ++ [s1]) (fun x => if x = s1 then W1.heap.size else bk x) (fun x => ((its (l.take k) x).length : Int)) (fun x => tot (its (l.take k) x))) := Lib.hid (HTA.out.add HBA.out.size HH.out (by simp [HI0.out]) (by simp [HI0.out, tot]) HO7.out HG7.out)
        have HF7 : Hid (Fr (fun b => b = mb) (W1.alloc (.cells #[.int .i64 0, .int .i64 0] 91)) w7) := Lib.hid ((Fr.refl _ _).grown HG7.out (fun g e _ => (Option.some.inj e).symm))
        clear p0 p1
        have p0 : w7.cell? ⟨n5, 0, none⟩ = some (.string s1) := HF7.out.cell HMN.out HPA0.out
        have p1 : w7.cell? ⟨n5, 1, none⟩ = some (.int .i64 s2) := HF7.out.cell HMN.out HPA1.out
        have HNE : Hid (n5 ≠ (fun x => if x = s1 then W1.heap.size else bk x) s1) := Lib.hid (by show n5 ≠ if s1 = s1 then W1.heap.size else bk s1; rw [if_pos rfl, HSZA.out]; omega)
        have HLK : Hid (M.look (ptrs (nub (l.take k) [] ++ [s1]) (fun x => if x = s1 then W1.heap.size else bk x)) s1 = some (ptr ((fun x => if x = s1 then W1.heap.size else bk x) s1))) := Lib.hid (by rw [look_ptrs, if_pos (has_iff.2 HMEM.out)])
        clear HPA0 HPA1 HF7 HO7 HG7 HTA HBA HBA2 HOA HLT HLK0
        generalize (fun x => if x = s1 then W1.heap.size else bk x) = bk7 at *
        generalize nub (l.take k) [] ++ [s1] = ks7 at *
        obtain ⟨-, -, ⟨c0, z0⟩, c1, z1⟩ := HTM.out.cl s1 HMEM.out
        generalize w7 = W7 at *
        go_wp2_with (at_lookup; refine M.wpl_look rfl _ _ 82 rfl 9 88 Tryz.underlying82 Tryz.underlying9 _ (zeroTally _) mb _ HTM.out.om rfl _ rfl ?_; simp only [HLK.out, Option.getD_some, ptr])
        have HT2 := Lib.hid (HTM.out.set0 HMEM.out (((its (l.take k) s1).length : Int) + 1))
        have HB8 : Hid (Below w.heap.size w (W7.setCell ⟨bk7 s1, 0, none⟩ (.int .i64 (((its (l.take k) s1).length : Int) + 1)))) := Lib.hid (HB7.out.setCell (HTM.out.cl s1 HMEM.out).1 _)
        have P0 : Hid ((W7.setCell ⟨bk7 s1, 0, none⟩ (.int .i64 (((its (l.take k) s1).length : Int) + 1))).cell? ⟨n5, 0, none⟩ = some (.string s1)) := Lib.hid (by rw [World.cell?_setCell_other _ _ _ _ (by intro e; cases e; exact HNE.out rfl)]; exact p0)
        have P1 : Hid ((W7.setCell ⟨bk7 s1, 0, none⟩ (.int .i64 (((its (l.take k) s1).length : Int) + 1))).cell? ⟨n5, 1, none⟩ = some (.int .i64 s2)) := Lib.hid (by rw [World.cell?_setCell_other _ _ _ _ (by intro e; cases e)]; exact p1)
        clear p0 p1 c0 z0 c1 z1
        generalize W7.setCell ⟨bk7 s1, 0, none⟩ (.int .i64 (((its (l.take k) s1).length : Int) + 1)) = W8 at *
        have p0 := P0.out
        have p1 := P1.out
        obtain ⟨-, -, c0, c1, z1⟩ := HT2.out.cl s1 HMEM.out
        have hlk := (HT2.out.below (B.below_drew (Below.refl _ _) 1)).om.run_look (w := W8.drew) (P := Tryz.prog) (t := 82) Tryz.underlying82 Tryz.underlying9 (zeroTally _) s1 false
        rw [HLK.out, if_neg (by simp), Option.getD_some] at hlk
        clear c0
        have c1' : W8.drew.cell? ⟨bk7 s1, 1, none⟩ = some (.int .i64 (tot (its (l.take k) s1))) := c1
        have z1' : W8.drew.frozen? ⟨bk7 s1, 1, none⟩ = false := z1
        have HT3 : Hid (TM W8.drew mb w.heap.size ks7 bk7 (fun x => if x = s1 then ((its (l.take k) s1).length : Int) + 1 else ((its (l.take k) x).length : Int)) (fun x => tot (its (l.take k) x))) := Lib.hid (HT2.out.below (B.below_drew (Below.refl _ _) 1))
        have HB9 : Hid (Below w.heap.size w W8.drew) := Lib.hid (B.below_drew HB8.out 1)
        unfold ptr at hlk
        go_still_tail 12, (by kernel_rfl)
        change wpList _ _ _ _ _ W8.drew
        generalize W8.drew = W9 at *
        clear hlk p0 p1 c1 z1
        go_wp2
        go_roundw
        case rel => exact ⟨k + 1, by go_num, by omega, Lib.hid ⟨bk7, by
          have h := HT3.out.set1 HMEM.out (tot (its (l.take k) s1) + s2)
          rw [← HNK.out] at h
          refine h.congr (fun x hx => ?_) (fun x hx => ?_)
          · rw [HTS.out, its_snoc]
            by_cases e : x = s1
            · subst e; rw [if_pos rfl, if_pos rfl]; simp
            · rw [if_neg e, if_neg (fun e2 => e e2.symm), List.append_nil]
          · rw [HTS.out, its_snoc]
            by_cases e : x = s1
            · subst e; rw [if_pos rfl, if_pos rfl, tot_app, tot, tot, Int.add_zero]
            · rw [if_neg e, if_neg (fun e2 => e e2.symm), List.append_nil]⟩, Lib.hid (HB9.out.setCell (HT3.out.cl s1 HMEM.out).1 _)⟩
        case measure => simp [intOf]; omega
    · obtain rfl : k = l.length := by omega
      rw [List.take_length] at HT
      go_wp2
      go_ret
      exact ⟨mb, rfl, HT.out, HB.out⟩
end Go.Proofs.YtlfobpjefklccaaGreatDoor.Come
