/- The reference's PortionsOf. Printed by wip/gen/portgen.py. -/
import Derived.Test.YtlfobpjefklccaaGreatDoorPort
import Derived.Test.YtlfobpjefklccaaGreatDoorRoundOk
import Derived.Test.YtlfobpjefklccaaGreatDoorSmall
namespace Go.Proofs.YtlfobpjefklccaaGreatDoor.Come
open Go.RowKit
open T (Step stK steps_at)

set_option maxHeartbeats 8000000 in
set_option maxRecDepth 100000 in
theorem portionsOf (A : Option Addr) (c : Nat) (l : List Step) (w : World) (h1 : stK.C w A l) (hok : Ok l) (hn : l ≠ []) (hl : l.length ≤ 5000) :
    Calls Tryz.prog 17 #[.slice A l.length c] w fun e w' => (∃ A c, e = .returned (.slice A (pts l).length c) ∧ ptK.C w' A (pts l)) ∧ Below w.heap.size w w' := by
  have H1 := Lib.hid h1
  have HOK := Lib.hid hok
  have hT1 := tot_pos hok hn
  have hT2 := (show tot l ≤ 18000000000 by have := (tot_in hok hl l.length).2; rwa [List.take_length] at this)
  have hlp : 1 ≤ l.length := List.length_pos_iff.2 hn
  have HI := Lib.hid (fun W (hb : Below w.heap.size w W) => itemsOf A c l W (h1.mono hb) hl)
  have HPE : Hid (pts l = (Told.dd (l.map (·.1))).map (pt l)) := Lib.hid rfl
  have HDL := Lib.hid (dd_len l)
  have HLOW := Lib.hid (fun k (W : World) => Low.lowestR (its l k).length l.length (by have := (its_le hok k).2.2; omega) ⟨by omega, by omega⟩ W)
  have HLOT : Hid (∀ k (W : World), Calls Tryz.prog 45 #[.int .i64 (tot (its l k)), .int .i64 (tot l)] W fun e w' => e = .returned (.agg #[.int .i64 (Low.low (tot (its l k)).toNat (tot l).toNat).1, .int .i64 (Low.low (tot (its l k)).toNat (tot l).toNat).2]) ∧ Below W.heap.size W w') := Lib.hid (fun k W => by
    obtain ⟨i1, i2, i3⟩ := its_le hok k
    have := Low.lowestR (tot (its l k)).toNat (tot l).toNat (by omega) ⟨by omega, by omega⟩ W
    rw [Int.toNat_of_nonneg i1, Int.toNat_of_nonneg (show 0 ≤ tot l by omega)] at this
    exact this)
  have HBD := Lib.hid (fun k => tot_in hok hl k)
  have HTL : Hid (tot (l.take l.length) = tot l) := Lib.hid (by rw [List.take_length])
  generalize Told.dd (l.map (·.1)) = ks at *
  generalize pts l = PL at *
  clear h1 hok hn
  go_enter Tryz.func17, Tryz.ntmps17
  go_wp2
  go_loopw [4, 15] (fun s4 s15 wr => ∃ k : Nat, s15 = .int .i64 k ∧ s4 = .int .i64 (tot (l.take k)) ∧ k ≤ l.length ∧ Hid (Below w.heap.size w wr)) (fun _ s _ => l.length - (intOf s).toNat)
  case atStart => exact ⟨0, rfl, rfl, Nat.zero_le _, Lib.hid (Below.refl _ _)⟩
  case round =>
    obtain ⟨k, rfl, rfl, hk, HB⟩ := hrel
    by_cases hlt : k < l.length
    · obtain ⟨b1, o1, rfl, f0, f1⟩ := steps_at (H1.out.mono HB.out) k hlt
      have HTT := Lib.hid (tot_take hlt)
      obtain ⟨hb1, hb1'⟩ := HBD.out k
      obtain ⟨hb2, hb2'⟩ := HOK.out _ (List.getElem_mem hlt)
      have hk1 : (k : Int) < l.length := by omega
      generalize l[k] = s at *
      obtain ⟨s1, s2⟩ := s
      generalize tot (l.take k) = tt at *
      go_wp2
      go_roundw
      case rel => exact ⟨k + 1, by go_num, by rw [HTT.out], by omega, Lib.hid (HB.out.alloc HB.out.size _)⟩
      case measure => simp [intOf]; omega
    · obtain rfl : k = l.length := by omega
      have hI := HI.out wr HB.out
      have HI2 := Lib.hid hI
      rw [HTL.out]
      clear hI HI
      go_wp2_with (go_at_call 44; refine HI2.out.mono ?_; rintro e W4 ⟨v4, rfl, hO4, hB4⟩; obtain ⟨A4, c4, rfl⟩ := Copy.shape hO4; have HO4 := Lib.hid hO4; have HB4 := Lib.hid (B.below_trans HB.out hB4); clear hO4 hB4)
      have HKS : Hid (B.Kd.str.C W4 A4 ks) := Lib.hid (by obtain ⟨A', c', e, hC⟩ := B.own_str HO4.out (by have := HDL.out; omega); cases e; exact hC)
      have H4 := Lib.hid (H1.out.mono HB4.out)
      clear HO4 HI2 HB
      go_loopw [3, 27] (fun s3 s27 wr => ∃ (j : Nat) (v3 : Value), s27 = .int .i64 j ∧ j ≤ ks.length ∧ v3 = s3 ∧ Hid (B.Own wr W4.heap.size 51 5 ptE v3 ((ks.take j).map (pt l))) ∧ Hid (Below W4.heap.size W4 wr)) (fun _ s _ => ks.length - (intOf s).toNat)
      case atStart => exact ⟨0, _, rfl, Nat.zero_le _, rfl, Lib.hid (by rw [List.take_zero]; exact B.Own.nil _ _ _ _ _), Lib.hid (Below.refl _ _)⟩
      case round =>
        obtain ⟨j, v3, rfl, hj, rfl, HO, HB⟩ := hrel
        by_cases hlt : j < ks.length
        · obtain ⟨b1, o1, rfl, f0⟩ := str_at (HKS.out.mono HB.out) j hlt
          have hj1 : (j : Int) < ks.length := by omega
          have hkl : ks.length ≤ 5000 := by have := HDL.out; omega
          have HTK : Hid ((ks.take (j + 1)).map (pt l) = (ks.take j).map (pt l) ++ [pt l ks[j]]) := Lib.hid (by rw [List.take_succ_eq_append_getElem hlt, List.map_append]; rfl)
          have HLT : Hid (((ks.take j).map (pt l)).length ≤ 5000) := Lib.hid (by rw [List.length_map, List.length_take]; have := HDL.out; omega)
          generalize hkk : ks[j] = kk at *
          have HITL : Hid (its (l.take l.length) kk = its l kk) := Lib.hid (by rw [List.take_length])
          go_wp2
          go_loopw [9, 10, 33] (fun s9 s10 s33 wr => ∃ i : Nat, s33 = .int .i64 i ∧ i ≤ l.length ∧ s9 = .int .i64 ((its (l.take i) kk).length : Nat) ∧ s10 = .int .i64 (tot (its (l.take i) kk)) ∧ Hid (B.Own wr W4.heap.size 51 5 ptE v3 ((ks.take j).map (pt l))) ∧ Hid (Below W4.heap.size W4 wr)) (fun _ _ s _ => l.length - (intOf s).toNat)
          case atStart => exact ⟨0, rfl, Nat.zero_le _, rfl, rfl, HO, HB⟩
          case round =>
            obtain ⟨i, rfl, hi, rfl, rfl, HO2, HB2⟩ := hrel
            have hcn : (its (l.take i) kk).length ≤ 5000 := by have := (its_le (ok_take HOK.out i) kk).2.2; have := List.length_take_le i l; omega
            have hct : 0 ≤ tot (its (l.take i) kk) ∧ tot (its (l.take i) kk) ≤ 18000000000 := by have := its_le (ok_take HOK.out i) kk; have := HBD.out i; omega
            obtain ⟨hct0, hct1⟩ := hct
            by_cases hlt2 : i < l.length
            · obtain ⟨b2, o2, rfl, f1, f2⟩ := steps_at (H4.out.mono HB2.out) i hlt2
              have HTS : Hid (its (l.take (i + 1)) kk = its (l.take i) kk ++ (if l[i].1 = kk then [l[i]] else [])) := Lib.hid (by rw [List.take_succ_eq_append_getElem hlt2, its_snoc])
              obtain ⟨hb2, hb2'⟩ := HOK.out _ (List.getElem_mem hlt2)
              have hi1 : (i : Int) < l.length := by omega
              generalize l[i] = s at *
              obtain ⟨s1, s2⟩ := s
              have hs2 : 1 ≤ s2 := hb2
              have hs2' : s2 ≤ 3600000 := hb2'
              clear hb2 hb2'
              rcases seq_cases s1 kk with ⟨hse, hsb⟩ | ⟨hse, hsb⟩
              · have HTS2 : Hid (its (l.take (i + 1)) kk = its (l.take i) kk ++ [(s1, s2)]) := Lib.hid (by rw [HTS.out, if_pos hse.out])
                generalize its (l.take i) kk = q at *
                generalize hqt : tot q = qt at *
                have HQT := Lib.hid hqt
                clear HTS hqt
                go_wp2
                go_roundw
                case rel => exact ⟨i + 1, by go_num, by omega, by rw [HTS2.out]; simp, by rw [HTS2.out, tot_app, tot, tot, Int.add_zero, HQT.out], HO2.out.below ((Below.refl _ _).alloc (Nat.le_refl _) _) |> Lib.hid, Lib.hid (HB2.out.alloc HB2.out.size _)⟩
                case measure => simp [intOf]; omega
              · have HTS2 : Hid (its (l.take (i + 1)) kk = its (l.take i) kk) := Lib.hid (by rw [HTS.out, if_neg hse.out, List.append_nil])
                clear HTS
                go_wp2
                go_roundw
                case rel => exact ⟨i + 1, by go_num, by omega, by rw [HTS2.out], by rw [HTS2.out], Lib.hid (HO2.out.below ((Below.refl _ _).alloc (Nat.le_refl _) _)), Lib.hid (HB2.out.alloc HB2.out.size _)⟩
                case measure => simp [intOf]; omega
            · obtain rfl : i = l.length := by omega
              rw [HITL.out] at hcn hct0 hct1 ⊢
              have HL1 := Lib.hid (fun (W : World) => HLOW.out kk W)
              have HL2 := Lib.hid (fun (W : World) => HLOT.out kk W)
              have HCS : Hid ((#[.string kk, .int .i64 (Low.low (its l kk).length l.length).1, .int .i64 (Low.low (its l kk).length l.length).2, .int .i64 (Low.low (tot (its l kk)).toNat (tot l).toNat).1, .int .i64 (Low.low (tot (its l kk)).toNat (tot l).toNat).2] : Array Value).toList = ptE (pt l kk)) := Lib.hid rfl
              generalize hpt : pt l kk = PJ at HTK HCS
              generalize ((Low.low (its l kk).length l.length).1 : Int) = x1 at *
              generalize ((Low.low (its l kk).length l.length).2 : Int) = x2 at *
              generalize ((Low.low (tot (its l kk)).toNat (tot l).toNat).1 : Int) = x3 at *
              generalize ((Low.low (tot (its l kk)).toNat (tot l).toNat).2 : Int) = x4 at *
              generalize (its l kk).length = y1 at *
              generalize tot (its l kk) = y2 at *
              generalize (ks.take j).map (pt l) = PS at *
              clear hpt
              go_wp2_with (first
                | (go_at_call 45; (with_reducible refine (HL1.out _).mono ?_); rintro e w5 ⟨rfl, hB5⟩; have HO5 := Lib.hid (HO2.out.below hB5); have HB5 := Lib.hid (B.below_trans HB2.out hB5); clear hB5)
                | (go_at_call 45; (with_reducible refine (HL2.out _).mono ?_); rintro e w6 ⟨rfl, hB6⟩; have HO6 := Lib.hid (HO5.out.below hB6); have HB6 := Lib.hid (B.below_trans HB5.out hB6); clear hB6)
                | (at_builtin; (refine B.wpl_append (w0 := W4) W4.heap.size rfl _ _ 39 51 (.agg #[.string ⟨#[]⟩, .int .i64 0, .int .i64 0, .int .i64 0, .int .i64 0]) 5 48 rfl Tryz.underlying39 info_pt rfl (by decide) (by decide) ptE (fun _ => rfl) ptE1 _ PS PJ _ HCS.out HO6.out rfl rfl HB6.out HB6.out.size (by have := HLT.out; omega) ?_); intro v7 w7 hO7 hB7 _; have HO7 := Lib.hid hO7; have HB7 := Lib.hid hB7; clear hO7 hB7))
              go_roundw
              case rel => exact ⟨j + 1, _, by go_num, by omega, rfl, by rw [HTK.out]; exact HO7, HB7⟩
              case measure => simp [intOf]; omega
        · obtain rfl : j = ks.length := by omega
          have ho := HO.out
          rw [List.take_length, ← HPE.out] at ho
          obtain ⟨A7, c7, rfl, hC7⟩ := own_pt ho (by rw [HPE.out, List.length_map]; have := HDL.out; omega)
          have HC7 := Lib.hid hC7
          clear ho hC7 HO
          go_wp2
          go_ret
          exact ⟨⟨A7, c7, rfl, HC7.out⟩, B.below_trans HB4.out HB.out⟩
end Go.Proofs.YtlfobpjefklccaaGreatDoor.Come
