/- The reference's CutOf and CutFault, sync.Cut of wrong arguments: contracts. CutOf printed by wip/gen/cutofgen.py. -/
import Derived.Test.YtdgkknjapfdlaaaDoorCut
import Derived.Test.YtdgkknjapfdlaaaDoorHex
namespace Go.Proofs.YtdgkknjapfdlaaaDoor.Cut
open Go.RowKit

theorem cut_bad (s : ByteArray) (low bits high : Int) (h : cutFault s low bits high ≠ 0) (w : World) :
    Calls Tryd.prog 10 #[.string s, .int .i64 low, .int .i64 bits, .int .i64 high] w fun e w' => e = .returned (.tuple #[.slice none 0 0, .int .i64 (cutFault s low bits high)]) ∧ w' = w := by
  by_cases hs : 100000 < (s.size : Int)
  · have HF := Lib.hid (show cutFault s low bits high = 2 by rw [cutFault, if_pos hs])
    go_enter Tryd.func10, Tryd.ntmps10
    go_wp2
    go_ret2
    exact ⟨by rw [HF.out]; rfl, rfl⟩
  · have hf : cutFault s low bits high = 1 := by
      unfold cutFault at h ⊢
      rw [if_neg hs] at h ⊢
      split at h
      · rename_i hc; rw [if_pos hc]
      · exact absurd rfl h
    rw [hf]
    by_cases h1 : low < 1 ∨ high < low
    · have o1 := outside low 1 high true (decide_eq_true h1)
      go_enter Tryd.func10, Tryd.ntmps10
      go_wp2_with (go_at_call 33; refine (o1 _).mono ?_; rintro e w' ⟨rfl, rfl⟩)
      go_ret2
      exact ⟨rfl, rfl⟩
    · have o1 := outside low 1 high false (decide_eq_false h1)
      by_cases h2 : 100000 < high
      · go_enter Tryd.func10, Tryd.ntmps10
        go_wp2_with (go_at_call 33; refine (o1 _).mono ?_; rintro e w' ⟨rfl, rfl⟩)
        go_ret2
        exact ⟨rfl, rfl⟩
      · have h3 : bits < 0 ∨ 16 < bits := by
          unfold cutFault at hf
          rw [if_neg hs] at hf
          split at hf
          · rename_i hc; rcases hc with hc | hc | hc
            · exact absurd hc h1
            · exact absurd hc h2
            · exact hc
          · exact absurd hf (by decide)
        have o2 := outside bits 0 16 true (decide_eq_true h3)
        go_enter Tryd.func10, Tryd.ntmps10
        go_wp2_with (go_at_call 33; first | with_reducible refine (o1 _).mono ?_ | with_reducible refine (o2 _).mono ?_; rintro e w' ⟨rfl, rfl⟩)
        go_ret2
        exact ⟨rfl, rfl⟩
theorem cutFault_any (s : ByteArray) (low bits high : Int) (w : World) :
    Calls Tryd.prog 12 #[.string s, .int .i64 low, .int .i64 bits, .int .i64 high] w fun e w' => e = .returned (.int .i64 (cutFault s low bits high)) ∧ w' = w := by
  by_cases hs : 100000 < (s.size : Int)
  · have HF := Lib.hid (show cutFault s low bits high = 2 by rw [cutFault, if_pos hs])
    go_enter Tryd.func12, Tryd.ntmps12
    go_wp2
    go_ret
    exact ⟨by rw [HF.out]; rfl, rfl⟩
  · by_cases h1 : low < 1 ∨ high < low
    · have HF := Lib.hid (show cutFault s low bits high = 1 by rw [cutFault, if_neg hs, if_pos (Or.inl h1)])
      have o1 := within low 1 high false (decide_eq_false (by omega))
      go_enter Tryd.func12, Tryd.ntmps12
      go_wp2_with (go_at_call 35; refine (o1 _).mono ?_; rintro e w' ⟨rfl, rfl⟩)
      go_ret
      exact ⟨by rw [HF.out]; rfl, rfl⟩
    · have o1 := within low 1 high true (decide_eq_true (by omega))
      by_cases h2 : 100000 < high
      · have HF := Lib.hid (show cutFault s low bits high = 1 by rw [cutFault, if_neg hs, if_pos (Or.inr (Or.inl h2))])
        go_enter Tryd.func12, Tryd.ntmps12
        go_wp2_with (go_at_call 35; refine (o1 _).mono ?_; rintro e w' ⟨rfl, rfl⟩)
        go_ret
        exact ⟨by rw [HF.out]; rfl, rfl⟩
      · by_cases h3 : bits < 0 ∨ 16 < bits
        · have HF := Lib.hid (show cutFault s low bits high = 1 by rw [cutFault, if_neg hs, if_pos (Or.inr (Or.inr h3))])
          have o2 := within bits 0 16 false (decide_eq_false (by omega))
          go_enter Tryd.func12, Tryd.ntmps12
          go_wp2_with (go_at_call 35; first | with_reducible refine (o1 _).mono ?_ | with_reducible refine (o2 _).mono ?_; rintro e w' ⟨rfl, rfl⟩)
          go_ret
          exact ⟨by rw [HF.out]; rfl, rfl⟩
        · have HF := Lib.hid (show cutFault s low bits high = 0 by rw [cutFault, if_neg hs, if_neg (fun h => h.elim h1 (fun h => h.elim h2 h3))])
          have o2 := within bits 0 16 true (decide_eq_true (by omega))
          go_enter Tryd.func12, Tryd.ntmps12
          go_wp2_with (go_at_call 35; first | with_reducible refine (o1 _).mono ?_ | with_reducible refine (o2 _).mono ?_; rintro e w' ⟨rfl, rfl⟩)
          go_ret
          exact ⟨by rw [HF.out]; rfl, rfl⟩

theorem cutOf_ok (s : ByteArray) (low bits high : Nat) (hs : s.size ≤ 100000) (h1 : 1 ≤ low) (h2 : low ≤ high) (h3 : high ≤ 100000) (h4 : bits ≤ 16) (w : World) :
    Calls Tryd.prog 15 #[.string s, .int .i64 low, .int .i64 bits, .int .i64 high] w fun e w' => ∃ v, e = .returned v ∧ B.Kd.str.S w' v (cuts s low bits high) ∧ Below w.heap.size w w' := by
  obtain ⟨p, hp, hp1, hp2, hp3⟩ := pow_ok bits h4
  have hp0 : ¬ p = 0 := by omega
  have HP := Lib.hid hp3
  clear hp3
  go_enter Tryd.func15, Tryd.ntmps15
  go_wp2
  go_loopw [9, 10, 17] (fun s9 s10 s17 wr => ∃ (k frm : Nat) (out : List ByteArray), s17 = .int .i64 k ∧ s10 = .int .i64 frm ∧ frm ≤ k ∧ k ≤ s.size ∧ k < frm + high ∧ out.length ≤ k ∧ Hid (cuts s low bits high = out ++ cutGo s low bits high k frm (s.size - k)) ∧ Hid (B.Own wr w.heap.size 9 1 (fun s => [.string s]) s9 out) ∧ Hid (Below w.heap.size w wr)) (fun _ _ s17 _ => s.size - (intOf s17).toNat)
  case atStart => exact ⟨0, 0, [], rfl, rfl, by omega, by omega, by omega, by simp, Lib.hid (by simp [cuts]), Lib.hid (B.Own.nil _ _ _ _ _), Lib.hid (Below.refl _ _)⟩
  case round =>
    obtain ⟨k, frm, out, rfl, rfl, hfk, hks, hinv, hol, HC, HO, HB⟩ := hrel
    by_cases hlt : k < s.size
    · have hks1 : (k : Int) + 1 ≤ s.size := by omega
      have hfk1 : (frm : Int) ≤ (k : Int) + 1 := by omega
      go_wp2
      · skip
        go_loop [12, 13] (fun r kk => ∃ (rn kn n : Nat), r = .int .u32 rn ∧ kk = .int .i64 kn ∧ kn + n = k + 1 ∧ rn ≤ 4294967295 ∧ Hid (rollGo s rn kn n = rollAt s k)) (fun _ kk => k + 1 - (intOf kk).toNat)
        case atStart => exact ⟨0, k + 1 - 16, k + 1 - (k + 1 - 16), rfl, by congr 1; omega, by omega, by omega, Lib.hid rfl⟩
        case round =>
          obtain ⟨rn, kn, n, rfl, rfl, hkn, hr, HR⟩ := hrel
          by_cases hlt2 : kn ≤ k
          · have hks2 : kn < s.size := by omega
            go_wp2
            go_round
            case rel =>
              refine ⟨(rn * 31 + (s.data.toList.getD kn 0).toNat) % 4294967296, kn + 1, n - 1, ?_, by go_num, by omega, by omega, Lib.hid ?_⟩
              · rw [getD_at s kn hks2]
                have := s[kn].toNat_lt
                congr 1
                omega
              · rw [← HR.out, show n = (n - 1) + 1 from by omega]
                rfl
            case measure => simp [intOf]; omega
          · obtain rfl : n = 0 := by omega
            have hrn : rn = rollAt s k := HR.out
            clear HR hr
            subst hrn
            have hrl := rollAt_lt s k
            by_cases c1 : low ≤ k + 1 - frm
            · by_cases c2 : rollAt s k % p = 0
              · have b1 : decide ((low : Int) ≤ (k : Int) + 1 - (frm : Int)) = true := decide_eq_true (by omega)
                have b2 : ((rollAt s k : Int) % (p : Int) == 0) = true := beq_iff_eq.2 (by omega)
                have hcn : cutNow s low bits high k frm = true := by
                  unfold cutNow
                  rw [← HP.out]
                  simp [c1, c2]
                have HCN := Lib.hid hcn
                clear hcn c1 c2
                go_wp2_with (at_builtin; refine B.wpl_append (w0 := w) w.heap.size rfl _ _ 25 9 (.string ⟨#[]⟩) 1 16 rfl Tryd.underlying25 info_str rfl (by decide) (by decide) (fun s => [.string s]) (fun _ => rfl) (by simp [Value.oneCell']) _ out (s.extract frm (k + 1)) _ rfl HO.out rfl rfl HB.out (by have := HB.out.size; exact this) (by omega) ?_)
                intro v1 w1 HO1 HB1 _
                have HO2 := Lib.hid HO1
                have HB2 := Lib.hid HB1
                clear HO HB HO1 HB1
                go_wp2
                go_roundw
                case rel =>
                  refine ⟨k + 1, k + 1, out ++ [s.extract frm (k + 1)], by go_num, by go_num, by omega, by omega, by omega, by simp; omega, Lib.hid ?_, HO2, HB2⟩
                  rw [HC.out, show s.size - k = (s.size - (k + 1)) + 1 from by omega, cutGo, HCN.out]
                  simp
                case measure => simp [intOf]; omega
              · by_cases c3 : high = k + 1 - frm
                · have b1 : decide ((low : Int) ≤ (k : Int) + 1 - (frm : Int)) = true := decide_eq_true (by omega)
                  have b2 : ((rollAt s k : Int) % (p : Int) == 0) = false := beq_eq_false_iff_ne.2 (by omega)
                  have b3 : ((k : Int) + 1 - (frm : Int) == (high : Int)) = true := beq_iff_eq.2 (by omega)
                  have hcn : cutNow s low bits high k frm = true := by
                    have c3b : high ≤ k + 1 - frm := by omega
                    unfold cutNow
                    simp [c3b]
                  have HCN := Lib.hid hcn
                  clear hcn c1 c2 c3
                  go_wp2_with (at_builtin; refine B.wpl_append (w0 := w) w.heap.size rfl _ _ 25 9 (.string ⟨#[]⟩) 1 16 rfl Tryd.underlying25 info_str rfl (by decide) (by decide) (fun s => [.string s]) (fun _ => rfl) (by simp [Value.oneCell']) _ out (s.extract frm (k + 1)) _ rfl HO.out rfl rfl HB.out (by have := HB.out.size; exact this) (by omega) ?_)
                  intro v1 w1 HO1 HB1 _
                  have HO2 := Lib.hid HO1
                  have HB2 := Lib.hid HB1
                  clear HO HB HO1 HB1
                  go_wp2
                  go_roundw
                  case rel =>
                    refine ⟨k + 1, k + 1, out ++ [s.extract frm (k + 1)], by go_num, by go_num, by omega, by omega, by omega, by simp; omega, Lib.hid ?_, HO2, HB2⟩
                    rw [HC.out, show s.size - k = (s.size - (k + 1)) + 1 from by omega, cutGo, HCN.out]
                    simp
                  case measure => simp [intOf]; omega
                · by_cases c4 : k + 1 = s.size
                  · have b1 : decide ((low : Int) ≤ (k : Int) + 1 - (frm : Int)) = true := decide_eq_true (by omega)
                    have b2 : ((rollAt s k : Int) % (p : Int) == 0) = false := beq_eq_false_iff_ne.2 (by omega)
                    have b3 : ((k : Int) + 1 - (frm : Int) == (high : Int)) = false := beq_eq_false_iff_ne.2 (by omega)
                    have b4 : ((k : Int) + 1 == (s.size : Int)) = true := beq_iff_eq.2 (by omega)
                    have hcn : cutNow s low bits high k frm = true := by
                      unfold cutNow
                      simp [c4]
                    have HCN := Lib.hid hcn
                    clear hcn c1 c2 c3 c4
                    go_wp2_with (at_builtin; refine B.wpl_append (w0 := w) w.heap.size rfl _ _ 25 9 (.string ⟨#[]⟩) 1 16 rfl Tryd.underlying25 info_str rfl (by decide) (by decide) (fun s => [.string s]) (fun _ => rfl) (by simp [Value.oneCell']) _ out (s.extract frm (k + 1)) _ rfl HO.out rfl rfl HB.out (by have := HB.out.size; exact this) (by omega) ?_)
                    intro v1 w1 HO1 HB1 _
                    have HO2 := Lib.hid HO1
                    have HB2 := Lib.hid HB1
                    clear HO HB HO1 HB1
                    go_wp2
                    go_roundw
                    case rel =>
                      refine ⟨k + 1, k + 1, out ++ [s.extract frm (k + 1)], by go_num, by go_num, by omega, by omega, by omega, by simp; omega, Lib.hid ?_, HO2, HB2⟩
                      rw [HC.out, show s.size - k = (s.size - (k + 1)) + 1 from by omega, cutGo, HCN.out]
                      simp
                    case measure => simp [intOf]; omega
                  · have b1 : decide ((low : Int) ≤ (k : Int) + 1 - (frm : Int)) = true := decide_eq_true (by omega)
                    have b2 : ((rollAt s k : Int) % (p : Int) == 0) = false := beq_eq_false_iff_ne.2 (by omega)
                    have b3 : ((k : Int) + 1 - (frm : Int) == (high : Int)) = false := beq_eq_false_iff_ne.2 (by omega)
                    have b4 : ((k : Int) + 1 == (s.size : Int)) = false := beq_eq_false_iff_ne.2 (by omega)
                    have hcn : cutNow s low bits high k frm = false := by
                      have c3b : ¬ high ≤ k + 1 - frm := by omega
                      unfold cutNow
                      rw [← HP.out]
                      simp [c2, c3b, c4]
                    have HCN := Lib.hid hcn
                    have hno : k + 1 < frm + high := by omega
                    clear hcn c1 c2 c3 c4
                    go_wp2
                    go_roundw
                    case rel =>
                      refine ⟨k + 1, frm, out, by go_num, rfl, by omega, by omega, by omega, by omega, Lib.hid ?_, HO, HB⟩
                      rw [HC.out, show s.size - k = (s.size - (k + 1)) + 1 from by omega, cutGo, HCN.out]
                      simp
                    case measure => simp [intOf]; omega
            · by_cases c3 : high = k + 1 - frm
              · have b1 : decide ((low : Int) ≤ (k : Int) + 1 - (frm : Int)) = false := decide_eq_false (by omega)
                have b3 : ((k : Int) + 1 - (frm : Int) == (high : Int)) = true := beq_iff_eq.2 (by omega)
                have hcn : cutNow s low bits high k frm = true := by
                  have c3b : high ≤ k + 1 - frm := by omega
                  unfold cutNow
                  simp [c3b]
                have HCN := Lib.hid hcn
                clear hcn c1 c3
                go_wp2_with (at_builtin; refine B.wpl_append (w0 := w) w.heap.size rfl _ _ 25 9 (.string ⟨#[]⟩) 1 16 rfl Tryd.underlying25 info_str rfl (by decide) (by decide) (fun s => [.string s]) (fun _ => rfl) (by simp [Value.oneCell']) _ out (s.extract frm (k + 1)) _ rfl HO.out rfl rfl HB.out (by have := HB.out.size; exact this) (by omega) ?_)
                intro v1 w1 HO1 HB1 _
                have HO2 := Lib.hid HO1
                have HB2 := Lib.hid HB1
                clear HO HB HO1 HB1
                go_wp2
                go_roundw
                case rel =>
                  refine ⟨k + 1, k + 1, out ++ [s.extract frm (k + 1)], by go_num, by go_num, by omega, by omega, by omega, by simp; omega, Lib.hid ?_, HO2, HB2⟩
                  rw [HC.out, show s.size - k = (s.size - (k + 1)) + 1 from by omega, cutGo, HCN.out]
                  simp
                case measure => simp [intOf]; omega
              · by_cases c4 : k + 1 = s.size
                · have b1 : decide ((low : Int) ≤ (k : Int) + 1 - (frm : Int)) = false := decide_eq_false (by omega)
                  have b3 : ((k : Int) + 1 - (frm : Int) == (high : Int)) = false := beq_eq_false_iff_ne.2 (by omega)
                  have b4 : ((k : Int) + 1 == (s.size : Int)) = true := beq_iff_eq.2 (by omega)
                  have hcn : cutNow s low bits high k frm = true := by
                    unfold cutNow
                    simp [c4]
                  have HCN := Lib.hid hcn
                  clear hcn c1 c3 c4
                  go_wp2_with (at_builtin; refine B.wpl_append (w0 := w) w.heap.size rfl _ _ 25 9 (.string ⟨#[]⟩) 1 16 rfl Tryd.underlying25 info_str rfl (by decide) (by decide) (fun s => [.string s]) (fun _ => rfl) (by simp [Value.oneCell']) _ out (s.extract frm (k + 1)) _ rfl HO.out rfl rfl HB.out (by have := HB.out.size; exact this) (by omega) ?_)
                  intro v1 w1 HO1 HB1 _
                  have HO2 := Lib.hid HO1
                  have HB2 := Lib.hid HB1
                  clear HO HB HO1 HB1
                  go_wp2
                  go_roundw
                  case rel =>
                    refine ⟨k + 1, k + 1, out ++ [s.extract frm (k + 1)], by go_num, by go_num, by omega, by omega, by omega, by simp; omega, Lib.hid ?_, HO2, HB2⟩
                    rw [HC.out, show s.size - k = (s.size - (k + 1)) + 1 from by omega, cutGo, HCN.out]
                    simp
                  case measure => simp [intOf]; omega
                · have b1 : decide ((low : Int) ≤ (k : Int) + 1 - (frm : Int)) = false := decide_eq_false (by omega)
                  have b3 : ((k : Int) + 1 - (frm : Int) == (high : Int)) = false := beq_eq_false_iff_ne.2 (by omega)
                  have b4 : ((k : Int) + 1 == (s.size : Int)) = false := beq_eq_false_iff_ne.2 (by omega)
                  have hcn : cutNow s low bits high k frm = false := by
                    have c3b : ¬ high ≤ k + 1 - frm := by omega
                    unfold cutNow
                    simp [c1, c3b, c4]
                  have HCN := Lib.hid hcn
                  have hno : k + 1 < frm + high := by omega
                  clear hcn c1 c3 c4
                  go_wp2
                  go_roundw
                  case rel =>
                    refine ⟨k + 1, frm, out, by go_num, rfl, by omega, by omega, by omega, by omega, Lib.hid ?_, HO, HB⟩
                    rw [HC.out, show s.size - k = (s.size - (k + 1)) + 1 from by omega, cutGo, HCN.out]
                    simp
                  case measure => simp [intOf]; omega
    · obtain rfl : k = s.size := by omega
      go_wp2
      go_ret
      have HX := HC.out
      rw [Nat.sub_self, cutGo, List.append_nil] at HX
      exact ⟨_, rfl, by rw [HX]; exact B.own_str HO.out (by omega), HB.out⟩
end Go.Proofs.YtdgkknjapfdlaaaDoor.Cut
