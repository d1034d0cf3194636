/- Package sync's Cut and roll, and the reference's CutFault and CutOf: contracts. -/
import Derived.Test.YtdgkknjapfdlaaaDoorProg
import Derived.Test.YtdgkknjapfdlaaaDoorBase
import Derived.WalkLawsBesides
import Derived.WalkSpells
import Derived.Deep.QuietTactic
import Derived.BigQuiet
import Derived.LoopTactic
namespace Go.Proofs.YtdgkknjapfdlaaaDoor.Cut
open Go.RowKit

/-! ### plain -/
def rollGo (s : ByteArray) (r k : Nat) : Nat → Nat
  | 0 => r
  | n + 1 => rollGo s ((r * 31 + (s.data.toList.getD k 0).toNat) % 4294967296) (k + 1) n
/-- The roll at a place. -/
def rollAt (s : ByteArray) (i : Nat) : Nat := rollGo s 0 (i + 1 - 16) (i + 1 - (i + 1 - 16))
theorem rollGo_lt (s : ByteArray) (n : Nat) : ∀ r k, r < 4294967296 → rollGo s r k n < 4294967296 := by
  induction n with
  | zero => intro r k h; exact h
  | succ n ih => intro r k _; exact ih _ _ (Nat.mod_lt _ (by omega))
theorem rollAt_lt (s : ByteArray) (i : Nat) : rollAt s i < 4294967296 := rollGo_lt s _ _ _ (by omega)
def cutNow (s : ByteArray) (low bits high i frm : Nat) : Bool := (decide (low ≤ i + 1 - frm) && decide (rollAt s i % 2 ^ bits = 0)) || decide (high ≤ i + 1 - frm) || decide (i + 1 = s.size)
def cutGo (s : ByteArray) (low bits high i frm : Nat) : Nat → List ByteArray
  | 0 => []
  | n + 1 => if cutNow s low bits high i frm then s.extract frm (i + 1) :: cutGo s low bits high (i + 1) (i + 1) n else cutGo s low bits high (i + 1) frm n
/-- The parts of a string. -/
def cuts (s : ByteArray) (low bits high : Nat) : List ByteArray := cutGo s low bits high 0 0 s.size
def cutFault (s : ByteArray) (low bits high : Int) : Int :=
  if 100000 < (s.size : Int) then 2 else if (low < 1 ∨ high < low) ∨ 100000 < high ∨ bits < 0 ∨ 16 < bits then 1 else 0

theorem getD_at (s : ByteArray) (k : Nat) (h : k < s.size) : s.data.toList.getD k 0 = s[k] := by
  rw [List.getD_eq_getElem?_getD, List.getElem?_eq_getElem (by simpa using h)]; rfl

/-! ### walks -/
theorem outside (n low high : Int) (b : Bool) (hb : decide (n < low ∨ high < n) = b) (w : World) :
    Calls Tryd.prog 33 #[.int .i64 n, .int .i64 low, .int .i64 high] w fun e w' => e = .returned (.bool b) ∧ w' = w := by
  subst hb
  by_cases h1 : n < low <;> by_cases h2 : high < n
  all_goals
    go_enter Tryd.func33, Tryd.ntmps33
    go_wp2
    go_ret
    exact ⟨by simp [h1, h2], rfl⟩
theorem within (n low high : Int) (b : Bool) (hb : decide (low ≤ n ∧ n ≤ high) = b) (w : World) :
    Calls Tryd.prog 35 #[.int .i64 n, .int .i64 low, .int .i64 high] w fun e w' => e = .returned (.bool b) ∧ w' = w := by
  subst hb
  by_cases h1 : low ≤ n <;> by_cases h2 : n ≤ high
  all_goals
    go_enter Tryd.func35, Tryd.ntmps35
    go_wp2
    go_ret
    exact ⟨by simp [h1, h2], rfl⟩
theorem roll_any (s : ByteArray) (i : Nat) (hi : i < s.size) (hs : s.size ≤ 100000) (w : World) :
    Calls Tryd.prog 34 #[.string s, .int .i64 i] w fun e w' => e = .returned (.int .u32 (rollAt s i)) ∧ w' = w := by
  go_enter Tryd.func34, Tryd.ntmps34
  go_wp2
  all_goals
    go_loop [5, 6] (fun r k => ∃ (rn kn n : Nat), r = .int .u32 rn ∧ k = .int .i64 kn ∧ kn + n = i + 1 ∧ rn ≤ 4294967295 ∧ Hid (rollGo s rn kn n = rollAt s i)) (fun _ k => i + 1 - (intOf k).toNat)
    case atStart => first | exact ⟨0, i + 1 - 16, 16, rfl, by go_num, by omega, by omega, Lib.hid (by unfold rollAt; congr 1; omega)⟩ | exact ⟨0, 0, i + 1, rfl, rfl, by omega, by omega, Lib.hid (by unfold rollAt; rw [show i + 1 - 16 = 0 from by omega]; rfl)⟩
    case round =>
      obtain ⟨rn, kn, n, rfl, rfl, hkn, hr, HR⟩ := hrel
      by_cases hlt : kn ≤ i
      · have hks : kn < s.size := by omega
        go_wp2
        go_round
        case rel =>
          refine ⟨(rn * 31 + (s.data.toList.getD kn 0).toNat) % 4294967296, kn + 1, n - 1, ?_, by go_num, by omega, by omega, Lib.hid ?_⟩
          · rw [getD_at s kn hks]
            have := s[kn].toNat_lt
            congr 1
            omega
          · rw [← HR.out, show n = (n - 1) + 1 from by omega]
            rfl
        case measure => simp [intOf]; omega
      · obtain rfl : n = 0 := by omega
        have HR2 := HR.out
        go_wp2
        go_ret
        exact ⟨by unfold rollGo at HR2; rw [← HR2]; rfl, rfl⟩

theorem pow_ok (bits : Nat) (h : bits ≤ 16) : ∃ p : Nat, IntKind.u32.wrap (2 ^ bits) = (p : Int) ∧ 1 ≤ (p : Int) ∧ (p : Int) ≤ 65536 ∧ p = 2 ^ bits := by
  have h1 : 2 ^ bits ≤ 2 ^ 16 := Nat.pow_le_pow_right (by omega) h
  have h2 : 1 ≤ 2 ^ bits := Nat.one_le_two_pow
  refine ⟨2 ^ bits, ?_, by omega, by omega, rfl⟩
  rw [IntKind.wrap_u32]
  have : (2 : Int) ^ bits = ((2 ^ bits : Nat) : Int) := by simp
  rw [this]
  omega
theorem info_str : (Tryd.prog.info? 9).map (fun i => (i.zero, i.size, i.bytes)) = some (some (.string ⟨#[]⟩), 1, 16) := by kernel_rfl
set_option maxRecDepth 100000 in
set_option maxHeartbeats 4000000 in
theorem cut_ok (s : ByteArray) (low bits high : Nat) (hs : s.size ≤ 100000) (h1 : 1 ≤ low) (h2 : low ≤ high) (h3 : high ≤ 100000) (h4 : bits ≤ 16) (w : World) :
    Calls Tryd.prog 10 #[.string s, .int .i64 low, .int .i64 bits, .int .i64 high] w fun e w' => ∃ v, e = .returned (.tuple #[v, .int .i64 0]) ∧ B.Kd.str.S w' v (cuts s low bits high) ∧ Below w.heap.size w w' := by
  obtain ⟨p, hp, hp1, hp2, hp3⟩ := pow_ok bits h4
  have hp0 : ¬ p = 0 := by omega
  have HP := Lib.hid hp3
  clear hp3
  go_enter Tryd.func10, Tryd.ntmps10
  go_wp2_with (go_at_call 33; refine (outside _ _ _ false (by rw [decide_eq_false_iff_not]; omega) _).mono ?_; rintro e w' ⟨rfl, rfl⟩)
  go_loopw [10, 11, 30] (fun s10 s11 s30 wr => ∃ (k frm : Nat) (out : List ByteArray), s30 = .int .i64 k ∧ s11 = .int .i64 frm ∧ frm ≤ k ∧ k ≤ s.size ∧ out.length ≤ k ∧ Hid (cuts s low bits high = out ++ cutGo s low bits high k frm (s.size - k)) ∧ Hid (B.Own wr w'.heap.size 9 1 (fun s => [.string s]) s10 out) ∧ Hid (Below w'.heap.size w' wr)) (fun _ _ s30 _ => s.size - (intOf s30).toNat)
  case atStart => exact ⟨0, 0, [], rfl, rfl, by omega, by omega, by simp, Lib.hid (by simp [cuts]), Lib.hid (B.Own.nil _ _ _ _ _), Lib.hid (Below.refl _ _)⟩
  case round =>
    obtain ⟨k, frm, out, rfl, rfl, hfk, hks, hol, HC, HO, HB⟩ := hrel
    by_cases hlt : k < s.size
    · have htm : ((rollAt s k : Nat) : Int).tmod (p : Int) = ((rollAt s k % p : Nat) : Int) := (Int.ofNat_tmod _ _).symm
      have hks1 : (k : Int) + 1 ≤ s.size := by omega
      have hfk1 : (frm : Int) ≤ (k : Int) + 1 := by omega
      by_cases c1 : low ≤ k + 1 - frm
      · by_cases c2 : rollAt s k % p = 0
        · have b1 : decide ((low : Int) ≤ (k : Int) + 1 - (frm : Int)) = true := decide_eq_true (by omega)
          have b2 : ((rollAt s k : Int) % (p : Int) == 0) = true := beq_iff_eq.2 (by omega)
          have hcn : cutNow s low bits high k frm = true := by unfold cutNow; rw [← HP.out]; simp [c1, c2]
          have HCN := Lib.hid hcn
          clear hcn c1 c2
          go_wp2_with fail
          go_quiet ((go_at_call 34; exact Calls.quiet_of_same (roll_any s k hlt hs _)))
          go_wp2_with (at_builtin; refine B.wpl_append (w0 := w') w'.heap.size rfl _ _ 25 9 (.string ⟨#[]⟩) 1 16 rfl Tryd.underlying25 info_str rfl (by decide) (by decide) (fun s => [.string s]) (fun _ => rfl) (by simp [Value.oneCell']) _ out (s.extract frm (k + 1)) _ rfl (HO.out.drew _) rfl rfl (B.below_drew HB.out _) (by have := HB.out.size; exact this) (by omega) ?_)
          intro v1 w1 HO1 HB1 _
          have HO2 := Lib.hid HO1
          have HB2 := Lib.hid HB1
          clear HO HB HO1 HB1
          go_wp2
          go_roundw
          case rel =>
            refine ⟨k + 1, k + 1, out ++ [s.extract frm (k + 1)], by go_num, by go_num, by omega, by omega, by simp; omega, Lib.hid ?_, HO2, HB2⟩
            rw [HC.out, show s.size - k = (s.size - (k + 1)) + 1 from by omega, cutGo, HCN.out]
            simp
          case measure => simp [intOf]; omega
        · by_cases c3 : high ≤ k + 1 - frm
          · have b1 : decide ((low : Int) ≤ (k : Int) + 1 - (frm : Int)) = true := decide_eq_true (by omega)
            have b2 : ((rollAt s k : Int) % (p : Int) == 0) = false := beq_eq_false_iff_ne.2 (by omega)
            have b3 : decide ((high : Int) ≤ (k : Int) + 1 - (frm : Int)) = true := decide_eq_true (by omega)
            have hcn : cutNow s low bits high k frm = true := by unfold cutNow; rw [← HP.out]; simp [c1, c2, c3]
            have HCN := Lib.hid hcn
            clear hcn c1 c2 c3
            go_wp2_with fail
            go_quiet ((go_at_call 34; exact Calls.quiet_of_same (roll_any s k hlt hs _)))
            go_wp2_with (at_builtin; refine B.wpl_append (w0 := w') w'.heap.size rfl _ _ 25 9 (.string ⟨#[]⟩) 1 16 rfl Tryd.underlying25 info_str rfl (by decide) (by decide) (fun s => [.string s]) (fun _ => rfl) (by simp [Value.oneCell']) _ out (s.extract frm (k + 1)) _ rfl (HO.out.drew _) rfl rfl (B.below_drew HB.out _) (by have := HB.out.size; exact this) (by omega) ?_)
            intro v1 w1 HO1 HB1 _
            have HO2 := Lib.hid HO1
            have HB2 := Lib.hid HB1
            clear HO HB HO1 HB1
            go_wp2
            go_roundw
            case rel =>
              refine ⟨k + 1, k + 1, out ++ [s.extract frm (k + 1)], by go_num, by go_num, by omega, by omega, by simp; omega, Lib.hid ?_, HO2, HB2⟩
              rw [HC.out, show s.size - k = (s.size - (k + 1)) + 1 from by omega, cutGo, HCN.out]
              simp
            case measure => simp [intOf]; omega
          · by_cases c4 : k + 1 = s.size
            · have b1 : decide ((low : Int) ≤ (k : Int) + 1 - (frm : Int)) = true := decide_eq_true (by omega)
              have b2 : ((rollAt s k : Int) % (p : Int) == 0) = false := beq_eq_false_iff_ne.2 (by omega)
              have b3 : decide ((high : Int) ≤ (k : Int) + 1 - (frm : Int)) = false := decide_eq_false (by omega)
              have b4 : ((k : Int) == (s.size : Int) - 1) = true := beq_iff_eq.2 (by omega)
              have hcn : cutNow s low bits high k frm = true := by unfold cutNow; rw [← HP.out]; simp [c4]
              have HCN := Lib.hid hcn
              clear hcn c1 c2 c3 c4
              go_wp2_with fail
              go_quiet ((go_at_call 34; exact Calls.quiet_of_same (roll_any s k hlt hs _)))
              go_wp2_with (at_builtin; refine B.wpl_append (w0 := w') w'.heap.size rfl _ _ 25 9 (.string ⟨#[]⟩) 1 16 rfl Tryd.underlying25 info_str rfl (by decide) (by decide) (fun s => [.string s]) (fun _ => rfl) (by simp [Value.oneCell']) _ out (s.extract frm (k + 1)) _ rfl (HO.out.drew _) rfl rfl (B.below_drew HB.out _) (by have := HB.out.size; exact this) (by omega) ?_)
              intro v1 w1 HO1 HB1 _
              have HO2 := Lib.hid HO1
              have HB2 := Lib.hid HB1
              clear HO HB HO1 HB1
              go_wp2
              go_roundw
              case rel =>
                refine ⟨k + 1, k + 1, out ++ [s.extract frm (k + 1)], by go_num, by go_num, by omega, by omega, by simp; omega, Lib.hid ?_, HO2, HB2⟩
                rw [HC.out, show s.size - k = (s.size - (k + 1)) + 1 from by omega, cutGo, HCN.out]
                simp
              case measure => simp [intOf]; omega
            · have b1 : decide ((low : Int) ≤ (k : Int) + 1 - (frm : Int)) = true := decide_eq_true (by omega)
              have b2 : ((rollAt s k : Int) % (p : Int) == 0) = false := beq_eq_false_iff_ne.2 (by omega)
              have b3 : decide ((high : Int) ≤ (k : Int) + 1 - (frm : Int)) = false := decide_eq_false (by omega)
              have b4 : ((k : Int) == (s.size : Int) - 1) = false := beq_eq_false_iff_ne.2 (by omega)
              have hcn : cutNow s low bits high k frm = false := by unfold cutNow; rw [← HP.out]; simp [c1, c2, c3, c4]
              have HCN := Lib.hid hcn
              clear hcn c1 c2 c3 c4
              go_wp2_with fail
              go_quiet ((go_at_call 34; exact Calls.quiet_of_same (roll_any s k hlt hs _)))
              go_wp2
              go_roundw
              case rel =>
                refine ⟨k + 1, frm, out, by go_num, rfl, by omega, by omega, by omega, Lib.hid ?_, HO, Lib.hid (B.below_drew HB.out _)⟩
                rw [HC.out, show s.size - k = (s.size - (k + 1)) + 1 from by omega, cutGo, HCN.out]
                simp
              case measure => simp [intOf]; omega
      · by_cases c3 : high ≤ k + 1 - frm
        · have b1 : decide ((low : Int) ≤ (k : Int) + 1 - (frm : Int)) = false := decide_eq_false (by omega)
          have b3 : decide ((high : Int) ≤ (k : Int) + 1 - (frm : Int)) = true := decide_eq_true (by omega)
          have hcn : cutNow s low bits high k frm = true := by unfold cutNow; rw [← HP.out]; simp [c1, c3]
          have HCN := Lib.hid hcn
          clear hcn c1 c3
          go_wp2_with fail
          go_quiet ((go_at_call 34; exact Calls.quiet_of_same (roll_any s k hlt hs _)))
          go_wp2_with (at_builtin; refine B.wpl_append (w0 := w') w'.heap.size rfl _ _ 25 9 (.string ⟨#[]⟩) 1 16 rfl Tryd.underlying25 info_str rfl (by decide) (by decide) (fun s => [.string s]) (fun _ => rfl) (by simp [Value.oneCell']) _ out (s.extract frm (k + 1)) _ rfl (HO.out.drew _) rfl rfl (B.below_drew HB.out _) (by have := HB.out.size; exact this) (by omega) ?_)
          intro v1 w1 HO1 HB1 _
          have HO2 := Lib.hid HO1
          have HB2 := Lib.hid HB1
          clear HO HB HO1 HB1
          go_wp2
          go_roundw
          case rel =>
            refine ⟨k + 1, k + 1, out ++ [s.extract frm (k + 1)], by go_num, by go_num, by omega, by omega, by simp; omega, Lib.hid ?_, HO2, HB2⟩
            rw [HC.out, show s.size - k = (s.size - (k + 1)) + 1 from by omega, cutGo, HCN.out]
            simp
          case measure => simp [intOf]; omega
        · by_cases c4 : k + 1 = s.size
          · have b1 : decide ((low : Int) ≤ (k : Int) + 1 - (frm : Int)) = false := decide_eq_false (by omega)
            have b3 : decide ((high : Int) ≤ (k : Int) + 1 - (frm : Int)) = false := decide_eq_false (by omega)
            have b4 : ((k : Int) == (s.size : Int) - 1) = true := beq_iff_eq.2 (by omega)
            have hcn : cutNow s low bits high k frm = true := by unfold cutNow; rw [← HP.out]; simp [c4]
            have HCN := Lib.hid hcn
            clear hcn c1 c3 c4
            go_wp2_with fail
            go_quiet ((go_at_call 34; exact Calls.quiet_of_same (roll_any s k hlt hs _)))
            go_wp2_with (at_builtin; refine B.wpl_append (w0 := w') w'.heap.size rfl _ _ 25 9 (.string ⟨#[]⟩) 1 16 rfl Tryd.underlying25 info_str rfl (by decide) (by decide) (fun s => [.string s]) (fun _ => rfl) (by simp [Value.oneCell']) _ out (s.extract frm (k + 1)) _ rfl (HO.out.drew _) rfl rfl (B.below_drew HB.out _) (by have := HB.out.size; exact this) (by omega) ?_)
            intro v1 w1 HO1 HB1 _
            have HO2 := Lib.hid HO1
            have HB2 := Lib.hid HB1
            clear HO HB HO1 HB1
            go_wp2
            go_roundw
            case rel =>
              refine ⟨k + 1, k + 1, out ++ [s.extract frm (k + 1)], by go_num, by go_num, by omega, by omega, by simp; omega, Lib.hid ?_, HO2, HB2⟩
              rw [HC.out, show s.size - k = (s.size - (k + 1)) + 1 from by omega, cutGo, HCN.out]
              simp
            case measure => simp [intOf]; omega
          · have b1 : decide ((low : Int) ≤ (k : Int) + 1 - (frm : Int)) = false := decide_eq_false (by omega)
            have b3 : decide ((high : Int) ≤ (k : Int) + 1 - (frm : Int)) = false := decide_eq_false (by omega)
            have b4 : ((k : Int) == (s.size : Int) - 1) = false := beq_eq_false_iff_ne.2 (by omega)
            have hcn : cutNow s low bits high k frm = false := by unfold cutNow; rw [← HP.out]; simp [c1, c3, c4]
            have HCN := Lib.hid hcn
            clear hcn c1 c3 c4
            go_wp2_with fail
            go_quiet ((go_at_call 34; exact Calls.quiet_of_same (roll_any s k hlt hs _)))
            go_wp2
            go_roundw
            case rel =>
              refine ⟨k + 1, frm, out, by go_num, rfl, by omega, by omega, by omega, Lib.hid ?_, HO, Lib.hid (B.below_drew HB.out _)⟩
              rw [HC.out, show s.size - k = (s.size - (k + 1)) + 1 from by omega, cutGo, HCN.out]
              simp
            case measure => simp [intOf]; omega
    · obtain rfl : k = s.size := by omega
      go_wp2
      go_ret2
      have HX := HC.out
      rw [Nat.sub_self, cutGo, List.append_nil] at HX
      exact ⟨_, rfl, by rw [HX]; exact B.own_str HO.out (by omega), HB.out⟩
end Go.Proofs.YtdgkknjapfdlaaaDoor.Cut
