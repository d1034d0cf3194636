/- strconv.FormatUint at base 16, strings.Repeat at "0", and the two functions that make a sum of a string (package sync's and the reference's): contracts; condition: the cell of math/bits.deBruijn64tab that is read holds 4. -/
import Derived.Test.YtmcbljongeadeaaGreatDoorProg
import Derived.WalkKit
import Derived.WalkLawsBesides
import Derived.WalkSpells
import Derived.Lib.Walk
import Derived.Lib.Hide
import Derived.Lib.ItoaMem
import Derived.Laws.Bits64
import Derived.Laws.Bits64b
namespace Go.Proofs.YtmcbljongeadeaaGreatDoor.Hex
open Go.RowKit

/-- What the walks ask of the package-level variables. -/
def Tab (w : World) : Prop := w.cell? ⟨5, 15, none⟩ = some (.int .u8 4)
theorem Tab.below {w w' : World} (h : Tab w) (hb : Below w.heap.size w w') : Tab w' := (hb.cell (World.block_lt_of_cell? w _ h)).trans h

/-! ### digits -/
def digs : ByteArray := { data := #[48, 49, 50, 51, 52, 53, 54, 55, 56, 57, 97, 98, 99, 100, 101, 102, 103, 104, 105, 106, 107, 108, 109, 110, 111, 112, 113, 114, 115, 116, 117, 118, 119, 120, 121, 122] }
def hexc (d : Nat) : UInt8 := digs.data.getD d 0
def hexL (u : Nat) : List UInt8 := if _h : u < 16 then [hexc u] else hexL (u / 16) ++ [hexc (u % 16)]
termination_by u
decreasing_by omega
theorem hexL_small {u : Nat} (h : u < 16) : hexL u = [hexc u] := by rw [hexL]; simp [h]
theorem hexL_big {u : Nat} (h : 16 ≤ u) : hexL u = hexL (u / 16) ++ [hexc (u % 16)] := by rw [hexL]; simp [Nat.not_lt.2 h]
theorem hexL_len (n : Nat) : ∀ u, u < 16 ^ (n + 1) → 1 ≤ (hexL u).length ∧ (hexL u).length ≤ n + 1 := by
  induction n with
  | zero => intro u hu; rw [hexL_small (by omega)]; simp
  | succ n ih =>
    intro u hu
    by_cases h : u < 16
    · rw [hexL_small h]; simp
    · have h1 := ih (u / 16) (by rw [Nat.pow_succ] at hu; omega)
      rw [hexL_big (by omega), List.length_append, List.length_singleton]
      omega
theorem hexL_len16 {u : Nat} (h : u < 18446744073709551616) : 1 ≤ (hexL u).length ∧ (hexL u).length ≤ 16 := hexL_len 15 u (Nat.lt_of_lt_of_eq h (by decide))
theorem digs_at (d : Nat) (h : d < digs.size) : digs[d] = hexc d := by
  unfold hexc; rw [Array.getD_eq_getD_getElem?, Array.getElem?_eq_getElem (by exact h)]; rfl
theorem set_ok {cs : Array Value} {n : Nat} {tl : List UInt8} {b x : UInt8} (hx : x = b) (hs : cs.size = n) (hn : tl.length < n)
    (hc : ∀ j (h : j < tl.length), cs[n - tl.length + j]? = some (.int .u8 (tl[j].toNat : Int))) :
    ∀ j (h : j < (b :: tl).length), (cs.setIfInBounds (n - tl.length - 1) (.int .u8 (x.toNat : Int)))[n - (b :: tl).length + j]? = some (.int .u8 ((b :: tl)[j].toNat : Int)) := by
  subst hx
  intro j h
  rw [Array.getElem?_setIfInBounds]
  cases j with
  | zero => simp only [List.length_cons]; rw [if_pos (by omega), if_pos (by omega)]; simp
  | succ j =>
    simp only [List.length_cons] at h ⊢
    rw [if_neg (by omega), show n - (tl.length + 1) + (j + 1) = n - tl.length + j from by omega, hc j (by omega)]
    simp
theorem and15 (v : Nat) (hv : v ≤ 18446744073709551615) : bits BinOp.and IntKind.u64 (v : Int) 15 = ((v % 16 : Nat) : Int) := by
  have h := bits_and_u64_nat v 15 (by omega) (by omega)
  rw [show v &&& 15 = v % 16 from Nat.and_two_pow_sub_one_eq_mod v 4] at h
  exact h
theorem zsize : Tryz.zeroCells141.size = 65 := by kernel_rfl

/-! ### the walks -/
theorem tz64_16 (w : World) (ht : Tab w) :
    Calls Tryz.prog 102 #[.int .u64 16] w fun e w' => e = .returned (.int .i64 4) ∧ w' = w := by
  unfold Tab at ht
  have he : IntKind.u64.wrap (bits BinOp.and IntKind.u64 16 (IntKind.u64.wrap (-16)) * 285870213051353865) / 288230376151711744 = 15 := by decide +kernel
  go_enter Tryz.func102, Tryz.ntmps102
  go_wp2
  go_ret
  exact ⟨rfl, rfl⟩
theorem tz_16 (w : World) (ht : Tab w) :
    Calls Tryz.prog 96 #[.int .u64 16] w fun e w' => e = .returned (.int .i64 4) ∧ w' = w := by
  go_enter Tryz.func96, Tryz.ntmps96
  go_wp2_with (go_at_call 102; refine (tz64_16 _ ht).mono ?_; rintro e w' ⟨rfl, rfl⟩)
  go_ret
  exact ⟨rfl, rfl⟩
theorem pow2_16 (w : World) :
    Calls Tryz.prog 95 #[.int .i64 16] w fun e w' => e = .returned (.bool true) ∧ w' = w := by
  go_enter Tryz.func95, Tryz.ntmps95
  go_wp2
  go_ret
  exact ⟨rfl, rfl⟩
set_option maxRecDepth 100000 in
theorem formatBits16 (u : Nat) (hu : u < 18446744073709551616) (w : World) (ht : Tab w) :
    Calls Tryz.prog 80 #[.slice none 0 0, .int .u64 u, .int .i64 16, .bool false, .bool false] w fun e w' => e = .returned (.tuple #[.slice none 0 0, .string ⟨(hexL u).toArray⟩]) ∧ Below w.heap.size w w' := by
  have hal : ∀ o, Tab (w.alloc o) := fun o => ht.below ((Below.refl _ _).alloc (Nat.le_refl _) _)
  clear ht
  go_enter Tryz.func80, Tryz.ntmps80
  go_wp2_with (first | (go_at_call 95; refine (pow2_16 _).mono ?_; rintro e w' ⟨rfl, rfl⟩) | (go_at_call 96; refine (tz_16 _ (hal _)).mono ?_; rintro e w' ⟨rfl, rfl⟩))
  clear hal
  go_loopw [1, 13] (fun s1 s13 wr => ∃ (v : Nat) (tl : List UInt8) (cs : Array Value), s1 = .int .u64 v ∧ s13 = .int .i64 (65 - (tl.length : Int)) ∧ v ≤ 18446744073709551615 ∧ Hid (v * 16 ^ tl.length ≤ 18446744073709551615) ∧ tl.length ≤ 15 ∧ Hid (hexL u = hexL v ++ tl) ∧ Hid (cs.size = 65) ∧ Hid (∀ j (h : j < tl.length), cs[65 - tl.length + j]? = some (.int .u8 (tl[j].toNat : Int))) ∧ wr = w.alloc (.cells cs 141)) (fun s1 _ _ => (intOf s1).toNat)
  case atStart => exact ⟨u, [], Tryz.zeroCells141, rfl, rfl, by omega, Lib.hid (by simp; omega), by simp, Lib.hid (by simp), Lib.hid zsize, Lib.hid (fun j h => absurd h (by simp)), rfl⟩
  case round =>
    obtain ⟨v, tl, cs, rfl, rfl, hv, hvb, htl, HH, HS, HC, rfl⟩ := hrel
    obtain ⟨old, hold⟩ : ∃ o, cs[65 - tl.length - 1]? = some o := ⟨_, Array.getElem?_eq_getElem (by have := HS.out; omega)⟩
    by_cases h16 : 16 ≤ v
    · have hand := and15 v hv
      go_wp2
      go_roundw
      case rel =>
        refine ⟨v / 16, hexc (v % 16) :: tl, _, by simp, by simp; omega, by omega, ?_, ?_, ?_, ?_, ?_, rfl⟩
        · refine Lib.hid ?_
          have h1 := hvb.out
          have h2 : v / 16 * 16 ≤ v := Nat.div_mul_le_self v 16
          rw [List.length_cons, Nat.pow_succ, show v / 16 * (16 ^ tl.length * 16) = v / 16 * 16 * 16 ^ tl.length by ac_rfl]
          exact Nat.le_trans (Nat.mul_le_mul_right _ h2) h1
        · have h1 := hvb.out
          rw [List.length_cons]
          rcases Nat.lt_or_ge tl.length 15 with h | h
          · omega
          · exfalso
            have e : tl.length = 15 := by omega
            rw [e] at h1
            have : 16 * 16 ^ 15 ≤ v * 16 ^ 15 := Nat.mul_le_mul_right _ h16
            omega
        · exact Lib.hid (by rw [HH.out, hexL_big h16]; simp)
        · exact Lib.hid (by simp [HS.out])
        · exact Lib.hid (set_ok (digs_at _ _) HS.out (by omega) HC.out)
      case measure => simp [intOf]; omega
    · have hv16 : v < 16 := by omega
      have hal65 : Tryz.prog.arrayLen 141 = 65 := by kernel_rfl
      have hsl : ∀ W : World, (Instr.sliceAt 141 (.pointer (some ⟨w.heap.size, 0, none⟩)) (some (.int .i64 (65 - (tl.length : Int) - 1))) none none).run Tryz.prog W = .ok (.slice (some ⟨w.heap.size, 65 - tl.length - 1, none⟩) (tl.length + 1) (tl.length + 1)) W := fun W => by
        rw [run_sliceAt_array_l W 141 ⟨w.heap.size, 0, none⟩ (by simp [Program.arrayLen, Program.elem, Tryz.underlying141]) .i64 (65 - (tl.length : Int) - 1) (by omega) (by rw [hal65]; omega)]
        rw [hal65]
        go_simp
        omega
      have hdig : ∀ h, ({ data := #[48, 49, 50, 51, 52, 53, 54, 55, 56, 57, 97, 98, 99, 100, 101, 102, 103, 104, 105, 106, 107, 108, 109, 110, 111, 112, 113, 114, 115, 116, 117, 118, 119, 120, 121, 122] } : ByteArray)[v]'h = hexc v := fun h => digs_at v h
      have hcv : (convert 95 9 (.slice (some ⟨w.heap.size, 65 - tl.length - 1, none⟩) (hexc v :: tl).length (hexc v :: tl).length)).run Tryz.prog (w.alloc (.cells (cs.setIfInBounds (65 - tl.length - 1) (.int .u8 ((hexc v).toNat : Int))) 141)) = .ok (.string ⟨(hexc v :: tl).toArray⟩) (w.alloc (.cells (cs.setIfInBounds (65 - tl.length - 1) (.int .u8 ((hexc v).toNat : Int))) 141)) :=
        run_convert_bytes_back _ 95 9 5 ⟨w.heap.size, 65 - tl.length - 1, none⟩ _ (hexc v :: tl) Tryz.underlying95 Tryz.underlying5 Tryz.underlying9 (fun j hj => by
          rw [show (⟨w.heap.size, 65 - tl.length - 1, none⟩ : Addr).add j = ⟨w.heap.size, 65 - (hexc v :: tl).length + j, none⟩ from by rw [Lib.add_plain, List.length_cons, Nat.sub_sub], World.cell?_alloc_new]
          exact set_ok rfl HS.out (by omega) HC.out j hj)
      have HF : Hid (hexL u = hexc v :: tl) := Lib.hid (by rw [HH.out, hexL_small hv16]; rfl)
      rw [List.length_cons] at hcv
      clear HH HC HS hvb
      go_wp2
      go_ret2
      exact ⟨by rw [HF.out]; rfl, (Below.refl _ _).alloc (Nat.le_refl _) _⟩
theorem iFormatUint16 (u : Nat) (hu : u < 18446744073709551616) (w : World) (ht : Tab w) :
    Calls Tryz.prog 62 #[.int .u64 u, .int .i64 16] w fun e w' => e = .returned (.string ⟨(hexL u).toArray⟩) ∧ Below w.heap.size w w' := by
  go_enter Tryz.func62, Tryz.ntmps62
  go_wp2_with (go_at_call 80; refine (formatBits16 u hu _ ht).mono ?_; rintro e w' ⟨rfl, hb⟩)
  go_ret
  exact ⟨rfl, hb⟩
theorem formatUint16 (u : Nat) (hu : u < 18446744073709551616) (w : World) (ht : Tab w) :
    Calls Tryz.prog 47 #[.int .u64 u, .int .i64 16] w fun e w' => e = .returned (.string ⟨(hexL u).toArray⟩) ∧ Below w.heap.size w w' := by
  go_enter Tryz.func47, Tryz.ntmps47
  go_wp2_with (go_at_call 62; refine (iFormatUint16 u hu _ ht).mono ?_; rintro e w' ⟨rfl, hb⟩)
  go_ret
  exact ⟨rfl, hb⟩

/-! ### strings.Repeat("0", n), n at most 16 -/
theorem mul64_1 (n : Nat) (hn : n ≤ 16) (w : World) :
    Calls Tryz.prog 82 #[.int .u64 1, .int .u64 n] w fun e w' => e = .returned (.tuple #[.int .u64 0, .int .u64 n]) ∧ w' = w := by
  have h1 : bits BinOp.and IntKind.u64 1 4294967295 = 1 := by decide +kernel
  have h2 : bits BinOp.and IntKind.u64 (n : Int) 4294967295 = (n : Int) := by
    have h := bits_and_u64_nat n 4294967295 (by omega) (by omega)
    rw [show n &&& 4294967295 = n % 4294967296 from Nat.and_two_pow_sub_one_eq_mod n 32, Nat.mod_eq_of_lt (by omega)] at h
    exact h
  have h3 : (n : Int) / 4294967296 = 0 := by omega
  have h4 : bits BinOp.and IntKind.u64 0 4294967295 = 0 := by decide +kernel
  go_enter Tryz.func82, Tryz.ntmps82
  go_wp2
  go_ret2
  exact ⟨by first | rfl | simp, rfl⟩
theorem mul_1 (n : Nat) (hn : n ≤ 16) (w : World) :
    Calls Tryz.prog 63 #[.int .u64 1, .int .u64 n] w fun e w' => e = .returned (.tuple #[.int .u64 0, .int .u64 n]) ∧ w' = w := by
  go_enter Tryz.func63, Tryz.ntmps63
  go_wp2_with (go_at_call 82; refine (mul64_1 n hn _).mono ?_; rintro e w' ⟨rfl, rfl⟩)
  go_ret2
  exact ⟨rfl, rfl⟩
theorem zeros_cut : ∀ n, n ≤ 16 → (({ data := #[48, 48, 48, 48, 48, 48, 48, 48, 48, 48, 48, 48, 48, 48, 48, 48, 48, 48, 48, 48, 48, 48, 48, 48, 48, 48, 48, 48, 48, 48, 48, 48, 48, 48, 48, 48, 48, 48, 48, 48, 48, 48, 48, 48, 48, 48, 48, 48, 48, 48, 48, 48, 48, 48, 48, 48, 48, 48, 48, 48, 48, 48, 48, 48] } : ByteArray).extract 0 n) = ⟨(List.replicate n (48 : UInt8)).toArray⟩ := by decide +kernel
theorem hasPrefix0i (s : ByteArray) (b : Bool) (hs : 1 ≤ s.size) (hb : ((s.extract 0 1).toList == [48]) = b) (w : World) : Calls Tryz.prog 83 #[.string s, .string { data := #[48] }] w fun e w' => e = .returned (.bool b) ∧ w' = w := by
  have hk : (⟨#[48]⟩ : ByteArray).toList = [48] := by decide +kernel
  have hl : decide (1 ≤ s.size) = true := decide_eq_true hs
  subst hb
  go_enter Tryz.func83, Tryz.ntmps83
  go_wp2
  go_ret
  exact ⟨rfl, rfl⟩
theorem hasPrefix0 (s : ByteArray) (b : Bool) (hs : 1 ≤ s.size) (hb : ((s.extract 0 1).toList == [48]) = b) (w : World) : Calls Tryz.prog 64 #[.string s, .string { data := #[48] }] w fun e w' => e = .returned (.bool b) ∧ w' = w := by
  have HB := Lib.hid hb
  clear hb
  go_enter Tryz.func64, Tryz.ntmps64
  go_wp2_with (go_at_call 83; refine (hasPrefix0i s b hs HB.out _).mono ?_; rintro e w' ⟨rfl, rfl⟩)
  go_ret
  exact ⟨rfl, rfl⟩
set_option maxRecDepth 100000 in
theorem repeat0 (n : Nat) (hn : n ≤ 16) (w : World) :
    Calls Tryz.prog 48 #[.string { data := #[48] }, .int .i64 n] w fun e w' => e = .returned (.string ⟨(List.replicate n (48 : UInt8)).toArray⟩) ∧ w' = w := by
  by_cases h0 : n = 0
  · subst h0
    go_enter Tryz.func48, Tryz.ntmps48
    go_wp2
    go_ret
    exact ⟨rfl, rfl⟩
  by_cases h1 : n = 1
  · subst h1
    go_enter Tryz.func48, Tryz.ntmps48
    go_wp2
    go_ret
    exact ⟨rfl, rfl⟩
  have b0 : ((n : Int) == 0) = false := beq_eq_false_iff_ne.2 (by omega)
  have b1 : ((n : Int) == 1) = false := beq_eq_false_iff_ne.2 (by omega)
  have hu : IntKind.u64.wrap (n : Int) = n := by rw [IntKind.wrap_u64]; omega
  have hc : ∀ h, ({ data := #[48] } : ByteArray)[0]'h = 48 := fun _ => rfl
  have hcut := zeros_cut n hn
  go_enter Tryz.func48, Tryz.ntmps48
  go_wp2_with (go_at_call 63; refine (mul_1 n hn _).mono ?_; rintro e w' ⟨rfl, rfl⟩)
  refine (hasPrefix0 _ false (by decide +kernel) (by decide +kernel) _).mono ?_
  rintro e w' ⟨rfl, rfl⟩
  go_wp2_with fail
  refine (hasPrefix0 _ false (by decide +kernel) (by decide +kernel) _).mono ?_
  rintro e w' ⟨rfl, rfl⟩
  go_wp2_with fail
  refine (hasPrefix0 _ true (by decide +kernel) (by decide +kernel) _).mono ?_
  rintro e w' ⟨rfl, rfl⟩
  go_wp2
  go_ret
  exact ⟨rfl, rfl⟩

/-! ### the sum of a string -/
def step (h : Nat) (b : UInt8) : Nat := (h ^^^ b.toNat) * 1099511628211 % 18446744073709551616
def hashL (l : List UInt8) : Nat := l.foldl step 14695981039346656037
theorem step_lt (h : Nat) (b : UInt8) : step h b < 18446744073709551616 := Nat.mod_lt _ (by omega)
theorem step_le (h : Nat) (b : UInt8) : step h b ≤ 18446744073709551615 := Nat.le_of_lt_add_one (step_lt h b)
theorem hashL_snoc (l : List UInt8) (b : UInt8) : hashL (l ++ [b]) = step (hashL l) b := by unfold hashL; rw [List.foldl_append, List.foldl_cons, List.foldl_nil]
theorem hashL_lt (l : List UInt8) : hashL l < 18446744073709551616 := by
  unfold hashL
  suffices h : ∀ (l : List UInt8) (n : Nat), n < 18446744073709551616 → l.foldl step n < 18446744073709551616 from h l _ (by omega)
  intro l
  induction l with
  | nil => intro n h; exact h
  | cons b l ih => intro n _; exact ih _ (step_lt n b)
/-- What package sync's sumOf, and the reference's sum, return. -/
def sumB (s : ByteArray) : ByteArray := ⟨(List.replicate (16 - (hexL (hashL s.data.toList)).length) (48 : UInt8) ++ hexL (hashL s.data.toList)).toArray⟩
theorem sumB_size (s : ByteArray) : (sumB s).size = 16 := by
  have h := hexL_len16 (hashL_lt s.data.toList)
  unfold sumB ByteArray.size
  simp
  omega
theorem step_of (h : Nat) (b : UInt8) (hh : h ≤ 18446744073709551615) : IntKind.u64.wrap (bits BinOp.xor IntKind.u64 (h : Int) (b.toNat : Int) * 1099511628211) = (step h b : Int) := by
  have hb := b.toNat_lt
  rw [bits_xor_u64_nat h b.toNat (by omega) (by omega), IntKind.wrap_u64]
  unfold step
  omega
theorem wrap_byte (b : UInt8) : IntKind.u64.wrap ((b.toNat : Nat) : Int) = (b.toNat : Int) := by have := b.toNat_lt; rw [IntKind.wrap_u64]; omega
def start : Nat := 14695981039346656037
theorem start_le : start ≤ 18446744073709551615 := by unfold start; decide
theorem start_int : ((start : Nat) : Int) = 14695981039346656037 := rfl
theorem start_hash (l : List UInt8) : start = hashL (l.take 0) := by rw [List.take_zero]; rfl
theorem take_snoc (s : ByteArray) (k : Nat) (h : k < s.size) : s.data.toList.take (k + 1) = s.data.toList.take k ++ [s[k]] := by
  rw [List.take_succ_eq_append_getElem (by simpa using h)]; rfl

set_option maxHeartbeats 800000 in
theorem sumOf_any (s : ByteArray) (hs : s.size ≤ 9223372036854775807) (w : World) (ht : Tab w) :
    Calls Tryz.prog 28 #[.string s] w fun e w' => e = .returned (.string (sumB s)) ∧ Below w.heap.size w w' := by
  go_enter Tryz.func28, Tryz.ntmps28
  go_wp2
  go_loop [3, 4, 8] (fun h _ i => ∃ (k n : Nat), k ≤ s.size ∧ i = .int .i64 k ∧ h = .int .u64 n ∧ n ≤ 18446744073709551615 ∧ Hid (n = hashL (s.data.toList.take k))) (fun _ _ i => s.size - (intOf i).toNat)
  case atStart => exact ⟨0, start, Nat.zero_le _, rfl, by rw [start_int], start_le, Lib.hid (start_hash _)⟩
  case round =>
    obtain ⟨k, n, hk, rfl, rfl, hn, HN⟩ := hrel
    by_cases hlt : k < s.size
    · have hst := step_of n s[k] hn
      go_wp2
      go_round
      case rel =>
        refine ⟨k + 1, step n s[k], by omega, by go_num, ?_, step_le _ _, Lib.hid ?_⟩
        · rw [wrap_byte, hst]
        · rw [take_snoc s k hlt, hashL_snoc, ← HN.out]
      case measure => simp [intOf]; omega
    · obtain rfl : k = s.size := by omega
      have hn2 : n < 18446744073709551616 := by omega
      have hln := hexL_len16 hn2
      have hsz : (⟨(hexL n).toArray⟩ : ByteArray).size = (hexL n).length := by simp [ByteArray.size]
      go_wp2_with (go_at_call 47; refine (formatUint16 n hn2 _ ht).mono ?_; rintro e w1 ⟨rfl, hb⟩)
      rw [show (16 : Int) - ((hexL n).length : Int) = ((16 - (hexL n).length : Nat) : Int) from by omega]
      have hrz : (⟨(List.replicate (16 - (hexL n).length) (48 : UInt8)).toArray⟩ : ByteArray).size = 16 - (hexL n).length := by simp [ByteArray.size]
      refine (repeat0 _ (by omega) _).mono ?_
      rintro e w2 ⟨rfl, rfl⟩
      have hl : (⟨(List.replicate (16 - (hexL n).length) (48 : UInt8)).toArray⟩ : ByteArray) ++ ⟨(hexL n).toArray⟩ = sumB s := by
        unfold sumB
        rw [List.take_of_length_le (by simp)] at HN
        rw [← HN.out]
        exact ByteArray.ext (by simp)
      generalize (⟨(List.replicate (16 - (hexL n).length) (48 : UInt8)).toArray⟩ : ByteArray) = z at hrz hl ⊢
      generalize (⟨(hexL n).toArray⟩ : ByteArray) = y at hsz hl ⊢
      have HL := Lib.hid hl
      clear hl
      go_wp2
      go_ret
      exact ⟨by first | rfl | (rw [HL.out]; rfl), hb⟩

set_option maxHeartbeats 800000 in
theorem sum_any (s : ByteArray) (hs : s.size ≤ 9223372036854775807) (w : World) (ht : Tab w) :
    Calls Tryz.prog 33 #[.string s] w fun e w' => e = .returned (.string (sumB s)) ∧ Below w.heap.size w w' := by
  go_enter Tryz.func33, Tryz.ntmps33
  go_wp2
  go_loop [3, 4, 8] (fun h _ i => ∃ (k n : Nat), k ≤ s.size ∧ i = .int .i64 k ∧ h = .int .u64 n ∧ n ≤ 18446744073709551615 ∧ Hid (n = hashL (s.data.toList.take k))) (fun _ _ i => s.size - (intOf i).toNat)
  case atStart => exact ⟨0, start, Nat.zero_le _, rfl, by rw [start_int], start_le, Lib.hid (start_hash _)⟩
  case round =>
    obtain ⟨k, n, hk, rfl, rfl, hn, HN⟩ := hrel
    by_cases hlt : k < s.size
    · have hst := step_of n s[k] hn
      go_wp2
      go_round
      case rel =>
        refine ⟨k + 1, step n s[k], by omega, by go_num, ?_, step_le _ _, Lib.hid ?_⟩
        · rw [wrap_byte, hst]
        · rw [take_snoc s k hlt, hashL_snoc, ← HN.out]
      case measure => simp [intOf]; omega
    · obtain rfl : k = s.size := by omega
      have hn2 : n < 18446744073709551616 := by omega
      have hln := hexL_len16 hn2
      have hsz : (⟨(hexL n).toArray⟩ : ByteArray).size = (hexL n).length := by simp [ByteArray.size]
      go_wp2_with (go_at_call 47; refine (formatUint16 n hn2 _ ht).mono ?_; rintro e w1 ⟨rfl, hb⟩)
      rw [show (16 : Int) - ((hexL n).length : Int) = ((16 - (hexL n).length : Nat) : Int) from by omega]
      have hrz : (⟨(List.replicate (16 - (hexL n).length) (48 : UInt8)).toArray⟩ : ByteArray).size = 16 - (hexL n).length := by simp [ByteArray.size]
      refine (repeat0 _ (by omega) _).mono ?_
      rintro e w2 ⟨rfl, rfl⟩
      have hl : (⟨(List.replicate (16 - (hexL n).length) (48 : UInt8)).toArray⟩ : ByteArray) ++ ⟨(hexL n).toArray⟩ = sumB s := by
        unfold sumB
        rw [List.take_of_length_le (by simp)] at HN
        rw [← HN.out]
        exact ByteArray.ext (by simp)
      generalize (⟨(List.replicate (16 - (hexL n).length) (48 : UInt8)).toArray⟩ : ByteArray) = z at hrz hl ⊢
      generalize (⟨(hexL n).toArray⟩ : ByteArray) = y at hsz hl ⊢
      have HL := Lib.hid hl
      clear hl
      go_wp2
      go_ret
      exact ⟨by first | rfl | (rw [HL.out]; rfl), hb⟩
end Go.Proofs.YtmcbljongeadeaaGreatDoor.Hex
