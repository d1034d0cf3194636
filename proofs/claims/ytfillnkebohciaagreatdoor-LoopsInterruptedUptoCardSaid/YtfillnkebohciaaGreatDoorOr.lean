/- cmp.Or at errors; the law's when. -/
import Derived.Test.YtfillnkebohciaaGreatDoorProg
import Derived.Test.YtfillnkebohciaaGreatDoorBase
import Derived.WalkLawsBesides
import Derived.WalkSpells
import Derived.LoopTactic
namespace Go.Proofs.YtfillnkebohciaaGreatDoor.Or
open Go.RowKit

/-- The first of them that is not nought. -/
def firstNZ : List Int → Int
  | [] => 0
  | x :: xs => if x ≠ 0 then x else firstNZ xs
theorem orOf (v : Value) (xs : List Int) (w : World) (h : B.Kd.int.S w v xs) :
    Calls Tryz.prog 20 #[v] w fun e w' => e = .returned (.int .i64 (firstNZ xs)) ∧ Below w.heap.size w w' := by
  obtain ⟨A, c, rfl, C⟩ := h
  have L := C.1
  go_enter Tryz.func20, Tryz.ntmps20
  go_wp2
  go_loopw [8] (fun so wr => ∃ (k : Nat), so = .int .i64 k ∧ k ≤ xs.length ∧ Hid (firstNZ xs = firstNZ (xs.drop k)) ∧ Hid (Below w.heap.size w wr)) (fun so _ => xs.length - (intOf so).toNat)
  case atStart => exact ⟨0, rfl, Nat.zero_le _, Lib.hid rfl, Lib.hid (Below.refl _ _)⟩
  case round =>
    obtain ⟨k, rfl, hk, HT, HB⟩ := hrel
    by_cases hlt : k < xs.length
    · obtain ⟨b5, o5, cs5, rfl, K5, e5⟩ := C.at k hlt
      obtain rfl : cs5 = [.int .i64 xs[k]] := K5
      have q0 : wr.cell? ⟨b5, o5 + k, none⟩ = some (.int .i64 xs[k]) := by simpa [B.Kd.int, B.Kd.flat] using B.cell_below HB.out (e5 0 (by simp))
      have hk1 : (k : Int) < xs.length := by omega
      have HT2 := HT.out
      rw [List.drop_eq_getElem_cons hlt, firstNZ] at HT2
      clear e5 HT
      by_cases hz : xs[k] = 0
      · rw [if_neg (by simpa using hz)] at HT2
        have HT3 := Lib.hid HT2
        clear HT2
        have hzb : (xs[k] != 0) = false := by rw [hz]; rfl
        go_wp2
        go_roundw
        case rel => exact ⟨k + 1, by go_num, by omega, HT3, HB⟩
        case measure => simp [intOf]; omega
      · rw [if_pos hz] at HT2
        have HT3 := Lib.hid HT2
        clear HT2
        have hzb : (xs[k] != 0) = true := bne_iff_ne.2 hz
        go_wp2
        go_ret
        exact ⟨by rw [HT3.out]; rfl, HB.out⟩
    · obtain rfl : k = xs.length := by omega
      have HT3 : Hid (firstNZ xs = 0) := Lib.hid (by rw [HT.out, List.drop_length]; rfl)
      go_wp2
      go_ret
      exact ⟨by rw [HT3.out]; rfl, HB.out⟩
theorem when_any (b : Bool) (q : Int) (w : World) : Calls Tryz.prog 22 #[.bool b, .int .i64 q] w fun e w' => e = .returned (.int .i64 (if b = true then q else 0)) ∧ w' = w := by
  cases b with
  | true =>
    go_enter Tryz.func22, Tryz.ntmps22
    go_wp2
    go_ret
    exact ⟨rfl, rfl⟩
  | false =>
    go_enter Tryz.func22, Tryz.ntmps22
    go_wp2
    go_ret
    exact ⟨rfl, rfl⟩
/-- What cmp.Or is given, as the text lays it. -/
theorem lit_ints (w : World) (cs : Array Value) (e : TypeId) (xs : List Int) (n : Nat) (hn : xs.length = n) (hcs : cs.toList = xs.flatMap fun n => [.int .i64 n]) (hb : xs.length ≤ 140737488355328) : B.Kd.int.S (w.alloc (.cells cs e)) (.slice (some ⟨w.heap.size, 0, none⟩) n n) xs :=
  B.lit_S (k := 1) (enc := fun n => [.int .i64 n]) (hl := fun _ => rfl) (h1 := by intro x v hv; simp at hv; subst hv; rfl) w cs e xs n hn hcs hb
end Go.Proofs.YtfillnkebohciaaGreatDoor.Or
