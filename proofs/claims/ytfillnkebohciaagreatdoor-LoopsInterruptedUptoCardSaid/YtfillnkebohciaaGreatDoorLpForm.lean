/- What is wrong with a part of a loop: formFault, both partFault. -/
import Derived.Test.YtfillnkebohciaaGreatDoorLp
import Derived.Test.YtfillnkebohciaaGreatDoorKeys
import Derived.Test.YtfillnkebohciaaGreatDoorTrue
namespace Go.Proofs.YtfillnkebohciaaGreatDoor.L
open Go.RowKit

def lv (x : Lp) (A As : Option Addr) (c c' : Nat) : Value := .agg #[.int .i64 x.kind, .string x.item, .int .i64 x.long, .int .i64 x.many, .slice A x.kids.length c, .slice As x.shares.length c']
def bad (n lo hi : Int) : Bool := decide (n < lo ∨ hi < n)
/-- Whether the form is wrong. -/
def fb (x : Lp) : Bool :=
  (x.kind == 1 && ((x.kids.length : Int) != 0)) || (x.kind == 5 && ((x.kids.length : Int) != 1)) || (!(x.kind == 1) && ((x.kids.length : Int) == 0)) ||
  (x.kind == 4 && ((x.shares.length : Int) != (x.kids.length : Int))) || (!(x.kind == 4) && ((x.shares.length : Int) != 0)) ||
  (!(x.kind == 1) && ((!x.item.toList.isEmpty) || x.long != 0)) || (!(x.kind == 5) && x.many != 0)

set_option maxHeartbeats 4000000 in
theorem formFault (x : Lp) (A As : Option Addr) (c c' : Nat) (w : World) :
    Calls Tryz.prog 104 #[lv x A As c c'] w fun e w' => e = .returned (.bool (fb x)) ∧ Below w.heap.size w w' := by
  have HA := Lib.hid (fun (c : Array Value) (o : TypeId) (n : Nat) => B.below_drew ((Below.refl _ w).alloc (Nat.le_refl _) (.cells c o)) n)
  unfold lv
  obtain ⟨r, hr⟩ : ∃ r, fb x = r := ⟨_, rfl⟩
  rw [hr]
  have HF := Lib.hid hr
  clear hr
  unfold fb at HF
  generalize x.kids.length = nk at *
  generalize x.shares.length = ns at *
  by_cases h1 : x.kind = 1
  · have k1 : (x.kind == 1) = true := beq_iff_eq.2 h1
    have k4 : (x.kind == 4) = false := beq_eq_false_iff_ne.2 (by omega)
    have k5 : (x.kind == 5) = false := beq_eq_false_iff_ne.2 (by omega)
    rw [k1, k4, k5] at HF
    go_enter Tryz.func104, Tryz.ntmps104
    go_wp2
    go_quiet (fail)
    go_wp2
    all_goals
      go_ret
      exact ⟨by rw [← HF.out]; simp [*], (HA.out _ _ _)⟩
  · by_cases h4 : x.kind = 4
    · have k1 : (x.kind == 1) = false := beq_eq_false_iff_ne.2 (by omega)
      have k4 : (x.kind == 4) = true := beq_iff_eq.2 h4
      have k5 : (x.kind == 5) = false := beq_eq_false_iff_ne.2 (by omega)
      rw [k1, k4, k5] at HF
      go_enter Tryz.func104, Tryz.ntmps104
      go_wp2
      go_quiet (fail)
      go_wp2
      all_goals
        go_ret
        exact ⟨by rw [← HF.out]; simp [*], (HA.out _ _ _)⟩
    · by_cases h5 : x.kind = 5
      · have k1 : (x.kind == 1) = false := beq_eq_false_iff_ne.2 (by omega)
        have k4 : (x.kind == 4) = false := beq_eq_false_iff_ne.2 (by omega)
        have k5 : (x.kind == 5) = true := beq_iff_eq.2 h5
        rw [k1, k4, k5] at HF
        go_enter Tryz.func104, Tryz.ntmps104
        go_wp2
        go_quiet (fail)
        go_wp2
        all_goals
          go_ret
          exact ⟨by rw [← HF.out]; simp [*], (HA.out _ _ _)⟩
      · have k1 : (x.kind == 1) = false := beq_eq_false_iff_ne.2 (by omega)
        have k4 : (x.kind == 4) = false := beq_eq_false_iff_ne.2 (by omega)
        have k5 : (x.kind == 5) = false := beq_eq_false_iff_ne.2 (by omega)
        rw [k1, k4, k5] at HF
        go_enter Tryz.func104, Tryz.ntmps104
        go_wp2
        go_quiet (fail)
        go_wp2
        all_goals
          go_ret
          exact ⟨by rw [← HF.out]; simp [*], (HA.out _ _ _)⟩
end Go.Proofs.YtfillnkebohciaaGreatDoor.L
