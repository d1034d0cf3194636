/- signlaw1.ContentCut answers true: the walk over the contracts. -/
import Derived.Test.YtdgkknjapfdlaaaDoorChunks
import Derived.Test.YtdgkknjapfdlaaaDoorLinks
import Derived.Test.YtdgkknjapfdlaaaDoorEq
namespace Go.Proofs.YtdgkknjapfdlaaaDoor.Cut
open Go.RowKit

def sumX (s : ByteArray) : ByteArray := if s.size ≤ 100000 then Hex.sumB s else ⟨#[]⟩
def sumE (s : ByteArray) : Int := if s.size ≤ 100000 then 0 else 2
theorem sumOf_all (s : ByteArray) (w : World) (ht : Hex.Tab w) :
    Calls Tryd.prog 8 #[.string s] w fun e w' => e = .returned (.tuple #[.string (sumX s), .int .i64 (sumE s)]) ∧ Below w.heap.size w w' := by
  by_cases h : s.size ≤ 100000
  · unfold sumX sumE; rw [if_pos h, if_pos h]; exact sumOf_ok s h w ht
  · unfold sumX sumE; rw [if_neg h, if_neg h]; refine (sumOf_large s h w).mono ?_; rintro e w' ⟨he, rfl⟩; exact ⟨he, Below.refl _ _⟩
theorem sumFor_all (s : ByteArray) (w : World) (ht : Hex.Tab w) :
    Calls Tryd.prog 9 #[.string s] w fun e w' => e = .returned (.tuple #[.string (sumX s), .int .i64 (sumE s)]) ∧ Below w.heap.size w w' := by
  by_cases h : s.size ≤ 100000
  · unfold sumX sumE; rw [if_pos h, if_pos h]; exact sumFor_ok s h w ht
  · unfold sumX sumE; rw [if_neg h, if_neg h]; refine (sumFor_large s h w).mono ?_; rintro e w' ⟨he, rfl⟩; exact ⟨he, Below.refl _ _⟩

theorem content_any (s : ByteArray) (low bits high : Int) (w : World) (ht : Hex.Tab w) :
    Calls Tryd.prog 3 #[.string s, .int .i64 low, .int .i64 bits, .int .i64 high] w fun e w' => e = .returned (.bool true) ∧ Below w.heap.size w w' := by
  have c1 := sumOf_all s w ht
  have c2 := fun W h => sumFor_all s W (ht.below h)
  generalize sumX s = x at c1 c2
  generalize sumE s = n at c1 c2
  have hq : (!(x.toList == x.toList)) = false := by rw [beq_self_eq_true]; rfl
  by_cases hf : cutFault s low bits high = 0
  · obtain ⟨hs, hl1, hl2, hh, hb0, hb1⟩ : s.size ≤ 100000 ∧ 1 ≤ low ∧ low ≤ high ∧ high ≤ 100000 ∧ 0 ≤ bits ∧ bits ≤ 16 := by
      unfold cutFault at hf
      split at hf
      · exact absurd hf (by decide)
      · split at hf
        · exact absurd hf (by decide)
        · omega
    obtain ⟨low, rfl⟩ := Int.eq_ofNat_of_zero_le (show 0 ≤ low by omega)
    obtain ⟨bits, rfl⟩ := Int.eq_ofNat_of_zero_le hb0
    obtain ⟨high, rfl⟩ := Int.eq_ofNat_of_zero_le (show 0 ≤ high by omega)
    have c3 := cut_ok s low bits high hs (by omega) (by omega) (by omega) (by omega)
    have c4 := fun W h => chunks_ok s low bits high hs (by omega) (by omega) (by omega) (by omega) W (ht.below h)
    have c5 := cutFault_any s low bits high
    rw [hf] at c5
    have c6 := cutOf_ok s low bits high hs (by omega) (by omega) (by omega) (by omega)
    have c7 := fun W h => chunksOf_ok s low bits high hs (by omega) (by omega) (by omega) (by omega) W (ht.below h)
    generalize cuts s low bits high = l at c3 c4 c6 c7
    clear hl1 hl2 hh hb0 hb1 hf
    go_enter Tryd.func3, Tryd.ntmps3
    go_wp2_with (first
      | (go_at_call 8; refine c1.mono ?_; rintro e w1 ⟨rfl, B1⟩)
      | (go_at_call 9; refine (c2 _ B1).mono ?_; rintro e w2 ⟨rfl, B2'⟩; have B2 := B.below_trans B1 B2')
      | (go_at_call 10; refine (c3 _).mono ?_; rintro e w3 ⟨v3, rfl, S3, B3'⟩; have B3 := B.below_trans B2 B3'; obtain ⟨A3, p3, rfl, C3⟩ := S3)
      | (go_at_call 11; refine (c4 _ B3).mono ?_; rintro e w4 ⟨v4, rfl, S4, B4'⟩; have B4 := B.below_trans B3 B4'; obtain ⟨A4, p4, rfl, C4⟩ := S4)
      | (go_at_call 12; refine (c5 _).mono ?_; rintro e w5 ⟨rfl, rfl⟩)
      | (go_at_call 15; refine (c6 _).mono ?_; rintro e w6 ⟨v6, rfl, S6, B6'⟩; have B6 := B.below_trans B4 B6')
      | (go_at_call 14; refine (Eq.eq_str _ _ l l _ ⟨_, _, rfl, C3.mono (B.below_trans B4' B6')⟩ S6 true (decide_eq_true rfl)).mono ?_; rintro e w7 ⟨rfl, B7'⟩; have B7 := B.below_trans B6 B7')
      | (go_at_call 17; refine (c7 _ B7).mono ?_; rintro e w8 ⟨v8, rfl, S8, B8'⟩; have B8 := B.below_trans B7 B8')
      | (go_at_call 16; refine (Eq.eq_chunk _ _ (chunks l) (chunks l) _ ⟨_, _, rfl, C4.mono (B.below_trans B6' (B.below_trans B7' B8'))⟩ S8 true (decide_eq_true rfl)).mono ?_; rintro e w9 ⟨rfl, B9'⟩; have B9 := B.below_trans B8 B9')
      | (go_at_call 13; refine (Links.synced _).mono ?_; rintro e w10 ⟨rfl, B10⟩))
    go_ret
    exact ⟨rfl, B.below_trans B9 B10⟩
  · have c3 := cut_bad s low bits high hf
    have c4 := chunks_bad s low bits high hf
    have c5 := cutFault_any s low bits high
    generalize cutFault s low bits high = m at c3 c4 c5 hf
    have hm : (m != 0) = true := bne_iff_ne.2 hf
    go_enter Tryd.func3, Tryd.ntmps3
    go_wp2_with (first
      | (go_at_call 8; refine c1.mono ?_; rintro e w1 ⟨rfl, B1⟩)
      | (go_at_call 9; refine (c2 _ B1).mono ?_; rintro e w2 ⟨rfl, B2'⟩; have B2 := B.below_trans B1 B2')
      | (go_at_call 10; refine (c3 _).mono ?_; rintro e w3 ⟨rfl, rfl⟩)
      | (go_at_call 11; refine (c4 _).mono ?_; rintro e w4 ⟨rfl, rfl⟩)
      | (go_at_call 12; refine (c5 _).mono ?_; rintro e w5 ⟨rfl, rfl⟩)
      | (go_at_call 13; refine (Links.synced _).mono ?_; rintro e w10 ⟨rfl, B10⟩))
    go_ret
    exact ⟨rfl, B.below_trans B2 B10⟩
end Go.Proofs.YtdgkknjapfdlaaaDoor.Cut
