/- sync.haveFault. -/
import Derived.Test.YtmcbljongeadeaaDoorBytes
namespace Go.Proofs.YtmcbljongeadeaaDoor.Told
open Go.RowKit

def haveBad (hs : List ByteArray) : Int := if hs.all Key.sumR = true then 0 else 3
/-- What is wrong with sums that somebody has. -/
def haveF (hs : List ByteArray) : Int := if 2000 < hs.length then 2 else haveBad hs
def haveFault (no : Int) (l : List Fl) (hs : List ByteArray) : Int := if Man.fault no l ≠ 0 then Man.fault no l else haveF hs
theorem haveFault_any (no : Int) (v u : Value) (l : List Fl) (hs : List ByteArray) (hk : ∀ f ∈ l, f.1.size ≤ 9223372036854775807) (w : World) (h : B.Kd.file.S w v l) (h2 : B.Kd.str.S w u hs) :
    Calls Tryd.prog 30 #[.agg #[.int .i64 no, v], u] w fun e w' => e = .returned (.int .i64 (haveFault no l hs)) ∧ Below w.heap.size w w' := by
  have HA := Lib.hid (fun (c : Array Value) (o : TypeId) => (Below.refl _ w).alloc (Nat.le_refl _) (.cells c o))
  have c1 := fun c o => Man.check no v l hk _ (h.mono (HA.out c o))
  obtain ⟨A, c, rfl, -⟩ := h
  obtain ⟨A2, c2, rfl, C2⟩ := h2
  have L2 := C2.1
  by_cases hf : Man.fault no l = 0
  · have HF := Lib.hid (show haveFault no l hs = haveF hs by unfold haveFault; rw [if_neg (fun h => h hf)])
    rw [hf] at c1
    clear hf hk
    by_cases hl : 2000 < hs.length
    · have HX : Hid (haveFault no l hs = 2) := Lib.hid (by rw [HF.out, haveF, if_pos hl])
      have hl' : (2000 : Int) < hs.length := by omega
      go_enter Tryd.func30, Tryd.ntmps30
      go_wp2_with (go_at_call 11; refine (c1 _ _).mono ?_; rintro e w2 ⟨rfl, HB⟩)
      go_ret
      exact ⟨by rw [HX.out]; rfl, B.below_trans (HA.out _ _) HB⟩
    · have HX : Hid (haveFault no l hs = haveBad hs) := Lib.hid (by rw [HF.out, haveF, if_neg hl])
      go_enter Tryd.func30, Tryd.ntmps30
      go_wp2_with (go_at_call 11; refine (c1 _ _).mono ?_; rintro e w2 ⟨rfl, HB⟩; have HBB := Lib.hid (B.below_trans (HA.out _ _) HB))
      clear HB c1 HA
      go_loopw [18] (fun so wr => ∃ (k : Nat), so = .int .i64 k ∧ k ≤ hs.length ∧ Hid ((hs.take k).all Key.sumR = true) ∧ Hid (Below w.heap.size w wr)) (fun so _ => hs.length - (intOf so).toNat)
      case atStart => exact ⟨0, rfl, Nat.zero_le _, Lib.hid rfl, HBB⟩
      case round =>
        obtain ⟨k, rfl, hk, HT, HB⟩ := hrel
        by_cases hlt : k < hs.length
        · obtain ⟨b5, o5, cs5, rfl, K5, e5⟩ := C2.at k hlt
          obtain rfl : cs5 = [.string hs[k]] := K5
          have q0 : wr.cell? ⟨b5, o5 + k, none⟩ = some (.string hs[k]) := by simpa [B.Kd.str, B.Kd.flat] using B.cell_below HB.out (e5 0 (by simp))
          have hk1 : (k : Int) < hs.length := by omega
          clear e5
          cases hs1 : Key.sumR hs[k] with
          | true =>
            have cs := Key.isSum hs[k] true hs1 wr
            have HT2 : Hid ((hs.take (k + 1)).all Key.sumR = true) := Lib.hid (by rw [← List.take_append_getElem hlt, List.all_append, HT.out]; simp [hs1])
            clear hs1
            go_wp2_with (go_at_call 47; refine cs.mono ?_; rintro e w5 ⟨rfl, HB5⟩)
            go_roundw
            case rel => exact ⟨k + 1, by go_num, by omega, HT2, Lib.hid (B.below_trans HB.out HB5)⟩
            case measure => simp [intOf]; omega
          | false =>
            have cs := Key.isSum hs[k] false hs1 wr
            have HX2 : Hid (haveBad hs = 3) := Lib.hid (by
              unfold haveBad
              rw [if_neg (fun e => by have := List.all_eq_true.1 e hs[k] (List.getElem_mem hlt); rw [hs1] at this; cases this)])
            clear hs1
            go_wp2_with (go_at_call 47; refine cs.mono ?_; rintro e w5 ⟨rfl, HB5⟩)
            go_ret
            exact ⟨by rw [HX.out, HX2.out]; rfl, B.below_trans HB.out HB5⟩
        · obtain rfl : k = hs.length := by omega
          have HX2 : Hid (haveBad hs = 0) := Lib.hid (by unfold haveBad; have := HT.out; rw [List.take_length] at this; rw [if_pos this])
          go_wp2
          go_ret
          exact ⟨by rw [HX.out, HX2.out]; rfl, HB.out⟩
  · have HX : Hid (haveFault no l hs = Man.fault no l) := Lib.hid (by unfold haveFault; rw [if_pos hf])
    generalize Man.fault no l = n at c1 hf HX
    go_enter Tryd.func30, Tryd.ntmps30
    go_wp2_with (go_at_call 11; refine (c1 _ _).mono ?_; rintro e w2 ⟨rfl, HB⟩)
    go_ret
    exact ⟨by rw [HX.out]; rfl, B.below_trans (HA.out _ _) HB⟩
end Go.Proofs.YtmcbljongeadeaaDoor.Told
