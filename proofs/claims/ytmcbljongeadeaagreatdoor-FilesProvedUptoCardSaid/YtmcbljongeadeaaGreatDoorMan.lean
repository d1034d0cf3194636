/- Manifests: sync.CheckManifest, the reference's ManifestFault, SameManifest. -/
import Derived.Test.YtmcbljongeadeaaGreatDoorCopy
namespace Go.Proofs.YtmcbljongeadeaaGreatDoor.Man
open Go.RowKit

abbrev Fl := Files.Fl
def fault (no : Int) (l : List Fl) : Int := if no < 0 ∨ 1000000 < no then 1 else Files.fault l
theorem check (no : Int) (v : Value) (l : List Fl) (hk : ∀ f ∈ l, f.1.size ≤ 9223372036854775807) (w : World) (h : B.Kd.file.S w v l) :
    Calls Tryz.prog 26 #[.agg #[.int .i64 no, v]] w fun e w' => e = .returned (.int .i64 (fault no l)) ∧ Below w.heap.size w w' := by
  have HA := Lib.hid (fun (c : Array Value) (o : TypeId) => (Below.refl _ w).alloc (Nat.le_refl _) (.cells c o))
  have c1 := fun c o => Files.filesFault v l hk _ (h.mono (HA.out c o))
  obtain ⟨A, c, rfl, -⟩ := h
  by_cases hn : no < (0 : Int) ∨ (1000000 : Int) < no
  · have co := Cut.outside no 0 1000000 true (decide_eq_true hn)
    have HX : Hid (fault no l = 1) := Lib.hid (if_pos hn)
    clear hn
    go_enter Tryz.func26, Tryz.ntmps26
    go_wp2_with (go_at_call 46; refine (co _).mono ?_; rintro e w2 ⟨rfl, rfl⟩)
    go_ret
    exact ⟨by rw [HX.out]; rfl, HA.out _ _⟩
  · have co := Cut.outside no 0 1000000 false (decide_eq_false hn)
    have HX : Hid (fault no l = Files.fault l) := Lib.hid (if_neg hn)
    generalize Files.fault l = n at c1 HX
    clear hn
    go_enter Tryz.func26, Tryz.ntmps26
    go_wp2_with (first | (go_at_call 46; refine (co _).mono ?_; rintro e w2 ⟨rfl, rfl⟩) | (go_at_call 39; refine (c1 _ _).mono ?_; rintro e w2 ⟨rfl, HB⟩))
    go_ret
    exact ⟨by rw [HX.out]; rfl, B.below_trans (HA.out _ _) HB⟩
theorem refCheck (no : Int) (v : Value) (l : List Fl) (hk : ∀ f ∈ l, f.1.size ≤ 9223372036854775807) (w : World) (h : B.Kd.file.S w v l) :
    Calls Tryz.prog 13 #[.agg #[.int .i64 no, v]] w fun e w' => e = .returned (.int .i64 (fault no l)) ∧ Below w.heap.size w w' := by
  have HA := Lib.hid (fun (c : Array Value) (o : TypeId) => (Below.refl _ w).alloc (Nat.le_refl _) (.cells c o))
  have c1 := fun c o => Files.refFault v l hk _ (h.mono (HA.out c o))
  obtain ⟨A, c, rfl, -⟩ := h
  by_cases hn : no < (0 : Int) ∨ (1000000 : Int) < no
  · have co := Cut.within no 0 1000000 false (decide_eq_false (by omega))
    have HX : Hid (fault no l = 1) := Lib.hid (if_pos hn)
    clear hn
    go_enter Tryz.func13, Tryz.ntmps13
    go_wp2_with (go_at_call 30; refine (co _).mono ?_; rintro e w2 ⟨rfl, rfl⟩)
    go_ret
    exact ⟨by rw [HX.out]; rfl, HA.out _ _⟩
  · have co := Cut.within no 0 1000000 true (decide_eq_true (by omega))
    have HX : Hid (fault no l = Files.fault l) := Lib.hid (if_neg hn)
    generalize Files.fault l = n at c1 HX
    clear hn
    go_enter Tryz.func13, Tryz.ntmps13
    go_wp2_with (first | (go_at_call 30; refine (co _).mono ?_; rintro e w2 ⟨rfl, rfl⟩) | (go_at_call 31; refine (c1 _ _).mono ?_; rintro e w2 ⟨rfl, HB⟩))
    go_ret
    exact ⟨by rw [HX.out]; rfl, B.below_trans (HA.out _ _) HB⟩
theorem eqFiles (v1 v2 : Value) (xs ys : List Fl) (w : World) (h1 : B.Kd.file.S w v1 xs) (h2 : B.Kd.file.S w v2 ys) (b : Bool) (hb : decide (xs = ys) = b) :
    Calls Tryz.prog 24 #[v1, v2, .func (.func 9) #[] #[]] w fun e w' => e = .returned (.bool b) ∧ Below w.heap.size w w' := by
  subst hb
  obtain ⟨A1, c1, rfl, C1⟩ := h1
  obtain ⟨A2, c2, rfl, C2⟩ := h2
  have L1 := C1.1
  have L2 := C2.1
  by_cases hl : xs.length = ys.length
  · go_enter Tryz.func24, Tryz.ntmps24
    go_wp2
    go_loopw [17] (fun s17 wr => ∃ (k : Nat), s17 = .int .i64 k ∧ k ≤ xs.length ∧ Hid (xs.take k = ys.take k) ∧ Hid (Below w.heap.size w wr)) (fun s17 _ => xs.length - (intOf s17).toNat)
    case atStart => exact ⟨0, rfl, by omega, Lib.hid rfl, Lib.hid (Below.refl _ _)⟩
    case round =>
      obtain ⟨k, rfl, hk, HT, HB⟩ := hrel
      by_cases hlt : k < xs.length
      · have hlt2 : k < ys.length := by omega
        obtain ⟨b1, o1, cs1, rfl, K1, e1⟩ := C1.at k hlt
        obtain ⟨b2, o2, cs2, rfl, K2, e2⟩ := C2.at k hlt2
        obtain ⟨A3, c3, rfl, D1⟩ := K1
        obtain ⟨A4, c4, rfl, D2⟩ := K2
        have HA := Lib.hid (fun (c c' : Array Value) (o : TypeId) => (HB.out.alloc (show w.heap.size ≤ wr.heap.size from HB.out.size) (.cells c o)).alloc (by have := HB.out.size; simp; omega) (.cells c' o))
        have f0 : wr.cell? ⟨b1, o1 + k * 2, none⟩ = some (.string xs[k].1) := by simpa [B.Kd.file] using B.cell_below HB.out (e1 0 (by simp))
        have f1 : wr.cell? ⟨b1, o1 + k * 2 + 1, none⟩ = some (.slice A3 xs[k].2.length c3) := by simpa [B.Kd.file] using B.cell_below HB.out (e1 1 (by simp))
        have f2 := fun o => B.cell_below ((Below.refl _ wr).alloc (Nat.le_refl _) o) (show wr.cell? ⟨b2, o2 + k * 2, none⟩ = some (.string ys[k].1) by simpa [B.Kd.file] using B.cell_below HB.out (e2 0 (by simp)))
        have f3 := fun o => B.cell_below ((Below.refl _ wr).alloc (Nat.le_refl _) o) (show wr.cell? ⟨b2, o2 + k * 2 + 1, none⟩ = some (.slice A4 ys[k].2.length c4) by simpa [B.Kd.file] using B.cell_below HB.out (e2 1 (by simp)))
        have sf := fun W hW => Copy.sameFile xs[k] ys[k] A3 A4 c3 c4 W (D1.mono hW) (D2.mono hW)
        have hk1 : (k : Int) < xs.length := by omega
        have hk2 : (k : Int) < ys.length := by omega
        clear e1 e2 D1 D2 hl
        by_cases hq : xs[k] = ys[k]
        · have HQ := Lib.hid hq
          rw [decide_eq_true hq] at sf
          clear hq
          go_wp2_with (go_at_call 9; refine (sf _ (HA.out _ _ _)).mono ?_; rintro e w2 ⟨rfl, HB2⟩)
          go_roundw
          case rel => exact ⟨k + 1, by go_num, by omega, Lib.hid (by rw [← List.take_append_getElem hlt, ← List.take_append_getElem hlt2, HT.out, HQ.out]), Lib.hid (B.below_trans (HA.out _ _ _) HB2)⟩
          case measure => simp [intOf]; omega
        · have HQ := Lib.hid hq
          rw [decide_eq_false hq] at sf
          clear hq
          go_wp2_with (go_at_call 9; refine (sf _ (HA.out _ _ _)).mono ?_; rintro e w2 ⟨rfl, HB2⟩)
          go_ret
          exact ⟨by rw [decide_eq_false (fun e => HQ.out (by subst e; rfl))]; rfl, B.below_trans (HA.out _ _ _) HB2⟩
      · obtain rfl : k = xs.length := by omega
        go_wp2
        go_ret
        have := HT.out
        rw [List.take_length, hl, List.take_length] at this
        exact ⟨by rw [decide_eq_true this]; rfl, HB.out⟩
  · go_enter Tryz.func24, Tryz.ntmps24
    go_wp2
    go_ret
    exact ⟨by rw [decide_eq_false (fun e => hl (by rw [e]))]; rfl, Below.refl _ _⟩
theorem same (n1 n2 : Int) (v1 v2 : Value) (xs ys : List Fl) (w : World) (h1 : B.Kd.file.S w v1 xs) (h2 : B.Kd.file.S w v2 ys) :
    Calls Tryz.prog 8 #[.agg #[.int .i64 n1, v1], .agg #[.int .i64 n2, v2]] w fun e w' => e = .returned (.bool (decide (n1 = n2 ∧ xs = ys))) ∧ Below w.heap.size w w' := by
  have HA := Lib.hid (fun (c c' : Array Value) (o : TypeId) => ((Below.refl _ w).alloc (Nat.le_refl _) (.cells c o)).alloc (by simp) (.cells c' o))
  have ce := fun W hb => eqFiles v1 v2 xs ys W (h1.mono hb) (h2.mono hb) _ rfl
  obtain ⟨A1, c1, rfl, C1⟩ := h1
  obtain ⟨A2, c2, rfl, C2⟩ := h2
  clear C1 C2
  by_cases hn : n1 = n2
  · have hnb : (n1 == n2) = true := beq_iff_eq.2 hn
    have HX : Hid (decide (n1 = n2 ∧ xs = ys) = decide (xs = ys)) := Lib.hid (by rw [decide_eq_decide]; exact ⟨fun h => h.2, fun h => ⟨hn, h⟩⟩)
    generalize decide (xs = ys) = b at ce HX
    clear hn
    go_enter Tryz.func8, Tryz.ntmps8
    go_wp2_with (go_at_call 24; refine (ce _ (HA.out _ _ _)).mono ?_; rintro e w2 ⟨rfl, HB⟩)
    go_ret
    exact ⟨by rw [HX.out]; rfl, B.below_trans (HA.out _ _ _) HB⟩
  · have hnb : (n1 == n2) = false := beq_eq_false_iff_ne.2 hn
    have HX : Hid (decide (n1 = n2 ∧ xs = ys) = false) := Lib.hid (decide_eq_false (fun h => hn h.1))
    clear hn
    go_enter Tryz.func8, Tryz.ntmps8
    go_wp2
    go_ret
    exact ⟨by rw [HX.out]; rfl, HA.out _ _ _⟩
end Go.Proofs.YtmcbljongeadeaaGreatDoor.Man
