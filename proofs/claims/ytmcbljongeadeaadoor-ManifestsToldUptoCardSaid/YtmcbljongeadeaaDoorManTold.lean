/- signlaw1.manifestsTold and ManifestsTold answer true: the walks over the contracts. -/
import Derived.Test.YtmcbljongeadeaaDoorSpareRef
import Derived.Test.YtmcbljongeadeaaDoorLinks
import Derived.Test.YtmcbljongeadeaaDoorEq
namespace Go.Proofs.YtmcbljongeadeaaDoor.Told
open Go.RowKit

/-- The first of them that is not nought. -/
def firstNZ : List Int → Int
  | [] => 0
  | x :: xs => if x ≠ 0 then x else firstNZ xs
theorem orOf (v : Value) (xs : List Int) (w : World) (h : B.Kd.int.S w v xs) :
    Calls Tryd.prog 16 #[v] w fun e w' => e = .returned (.int .i64 (firstNZ xs)) ∧ Below w.heap.size w w' := by
  obtain ⟨A, c, rfl, C⟩ := h
  have L := C.1
  go_enter Tryd.func16, Tryd.ntmps16
  go_wp2
  go_loopw [8] (fun so wr => ∃ (k : Nat), so = .int .i64 k ∧ k ≤ xs.length ∧ Hid (firstNZ xs = firstNZ (xs.drop k)) ∧ Hid (Below w.heap.size w wr)) (fun so _ => xs.length - (intOf so).toNat)
  case atStart => exact ⟨0, rfl, Nat.zero_le _, Lib.hid rfl, Lib.hid (Below.refl _ _)⟩
  case round =>
    obtain ⟨k, rfl, hk, HT, HB⟩ := hrel
    by_cases hlt : k < xs.length
    · obtain ⟨b5, o5, cs5, rfl, K5, e5⟩ := C.at k hlt
      obtain rfl : cs5 = [.int .i64 xs[k]] := K5
      have q0 : wr.cell? ⟨b5, o5 + k, none⟩ = some (.int .i64 xs[k]) := by simpa [B.Kd.int, B.Kd.flat] using B.cell_below HB.out (e5 0 (by simp))
      have hk1 : (k : Int) < xs.length := by omega
      have HT2 := HT.out
      rw [List.drop_eq_getElem_cons hlt, firstNZ] at HT2
      clear e5 HT
      by_cases hz : xs[k] = 0
      · rw [if_neg (by simpa using hz)] at HT2
        have HT3 := Lib.hid HT2
        clear HT2
        have hzb : (xs[k] != 0) = false := by rw [hz]; rfl
        go_wp2
        go_roundw
        case rel => exact ⟨k + 1, by go_num, by omega, HT3, HB⟩
        case measure => simp [intOf]; omega
      · rw [if_pos hz] at HT2
        have HT3 := Lib.hid HT2
        clear HT2
        have hzb : (xs[k] != 0) = true := bne_iff_ne.2 hz
        go_wp2
        go_ret
        exact ⟨by rw [HT3.out]; rfl, HB.out⟩
    · obtain rfl : k = xs.length := by omega
      have HT3 : Hid (firstNZ xs = 0) := Lib.hid (by rw [HT.out, List.drop_length]; rfl)
      go_wp2
      go_ret
      exact ⟨by rw [HT3.out]; rfl, HB.out⟩
theorem haveFault_or (no : Int) (l : List Fl) (hs : List ByteArray) : firstNZ [Man.fault no l, haveF hs] = haveFault no l hs := by
  unfold haveFault
  simp only [firstNZ]
  split
  · rfl
  · split
    · rfl
    · rename_i h; exact (Decidable.not_not.1 h).symm
theorem have_small {no : Int} {l : List Fl} {hs : List ByteArray} (h : haveFault no l hs = 0) : hs.length ≤ 100000 ∧ Man.fault no l = 0 ∧ haveF hs = 0 := by
  unfold haveFault at h
  split at h
  · rename_i h'; exact absurd h h'
  · rename_i h'
    refine ⟨?_, by simpa using h', h⟩
    unfold haveF at h
    split at h
    · cases h
    · omega
set_option maxHeartbeats 2000000 in
theorem told_man (no : Int) (v u : Value) (l : List Fl) (hs : List ByteArray) (hl : l.length ≤ 1048576) (hc : ∀ f ∈ l, f.2.length ≤ 1048576) (hk : ∀ f ∈ l, f.1.size ≤ 9223372036854775807) (w : World) (h : B.Kd.file.S w v l) (h2 : B.Kd.str.S w u hs) (hf : Man.fault no l ≠ 0) :
    Calls Tryd.prog 6 #[.agg #[.int .i64 no, v], u] w fun e w' => e = .returned (.bool true) ∧ Below w.heap.size w w' := by
  have hH : haveFault no l hs ≠ 0 := by unfold haveFault; rw [if_pos hf]; exact hf
  obtain ⟨A, c, rfl, C0⟩ := h
  obtain ⟨Ah, ch, rfl, C1⟩ := h2
  have h : B.Kd.file.S w (.slice A l.length c) l := ⟨A, c, rfl, C0⟩
  have h2 : B.Kd.str.S w (.slice Ah hs.length ch) hs := ⟨Ah, ch, rfl, C1⟩
  have HN := Lib.hid (fun (W : World) (hb : Below (w.alloc (.cells #[.int .i64 no, .slice A l.length c] 24)).heap.size (w.alloc (.cells #[.int .i64 no, .slice A l.length c] 24)) W) (i : Nat) (u : Value) (hc : (#[.int .i64 no, .slice A l.length c] : Array Value)[i]? = some u) => (B.cell_below hb (by rw [World.cell?_alloc_new]; exact hc) : W.cell? ⟨w.heap.size, i, none⟩ = some u))
  have HB0 := Lib.hid ((Below.refl _ w).alloc (Nat.le_refl _) (.cells #[.int .i64 no, .slice A l.length c] 24))
  have B0 : Below (w.alloc (.cells #[.int .i64 no, .slice A l.length c] 24)).heap.size (w.alloc (.cells #[.int .i64 no, .slice A l.length c] 24)) (w.alloc (.cells #[.int .i64 no, .slice A l.length c] 24)) := Below.refl _ _
  have HF := Lib.hid (fun (W : World) (hb : Below (w.alloc (.cells #[.int .i64 no, .slice A l.length c] 24)).heap.size (w.alloc (.cells #[.int .i64 no, .slice A l.length c] 24)) W) => (⟨(h.mono HB0.out).mono hb, (h2.mono HB0.out).mono hb⟩ : B.Kd.file.S W (.slice A l.length c) l ∧ B.Kd.str.S W (.slice Ah hs.length ch) hs))
  have d1 := fun W hb => Man.refCheck no _ l hk W (HF.out W hb).1
  have d2 := fun W hb => Man.check no _ l hk W (HF.out W hb).1
  have d3 := fun W hb => bytes_bad no _ l hk W (HF.out W hb).1 hf
  have d4 := fun W hb => missing_bad no _ _ l hs hk W (HF.out W hb).1 (HF.out W hb).2 hH
  have d5 := fun W hb => spare_bad no _ _ l hs hk W (HF.out W hb).1 (HF.out W hb).2 hH
  have d6 := fun W hb => refHave _ hs W (HF.out W hb).2
  have d7 := fun W v hv => orOf v [Man.fault no l, haveF hs] W hv
  rw [haveFault_or] at d7
  have e9 : haveFault no l hs = Man.fault no l := by unfold haveFault; rw [if_pos hf]
  rw [e9] at d4 d5 d7
  generalize Man.fault no l = m at d1 d2 d3 d4 d5 d7 hf
  generalize haveF hs = q at d6 d7
  have hmb : (m != 0) = true := bne_iff_ne.2 hf
  have hm0 : (m == 0) = false := beq_eq_false_iff_ne.2 hf
  clear hc hk
  go_enter Tryd.func6, Tryd.ntmps6
  go_wp2_with (first
    | (go_at_call 10; refine (d1 _ B0).mono ?_; rintro e w1 ⟨rfl, B1'⟩; have B1 := B.below_trans B0 B1'; have g0 := HN.out _ B1 0 (.int .i64 no) rfl; have g1 := HN.out _ B1 1 (.slice A l.length c) rfl)
    | (go_at_call 11; refine (d2 _ B1).mono ?_; rintro e w2 ⟨rfl, B2'⟩; have B2 := B.below_trans B1 B2'; have g0 := HN.out _ B2 0 (.int .i64 no) rfl; have g1 := HN.out _ B2 1 (.slice A l.length c) rfl)
    | (go_at_call 12; refine (d3 _ B2).mono ?_; rintro e w3 ⟨rfl, B3'⟩; have B3 := B.below_trans B2 B3'; have g0 := HN.out _ B3 0 (.int .i64 no) rfl; have g1 := HN.out _ B3 1 (.slice A l.length c) rfl)
    | (go_at_call 14; refine (d4 _ B3).mono ?_; rintro e w4 ⟨rfl, B4'⟩; have B4 := B.below_trans B3 B4'; have g0 := HN.out _ B4 0 (.int .i64 no) rfl; have g1 := HN.out _ B4 1 (.slice A l.length c) rfl)
    | (go_at_call 15; refine (d5 _ B4).mono ?_; rintro e w5 ⟨rfl, B5'⟩; have B5 := B.below_trans B4 B5'; have g0 := HN.out _ B5 0 (.int .i64 no) rfl; have g1 := HN.out _ B5 1 (.slice A l.length c) rfl)
    | (go_at_call 17; refine (d6 _ B5).mono ?_; rintro e w6 ⟨rfl, B6'⟩; have B6 := B.below_trans B5 B6'; have g0 := HN.out _ B6 0 (.int .i64 no) rfl; have g1 := HN.out _ B6 1 (.slice A l.length c) rfl)
    | (go_at_call 16; refine (d7 _ _ (B.lit_S (k := 1) (enc := fun n => [Value.int .i64 n]) (hl := fun _ => rfl) (h1 := by intro x v hv; simp at hv; subst hv; rfl) _ _ _ [m, q] 2 rfl rfl (by simp))).mono ?_; rintro e w7 ⟨rfl, B7'⟩; have B7 := B.below_trans (B6.alloc (by have := B6.size; exact this) _) B7')
    | (go_at_call 18; refine (Links.synced _).mono ?_; rintro e w10 ⟨rfl, B10'⟩; have B10 := B.below_trans B7 B10'))
  go_ret
  exact ⟨rfl, HB0.out.trans (B10.mono (by simp))⟩
set_option maxHeartbeats 2000000 in
theorem told_have (no : Int) (v u : Value) (l : List Fl) (hs : List ByteArray) (hl : l.length ≤ 1048576) (hc : ∀ f ∈ l, f.2.length ≤ 1048576) (hk : ∀ f ∈ l, f.1.size ≤ 9223372036854775807) (w : World) (h : B.Kd.file.S w v l) (h2 : B.Kd.str.S w u hs) (hf : Man.fault no l = 0) (hH0 : haveFault no l hs ≠ 0) :
    Calls Tryd.prog 6 #[.agg #[.int .i64 no, v], u] w fun e w' => e = .returned (.bool true) ∧ Below w.heap.size w w' := by
  have hH : haveFault no l hs ≠ 0 := hH0
  obtain ⟨A, c, rfl, C0⟩ := h
  obtain ⟨Ah, ch, rfl, C1⟩ := h2
  have h : B.Kd.file.S w (.slice A l.length c) l := ⟨A, c, rfl, C0⟩
  have h2 : B.Kd.str.S w (.slice Ah hs.length ch) hs := ⟨Ah, ch, rfl, C1⟩
  have HN := Lib.hid (fun (W : World) (hb : Below (w.alloc (.cells #[.int .i64 no, .slice A l.length c] 24)).heap.size (w.alloc (.cells #[.int .i64 no, .slice A l.length c] 24)) W) (i : Nat) (u : Value) (hc : (#[.int .i64 no, .slice A l.length c] : Array Value)[i]? = some u) => (B.cell_below hb (by rw [World.cell?_alloc_new]; exact hc) : W.cell? ⟨w.heap.size, i, none⟩ = some u))
  have HB0 := Lib.hid ((Below.refl _ w).alloc (Nat.le_refl _) (.cells #[.int .i64 no, .slice A l.length c] 24))
  have B0 : Below (w.alloc (.cells #[.int .i64 no, .slice A l.length c] 24)).heap.size (w.alloc (.cells #[.int .i64 no, .slice A l.length c] 24)) (w.alloc (.cells #[.int .i64 no, .slice A l.length c] 24)) := Below.refl _ _
  have HF := Lib.hid (fun (W : World) (hb : Below (w.alloc (.cells #[.int .i64 no, .slice A l.length c] 24)).heap.size (w.alloc (.cells #[.int .i64 no, .slice A l.length c] 24)) W) => (⟨(h.mono HB0.out).mono hb, (h2.mono HB0.out).mono hb⟩ : B.Kd.file.S W (.slice A l.length c) l ∧ B.Kd.str.S W (.slice Ah hs.length ch) hs))
  have d1 := fun W hb => Man.refCheck no _ l hk W (HF.out W hb).1
  have d2 := fun W hb => Man.check no _ l hk W (HF.out W hb).1
  have d3 := fun W hb => bytes_ok no _ l hk W (HF.out W hb).1 hf
  have d4 := fun W hb => missing_bad no _ _ l hs hk W (HF.out W hb).1 (HF.out W hb).2 hH
  have d5 := fun W hb => spare_bad no _ _ l hs hk W (HF.out W hb).1 (HF.out W hb).2 hH
  have d6 := fun W hb => refHave _ hs W (HF.out W hb).2
  have d7 := fun W v hv => orOf v [Man.fault no l, haveF hs] W hv
  rw [haveFault_or] at d7
  have d8 := fun W hb => bytesOf no _ l hl hc W (HF.out W hb).1
  rw [hf] at d1 d2 d7
  generalize addW 0 (each [] (l.flatMap (·.2))) = y at d3 d8
  generalize addW 0 (l.flatMap (·.2)) = x at d3 d8
  generalize haveFault no l hs = m at d4 d5 d7 hH
  generalize haveF hs = q at d6 d7
  have hmb : (m != 0) = true := bne_iff_ne.2 hH
  have hxx : (x != x) = false := by simp
  have hyy : (y != y) = false := by simp
  clear hc hk
  go_enter Tryd.func6, Tryd.ntmps6
  go_wp2_with (first
    | (go_at_call 10; refine (d1 _ B0).mono ?_; rintro e w1 ⟨rfl, B1'⟩; have B1 := B.below_trans B0 B1'; have g0 := HN.out _ B1 0 (.int .i64 no) rfl; have g1 := HN.out _ B1 1 (.slice A l.length c) rfl)
    | (go_at_call 11; refine (d2 _ B1).mono ?_; rintro e w2 ⟨rfl, B2'⟩; have B2 := B.below_trans B1 B2'; have g0 := HN.out _ B2 0 (.int .i64 no) rfl; have g1 := HN.out _ B2 1 (.slice A l.length c) rfl)
    | (go_at_call 12; refine (d3 _ B2).mono ?_; rintro e w3 ⟨rfl, B3'⟩; have B3 := B.below_trans B2 B3'; have g0 := HN.out _ B3 0 (.int .i64 no) rfl; have g1 := HN.out _ B3 1 (.slice A l.length c) rfl)
    | (go_at_call 13; refine (d8 _ B3).mono ?_; rintro e w8 ⟨rfl, B8'⟩; have B8 := B.below_trans B3 B8'; have g0 := HN.out _ B8 0 (.int .i64 no) rfl; have g1 := HN.out _ B8 1 (.slice A l.length c) rfl)
    | (go_at_call 14; refine (d4 _ B8).mono ?_; rintro e w4 ⟨rfl, B4'⟩; have B4 := B.below_trans B8 B4'; have g0 := HN.out _ B4 0 (.int .i64 no) rfl; have g1 := HN.out _ B4 1 (.slice A l.length c) rfl)
    | (go_at_call 15; refine (d5 _ B4).mono ?_; rintro e w5 ⟨rfl, B5'⟩; have B5 := B.below_trans B4 B5'; have g0 := HN.out _ B5 0 (.int .i64 no) rfl; have g1 := HN.out _ B5 1 (.slice A l.length c) rfl)
    | (go_at_call 17; refine (d6 _ B5).mono ?_; rintro e w6 ⟨rfl, B6'⟩; have B6 := B.below_trans B5 B6'; have g0 := HN.out _ B6 0 (.int .i64 no) rfl; have g1 := HN.out _ B6 1 (.slice A l.length c) rfl)
    | (go_at_call 16; refine (d7 _ _ (B.lit_S (k := 1) (enc := fun n => [Value.int .i64 n]) (hl := fun _ => rfl) (h1 := by intro x v hv; simp at hv; subst hv; rfl) _ _ _ [0, q] 2 rfl rfl (by simp))).mono ?_; rintro e w7 ⟨rfl, B7'⟩; have B7 := B.below_trans (B6.alloc (by have := B6.size; exact this) _) B7')
    | (go_at_call 18; refine (Links.synced _).mono ?_; rintro e w10 ⟨rfl, B10'⟩; have B10 := B.below_trans B7 B10'))
  go_ret
  exact ⟨rfl, HB0.out.trans (B10.mono (by simp))⟩
set_option maxHeartbeats 4000000 in
theorem told_ok (no : Int) (v u : Value) (l : List Fl) (hs : List ByteArray) (hl : l.length ≤ 1048576) (hc : ∀ f ∈ l, f.2.length ≤ 1048576) (hk : ∀ f ∈ l, f.1.size ≤ 9223372036854775807) (w : World) (h : B.Kd.file.S w v l) (h2 : B.Kd.str.S w u hs) (hH : haveFault no l hs = 0) :
    Calls Tryd.prog 6 #[.agg #[.int .i64 no, v], u] w fun e w' => e = .returned (.bool true) ∧ Below w.heap.size w w' := by
  obtain ⟨hh, hf, hq⟩ := have_small hH
  obtain ⟨A, c, rfl, C0⟩ := h
  obtain ⟨Ah, ch, rfl, C1⟩ := h2
  have h : B.Kd.file.S w (.slice A l.length c) l := ⟨A, c, rfl, C0⟩
  have h2 : B.Kd.str.S w (.slice Ah hs.length ch) hs := ⟨Ah, ch, rfl, C1⟩
  have HN := Lib.hid (fun (W : World) (hb : Below (w.alloc (.cells #[.int .i64 no, .slice A l.length c] 24)).heap.size (w.alloc (.cells #[.int .i64 no, .slice A l.length c] 24)) W) (i : Nat) (u : Value) (hc : (#[.int .i64 no, .slice A l.length c] : Array Value)[i]? = some u) => (B.cell_below hb (by rw [World.cell?_alloc_new]; exact hc) : W.cell? ⟨w.heap.size, i, none⟩ = some u))
  have HB0 := Lib.hid ((Below.refl _ w).alloc (Nat.le_refl _) (.cells #[.int .i64 no, .slice A l.length c] 24))
  have B0 : Below (w.alloc (.cells #[.int .i64 no, .slice A l.length c] 24)).heap.size (w.alloc (.cells #[.int .i64 no, .slice A l.length c] 24)) (w.alloc (.cells #[.int .i64 no, .slice A l.length c] 24)) := Below.refl _ _
  have HF := Lib.hid (fun (W : World) (hb : Below (w.alloc (.cells #[.int .i64 no, .slice A l.length c] 24)).heap.size (w.alloc (.cells #[.int .i64 no, .slice A l.length c] 24)) W) => (⟨(h.mono HB0.out).mono hb, (h2.mono HB0.out).mono hb⟩ : B.Kd.file.S W (.slice A l.length c) l ∧ B.Kd.str.S W (.slice Ah hs.length ch) hs))
  have d1 := fun W hb => Man.refCheck no _ l hk W (HF.out W hb).1
  have d2 := fun W hb => Man.check no _ l hk W (HF.out W hb).1
  have d3 := fun W hb => bytes_ok no _ l hk W (HF.out W hb).1 hf
  have d4 := fun W hb => missing_ok no _ _ l hs hl hc hk W (HF.out W hb).1 (HF.out W hb).2 hH
  have d5 := fun W hb => spare_ok no _ _ l hs hk W (HF.out W hb).1 (HF.out W hb).2 hh hH
  have d6 := fun W hb => refHave _ hs W (HF.out W hb).2
  have d7 := fun W v hv => orOf v [0, 0] W hv
  rw [show firstNZ [0, 0] = 0 from rfl] at d7
  have d8 := fun W hb => bytesOf no _ l hl hc W (HF.out W hb).1
  have d9 := fun W hb => missingOf no _ _ l hs hl hc W (HF.out W hb).1 (HF.out W hb).2
  have d10 := fun W hb => spareSums no _ _ l hs hl hc W (HF.out W hb).1 (HF.out W hb).2 hh
  rw [hf] at d1 d2
  rw [hq] at d6
  have HXL : Hid (∀ (n : Nat), n ≤ l.length * 1048576 → n ≤ 140737488355328) := Lib.hid (fun n h => by omega)
  have HYL : Hid (((dd hs).filter (fun s => !decide (s ∈ names (l.flatMap (·.2))))).length ≤ 140737488355328) := Lib.hid (by have := dd_length hs; have := List.length_filter_le (fun s => !decide (s ∈ names (l.flatMap (·.2)))) (dd hs); omega)
  generalize (dd hs).filter (fun s => !decide (s ∈ names (l.flatMap (·.2)))) = ys at d5 d10 HYL
  generalize each hs (l.flatMap (·.2)) = xs at d4 d9
  generalize addW 0 (each [] (l.flatMap (·.2))) = y at d3 d8
  generalize addW 0 (l.flatMap (·.2)) = x at d3 d8
  have hxx : (x != x) = false := by simp
  have hyy : (y != y) = false := by simp
  clear hc hk hf hH hq
  go_enter Tryd.func6, Tryd.ntmps6
  go_wp2_with (first
    | (go_at_call 10; refine (d1 _ B0).mono ?_; rintro e w1 ⟨rfl, B1'⟩; have B1 := B.below_trans B0 B1'; have g0 := HN.out _ B1 0 (.int .i64 no) rfl; have g1 := HN.out _ B1 1 (.slice A l.length c) rfl)
    | (go_at_call 11; refine (d2 _ B1).mono ?_; rintro e w2 ⟨rfl, B2'⟩; have B2 := B.below_trans B1 B2'; have g0 := HN.out _ B2 0 (.int .i64 no) rfl; have g1 := HN.out _ B2 1 (.slice A l.length c) rfl)
    | (go_at_call 12; refine (d3 _ B2).mono ?_; rintro e w3 ⟨rfl, B3'⟩; have B3 := B.below_trans B2 B3'; have g0 := HN.out _ B3 0 (.int .i64 no) rfl; have g1 := HN.out _ B3 1 (.slice A l.length c) rfl)
    | (go_at_call 13; refine (d8 _ B3).mono ?_; rintro e w8 ⟨rfl, B8'⟩; have B8 := B.below_trans B3 B8'; have g0 := HN.out _ B8 0 (.int .i64 no) rfl; have g1 := HN.out _ B8 1 (.slice A l.length c) rfl)
    | (go_at_call 14; refine (d4 _ B8).mono ?_; rintro e w4 ⟨v4, rfl, HO4, HN4, B4'⟩; have B4 := B.below_trans B8 B4'; have g0 := HN.out _ B4 0 (.int .i64 no) rfl; have g1 := HN.out _ B4 1 (.slice A l.length c) rfl; have S4 := B.own_chunk HO4 (HXL.out _ HN4))
    | (go_at_call 15; refine (d5 _ B4).mono ?_; rintro e w5 ⟨v5, rfl, HO5, B5'⟩; have B5 := B.below_trans B4 B5'; have g0 := HN.out _ B5 0 (.int .i64 no) rfl; have g1 := HN.out _ B5 1 (.slice A l.length c) rfl; have S5 := B.own_str HO5 HYL.out; have S4 := S4.mono B5')
    | (go_at_call 17; refine (d6 _ B5).mono ?_; rintro e w6 ⟨rfl, B6'⟩; have B6 := B.below_trans B5 B6'; have g0 := HN.out _ B6 0 (.int .i64 no) rfl; have g1 := HN.out _ B6 1 (.slice A l.length c) rfl; have S5 := S5.mono B6'; have S4 := S4.mono B6')
    | (go_at_call 16; refine (d7 _ _ (B.lit_S (k := 1) (enc := fun n => [Value.int .i64 n]) (hl := fun _ => rfl) (h1 := by intro x v hv; simp at hv; subst hv; rfl) _ _ _ [0, 0] 2 rfl rfl (by simp))).mono ?_; rintro e w7 ⟨rfl, B7'⟩; have BA := (Below.refl _ w6).alloc (Nat.le_refl _) (.cells #[.int .i64 0, .int .i64 0] 32); have S5 := (S5.mono BA).mono B7'; have S4 := (S4.mono BA).mono B7'; have B7 := B.below_trans (B6.alloc (by have := B6.size; exact this) _) B7'; have g0 := HN.out _ B7 0 (.int .i64 no) rfl; have g1 := HN.out _ B7 1 (.slice A l.length c) rfl)
    | (go_at_call 20; refine (d9 _ B7).mono ?_; rintro e w9 ⟨v9, rfl, HO9, B9'⟩; have B9 := B.below_trans B7 B9'; have g0 := HN.out _ B9 0 (.int .i64 no) rfl; have g1 := HN.out _ B9 1 (.slice A l.length c) rfl; have S5 := S5.mono B9'; have S4 := S4.mono B9'; have S9 := B.own_chunk HO9 (HXL.out _ HN4))
    | (go_at_call 19; refine (Eq.eq_chunk _ _ xs xs _ S4 S9 true (decide_eq_true rfl)).mono ?_; rintro e w11 ⟨rfl, B11'⟩; have B11 := B.below_trans B9 B11'; have g0 := HN.out _ B11 0 (.int .i64 no) rfl; have g1 := HN.out _ B11 1 (.slice A l.length c) rfl; have S5 := S5.mono B11')
    | (go_at_call 21; refine (d10 _ B11).mono ?_; rintro e w12 ⟨v12, rfl, HO12, B12'⟩; have B12 := B.below_trans B11 B12'; have S5 := S5.mono B12'; have S12 := B.own_str HO12 HYL.out)
    | (go_at_call 8; refine (Eq.eq_str _ _ ys ys _ S5 S12 true (decide_eq_true rfl)).mono ?_; rintro e w13 ⟨rfl, B13'⟩; have B13 := B.below_trans B12 B13')
    | (go_at_call 18; refine (Links.synced _).mono ?_; rintro e w10 ⟨rfl, B10'⟩; have B10 := B.below_trans B13 B10'))
  go_ret
  exact ⟨rfl, HB0.out.trans (B10.mono (by simp))⟩
theorem told_any (no : Int) (v u : Value) (l : List Fl) (hs : List ByteArray) (hl : l.length ≤ 1048576) (hc : ∀ f ∈ l, f.2.length ≤ 1048576) (hk : ∀ f ∈ l, f.1.size ≤ 9223372036854775807) (w : World) (h : B.Kd.file.S w v l) (h2 : B.Kd.str.S w u hs) :
    Calls Tryd.prog 6 #[.agg #[.int .i64 no, v], u] w fun e w' => e = .returned (.bool true) ∧ Below w.heap.size w w' := by
  by_cases hf : Man.fault no l = 0
  · by_cases hH : haveFault no l hs = 0
    · exact told_ok no v u l hs hl hc hk w h h2 hH
    · exact told_have no v u l hs hl hc hk w h h2 hf hH
  · exact told_man no v u l hs hl hc hk w h h2 hf
end Go.Proofs.YtmcbljongeadeaaDoor.Told
