/- signlaw1.filesProved answers true: the walk over the contracts. Printed by filesprovedgen.py. -/
import Derived.Test.YtmcbljongeadeaaGreatDoorProof
import Derived.Test.YtmcbljongeadeaaGreatDoorLinks
import Derived.Test.YtmcbljongeadeaaGreatDoorEqTwig
namespace Go.Proofs.YtmcbljongeadeaaGreatDoor.Pf
open Go.RowKit

/-- The first of them that is not nought. -/
def firstNZ : List Int → Int
  | [] => 0
  | x :: xs => if x ≠ 0 then x else firstNZ xs
theorem orOf (v : Value) (xs : List Int) (w : World) (h : B.Kd.int.S w v xs) :
    Calls Tryz.prog 16 #[v] w fun e w' => e = .returned (.int .i64 (firstNZ xs)) ∧ Below w.heap.size w w' := by
  obtain ⟨A, c, rfl, C⟩ := h
  have L := C.1
  go_enter Tryz.func16, Tryz.ntmps16
  go_wp2
  go_loopw [8] (fun so wr => ∃ (k : Nat), so = .int .i64 k ∧ k ≤ xs.length ∧ Hid (firstNZ xs = firstNZ (xs.drop k)) ∧ Hid (Below w.heap.size w wr)) (fun so _ => xs.length - (intOf so).toNat)
  case atStart => exact ⟨0, rfl, Nat.zero_le _, Lib.hid rfl, Lib.hid (Below.refl _ _)⟩
  case round =>
    obtain ⟨k, rfl, hk, HT, HB⟩ := hrel
    by_cases hlt : k < xs.length
    · obtain ⟨b5, o5, cs5, rfl, K5, e5⟩ := C.at k hlt
      obtain rfl : cs5 = [.int .i64 xs[k]] := K5
      have q0 : wr.cell? ⟨b5, o5 + k, none⟩ = some (.int .i64 xs[k]) := by simpa [B.Kd.int, B.Kd.flat] using B.cell_below HB.out (e5 0 (by simp))
      have hk1 : (k : Int) < xs.length := by omega
      have HT2 := HT.out
      rw [List.drop_eq_getElem_cons hlt, firstNZ] at HT2
      clear e5 HT
      by_cases hz : xs[k] = 0
      · rw [if_neg (by simpa using hz)] at HT2
        have HT3 := Lib.hid HT2
        clear HT2
        have hzb : (xs[k] != 0) = false := by rw [hz]; rfl
        go_wp2
        go_roundw
        case rel => exact ⟨k + 1, by go_num, by omega, HT3, HB⟩
        case measure => simp [intOf]; omega
      · rw [if_pos hz] at HT2
        have HT3 := Lib.hid HT2
        clear HT2
        have hzb : (xs[k] != 0) = true := bne_iff_ne.2 hz
        go_wp2
        go_ret
        exact ⟨by rw [HT3.out]; rfl, HB.out⟩
    · obtain rfl : k = xs.length := by omega
      have HT3 : Hid (firstNZ xs = 0) := Lib.hid (by rw [HT.out, List.drop_length]; rfl)
      go_wp2
      go_ret
      exact ⟨by rw [HT3.out]; rfl, HB.out⟩
theorem keyFault (s : ByteArray) (hs : s.size ≤ 9223372036854775807) (b : Bool) (hb : Key.keyB s = b) (w : World) :
    Calls Tryz.prog 17 #[.string s] w fun e w' => e = .returned (.int .i64 (if b then 0 else 5)) ∧ Below w.heap.size w w' := by
  have c1 := fun W => Key.refKey s b hb hs W
  clear hb
  cases b
  all_goals
    go_enter Tryz.func17, Tryz.ntmps17
    go_wp2_with (go_at_call 36; refine (c1 _).mono ?_; rintro e w1 ⟨rfl, HB⟩)
    go_ret
    exact ⟨rfl, HB⟩
theorem when (b : Bool) (n : Int) (w : World) : Calls Tryz.prog 19 #[.bool b, .int .i64 n] w fun e w' => e = .returned (.int .i64 (if b then n else 0)) ∧ w' = w := by
  cases b
  all_goals
    go_enter Tryz.func19, Tryz.ntmps19
    go_wp2
    go_ret
    exact ⟨rfl, rfl⟩
set_option maxHeartbeats 4000000 in
set_option maxRecDepth 100000 in
theorem proved_man_bad (no : Int) (v : Value) (l : List Fl) (key root : ByteArray) (f : Fl) (Af : Option Addr) (cf : Nat) (u : Value) (proof : List Tw) (hs : ∀ g ∈ l, Small g) (hl : l.length ≤ 1048576) (hkey : key.size ≤ 9223372036854775807) (hsf : Small f) (hp : ∀ t ∈ proof, t.2.size ≤ 1048576) (w : World) (h : B.Kd.file.S w v l) (hC : B.Kd.chunk.C w Af f.2) (h2 : B.Kd.twig.S w u proof) (ht : Hex.Tab w) (hf : Man.fault no l ≠ 0) (hv : verF root f proof ≠ 0) :
    Calls Tryz.prog 7 #[.agg #[.int .i64 no, v], .string key, .string root, .agg #[.string f.1, .slice Af f.2.length cf], u] w fun e w' => e = .returned (.bool true) ∧ Below w.heap.size w w' := by
  have hk : ∀ g ∈ l, g.1.size ≤ 9223372036854775807 := fun g hg => by have := (hs g hg).1; omega
  have hkf : f.1.size ≤ 9223372036854775807 := by have := hsf.1; omega
  obtain ⟨A, c, rfl, C0⟩ := h
  obtain ⟨Ap, cp, rfl, C1⟩ := h2
  have h : B.Kd.file.S w (.slice A l.length c) l := ⟨A, c, rfl, C0⟩
  have h2 : B.Kd.twig.S w (.slice Ap proof.length cp) proof := ⟨Ap, cp, rfl, C1⟩
  have hw1 : (w.alloc (.cells #[.int .i64 no, .slice A l.length c] 24)).heap.size = w.heap.size + 1 := by simp
  have HN := Lib.hid (fun (W : World) (hb : Below ((w.alloc (.cells #[.int .i64 no, .slice A l.length c] 24)).alloc (.cells #[.string f.1, .slice Af f.2.length cf] 27)).heap.size ((w.alloc (.cells #[.int .i64 no, .slice A l.length c] 24)).alloc (.cells #[.string f.1, .slice Af f.2.length cf] 27)) W) => (by
    have q0 := B.cell_below hb (B.cell_below ((Below.refl _ (w.alloc (.cells #[.int .i64 no, .slice A l.length c] 24))).alloc (Nat.le_refl _) (.cells #[.string f.1, .slice Af f.2.length cf] 27)) (show (w.alloc (.cells #[.int .i64 no, .slice A l.length c] 24)).cell? ⟨w.heap.size, 0, none⟩ = some (.int .i64 no) by rw [World.cell?_alloc_new]; rfl))
    have q1 := B.cell_below hb (B.cell_below ((Below.refl _ (w.alloc (.cells #[.int .i64 no, .slice A l.length c] 24))).alloc (Nat.le_refl _) (.cells #[.string f.1, .slice Af f.2.length cf] 27)) (show (w.alloc (.cells #[.int .i64 no, .slice A l.length c] 24)).cell? ⟨w.heap.size, 1, none⟩ = some (.slice A l.length c) by rw [World.cell?_alloc_new]; rfl))
    have q2 := B.cell_below hb (show ((w.alloc (.cells #[.int .i64 no, .slice A l.length c] 24)).alloc (.cells #[.string f.1, .slice Af f.2.length cf] 27)).cell? ⟨w.heap.size + 1, 0, none⟩ = some (.string f.1) by rw [← hw1, World.cell?_alloc_new]; rfl)
    have q3 := B.cell_below hb (show ((w.alloc (.cells #[.int .i64 no, .slice A l.length c] 24)).alloc (.cells #[.string f.1, .slice Af f.2.length cf] 27)).cell? ⟨w.heap.size + 1, 1, none⟩ = some (.slice Af f.2.length cf) by rw [← hw1, World.cell?_alloc_new]; rfl)
    exact ⟨q0, q1, q2, q3⟩ : W.cell? ⟨w.heap.size, 0, none⟩ = some (.int .i64 no) ∧ W.cell? ⟨w.heap.size, 1, none⟩ = some (.slice A l.length c) ∧ W.cell? ⟨w.heap.size + 1, 0, none⟩ = some (.string f.1) ∧ W.cell? ⟨w.heap.size + 1, 1, none⟩ = some (.slice Af f.2.length cf)))
  have HB0 := Lib.hid (((Below.refl _ w).alloc (Nat.le_refl _) (.cells #[.int .i64 no, .slice A l.length c] 24)).alloc (by simp) (.cells #[.string f.1, .slice Af f.2.length cf] 27))
  have B0 : Below ((w.alloc (.cells #[.int .i64 no, .slice A l.length c] 24)).alloc (.cells #[.string f.1, .slice Af f.2.length cf] 27)).heap.size ((w.alloc (.cells #[.int .i64 no, .slice A l.length c] 24)).alloc (.cells #[.string f.1, .slice Af f.2.length cf] 27)) ((w.alloc (.cells #[.int .i64 no, .slice A l.length c] 24)).alloc (.cells #[.string f.1, .slice Af f.2.length cf] 27)) := Below.refl _ _
  have HF := Lib.hid (fun (W : World) (hb : Below ((w.alloc (.cells #[.int .i64 no, .slice A l.length c] 24)).alloc (.cells #[.string f.1, .slice Af f.2.length cf] 27)).heap.size ((w.alloc (.cells #[.int .i64 no, .slice A l.length c] 24)).alloc (.cells #[.string f.1, .slice Af f.2.length cf] 27)) W) => (⟨(h.mono HB0.out).mono (hb), (hC.mono HB0.out).mono hb, (h2.mono HB0.out).mono hb, (ht.below HB0.out).below hb⟩ : B.Kd.file.S W (.slice A l.length c) l ∧ B.Kd.chunk.C W Af f.2 ∧ B.Kd.twig.S W (.slice Ap proof.length cp) proof ∧ Hex.Tab W))
  have d2 := fun W hb => Man.refCheck no _ l hk W (HF.out W hb).1
  have d4 := fun W hb => Pf.proof no _ l key hkey hs hl W (HF.out W hb).1 (HF.out W hb).2.2.2
  have d1 := fun W hb => root_bad no _ l hk W (HF.out W hb).1 hf
  have d5 := fun W b hb => keyFault key hkey b hb W
  have d5 := fun W => d5 W _ rfl
  have e1 : proofF no l key = Man.fault no l := by unfold proofF; rw [if_pos hf]
  have e2 : proofL no l key = [] := by unfold proofL; rw [if_pos hf]
  rw [e1, e2] at d4
  generalize Man.fault no l = n at d1 d2 d4 hf
  generalize (if Key.keyB key = true then (0 : Int) else 5) = q at d5
  have d6 := fun W v hv => orOf v [n, q] W hv
  rw [show firstNZ [n, q] = n by unfold firstNZ; rw [if_pos hf]] at d6
  have hnb : (n != 0) = true := bne_iff_ne.2 hf
  have hn0 : (n == 0) = false := beq_eq_false_iff_ne.2 hf
  have hs0 : (!((⟨#[]⟩ : ByteArray).toList == (⟨#[]⟩ : ByteArray).toList)) = false := by rw [beq_self_eq_true]; rfl
  have d10 := fun W hb => verify root f _ cf _ proof hsf hp W (HF.out W hb).2.1 (HF.out W hb).2.2.1 (HF.out W hb).2.2.2
  have d11 := fun W hb => verifyFault root f _ cf _ proof hkf W (HF.out W hb).2.1 (HF.out W hb).2.2.1
  have e3 : verB root f proof = false := by unfold verB; rw [if_neg hv]
  rw [e3] at d10
  generalize verF root f proof = y at d10 d11 hv
  have hyb : (y != 0) = true := bne_iff_ne.2 hv
  clear hs hsf hp hk hkf hl hkey hf hv C0 C1 h h2 hC ht
  go_enter Tryz.func7, Tryz.ntmps7
  go_wp2_with (first
    | (go_at_call 12; refine (d1 _ B0).mono ?_; rintro e w1 ⟨rfl, B1'⟩; have B1 := B.below_trans B0 B1'; obtain ⟨g0, g1, g2, g3⟩ := HN.out _ B1)
    | (go_at_call 13; refine (d2 _ B1).mono ?_; rintro e w2 ⟨rfl, B2'⟩; have B2 := B.below_trans B1 B2'; obtain ⟨g0, g1, g2, g3⟩ := HN.out _ B2)
    | (go_at_call 15; refine (d4 _ B2).mono ?_; rintro e w4 ⟨v4, rfl, S4, B4'⟩; have B4 := B.below_trans B2 B4'; obtain ⟨g0, g1, g2, g3⟩ := HN.out _ B4; obtain ⟨A4, c4, rfl, D4⟩ := S4)
    | (go_at_call 17; refine (d5 _).mono ?_; rintro e w5 ⟨rfl, B5'⟩; have B5 := B.below_trans B4 B5'; obtain ⟨g0, g1, g2, g3⟩ := HN.out _ B5; have D4 := D4.mono B5')
    | (go_at_call 16; refine (d6 _ _ (B.lit_S (k := 1) (enc := fun n => [Value.int .i64 n]) (hl := fun _ => rfl) (h1 := by intro x v hv; simp at hv; subst hv; rfl) _ _ _ [n, q] 2 rfl rfl (by simp))).mono ?_; rintro e w6 ⟨rfl, B6'⟩; have BA := (Below.refl _ w5).alloc (Nat.le_refl _) (.cells #[.int .i64 n, .int .i64 q] 41); have D4 := (D4.mono BA).mono B6'; have B6 := B.below_trans (B5.alloc (by have := B5.size; exact this) _) B6'; obtain ⟨g0, g1, g2, g3⟩ := HN.out _ B6)
    | (go_at_call 20; refine (d10 _ B6).mono ?_; rintro e wa ⟨rfl, Ba'⟩; have Ba := B.below_trans B6 Ba'; obtain ⟨g0, g1, g2, g3⟩ := HN.out _ Ba)
    | (go_at_call 21; refine (d11 _ Ba).mono ?_; rintro e wb ⟨rfl, Bb'⟩; have Bb := B.below_trans Ba Bb'; obtain ⟨g0, g1, g2, g3⟩ := HN.out _ Bb)
    | (go_at_call 22; refine (Links.synced _).mono ?_; rintro e wz ⟨rfl, Bz'⟩; have Bz := B.below_trans Bb Bz'))
  go_ret
  exact ⟨rfl, HB0.out.trans (Bz.mono (by simp; omega))⟩
set_option maxHeartbeats 4000000 in
set_option maxRecDepth 100000 in
theorem proved_man_ok (no : Int) (v : Value) (l : List Fl) (key root : ByteArray) (f : Fl) (Af : Option Addr) (cf : Nat) (u : Value) (proof : List Tw) (hs : ∀ g ∈ l, Small g) (hl : l.length ≤ 1048576) (hkey : key.size ≤ 9223372036854775807) (hsf : Small f) (hp : ∀ t ∈ proof, t.2.size ≤ 1048576) (w : World) (h : B.Kd.file.S w v l) (hC : B.Kd.chunk.C w Af f.2) (h2 : B.Kd.twig.S w u proof) (ht : Hex.Tab w) (hf : Man.fault no l ≠ 0) (hv : verF root f proof = 0) :
    Calls Tryz.prog 7 #[.agg #[.int .i64 no, v], .string key, .string root, .agg #[.string f.1, .slice Af f.2.length cf], u] w fun e w' => e = .returned (.bool true) ∧ Below w.heap.size w w' := by
  have hk : ∀ g ∈ l, g.1.size ≤ 9223372036854775807 := fun g hg => by have := (hs g hg).1; omega
  have hkf : f.1.size ≤ 9223372036854775807 := by have := hsf.1; omega
  obtain ⟨A, c, rfl, C0⟩ := h
  obtain ⟨Ap, cp, rfl, C1⟩ := h2
  have h : B.Kd.file.S w (.slice A l.length c) l := ⟨A, c, rfl, C0⟩
  have h2 : B.Kd.twig.S w (.slice Ap proof.length cp) proof := ⟨Ap, cp, rfl, C1⟩
  have hw1 : (w.alloc (.cells #[.int .i64 no, .slice A l.length c] 24)).heap.size = w.heap.size + 1 := by simp
  have HN := Lib.hid (fun (W : World) (hb : Below ((w.alloc (.cells #[.int .i64 no, .slice A l.length c] 24)).alloc (.cells #[.string f.1, .slice Af f.2.length cf] 27)).heap.size ((w.alloc (.cells #[.int .i64 no, .slice A l.length c] 24)).alloc (.cells #[.string f.1, .slice Af f.2.length cf] 27)) W) => (by
    have q0 := B.cell_below hb (B.cell_below ((Below.refl _ (w.alloc (.cells #[.int .i64 no, .slice A l.length c] 24))).alloc (Nat.le_refl _) (.cells #[.string f.1, .slice Af f.2.length cf] 27)) (show (w.alloc (.cells #[.int .i64 no, .slice A l.length c] 24)).cell? ⟨w.heap.size, 0, none⟩ = some (.int .i64 no) by rw [World.cell?_alloc_new]; rfl))
    have q1 := B.cell_below hb (B.cell_below ((Below.refl _ (w.alloc (.cells #[.int .i64 no, .slice A l.length c] 24))).alloc (Nat.le_refl _) (.cells #[.string f.1, .slice Af f.2.length cf] 27)) (show (w.alloc (.cells #[.int .i64 no, .slice A l.length c] 24)).cell? ⟨w.heap.size, 1, none⟩ = some (.slice A l.length c) by rw [World.cell?_alloc_new]; rfl))
    have q2 := B.cell_below hb (show ((w.alloc (.cells #[.int .i64 no, .slice A l.length c] 24)).alloc (.cells #[.string f.1, .slice Af f.2.length cf] 27)).cell? ⟨w.heap.size + 1, 0, none⟩ = some (.string f.1) by rw [← hw1, World.cell?_alloc_new]; rfl)
    have q3 := B.cell_below hb (show ((w.alloc (.cells #[.int .i64 no, .slice A l.length c] 24)).alloc (.cells #[.string f.1, .slice Af f.2.length cf] 27)).cell? ⟨w.heap.size + 1, 1, none⟩ = some (.slice Af f.2.length cf) by rw [← hw1, World.cell?_alloc_new]; rfl)
    exact ⟨q0, q1, q2, q3⟩ : W.cell? ⟨w.heap.size, 0, none⟩ = some (.int .i64 no) ∧ W.cell? ⟨w.heap.size, 1, none⟩ = some (.slice A l.length c) ∧ W.cell? ⟨w.heap.size + 1, 0, none⟩ = some (.string f.1) ∧ W.cell? ⟨w.heap.size + 1, 1, none⟩ = some (.slice Af f.2.length cf)))
  have HB0 := Lib.hid (((Below.refl _ w).alloc (Nat.le_refl _) (.cells #[.int .i64 no, .slice A l.length c] 24)).alloc (by simp) (.cells #[.string f.1, .slice Af f.2.length cf] 27))
  have B0 : Below ((w.alloc (.cells #[.int .i64 no, .slice A l.length c] 24)).alloc (.cells #[.string f.1, .slice Af f.2.length cf] 27)).heap.size ((w.alloc (.cells #[.int .i64 no, .slice A l.length c] 24)).alloc (.cells #[.string f.1, .slice Af f.2.length cf] 27)) ((w.alloc (.cells #[.int .i64 no, .slice A l.length c] 24)).alloc (.cells #[.string f.1, .slice Af f.2.length cf] 27)) := Below.refl _ _
  have HF := Lib.hid (fun (W : World) (hb : Below ((w.alloc (.cells #[.int .i64 no, .slice A l.length c] 24)).alloc (.cells #[.string f.1, .slice Af f.2.length cf] 27)).heap.size ((w.alloc (.cells #[.int .i64 no, .slice A l.length c] 24)).alloc (.cells #[.string f.1, .slice Af f.2.length cf] 27)) W) => (⟨(h.mono HB0.out).mono (hb), (hC.mono HB0.out).mono hb, (h2.mono HB0.out).mono hb, (ht.below HB0.out).below hb⟩ : B.Kd.file.S W (.slice A l.length c) l ∧ B.Kd.chunk.C W Af f.2 ∧ B.Kd.twig.S W (.slice Ap proof.length cp) proof ∧ Hex.Tab W))
  have d2 := fun W hb => Man.refCheck no _ l hk W (HF.out W hb).1
  have d4 := fun W hb => Pf.proof no _ l key hkey hs hl W (HF.out W hb).1 (HF.out W hb).2.2.2
  have d1 := fun W hb => root_bad no _ l hk W (HF.out W hb).1 hf
  have d5 := fun W b hb => keyFault key hkey b hb W
  have d5 := fun W => d5 W _ rfl
  have e1 : proofF no l key = Man.fault no l := by unfold proofF; rw [if_pos hf]
  have e2 : proofL no l key = [] := by unfold proofL; rw [if_pos hf]
  rw [e1, e2] at d4
  generalize Man.fault no l = n at d1 d2 d4 hf
  generalize (if Key.keyB key = true then (0 : Int) else 5) = q at d5
  have d6 := fun W v hv => orOf v [n, q] W hv
  rw [show firstNZ [n, q] = n by unfold firstNZ; rw [if_pos hf]] at d6
  have hnb : (n != 0) = true := bne_iff_ne.2 hf
  have hn0 : (n == 0) = false := beq_eq_false_iff_ne.2 hf
  have hs0 : (!((⟨#[]⟩ : ByteArray).toList == (⟨#[]⟩ : ByteArray).toList)) = false := by rw [beq_self_eq_true]; rfl
  have d10 := fun W hb => verify root f _ cf _ proof hsf hp W (HF.out W hb).2.1 (HF.out W hb).2.2.1 (HF.out W hb).2.2.2
  have d11 := fun W hb => verifyFault root f _ cf _ proof hkf W (HF.out W hb).2.1 (HF.out W hb).2.2.1
  have d12 := fun W hb => verifyOf root f _ cf _ proof hsf hp W (HF.out W hb).2.1 (HF.out W hb).2.2.1 (HF.out W hb).2.2.2
  have e3 : verB root f proof = verOf root f proof := by unfold verB; rw [if_pos hv]
  rw [e3] at d10
  rw [hv] at d10 d11
  generalize verOf root f proof = z at d10 d12
  have hzz : (z == z) = true := by simp
  clear hs hsf hp hk hkf hl hkey hf hv C0 C1 h h2 hC ht
  go_enter Tryz.func7, Tryz.ntmps7
  go_wp2_with (first
    | (go_at_call 12; refine (d1 _ B0).mono ?_; rintro e w1 ⟨rfl, B1'⟩; have B1 := B.below_trans B0 B1'; obtain ⟨g0, g1, g2, g3⟩ := HN.out _ B1)
    | (go_at_call 13; refine (d2 _ B1).mono ?_; rintro e w2 ⟨rfl, B2'⟩; have B2 := B.below_trans B1 B2'; obtain ⟨g0, g1, g2, g3⟩ := HN.out _ B2)
    | (go_at_call 15; refine (d4 _ B2).mono ?_; rintro e w4 ⟨v4, rfl, S4, B4'⟩; have B4 := B.below_trans B2 B4'; obtain ⟨g0, g1, g2, g3⟩ := HN.out _ B4; obtain ⟨A4, c4, rfl, D4⟩ := S4)
    | (go_at_call 17; refine (d5 _).mono ?_; rintro e w5 ⟨rfl, B5'⟩; have B5 := B.below_trans B4 B5'; obtain ⟨g0, g1, g2, g3⟩ := HN.out _ B5; have D4 := D4.mono B5')
    | (go_at_call 16; refine (d6 _ _ (B.lit_S (k := 1) (enc := fun n => [Value.int .i64 n]) (hl := fun _ => rfl) (h1 := by intro x v hv; simp at hv; subst hv; rfl) _ _ _ [n, q] 2 rfl rfl (by simp))).mono ?_; rintro e w6 ⟨rfl, B6'⟩; have BA := (Below.refl _ w5).alloc (Nat.le_refl _) (.cells #[.int .i64 n, .int .i64 q] 41); have D4 := (D4.mono BA).mono B6'; have B6 := B.below_trans (B5.alloc (by have := B5.size; exact this) _) B6'; obtain ⟨g0, g1, g2, g3⟩ := HN.out _ B6)
    | (go_at_call 20; refine (d10 _ B6).mono ?_; rintro e wa ⟨rfl, Ba'⟩; have Ba := B.below_trans B6 Ba'; obtain ⟨g0, g1, g2, g3⟩ := HN.out _ Ba)
    | (go_at_call 21; refine (d11 _ Ba).mono ?_; rintro e wb ⟨rfl, Bb'⟩; have Bb := B.below_trans Ba Bb'; obtain ⟨g0, g1, g2, g3⟩ := HN.out _ Bb)
    | (go_at_call 23; refine (d12 _ Bb).mono ?_; rintro e wc ⟨rfl, Bc'⟩; have Bc := B.below_trans Bb Bc'; obtain ⟨g0, g1, g2, g3⟩ := HN.out _ Bc)
    | (go_at_call 22; refine (Links.synced _).mono ?_; rintro e wz ⟨rfl, Bz'⟩; have Bz := B.below_trans Bc Bz'))
  go_ret
  exact ⟨rfl, HB0.out.trans (Bz.mono (by simp; omega))⟩
set_option maxHeartbeats 4000000 in
set_option maxRecDepth 100000 in
theorem proved_key_bad (no : Int) (v : Value) (l : List Fl) (key root : ByteArray) (f : Fl) (Af : Option Addr) (cf : Nat) (u : Value) (proof : List Tw) (hs : ∀ g ∈ l, Small g) (hl : l.length ≤ 1048576) (hkey : key.size ≤ 9223372036854775807) (hsf : Small f) (hp : ∀ t ∈ proof, t.2.size ≤ 1048576) (w : World) (h : B.Kd.file.S w v l) (hC : B.Kd.chunk.C w Af f.2) (h2 : B.Kd.twig.S w u proof) (ht : Hex.Tab w) (hf : Man.fault no l = 0) (hb : Key.keyB key = false) (hv : verF root f proof ≠ 0) :
    Calls Tryz.prog 7 #[.agg #[.int .i64 no, v], .string key, .string root, .agg #[.string f.1, .slice Af f.2.length cf], u] w fun e w' => e = .returned (.bool true) ∧ Below w.heap.size w w' := by
  have hk : ∀ g ∈ l, g.1.size ≤ 9223372036854775807 := fun g hg => by have := (hs g hg).1; omega
  have hkf : f.1.size ≤ 9223372036854775807 := by have := hsf.1; omega
  obtain ⟨A, c, rfl, C0⟩ := h
  obtain ⟨Ap, cp, rfl, C1⟩ := h2
  have h : B.Kd.file.S w (.slice A l.length c) l := ⟨A, c, rfl, C0⟩
  have h2 : B.Kd.twig.S w (.slice Ap proof.length cp) proof := ⟨Ap, cp, rfl, C1⟩
  have hw1 : (w.alloc (.cells #[.int .i64 no, .slice A l.length c] 24)).heap.size = w.heap.size + 1 := by simp
  have HN := Lib.hid (fun (W : World) (hb : Below ((w.alloc (.cells #[.int .i64 no, .slice A l.length c] 24)).alloc (.cells #[.string f.1, .slice Af f.2.length cf] 27)).heap.size ((w.alloc (.cells #[.int .i64 no, .slice A l.length c] 24)).alloc (.cells #[.string f.1, .slice Af f.2.length cf] 27)) W) => (by
    have q0 := B.cell_below hb (B.cell_below ((Below.refl _ (w.alloc (.cells #[.int .i64 no, .slice A l.length c] 24))).alloc (Nat.le_refl _) (.cells #[.string f.1, .slice Af f.2.length cf] 27)) (show (w.alloc (.cells #[.int .i64 no, .slice A l.length c] 24)).cell? ⟨w.heap.size, 0, none⟩ = some (.int .i64 no) by rw [World.cell?_alloc_new]; rfl))
    have q1 := B.cell_below hb (B.cell_below ((Below.refl _ (w.alloc (.cells #[.int .i64 no, .slice A l.length c] 24))).alloc (Nat.le_refl _) (.cells #[.string f.1, .slice Af f.2.length cf] 27)) (show (w.alloc (.cells #[.int .i64 no, .slice A l.length c] 24)).cell? ⟨w.heap.size, 1, none⟩ = some (.slice A l.length c) by rw [World.cell?_alloc_new]; rfl))
    have q2 := B.cell_below hb (show ((w.alloc (.cells #[.int .i64 no, .slice A l.length c] 24)).alloc (.cells #[.string f.1, .slice Af f.2.length cf] 27)).cell? ⟨w.heap.size + 1, 0, none⟩ = some (.string f.1) by rw [← hw1, World.cell?_alloc_new]; rfl)
    have q3 := B.cell_below hb (show ((w.alloc (.cells #[.int .i64 no, .slice A l.length c] 24)).alloc (.cells #[.string f.1, .slice Af f.2.length cf] 27)).cell? ⟨w.heap.size + 1, 1, none⟩ = some (.slice Af f.2.length cf) by rw [← hw1, World.cell?_alloc_new]; rfl)
    exact ⟨q0, q1, q2, q3⟩ : W.cell? ⟨w.heap.size, 0, none⟩ = some (.int .i64 no) ∧ W.cell? ⟨w.heap.size, 1, none⟩ = some (.slice A l.length c) ∧ W.cell? ⟨w.heap.size + 1, 0, none⟩ = some (.string f.1) ∧ W.cell? ⟨w.heap.size + 1, 1, none⟩ = some (.slice Af f.2.length cf)))
  have HB0 := Lib.hid (((Below.refl _ w).alloc (Nat.le_refl _) (.cells #[.int .i64 no, .slice A l.length c] 24)).alloc (by simp) (.cells #[.string f.1, .slice Af f.2.length cf] 27))
  have B0 : Below ((w.alloc (.cells #[.int .i64 no, .slice A l.length c] 24)).alloc (.cells #[.string f.1, .slice Af f.2.length cf] 27)).heap.size ((w.alloc (.cells #[.int .i64 no, .slice A l.length c] 24)).alloc (.cells #[.string f.1, .slice Af f.2.length cf] 27)) ((w.alloc (.cells #[.int .i64 no, .slice A l.length c] 24)).alloc (.cells #[.string f.1, .slice Af f.2.length cf] 27)) := Below.refl _ _
  have HF := Lib.hid (fun (W : World) (hb : Below ((w.alloc (.cells #[.int .i64 no, .slice A l.length c] 24)).alloc (.cells #[.string f.1, .slice Af f.2.length cf] 27)).heap.size ((w.alloc (.cells #[.int .i64 no, .slice A l.length c] 24)).alloc (.cells #[.string f.1, .slice Af f.2.length cf] 27)) W) => (⟨(h.mono HB0.out).mono (hb), (hC.mono HB0.out).mono hb, (h2.mono HB0.out).mono hb, (ht.below HB0.out).below hb⟩ : B.Kd.file.S W (.slice A l.length c) l ∧ B.Kd.chunk.C W Af f.2 ∧ B.Kd.twig.S W (.slice Ap proof.length cp) proof ∧ Hex.Tab W))
  have d2 := fun W hb => Man.refCheck no _ l hk W (HF.out W hb).1
  have d4 := fun W hb => Pf.proof no _ l key hkey hs hl W (HF.out W hb).1 (HF.out W hb).2.2.2
  have d1 := fun W hb => root_ok no _ l hs hl W (HF.out W hb).1 (HF.out W hb).2.2.2 hf
  have d3 := fun W hb => rootOf no _ l hs hl W (HF.out W hb).1 (HF.out W hb).2.2.2
  generalize rootS (l.map leafS) = R at d1 d3
  have hRR : (!(R.toList == R.toList)) = false := by rw [beq_self_eq_true]; rfl
  have d5 := fun W => keyFault key hkey false hb W
  have e1 : proofF no l key = 5 := by unfold proofF; rw [if_neg (by simpa using hf), if_pos hb]
  have e2 : proofL no l key = [] := by unfold proofL; rw [if_neg (by simpa using hf), if_pos hb]
  rw [e1, e2] at d4
  rw [hf] at d2
  have d6 := fun W v hv => orOf v [0, 5] W hv
  rw [show firstNZ [0, 5] = 5 from rfl] at d6
  have d10 := fun W hb => verify root f _ cf _ proof hsf hp W (HF.out W hb).2.1 (HF.out W hb).2.2.1 (HF.out W hb).2.2.2
  have d11 := fun W hb => verifyFault root f _ cf _ proof hkf W (HF.out W hb).2.1 (HF.out W hb).2.2.1
  have e3 : verB root f proof = false := by unfold verB; rw [if_neg hv]
  rw [e3] at d10
  generalize verF root f proof = y at d10 d11 hv
  have hyb : (y != 0) = true := bne_iff_ne.2 hv
  clear hs hsf hp hk hkf hl hkey hf hv hb C0 C1 h h2 hC ht
  go_enter Tryz.func7, Tryz.ntmps7
  go_wp2_with (first
    | (go_at_call 12; refine (d1 _ B0).mono ?_; rintro e w1 ⟨rfl, B1'⟩; have B1 := B.below_trans B0 B1'; obtain ⟨g0, g1, g2, g3⟩ := HN.out _ B1)
    | (go_at_call 13; refine (d2 _ B1).mono ?_; rintro e w2 ⟨rfl, B2'⟩; have B2 := B.below_trans B1 B2'; obtain ⟨g0, g1, g2, g3⟩ := HN.out _ B2)
    | (go_at_call 14; refine (d3 _ B2).mono ?_; rintro e w3 ⟨rfl, B3'⟩; have B3 := B.below_trans B2 B3'; obtain ⟨g0, g1, g2, g3⟩ := HN.out _ B3)
    | (go_at_call 15; refine (d4 _ B3).mono ?_; rintro e w4 ⟨v4, rfl, S4, B4'⟩; have B4 := B.below_trans B3 B4'; obtain ⟨g0, g1, g2, g3⟩ := HN.out _ B4; obtain ⟨A4, c4, rfl, D4⟩ := S4)
    | (go_at_call 17; refine (d5 _).mono ?_; rintro e w5 ⟨rfl, B5'⟩; have B5 := B.below_trans B4 B5'; obtain ⟨g0, g1, g2, g3⟩ := HN.out _ B5; have D4 := D4.mono B5')
    | (go_at_call 16; refine (d6 _ _ (B.lit_S (k := 1) (enc := fun n => [Value.int .i64 n]) (hl := fun _ => rfl) (h1 := by intro x v hv; simp at hv; subst hv; rfl) _ _ _ [0, 5] 2 rfl rfl (by simp))).mono ?_; rintro e w6 ⟨rfl, B6'⟩; have BA := (Below.refl _ w5).alloc (Nat.le_refl _) (.cells #[.int .i64 0, .int .i64 5] 41); have D4 := (D4.mono BA).mono B6'; have B6 := B.below_trans (B5.alloc (by have := B5.size; exact this) _) B6'; obtain ⟨g0, g1, g2, g3⟩ := HN.out _ B6)
    | (go_at_call 20; refine (d10 _ B6).mono ?_; rintro e wa ⟨rfl, Ba'⟩; have Ba := B.below_trans B6 Ba'; obtain ⟨g0, g1, g2, g3⟩ := HN.out _ Ba)
    | (go_at_call 21; refine (d11 _ Ba).mono ?_; rintro e wb ⟨rfl, Bb'⟩; have Bb := B.below_trans Ba Bb'; obtain ⟨g0, g1, g2, g3⟩ := HN.out _ Bb)
    | (go_at_call 22; refine (Links.synced _).mono ?_; rintro e wz ⟨rfl, Bz'⟩; have Bz := B.below_trans Bb Bz'))
  go_ret
  exact ⟨rfl, HB0.out.trans (Bz.mono (by simp; omega))⟩
set_option maxHeartbeats 4000000 in
set_option maxRecDepth 100000 in
theorem proved_key_ok (no : Int) (v : Value) (l : List Fl) (key root : ByteArray) (f : Fl) (Af : Option Addr) (cf : Nat) (u : Value) (proof : List Tw) (hs : ∀ g ∈ l, Small g) (hl : l.length ≤ 1048576) (hkey : key.size ≤ 9223372036854775807) (hsf : Small f) (hp : ∀ t ∈ proof, t.2.size ≤ 1048576) (w : World) (h : B.Kd.file.S w v l) (hC : B.Kd.chunk.C w Af f.2) (h2 : B.Kd.twig.S w u proof) (ht : Hex.Tab w) (hf : Man.fault no l = 0) (hb : Key.keyB key = false) (hv : verF root f proof = 0) :
    Calls Tryz.prog 7 #[.agg #[.int .i64 no, v], .string key, .string root, .agg #[.string f.1, .slice Af f.2.length cf], u] w fun e w' => e = .returned (.bool true) ∧ Below w.heap.size w w' := by
  have hk : ∀ g ∈ l, g.1.size ≤ 9223372036854775807 := fun g hg => by have := (hs g hg).1; omega
  have hkf : f.1.size ≤ 9223372036854775807 := by have := hsf.1; omega
  obtain ⟨A, c, rfl, C0⟩ := h
  obtain ⟨Ap, cp, rfl, C1⟩ := h2
  have h : B.Kd.file.S w (.slice A l.length c) l := ⟨A, c, rfl, C0⟩
  have h2 : B.Kd.twig.S w (.slice Ap proof.length cp) proof := ⟨Ap, cp, rfl, C1⟩
  have hw1 : (w.alloc (.cells #[.int .i64 no, .slice A l.length c] 24)).heap.size = w.heap.size + 1 := by simp
  have HN := Lib.hid (fun (W : World) (hb : Below ((w.alloc (.cells #[.int .i64 no, .slice A l.length c] 24)).alloc (.cells #[.string f.1, .slice Af f.2.length cf] 27)).heap.size ((w.alloc (.cells #[.int .i64 no, .slice A l.length c] 24)).alloc (.cells #[.string f.1, .slice Af f.2.length cf] 27)) W) => (by
    have q0 := B.cell_below hb (B.cell_below ((Below.refl _ (w.alloc (.cells #[.int .i64 no, .slice A l.length c] 24))).alloc (Nat.le_refl _) (.cells #[.string f.1, .slice Af f.2.length cf] 27)) (show (w.alloc (.cells #[.int .i64 no, .slice A l.length c] 24)).cell? ⟨w.heap.size, 0, none⟩ = some (.int .i64 no) by rw [World.cell?_alloc_new]; rfl))
    have q1 := B.cell_below hb (B.cell_below ((Below.refl _ (w.alloc (.cells #[.int .i64 no, .slice A l.length c] 24))).alloc (Nat.le_refl _) (.cells #[.string f.1, .slice Af f.2.length cf] 27)) (show (w.alloc (.cells #[.int .i64 no, .slice A l.length c] 24)).cell? ⟨w.heap.size, 1, none⟩ = some (.slice A l.length c) by rw [World.cell?_alloc_new]; rfl))
    have q2 := B.cell_below hb (show ((w.alloc (.cells #[.int .i64 no, .slice A l.length c] 24)).alloc (.cells #[.string f.1, .slice Af f.2.length cf] 27)).cell? ⟨w.heap.size + 1, 0, none⟩ = some (.string f.1) by rw [← hw1, World.cell?_alloc_new]; rfl)
    have q3 := B.cell_below hb (show ((w.alloc (.cells #[.int .i64 no, .slice A l.length c] 24)).alloc (.cells #[.string f.1, .slice Af f.2.length cf] 27)).cell? ⟨w.heap.size + 1, 1, none⟩ = some (.slice Af f.2.length cf) by rw [← hw1, World.cell?_alloc_new]; rfl)
    exact ⟨q0, q1, q2, q3⟩ : W.cell? ⟨w.heap.size, 0, none⟩ = some (.int .i64 no) ∧ W.cell? ⟨w.heap.size, 1, none⟩ = some (.slice A l.length c) ∧ W.cell? ⟨w.heap.size + 1, 0, none⟩ = some (.string f.1) ∧ W.cell? ⟨w.heap.size + 1, 1, none⟩ = some (.slice Af f.2.length cf)))
  have HB0 := Lib.hid (((Below.refl _ w).alloc (Nat.le_refl _) (.cells #[.int .i64 no, .slice A l.length c] 24)).alloc (by simp) (.cells #[.string f.1, .slice Af f.2.length cf] 27))
  have B0 : Below ((w.alloc (.cells #[.int .i64 no, .slice A l.length c] 24)).alloc (.cells #[.string f.1, .slice Af f.2.length cf] 27)).heap.size ((w.alloc (.cells #[.int .i64 no, .slice A l.length c] 24)).alloc (.cells #[.string f.1, .slice Af f.2.length cf] 27)) ((w.alloc (.cells #[.int .i64 no, .slice A l.length c] 24)).alloc (.cells #[.string f.1, .slice Af f.2.length cf] 27)) := Below.refl _ _
  have HF := Lib.hid (fun (W : World) (hb : Below ((w.alloc (.cells #[.int .i64 no, .slice A l.length c] 24)).alloc (.cells #[.string f.1, .slice Af f.2.length cf] 27)).heap.size ((w.alloc (.cells #[.int .i64 no, .slice A l.length c] 24)).alloc (.cells #[.string f.1, .slice Af f.2.length cf] 27)) W) => (⟨(h.mono HB0.out).mono (hb), (hC.mono HB0.out).mono hb, (h2.mono HB0.out).mono hb, (ht.below HB0.out).below hb⟩ : B.Kd.file.S W (.slice A l.length c) l ∧ B.Kd.chunk.C W Af f.2 ∧ B.Kd.twig.S W (.slice Ap proof.length cp) proof ∧ Hex.Tab W))
  have d2 := fun W hb => Man.refCheck no _ l hk W (HF.out W hb).1
  have d4 := fun W hb => Pf.proof no _ l key hkey hs hl W (HF.out W hb).1 (HF.out W hb).2.2.2
  have d1 := fun W hb => root_ok no _ l hs hl W (HF.out W hb).1 (HF.out W hb).2.2.2 hf
  have d3 := fun W hb => rootOf no _ l hs hl W (HF.out W hb).1 (HF.out W hb).2.2.2
  generalize rootS (l.map leafS) = R at d1 d3
  have hRR : (!(R.toList == R.toList)) = false := by rw [beq_self_eq_true]; rfl
  have d5 := fun W => keyFault key hkey false hb W
  have e1 : proofF no l key = 5 := by unfold proofF; rw [if_neg (by simpa using hf), if_pos hb]
  have e2 : proofL no l key = [] := by unfold proofL; rw [if_neg (by simpa using hf), if_pos hb]
  rw [e1, e2] at d4
  rw [hf] at d2
  have d6 := fun W v hv => orOf v [0, 5] W hv
  rw [show firstNZ [0, 5] = 5 from rfl] at d6
  have d10 := fun W hb => verify root f _ cf _ proof hsf hp W (HF.out W hb).2.1 (HF.out W hb).2.2.1 (HF.out W hb).2.2.2
  have d11 := fun W hb => verifyFault root f _ cf _ proof hkf W (HF.out W hb).2.1 (HF.out W hb).2.2.1
  have d12 := fun W hb => verifyOf root f _ cf _ proof hsf hp W (HF.out W hb).2.1 (HF.out W hb).2.2.1 (HF.out W hb).2.2.2
  have e3 : verB root f proof = verOf root f proof := by unfold verB; rw [if_pos hv]
  rw [e3] at d10
  rw [hv] at d10 d11
  generalize verOf root f proof = z at d10 d12
  have hzz : (z == z) = true := by simp
  clear hs hsf hp hk hkf hl hkey hf hv hb C0 C1 h h2 hC ht
  go_enter Tryz.func7, Tryz.ntmps7
  go_wp2_with (first
    | (go_at_call 12; refine (d1 _ B0).mono ?_; rintro e w1 ⟨rfl, B1'⟩; have B1 := B.below_trans B0 B1'; obtain ⟨g0, g1, g2, g3⟩ := HN.out _ B1)
    | (go_at_call 13; refine (d2 _ B1).mono ?_; rintro e w2 ⟨rfl, B2'⟩; have B2 := B.below_trans B1 B2'; obtain ⟨g0, g1, g2, g3⟩ := HN.out _ B2)
    | (go_at_call 14; refine (d3 _ B2).mono ?_; rintro e w3 ⟨rfl, B3'⟩; have B3 := B.below_trans B2 B3'; obtain ⟨g0, g1, g2, g3⟩ := HN.out _ B3)
    | (go_at_call 15; refine (d4 _ B3).mono ?_; rintro e w4 ⟨v4, rfl, S4, B4'⟩; have B4 := B.below_trans B3 B4'; obtain ⟨g0, g1, g2, g3⟩ := HN.out _ B4; obtain ⟨A4, c4, rfl, D4⟩ := S4)
    | (go_at_call 17; refine (d5 _).mono ?_; rintro e w5 ⟨rfl, B5'⟩; have B5 := B.below_trans B4 B5'; obtain ⟨g0, g1, g2, g3⟩ := HN.out _ B5; have D4 := D4.mono B5')
    | (go_at_call 16; refine (d6 _ _ (B.lit_S (k := 1) (enc := fun n => [Value.int .i64 n]) (hl := fun _ => rfl) (h1 := by intro x v hv; simp at hv; subst hv; rfl) _ _ _ [0, 5] 2 rfl rfl (by simp))).mono ?_; rintro e w6 ⟨rfl, B6'⟩; have BA := (Below.refl _ w5).alloc (Nat.le_refl _) (.cells #[.int .i64 0, .int .i64 5] 41); have D4 := (D4.mono BA).mono B6'; have B6 := B.below_trans (B5.alloc (by have := B5.size; exact this) _) B6'; obtain ⟨g0, g1, g2, g3⟩ := HN.out _ B6)
    | (go_at_call 20; refine (d10 _ B6).mono ?_; rintro e wa ⟨rfl, Ba'⟩; have Ba := B.below_trans B6 Ba'; obtain ⟨g0, g1, g2, g3⟩ := HN.out _ Ba)
    | (go_at_call 21; refine (d11 _ Ba).mono ?_; rintro e wb ⟨rfl, Bb'⟩; have Bb := B.below_trans Ba Bb'; obtain ⟨g0, g1, g2, g3⟩ := HN.out _ Bb)
    | (go_at_call 23; refine (d12 _ Bb).mono ?_; rintro e wc ⟨rfl, Bc'⟩; have Bc := B.below_trans Bb Bc'; obtain ⟨g0, g1, g2, g3⟩ := HN.out _ Bc)
    | (go_at_call 22; refine (Links.synced _).mono ?_; rintro e wz ⟨rfl, Bz'⟩; have Bz := B.below_trans Bc Bz'))
  go_ret
  exact ⟨rfl, HB0.out.trans (Bz.mono (by simp; omega))⟩
set_option maxHeartbeats 4000000 in
set_option maxRecDepth 100000 in
theorem proved_ok_bad (no : Int) (v : Value) (l : List Fl) (key root : ByteArray) (f : Fl) (Af : Option Addr) (cf : Nat) (u : Value) (proof : List Tw) (hs : ∀ g ∈ l, Small g) (hl : l.length ≤ 1048576) (hkey : key.size ≤ 9223372036854775807) (hsf : Small f) (hp : ∀ t ∈ proof, t.2.size ≤ 1048576) (w : World) (h : B.Kd.file.S w v l) (hC : B.Kd.chunk.C w Af f.2) (h2 : B.Kd.twig.S w u proof) (ht : Hex.Tab w) (hf : Man.fault no l = 0) (hb : Key.keyB key = true) (hv : verF root f proof ≠ 0) :
    Calls Tryz.prog 7 #[.agg #[.int .i64 no, v], .string key, .string root, .agg #[.string f.1, .slice Af f.2.length cf], u] w fun e w' => e = .returned (.bool true) ∧ Below w.heap.size w w' := by
  have hk : ∀ g ∈ l, g.1.size ≤ 9223372036854775807 := fun g hg => by have := (hs g hg).1; omega
  have hkf : f.1.size ≤ 9223372036854775807 := by have := hsf.1; omega
  obtain ⟨A, c, rfl, C0⟩ := h
  obtain ⟨Ap, cp, rfl, C1⟩ := h2
  have h : B.Kd.file.S w (.slice A l.length c) l := ⟨A, c, rfl, C0⟩
  have h2 : B.Kd.twig.S w (.slice Ap proof.length cp) proof := ⟨Ap, cp, rfl, C1⟩
  have hw1 : (w.alloc (.cells #[.int .i64 no, .slice A l.length c] 24)).heap.size = w.heap.size + 1 := by simp
  have HN := Lib.hid (fun (W : World) (hb : Below ((w.alloc (.cells #[.int .i64 no, .slice A l.length c] 24)).alloc (.cells #[.string f.1, .slice Af f.2.length cf] 27)).heap.size ((w.alloc (.cells #[.int .i64 no, .slice A l.length c] 24)).alloc (.cells #[.string f.1, .slice Af f.2.length cf] 27)) W) => (by
    have q0 := B.cell_below hb (B.cell_below ((Below.refl _ (w.alloc (.cells #[.int .i64 no, .slice A l.length c] 24))).alloc (Nat.le_refl _) (.cells #[.string f.1, .slice Af f.2.length cf] 27)) (show (w.alloc (.cells #[.int .i64 no, .slice A l.length c] 24)).cell? ⟨w.heap.size, 0, none⟩ = some (.int .i64 no) by rw [World.cell?_alloc_new]; rfl))
    have q1 := B.cell_below hb (B.cell_below ((Below.refl _ (w.alloc (.cells #[.int .i64 no, .slice A l.length c] 24))).alloc (Nat.le_refl _) (.cells #[.string f.1, .slice Af f.2.length cf] 27)) (show (w.alloc (.cells #[.int .i64 no, .slice A l.length c] 24)).cell? ⟨w.heap.size, 1, none⟩ = some (.slice A l.length c) by rw [World.cell?_alloc_new]; rfl))
    have q2 := B.cell_below hb (show ((w.alloc (.cells #[.int .i64 no, .slice A l.length c] 24)).alloc (.cells #[.string f.1, .slice Af f.2.length cf] 27)).cell? ⟨w.heap.size + 1, 0, none⟩ = some (.string f.1) by rw [← hw1, World.cell?_alloc_new]; rfl)
    have q3 := B.cell_below hb (show ((w.alloc (.cells #[.int .i64 no, .slice A l.length c] 24)).alloc (.cells #[.string f.1, .slice Af f.2.length cf] 27)).cell? ⟨w.heap.size + 1, 1, none⟩ = some (.slice Af f.2.length cf) by rw [← hw1, World.cell?_alloc_new]; rfl)
    exact ⟨q0, q1, q2, q3⟩ : W.cell? ⟨w.heap.size, 0, none⟩ = some (.int .i64 no) ∧ W.cell? ⟨w.heap.size, 1, none⟩ = some (.slice A l.length c) ∧ W.cell? ⟨w.heap.size + 1, 0, none⟩ = some (.string f.1) ∧ W.cell? ⟨w.heap.size + 1, 1, none⟩ = some (.slice Af f.2.length cf)))
  have HB0 := Lib.hid (((Below.refl _ w).alloc (Nat.le_refl _) (.cells #[.int .i64 no, .slice A l.length c] 24)).alloc (by simp) (.cells #[.string f.1, .slice Af f.2.length cf] 27))
  have B0 : Below ((w.alloc (.cells #[.int .i64 no, .slice A l.length c] 24)).alloc (.cells #[.string f.1, .slice Af f.2.length cf] 27)).heap.size ((w.alloc (.cells #[.int .i64 no, .slice A l.length c] 24)).alloc (.cells #[.string f.1, .slice Af f.2.length cf] 27)) ((w.alloc (.cells #[.int .i64 no, .slice A l.length c] 24)).alloc (.cells #[.string f.1, .slice Af f.2.length cf] 27)) := Below.refl _ _
  have HF := Lib.hid (fun (W : World) (hb : Below ((w.alloc (.cells #[.int .i64 no, .slice A l.length c] 24)).alloc (.cells #[.string f.1, .slice Af f.2.length cf] 27)).heap.size ((w.alloc (.cells #[.int .i64 no, .slice A l.length c] 24)).alloc (.cells #[.string f.1, .slice Af f.2.length cf] 27)) W) => (⟨(h.mono HB0.out).mono (hb), (hC.mono HB0.out).mono hb, (h2.mono HB0.out).mono hb, (ht.below HB0.out).below hb⟩ : B.Kd.file.S W (.slice A l.length c) l ∧ B.Kd.chunk.C W Af f.2 ∧ B.Kd.twig.S W (.slice Ap proof.length cp) proof ∧ Hex.Tab W))
  have d2 := fun W hb => Man.refCheck no _ l hk W (HF.out W hb).1
  have d4 := fun W hb => Pf.proof no _ l key hkey hs hl W (HF.out W hb).1 (HF.out W hb).2.2.2
  have d1 := fun W hb => root_ok no _ l hs hl W (HF.out W hb).1 (HF.out W hb).2.2.2 hf
  have d3 := fun W hb => rootOf no _ l hs hl W (HF.out W hb).1 (HF.out W hb).2.2.2
  generalize rootS (l.map leafS) = R at d1 d3
  have hRR : (!(R.toList == R.toList)) = false := by rw [beq_self_eq_true]; rfl
  have d5 := fun W => keyFault key hkey true hb W
  have d7 := fun W hb => proofOf no _ l key hs hl W (HF.out W hb).1 (HF.out W hb).2.2.2
  have e1 : proofF no l key = if (!(Fd.at? l key).isSome) then 8 else 0 := by unfold proofF; rw [if_neg (by simpa using hf), if_neg (by rw [hb]; decide)]; cases Fd.at? l key <;> rfl
  have e2 : proofL no l key = proofR l key := by unfold proofL proofR; rw [if_neg (by simpa using hf), if_neg (by rw [hb]; decide)]
  rw [e1, e2] at d4
  rw [hf] at d2
  generalize (Fd.at? l key).isSome = is at d4 d7
  have d8 := fun W => when (!is) 8 W
  generalize (if (!is) = true then (8 : Int) else 0) = m at d4 d8
  have hmm : (m != m) = false := by simp
  generalize proofR l key = xs at d4 d7
  have d6 := fun W v hv => orOf v [0, 0] W hv
  rw [show firstNZ [0, 0] = 0 from rfl] at d6
  have d10 := fun W hb => verify root f _ cf _ proof hsf hp W (HF.out W hb).2.1 (HF.out W hb).2.2.1 (HF.out W hb).2.2.2
  have d11 := fun W hb => verifyFault root f _ cf _ proof hkf W (HF.out W hb).2.1 (HF.out W hb).2.2.1
  have e3 : verB root f proof = false := by unfold verB; rw [if_neg hv]
  rw [e3] at d10
  generalize verF root f proof = y at d10 d11 hv
  have hyb : (y != 0) = true := bne_iff_ne.2 hv
  clear hs hsf hp hk hkf hl hkey hf hv hb C0 C1 h h2 hC ht
  go_enter Tryz.func7, Tryz.ntmps7
  go_wp2_with (first
    | (go_at_call 12; refine (d1 _ B0).mono ?_; rintro e w1 ⟨rfl, B1'⟩; have B1 := B.below_trans B0 B1'; obtain ⟨g0, g1, g2, g3⟩ := HN.out _ B1)
    | (go_at_call 13; refine (d2 _ B1).mono ?_; rintro e w2 ⟨rfl, B2'⟩; have B2 := B.below_trans B1 B2'; obtain ⟨g0, g1, g2, g3⟩ := HN.out _ B2)
    | (go_at_call 14; refine (d3 _ B2).mono ?_; rintro e w3 ⟨rfl, B3'⟩; have B3 := B.below_trans B2 B3'; obtain ⟨g0, g1, g2, g3⟩ := HN.out _ B3)
    | (go_at_call 15; refine (d4 _ B3).mono ?_; rintro e w4 ⟨v4, rfl, S4, B4'⟩; have B4 := B.below_trans B3 B4'; obtain ⟨g0, g1, g2, g3⟩ := HN.out _ B4; obtain ⟨A4, c4, rfl, D4⟩ := S4)
    | (go_at_call 17; refine (d5 _).mono ?_; rintro e w5 ⟨rfl, B5'⟩; have B5 := B.below_trans B4 B5'; obtain ⟨g0, g1, g2, g3⟩ := HN.out _ B5; have D4 := D4.mono B5')
    | (go_at_call 16; refine (d6 _ _ (B.lit_S (k := 1) (enc := fun n => [Value.int .i64 n]) (hl := fun _ => rfl) (h1 := by intro x v hv; simp at hv; subst hv; rfl) _ _ _ [0, 0] 2 rfl rfl (by simp))).mono ?_; rintro e w6 ⟨rfl, B6'⟩; have BA := (Below.refl _ w5).alloc (Nat.le_refl _) (.cells #[.int .i64 0, .int .i64 0] 41); have D4 := (D4.mono BA).mono B6'; have B6 := B.below_trans (B5.alloc (by have := B5.size; exact this) _) B6'; obtain ⟨g0, g1, g2, g3⟩ := HN.out _ B6)
    | (go_at_call 18; refine (d7 _ B6).mono ?_; rintro e w7 ⟨v7, rfl, S7, B7'⟩; have B7 := B.below_trans B6 B7'; obtain ⟨g0, g1, g2, g3⟩ := HN.out _ B7; obtain ⟨A7, c7, rfl, D7⟩ := S7; have D4 := D4.mono B7')
    | (go_at_call 19; refine (d8 _).mono ?_; rintro e w8 ⟨rfl, rfl⟩)
    | (go_at_call 10; refine (Eq.eq_twig _ _ xs xs _ ⟨A4, c4, rfl, D4⟩ ⟨A7, c7, rfl, D7⟩ true (decide_eq_true rfl)).mono ?_; rintro e w9 ⟨rfl, B9'⟩; have B9 := B.below_trans B7 B9'; obtain ⟨g0, g1, g2, g3⟩ := HN.out _ B9)
    | (go_at_call 20; refine (d10 _ B9).mono ?_; rintro e wa ⟨rfl, Ba'⟩; have Ba := B.below_trans B9 Ba'; obtain ⟨g0, g1, g2, g3⟩ := HN.out _ Ba)
    | (go_at_call 21; refine (d11 _ Ba).mono ?_; rintro e wb ⟨rfl, Bb'⟩; have Bb := B.below_trans Ba Bb'; obtain ⟨g0, g1, g2, g3⟩ := HN.out _ Bb)
    | (go_at_call 22; refine (Links.synced _).mono ?_; rintro e wz ⟨rfl, Bz'⟩; have Bz := B.below_trans Bb Bz'))
  go_ret
  exact ⟨rfl, HB0.out.trans (Bz.mono (by simp; omega))⟩
set_option maxHeartbeats 4000000 in
set_option maxRecDepth 100000 in
theorem proved_ok_ok (no : Int) (v : Value) (l : List Fl) (key root : ByteArray) (f : Fl) (Af : Option Addr) (cf : Nat) (u : Value) (proof : List Tw) (hs : ∀ g ∈ l, Small g) (hl : l.length ≤ 1048576) (hkey : key.size ≤ 9223372036854775807) (hsf : Small f) (hp : ∀ t ∈ proof, t.2.size ≤ 1048576) (w : World) (h : B.Kd.file.S w v l) (hC : B.Kd.chunk.C w Af f.2) (h2 : B.Kd.twig.S w u proof) (ht : Hex.Tab w) (hf : Man.fault no l = 0) (hb : Key.keyB key = true) (hv : verF root f proof = 0) :
    Calls Tryz.prog 7 #[.agg #[.int .i64 no, v], .string key, .string root, .agg #[.string f.1, .slice Af f.2.length cf], u] w fun e w' => e = .returned (.bool true) ∧ Below w.heap.size w w' := by
  have hk : ∀ g ∈ l, g.1.size ≤ 9223372036854775807 := fun g hg => by have := (hs g hg).1; omega
  have hkf : f.1.size ≤ 9223372036854775807 := by have := hsf.1; omega
  obtain ⟨A, c, rfl, C0⟩ := h
  obtain ⟨Ap, cp, rfl, C1⟩ := h2
  have h : B.Kd.file.S w (.slice A l.length c) l := ⟨A, c, rfl, C0⟩
  have h2 : B.Kd.twig.S w (.slice Ap proof.length cp) proof := ⟨Ap, cp, rfl, C1⟩
  have hw1 : (w.alloc (.cells #[.int .i64 no, .slice A l.length c] 24)).heap.size = w.heap.size + 1 := by simp
  have HN := Lib.hid (fun (W : World) (hb : Below ((w.alloc (.cells #[.int .i64 no, .slice A l.length c] 24)).alloc (.cells #[.string f.1, .slice Af f.2.length cf] 27)).heap.size ((w.alloc (.cells #[.int .i64 no, .slice A l.length c] 24)).alloc (.cells #[.string f.1, .slice Af f.2.length cf] 27)) W) => (by
    have q0 := B.cell_below hb (B.cell_below ((Below.refl _ (w.alloc (.cells #[.int .i64 no, .slice A l.length c] 24))).alloc (Nat.le_refl _) (.cells #[.string f.1, .slice Af f.2.length cf] 27)) (show (w.alloc (.cells #[.int .i64 no, .slice A l.length c] 24)).cell? ⟨w.heap.size, 0, none⟩ = some (.int .i64 no) by rw [World.cell?_alloc_new]; rfl))
    have q1 := B.cell_below hb (B.cell_below ((Below.refl _ (w.alloc (.cells #[.int .i64 no, .slice A l.length c] 24))).alloc (Nat.le_refl _) (.cells #[.string f.1, .slice Af f.2.length cf] 27)) (show (w.alloc (.cells #[.int .i64 no, .slice A l.length c] 24)).cell? ⟨w.heap.size, 1, none⟩ = some (.slice A l.length c) by rw [World.cell?_alloc_new]; rfl))
    have q2 := B.cell_below hb (show ((w.alloc (.cells #[.int .i64 no, .slice A l.length c] 24)).alloc (.cells #[.string f.1, .slice Af f.2.length cf] 27)).cell? ⟨w.heap.size + 1, 0, none⟩ = some (.string f.1) by rw [← hw1, World.cell?_alloc_new]; rfl)
    have q3 := B.cell_below hb (show ((w.alloc (.cells #[.int .i64 no, .slice A l.length c] 24)).alloc (.cells #[.string f.1, .slice Af f.2.length cf] 27)).cell? ⟨w.heap.size + 1, 1, none⟩ = some (.slice Af f.2.length cf) by rw [← hw1, World.cell?_alloc_new]; rfl)
    exact ⟨q0, q1, q2, q3⟩ : W.cell? ⟨w.heap.size, 0, none⟩ = some (.int .i64 no) ∧ W.cell? ⟨w.heap.size, 1, none⟩ = some (.slice A l.length c) ∧ W.cell? ⟨w.heap.size + 1, 0, none⟩ = some (.string f.1) ∧ W.cell? ⟨w.heap.size + 1, 1, none⟩ = some (.slice Af f.2.length cf)))
  have HB0 := Lib.hid (((Below.refl _ w).alloc (Nat.le_refl _) (.cells #[.int .i64 no, .slice A l.length c] 24)).alloc (by simp) (.cells #[.string f.1, .slice Af f.2.length cf] 27))
  have B0 : Below ((w.alloc (.cells #[.int .i64 no, .slice A l.length c] 24)).alloc (.cells #[.string f.1, .slice Af f.2.length cf] 27)).heap.size ((w.alloc (.cells #[.int .i64 no, .slice A l.length c] 24)).alloc (.cells #[.string f.1, .slice Af f.2.length cf] 27)) ((w.alloc (.cells #[.int .i64 no, .slice A l.length c] 24)).alloc (.cells #[.string f.1, .slice Af f.2.length cf] 27)) := Below.refl _ _
  have HF := Lib.hid (fun (W : World) (hb : Below ((w.alloc (.cells #[.int .i64 no, .slice A l.length c] 24)).alloc (.cells #[.string f.1, .slice Af f.2.length cf] 27)).heap.size ((w.alloc (.cells #[.int .i64 no, .slice A l.length c] 24)).alloc (.cells #[.string f.1, .slice Af f.2.length cf] 27)) W) => (⟨(h.mono HB0.out).mono (hb), (hC.mono HB0.out).mono hb, (h2.mono HB0.out).mono hb, (ht.below HB0.out).below hb⟩ : B.Kd.file.S W (.slice A l.length c) l ∧ B.Kd.chunk.C W Af f.2 ∧ B.Kd.twig.S W (.slice Ap proof.length cp) proof ∧ Hex.Tab W))
  have d2 := fun W hb => Man.refCheck no _ l hk W (HF.out W hb).1
  have d4 := fun W hb => Pf.proof no _ l key hkey hs hl W (HF.out W hb).1 (HF.out W hb).2.2.2
  have d1 := fun W hb => root_ok no _ l hs hl W (HF.out W hb).1 (HF.out W hb).2.2.2 hf
  have d3 := fun W hb => rootOf no _ l hs hl W (HF.out W hb).1 (HF.out W hb).2.2.2
  generalize rootS (l.map leafS) = R at d1 d3
  have hRR : (!(R.toList == R.toList)) = false := by rw [beq_self_eq_true]; rfl
  have d5 := fun W => keyFault key hkey true hb W
  have d7 := fun W hb => proofOf no _ l key hs hl W (HF.out W hb).1 (HF.out W hb).2.2.2
  have e1 : proofF no l key = if (!(Fd.at? l key).isSome) then 8 else 0 := by unfold proofF; rw [if_neg (by simpa using hf), if_neg (by rw [hb]; decide)]; cases Fd.at? l key <;> rfl
  have e2 : proofL no l key = proofR l key := by unfold proofL proofR; rw [if_neg (by simpa using hf), if_neg (by rw [hb]; decide)]
  rw [e1, e2] at d4
  rw [hf] at d2
  generalize (Fd.at? l key).isSome = is at d4 d7
  have d8 := fun W => when (!is) 8 W
  generalize (if (!is) = true then (8 : Int) else 0) = m at d4 d8
  have hmm : (m != m) = false := by simp
  generalize proofR l key = xs at d4 d7
  have d6 := fun W v hv => orOf v [0, 0] W hv
  rw [show firstNZ [0, 0] = 0 from rfl] at d6
  have d10 := fun W hb => verify root f _ cf _ proof hsf hp W (HF.out W hb).2.1 (HF.out W hb).2.2.1 (HF.out W hb).2.2.2
  have d11 := fun W hb => verifyFault root f _ cf _ proof hkf W (HF.out W hb).2.1 (HF.out W hb).2.2.1
  have d12 := fun W hb => verifyOf root f _ cf _ proof hsf hp W (HF.out W hb).2.1 (HF.out W hb).2.2.1 (HF.out W hb).2.2.2
  have e3 : verB root f proof = verOf root f proof := by unfold verB; rw [if_pos hv]
  rw [e3] at d10
  rw [hv] at d10 d11
  generalize verOf root f proof = z at d10 d12
  have hzz : (z == z) = true := by simp
  clear hs hsf hp hk hkf hl hkey hf hv hb C0 C1 h h2 hC ht
  go_enter Tryz.func7, Tryz.ntmps7
  go_wp2_with (first
    | (go_at_call 12; refine (d1 _ B0).mono ?_; rintro e w1 ⟨rfl, B1'⟩; have B1 := B.below_trans B0 B1'; obtain ⟨g0, g1, g2, g3⟩ := HN.out _ B1)
    | (go_at_call 13; refine (d2 _ B1).mono ?_; rintro e w2 ⟨rfl, B2'⟩; have B2 := B.below_trans B1 B2'; obtain ⟨g0, g1, g2, g3⟩ := HN.out _ B2)
    | (go_at_call 14; refine (d3 _ B2).mono ?_; rintro e w3 ⟨rfl, B3'⟩; have B3 := B.below_trans B2 B3'; obtain ⟨g0, g1, g2, g3⟩ := HN.out _ B3)
    | (go_at_call 15; refine (d4 _ B3).mono ?_; rintro e w4 ⟨v4, rfl, S4, B4'⟩; have B4 := B.below_trans B3 B4'; obtain ⟨g0, g1, g2, g3⟩ := HN.out _ B4; obtain ⟨A4, c4, rfl, D4⟩ := S4)
    | (go_at_call 17; refine (d5 _).mono ?_; rintro e w5 ⟨rfl, B5'⟩; have B5 := B.below_trans B4 B5'; obtain ⟨g0, g1, g2, g3⟩ := HN.out _ B5; have D4 := D4.mono B5')
    | (go_at_call 16; refine (d6 _ _ (B.lit_S (k := 1) (enc := fun n => [Value.int .i64 n]) (hl := fun _ => rfl) (h1 := by intro x v hv; simp at hv; subst hv; rfl) _ _ _ [0, 0] 2 rfl rfl (by simp))).mono ?_; rintro e w6 ⟨rfl, B6'⟩; have BA := (Below.refl _ w5).alloc (Nat.le_refl _) (.cells #[.int .i64 0, .int .i64 0] 41); have D4 := (D4.mono BA).mono B6'; have B6 := B.below_trans (B5.alloc (by have := B5.size; exact this) _) B6'; obtain ⟨g0, g1, g2, g3⟩ := HN.out _ B6)
    | (go_at_call 18; refine (d7 _ B6).mono ?_; rintro e w7 ⟨v7, rfl, S7, B7'⟩; have B7 := B.below_trans B6 B7'; obtain ⟨g0, g1, g2, g3⟩ := HN.out _ B7; obtain ⟨A7, c7, rfl, D7⟩ := S7; have D4 := D4.mono B7')
    | (go_at_call 19; refine (d8 _).mono ?_; rintro e w8 ⟨rfl, rfl⟩)
    | (go_at_call 10; refine (Eq.eq_twig _ _ xs xs _ ⟨A4, c4, rfl, D4⟩ ⟨A7, c7, rfl, D7⟩ true (decide_eq_true rfl)).mono ?_; rintro e w9 ⟨rfl, B9'⟩; have B9 := B.below_trans B7 B9'; obtain ⟨g0, g1, g2, g3⟩ := HN.out _ B9)
    | (go_at_call 20; refine (d10 _ B9).mono ?_; rintro e wa ⟨rfl, Ba'⟩; have Ba := B.below_trans B9 Ba'; obtain ⟨g0, g1, g2, g3⟩ := HN.out _ Ba)
    | (go_at_call 21; refine (d11 _ Ba).mono ?_; rintro e wb ⟨rfl, Bb'⟩; have Bb := B.below_trans Ba Bb'; obtain ⟨g0, g1, g2, g3⟩ := HN.out _ Bb)
    | (go_at_call 23; refine (d12 _ Bb).mono ?_; rintro e wc ⟨rfl, Bc'⟩; have Bc := B.below_trans Bb Bc'; obtain ⟨g0, g1, g2, g3⟩ := HN.out _ Bc)
    | (go_at_call 22; refine (Links.synced _).mono ?_; rintro e wz ⟨rfl, Bz'⟩; have Bz := B.below_trans Bc Bz'))
  go_ret
  exact ⟨rfl, HB0.out.trans (Bz.mono (by simp; omega))⟩
theorem proved_any (no : Int) (v : Value) (l : List Fl) (key root : ByteArray) (f : Fl) (Af : Option Addr) (cf : Nat) (u : Value) (proof : List Tw) (hs : ∀ g ∈ l, Small g) (hl : l.length ≤ 1048576) (hkey : key.size ≤ 9223372036854775807) (hsf : Small f) (hp : ∀ t ∈ proof, t.2.size ≤ 1048576) (w : World) (h : B.Kd.file.S w v l) (hC : B.Kd.chunk.C w Af f.2) (h2 : B.Kd.twig.S w u proof) (ht : Hex.Tab w) :
    Calls Tryz.prog 7 #[.agg #[.int .i64 no, v], .string key, .string root, .agg #[.string f.1, .slice Af f.2.length cf], u] w fun e w' => e = .returned (.bool true) ∧ Below w.heap.size w w' := by
  by_cases hf : Man.fault no l = 0
  · cases hb : Key.keyB key with
    | false =>
      by_cases hv : verF root f proof = 0
      · exact proved_key_ok no v l key root f Af cf u proof hs hl hkey hsf hp w h hC h2 ht hf hb hv
      · exact proved_key_bad no v l key root f Af cf u proof hs hl hkey hsf hp w h hC h2 ht hf hb hv
    | true =>
      by_cases hv : verF root f proof = 0
      · exact proved_ok_ok no v l key root f Af cf u proof hs hl hkey hsf hp w h hC h2 ht hf hb hv
      · exact proved_ok_bad no v l key root f Af cf u proof hs hl hkey hsf hp w h hC h2 ht hf hb hv
  · by_cases hv : verF root f proof = 0
    · exact proved_man_ok no v l key root f Af cf u proof hs hl hkey hsf hp w h hC h2 ht hf hv
    · exact proved_man_bad no v l key root f Af cf u proof hs hl hkey hsf hp w h hC h2 ht hf hv
end Go.Proofs.YtmcbljongeadeaaGreatDoor.Pf
