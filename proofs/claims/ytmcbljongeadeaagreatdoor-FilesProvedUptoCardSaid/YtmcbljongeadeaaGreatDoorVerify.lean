/- sync.Verify, the reference's VerifyFault and VerifyOf. -/
import Derived.Test.YtmcbljongeadeaaGreatDoorRowsOf
import Derived.Test.YtmcbljongeadeaaGreatDoorFind
namespace Go.Proofs.YtmcbljongeadeaaGreatDoor.Pf
open Go.RowKit

abbrev Tw := Bool × ByteArray
def twF (proof : List Tw) : Int := if 20 < proof.length then 2 else if proof.all (fun t => Key.sumR t.2) = true then 0 else 3
/-- What is wrong with what is to be verified. -/
def verF (root : ByteArray) (f : Fl) (proof : List Tw) : Int :=
  if Key.sumR root = false then 3 else if Files.fault [f] ≠ 0 then Files.fault [f] else twF proof
def one (s : ByteArray) (t : Tw) : ByteArray := if t.1 then Hex.sumB (t.2 ++ s) else Hex.sumB (s ++ t.2)
def verS (s : ByteArray) (proof : List Tw) : ByteArray := proof.foldl one s
def verOf (root : ByteArray) (f : Fl) (proof : List Tw) : Bool := decide (verS (leafS f) proof = root)
theorem one_size (s : ByteArray) (t : Tw) : (one s t).size = 16 := by unfold one; split <;> exact Hex.sumB_size _
theorem lit_file (w : World) (f : Fl) (A : Option Addr) (c : Nat) (h : B.Kd.chunk.C w A f.2) (o : TypeId) :
    B.Kd.file.S (w.alloc (.cells #[.string f.1, .slice A f.2.length c] o)) (.slice (some ⟨w.heap.size, 0, none⟩) 1 1) [f] := by
  refine ⟨_, 1, rfl, by simp, fun _ => ⟨w.heap.size, 0, rfl, fun j hj => ?_⟩⟩
  obtain rfl : j = 0 := by simpa using hj
  refine ⟨[.string f.1, .slice A f.2.length c], ⟨A, c, rfl, h.mono ((Below.refl _ w).alloc (Nat.le_refl _) _)⟩, fun i hi => ?_⟩
  rw [World.cell?_alloc_new]
  have : (#[Value.string f.1, .slice A f.2.length c] : Array Value)[0 + 0 * B.Kd.file.sz + i]? = [Value.string f.1, .slice A f.2.length c][i]? := by simp
  rw [this, List.getElem?_eq_getElem hi]
theorem tw_at {w : World} {A : Option Addr} {xs : List Tw} (h : B.Kd.twig.C w A xs) (j : Nat) (hj : j < xs.length) :
    ∃ b o, A = some ⟨b, o, none⟩ ∧ w.cell? ⟨b, o + j * 2, none⟩ = some (.bool xs[j].1) ∧ w.cell? ⟨b, o + j * 2 + 1, none⟩ = some (.string xs[j].2) := by
  obtain ⟨b5, o5, cs5, rfl, K5, e5⟩ := h.at j hj
  have K6 : cs5 = [.bool xs[j].1, .string xs[j].2] := K5
  subst K6
  exact ⟨b5, o5, rfl, by simpa [B.Kd.twig, B.Kd.flat] using e5 0 (by simp), by simpa [B.Kd.twig, B.Kd.flat] using e5 1 (by simp)⟩
set_option maxHeartbeats 4000000 in
theorem verifyOf (root : ByteArray) (f : Fl) (A : Option Addr) (c : Nat) (v : Value) (proof : List Tw) (hs : Small f) (hp : ∀ t ∈ proof, t.2.size ≤ 1048576) (w : World) (hC : B.Kd.chunk.C w A f.2) (h : B.Kd.twig.S w v proof) (ht : Hex.Tab w) :
    Calls Tryz.prog 23 #[.string root, .agg #[.string f.1, .slice A f.2.length c], v] w fun e w' => e = .returned (.bool (verOf root f proof)) ∧ Below w.heap.size w w' := by
  obtain ⟨Ap, cp, rfl, D⟩ := h
  have L := D.1
  have HA := Lib.hid (fun (c : Array Value) (o : TypeId) => (Below.refl _ w).alloc (Nat.le_refl _) (.cells c o))
  have c1 := fun c' o => fileSum f A c hs _ (hC.mono (HA.out c' o)) (ht.below (HA.out c' o))
  have HT := Lib.hid ht
  have HP := Lib.hid hp
  have hl16 : (leafS f).size = 16 := Hex.sumB_size _
  have HV : Hid (verOf root f proof = decide (verS (leafS f) proof = root)) := Lib.hid rfl
  clear hs ht hp hC
  generalize leafS f = s0 at c1 hl16 HV
  go_enter Tryz.func23, Tryz.ntmps23
  go_wp2_with (go_at_call 45; refine (c1 _ _).mono ?_; rintro e w2 ⟨rfl, HB⟩)
  have HB2 := Lib.hid (B.below_trans (HA.out _ _) HB)
  clear HB HA c1
  go_loopw [7, 14] (fun s7 so wr => ∃ (k : Nat) (s : ByteArray), s7 = .string s ∧ so = .int .i64 k ∧ k ≤ proof.length ∧ s.size = 16 ∧ Hid (verS s0 proof = verS s (proof.drop k)) ∧ Hid (Below w.heap.size w wr)) (fun _ so _ => proof.length - (intOf so).toNat)
  case atStart => exact ⟨0, s0, rfl, rfl, Nat.zero_le _, hl16, Lib.hid rfl, HB2⟩
  case round =>
    obtain ⟨k, s, rfl, rfl, hk, h16, HL, HB⟩ := hrel
    by_cases hlt : k < proof.length
    · obtain ⟨b5, o5, rfl, q0', q1'⟩ := tw_at D k hlt
      have q0 := B.cell_below HB.out q0'
      have q1 := B.cell_below HB.out q1'
      have hk1 : (k : Int) < proof.length := by omega
      have hbw := HB.out.size
      have HL2 : Hid (verS s0 proof = verS (one s proof[k]) (proof.drop (k + 1))) := Lib.hid (by rw [HL.out, List.drop_eq_getElem_cons hlt]; rfl)
      have hsz := HP.out _ (List.getElem_mem hlt)
      clear q0' q1' HL
      generalize proof[k] = t at q0 q1 HL2 hsz
      obtain ⟨b, x⟩ := t
      have HB3 := Lib.hid (HB.out.alloc hbw (.cells #[.bool b, .string x] 33))
      have hx : x.size ≤ 1048576 := hsz
      have hno : ¬ 9223372036854775807 < x.size + s.size := by omega
      have hno2 : ¬ 9223372036854775807 < s.size + x.size := by omega
      have cs := Hex.sum_any (x ++ s) (by rw [ByteArray.size_append]; omega) _ (HT.out.below HB3.out)
      have cs2 := Hex.sum_any (s ++ x) (by rw [ByteArray.size_append]; omega) _ (HT.out.below HB3.out)
      cases b with
      | true =>
        have HL3 : Hid (verS s0 proof = verS (Hex.sumB (x ++ s)) (proof.drop (k + 1))) := Lib.hid (by rw [HL2.out]; rfl)
        go_wp2_with (go_at_call 33; refine cs.mono ?_; rintro e w7 ⟨rfl, HB7⟩)
        go_roundw
        case rel => exact ⟨k + 1, _, rfl, by go_num, by omega, Hex.sumB_size _, HL3, Lib.hid (B.below_trans HB3.out HB7)⟩
        case measure => simp [intOf]; omega
      | false =>
        have HL3 : Hid (verS s0 proof = verS (Hex.sumB (s ++ x)) (proof.drop (k + 1))) := Lib.hid (by rw [HL2.out]; rfl)
        go_wp2_with (go_at_call 33; refine cs2.mono ?_; rintro e w7 ⟨rfl, HB7⟩)
        go_roundw
        case rel => exact ⟨k + 1, _, rfl, by go_num, by omega, Hex.sumB_size _, HL3, Lib.hid (B.below_trans HB3.out HB7)⟩
        case measure => simp [intOf]; omega
    · obtain rfl : k = proof.length := by omega
      have HX : Hid (verOf root f proof = (s.toList == root.toList)) := Lib.hid (by rw [HV.out, HL.out, List.drop_length, Fd.beqS]; rfl)
      go_wp2
      go_ret
      exact ⟨by rw [HX.out]; rfl, HB.out⟩
theorem notSumT (t : Tw) (b : Bool) (hb : Key.sumR t.2 = b) (w : World) : Calls Tryz.prog 43 #[.agg #[.bool t.1, .string t.2]] w fun e w' => e = .returned (.bool (!b)) ∧ Below w.heap.size w w' := by
  have HB := Lib.hid (fun (c : Array Value) (o : TypeId) => (Below.refl _ w).alloc (Nat.le_refl _) (.cells c o))
  have c1 := fun W => Key.sumRight t.2 b hb W
  clear hb
  go_enter Tryz.func43, Tryz.ntmps43
  go_wp2_with (go_at_call 41; refine (c1 _).mono ?_; rintro e w1 ⟨rfl, HB1⟩)
  go_ret
  exact ⟨rfl, B.below_trans (HB.out _ _) HB1⟩
theorem indexT (v : Value) (xs : List Tw) (w : World) (h : B.Kd.twig.S w v xs) (b : Bool) (hb : xs.all (fun t => Key.sumR t.2) = b) :
    Calls Tryz.prog 58 #[v, .func (.func 43) #[] #[]] w fun e w' => ∃ n : Int, e = .returned (.int .i64 n) ∧ decide (0 ≤ n) = (!b) ∧ Below w.heap.size w w' := by
  obtain ⟨A, c, rfl, C⟩ := h
  have L := C.1
  have HBb := Lib.hid hb
  clear hb
  go_enter Tryz.func58, Tryz.ntmps58
  go_wp2
  go_loopw [8] (fun so wr => ∃ (k : Nat), so = .int .i64 k ∧ k ≤ xs.length ∧ Hid ((xs.take k).all (fun t => Key.sumR t.2) = true) ∧ Hid (Below w.heap.size w wr)) (fun so _ => xs.length - (intOf so).toNat)
  case atStart => exact ⟨0, rfl, Nat.zero_le _, Lib.hid rfl, Lib.hid (Below.refl _ _)⟩
  case round =>
    obtain ⟨k, rfl, hk, HT, HB⟩ := hrel
    by_cases hlt : k < xs.length
    · obtain ⟨b5, o5, rfl, q0', q1'⟩ := tw_at C k hlt
      have q0 := B.cell_below HB.out q0'
      have q1 := B.cell_below HB.out q1'
      have hk1 : (k : Int) < xs.length := by omega
      clear q0' q1'
      cases hs1 : Key.sumR xs[k].2 with
      | true =>
        have cs := notSumT xs[k] true hs1 wr
        have HT2 : Hid ((xs.take (k + 1)).all (fun t => Key.sumR t.2) = true) := Lib.hid (by rw [← List.take_append_getElem hlt, List.all_append, HT.out]; simp [hs1])
        clear hs1
        go_wp2_with (go_at_call 43; refine cs.mono ?_; rintro e w5 ⟨rfl, HB5⟩)
        go_roundw
        case rel => exact ⟨k + 1, by go_num, by omega, HT2, Lib.hid (B.below_trans HB.out HB5)⟩
        case measure => simp [intOf]; omega
      | false =>
        have cs := notSumT xs[k] false hs1 wr
        have HX2 : Hid (b = false) := Lib.hid (by
          rw [← HBb.out, Bool.eq_false_iff]
          intro e
          have := List.all_eq_true.1 e xs[k] (List.getElem_mem hlt)
          rw [hs1] at this
          cases this)
        clear hs1
        go_wp2_with (go_at_call 43; refine cs.mono ?_; rintro e w5 ⟨rfl, HB5⟩)
        go_ret
        exact ⟨k, rfl, by rw [HX2.out]; simp, B.below_trans HB.out HB5⟩
    · obtain rfl : k = xs.length := by omega
      have HX2 : Hid (b = true) := Lib.hid (by have := HT.out; rw [List.take_length] at this; rw [← HBb.out, this])
      go_wp2
      go_ret
      exact ⟨-1, rfl, by rw [HX2.out]; rfl, HB.out⟩
theorem containsT (v : Value) (xs : List Tw) (w : World) (h : B.Kd.twig.S w v xs) (b : Bool) (hb : xs.all (fun t => Key.sumR t.2) = b) :
    Calls Tryz.prog 42 #[v, .func (.func 43) #[] #[]] w fun e w' => e = .returned (.bool (!b)) ∧ Below w.heap.size w w' := by
  have ci := indexT v xs w h b hb
  obtain ⟨A, c, rfl, -⟩ := h
  go_enter Tryz.func42, Tryz.ntmps42
  go_wp2_with (go_at_call 58; refine ci.mono ?_; rintro e w1 ⟨n, rfl, hn, HB⟩; have HNX := Lib.hid hn; clear hn)
  go_ret
  exact ⟨by rw [← HNX.out]; rfl, HB⟩
theorem verifyFault (root : ByteArray) (f : Fl) (A : Option Addr) (c : Nat) (v : Value) (proof : List Tw) (hk : f.1.size ≤ 9223372036854775807) (w : World) (hC : B.Kd.chunk.C w A f.2) (h : B.Kd.twig.S w v proof) :
    Calls Tryz.prog 21 #[.string root, .agg #[.string f.1, .slice A f.2.length c], v] w fun e w' => e = .returned (.int .i64 (verF root f proof)) ∧ Below w.heap.size w w' := by
  have HA := Lib.hid (fun (c : Array Value) (o : TypeId) => (Below.refl _ w).alloc (Nat.le_refl _) (.cells c o))
  have HN := Lib.hid (fun (c : Array Value) (o : TypeId) (i : Nat) (u : Value) (w2 : World) (hb : Below (w.alloc (.cells c o)).heap.size (w.alloc (.cells c o)) w2) (hc : c[i]? = some u) => (B.cell_below hb (by rw [World.cell?_alloc_new]; exact hc) : w2.cell? ⟨w.heap.size, i, none⟩ = some u))
  have c1 := fun W b hb => Key.sumRight root b hb W
  have c2 := fun W hW o' => Files.refFault _ [f] (fun g hg => by simp at hg; subst hg; exact hk) _ (lit_file W f A c (hC.mono hW) o')
  have c3 := fun W hW b hb => containsT v proof W (h.mono hW) b hb
  obtain ⟨Ap, cp, rfl, -⟩ := h
  by_cases h1 : Key.sumR root = false
  · have c1 := fun W => c1 W false h1
    have HX : Hid (verF root f proof = 3) := Lib.hid (by unfold verF; rw [if_pos h1])
    clear h1 c2 c3
    go_enter Tryz.func21, Tryz.ntmps21
    go_wp2_with (go_at_call 41; refine (c1 _).mono ?_; rintro e w1 ⟨rfl, HB1⟩)
    go_ret
    exact ⟨by rw [HX.out]; rfl, B.below_trans (HA.out _ _) HB1⟩
  · have h1' : Key.sumR root = true := by simpa using h1
    have c1 := fun W => c1 W true h1'
    have HV : Hid (verF root f proof = if Files.fault [f] ≠ 0 then Files.fault [f] else twF proof) := Lib.hid (by unfold verF; rw [if_neg h1])
    clear h1 h1'
    by_cases hf : Files.fault [f] = 0
    · have HV2 : Hid (verF root f proof = twF proof) := Lib.hid (by rw [HV.out, if_neg (by simpa using hf)])
      rw [hf] at c2
      clear hf HV
      by_cases hl : 20 < proof.length
      · have hli : (20 : Int) < proof.length := by omega
        have HX : Hid (verF root f proof = 2) := Lib.hid (by rw [HV2.out, twF, if_pos hl])
        clear c3
        go_enter Tryz.func21, Tryz.ntmps21
        go_wp2_with (first
          | (go_at_call 41; refine (c1 _).mono ?_; rintro e w1 ⟨rfl, HB1⟩; have g0 := HN.out _ _ 0 (.string f.1) _ HB1 rfl; have g1 := HN.out _ _ 1 (.slice A f.2.length c) _ HB1 rfl; have HB2 := B.below_trans (HA.out _ _) HB1; have HB3 := HB2.alloc HB2.size (.cells #[.string f.1, .slice A f.2.length c] 27))
          | (go_at_call 31; refine (c2 _ HB2 _).mono ?_; rintro e w3 ⟨rfl, HB4⟩; have HB5 := B.below_trans HB3 HB4))
        go_ret
        exact ⟨by rw [HX.out]; rfl, HB5⟩
      · have hli : ¬ (20 : Int) < proof.length := by omega
        cases hb : proof.all (fun t => Key.sumR t.2) with
        | true =>
          have c3 := fun W hW => c3 W hW true hb
          have HX : Hid (verF root f proof = 0) := Lib.hid (by rw [HV2.out, twF, if_neg hl, if_pos hb])
          clear hb
          go_enter Tryz.func21, Tryz.ntmps21
          go_wp2_with (first
            | (go_at_call 41; refine (c1 _).mono ?_; rintro e w1 ⟨rfl, HB1⟩; have g0 := HN.out _ _ 0 (.string f.1) _ HB1 rfl; have g1 := HN.out _ _ 1 (.slice A f.2.length c) _ HB1 rfl; have HB2 := B.below_trans (HA.out _ _) HB1; have HB3 := HB2.alloc HB2.size (.cells #[.string f.1, .slice A f.2.length c] 27))
            | (go_at_call 31; refine (c2 _ HB2 _).mono ?_; rintro e w3 ⟨rfl, HB4⟩; have HB5 := B.below_trans HB3 HB4)
            | (go_at_call 42; refine (c3 _ HB5).mono ?_; rintro e w5 ⟨rfl, HB6⟩))
          go_ret
          exact ⟨by rw [HX.out]; rfl, B.below_trans HB5 HB6⟩
        | false =>
          have c3 := fun W hW => c3 W hW false hb
          have HX : Hid (verF root f proof = 3) := Lib.hid (by rw [HV2.out, twF, if_neg hl, if_neg (by rw [hb]; decide)])
          clear hb
          go_enter Tryz.func21, Tryz.ntmps21
          go_wp2_with (first
            | (go_at_call 41; refine (c1 _).mono ?_; rintro e w1 ⟨rfl, HB1⟩; have g0 := HN.out _ _ 0 (.string f.1) _ HB1 rfl; have g1 := HN.out _ _ 1 (.slice A f.2.length c) _ HB1 rfl; have HB2 := B.below_trans (HA.out _ _) HB1; have HB3 := HB2.alloc HB2.size (.cells #[.string f.1, .slice A f.2.length c] 27))
            | (go_at_call 31; refine (c2 _ HB2 _).mono ?_; rintro e w3 ⟨rfl, HB4⟩; have HB5 := B.below_trans HB3 HB4)
            | (go_at_call 42; refine (c3 _ HB5).mono ?_; rintro e w5 ⟨rfl, HB6⟩))
          go_ret
          exact ⟨by rw [HX.out]; rfl, B.below_trans HB5 HB6⟩
    · have HX : Hid (verF root f proof = Files.fault [f]) := Lib.hid (by rw [HV.out, if_pos hf])
      clear c3 HV
      generalize Files.fault [f] = m at c2 hf HX
      go_enter Tryz.func21, Tryz.ntmps21
      go_wp2_with (first
        | (go_at_call 41; refine (c1 _).mono ?_; rintro e w1 ⟨rfl, HB1⟩; have g0 := HN.out _ _ 0 (.string f.1) _ HB1 rfl; have g1 := HN.out _ _ 1 (.slice A f.2.length c) _ HB1 rfl; have HB2 := B.below_trans (HA.out _ _) HB1; have HB3 := HB2.alloc HB2.size (.cells #[.string f.1, .slice A f.2.length c] 27))
        | (go_at_call 31; refine (c2 _ HB2 _).mono ?_; rintro e w3 ⟨rfl, HB4⟩; have HB5 := B.below_trans HB3 HB4))
      go_ret
      exact ⟨by rw [HX.out]; rfl, HB5⟩
/-- What is answered to what is to be verified. -/
def verB (root : ByteArray) (f : Fl) (proof : List Tw) : Bool := if verF root f proof = 0 then verOf root f proof else false
set_option maxHeartbeats 4000000 in
theorem verify (root : ByteArray) (f : Fl) (A : Option Addr) (c : Nat) (v : Value) (proof : List Tw) (hs : Small f) (hp : ∀ t ∈ proof, t.2.size ≤ 1048576) (w : World) (hC : B.Kd.chunk.C w A f.2) (h : B.Kd.twig.S w v proof) (ht : Hex.Tab w) :
    Calls Tryz.prog 20 #[.string root, .agg #[.string f.1, .slice A f.2.length c], v] w fun e w' => e = .returned (.tuple #[.bool (verB root f proof), .int .i64 (verF root f proof)]) ∧ Below w.heap.size w w' := by
  have hk : f.1.size ≤ 9223372036854775807 := by have := hs.1; omega
  have HA := Lib.hid (fun (c : Array Value) (o : TypeId) => (Below.refl _ w).alloc (Nat.le_refl _) (.cells c o))
  have HN := Lib.hid (fun (c : Array Value) (o : TypeId) (i : Nat) (u : Value) (w2 : World) (hb : Below (w.alloc (.cells c o)).heap.size (w.alloc (.cells c o)) w2) (hc : c[i]? = some u) => (B.cell_below hb (by rw [World.cell?_alloc_new]; exact hc) : w2.cell? ⟨w.heap.size, i, none⟩ = some u))
  have c1 := fun W b hb => Key.isSum root b hb W
  have c2 := fun W hW o' => Files.filesFault _ [f] (fun g hg => by simp at hg; subst hg; exact hk) _ (lit_file W f A c (hC.mono hW) o')
  obtain ⟨Ap, cp, rfl, D⟩ := h
  by_cases h1 : Key.sumR root = false
  · have c1 := fun W => c1 W false h1
    have HX : Hid (verF root f proof = 3) := Lib.hid (by unfold verF; rw [if_pos h1])
    have HY : Hid (verB root f proof = false) := Lib.hid (by unfold verB; rw [HX.out]; rfl)
    clear h1 c2 D
    go_enter Tryz.func20, Tryz.ntmps20
    go_wp2_with (go_at_call 38; refine (c1 _).mono ?_; rintro e w1 ⟨rfl, HB1⟩)
    go_ret2
    exact ⟨by rw [HX.out, HY.out]; rfl, B.below_trans (HA.out _ _) HB1⟩
  · have h1' : Key.sumR root = true := by simpa using h1
    have c1 := fun W => c1 W true h1'
    have HV : Hid (verF root f proof = if Files.fault [f] ≠ 0 then Files.fault [f] else twF proof) := Lib.hid (by unfold verF; rw [if_neg h1])
    clear h1 h1'
    by_cases hf : Files.fault [f] = 0
    · have HV2 : Hid (verF root f proof = twF proof) := Lib.hid (by rw [HV.out, if_neg (by simpa using hf)])
      rw [hf] at c2
      clear hf HV
      by_cases hl : 20 < proof.length
      · have hli : (20 : Int) < proof.length := by omega
        have HX : Hid (verF root f proof = 2) := Lib.hid (by rw [HV2.out, twF, if_pos hl])
        have HY : Hid (verB root f proof = false) := Lib.hid (by unfold verB; rw [HX.out]; rfl)
        clear D
        go_enter Tryz.func20, Tryz.ntmps20
        go_wp2_with (first
          | (go_at_call 38; refine (c1 _).mono ?_; rintro e w1 ⟨rfl, HB1⟩; have g0 := HN.out _ _ 0 (.string f.1) _ HB1 rfl; have g1 := HN.out _ _ 1 (.slice A f.2.length c) _ HB1 rfl; have HB2 := B.below_trans (HA.out _ _) HB1; have HB3 := HB2.alloc HB2.size (.cells #[.string f.1, .slice A f.2.length c] 27))
          | (go_at_call 39; refine (c2 _ HB2 _).mono ?_; rintro e w3 ⟨rfl, HB4⟩; have HB5 := B.below_trans HB3 HB4))
        go_ret2
        exact ⟨by rw [HX.out, HY.out]; rfl, HB5⟩
      · have hli : ¬ (20 : Int) < proof.length := by omega
        have HV3 : Hid (verF root f proof = if proof.all (fun t => Key.sumR t.2) = true then 0 else 3) := Lib.hid (by rw [HV2.out, twF, if_neg hl])
        have cl := fun W hW => leaf f A c hs W (hC.mono hW) (ht.below hW)
        have HT := Lib.hid ht
        have HP := Lib.hid hp
        have hl16 : (leafS f).size = 16 := Hex.sumB_size _
        have HV4 : Hid (verOf root f proof = decide (verS (leafS f) proof = root)) := Lib.hid rfl
        clear hs ht hp hC HV2
        generalize leafS f = s0 at cl hl16 HV4
        have L := D.1
        go_enter Tryz.func20, Tryz.ntmps20
        go_wp2_with (first
          | (go_at_call 38; refine (c1 _).mono ?_; rintro e w1 ⟨rfl, HB1⟩; have g0 := HN.out _ _ 0 (.string f.1) _ HB1 rfl; have g1 := HN.out _ _ 1 (.slice A f.2.length c) _ HB1 rfl; have HB2 := B.below_trans (HA.out _ _) HB1; have HB3 := HB2.alloc HB2.size (.cells #[.string f.1, .slice A f.2.length c] 27))
          | (go_at_call 39; refine (c2 _ HB2 _).mono ?_; rintro e w3 ⟨rfl, HB4⟩; have HB5 := B.below_trans HB3 HB4; have G0 := Lib.hid (B.cell_below (((Below.refl _ w1).alloc (Nat.le_refl _) (.cells #[.string f.1, .slice A f.2.length c] 27)).trans (HB4.mono (by simp))) g0); have G1 := Lib.hid (B.cell_below (((Below.refl _ w1).alloc (Nat.le_refl _) (.cells #[.string f.1, .slice A f.2.length c] 27)).trans (HB4.mono (by simp))) g1); have HB6 := Lib.hid HB5; have HW0 := Lib.hid HB2.size))
        clear HB1 HB2 HB3 HB4 HB5 g0 g1 HN HA c1 c2
        go_loopw [28] (fun so wr => ∃ (k : Nat), so = .int .i64 k ∧ k ≤ proof.length ∧ Hid ((proof.take k).all (fun t => Key.sumR t.2) = true) ∧ Hid (wr.cell? ⟨w.heap.size, 0, none⟩ = some (.string f.1)) ∧ Hid (wr.cell? ⟨w.heap.size, 1, none⟩ = some (.slice A f.2.length c)) ∧ Hid (Below w.heap.size w wr)) (fun so _ => proof.length - (intOf so).toNat)
        case atStart => exact ⟨0, rfl, Nat.zero_le _, Lib.hid rfl, G0, G1, HB6⟩
        case round =>
          obtain ⟨k, rfl, hk, HT2, G0, G1, HB⟩ := hrel
          by_cases hlt : k < proof.length
          · obtain ⟨b5, o5, rfl, q0', q1'⟩ := tw_at D k hlt
            have q0 := B.cell_below HB.out q0'
            have q1 := B.cell_below HB.out q1'
            have hk1 : (k : Int) < proof.length := by omega
            have HBA := Lib.hid ((Below.refl _ wr).alloc (Nat.le_refl _) (.cells #[.bool proof[k].1, .string proof[k].2] 33))
            have HB3 := Lib.hid (HB.out.alloc HB.out.size (.cells #[.bool proof[k].1, .string proof[k].2] 33))
            clear q0' q1'
            cases hs1 : Key.sumR proof[k].2 with
            | true =>
              have cs := fun W => Key.isSum proof[k].2 true hs1 W
              have HT3 : Hid ((proof.take (k + 1)).all (fun t => Key.sumR t.2) = true) := Lib.hid (by rw [← List.take_append_getElem hlt, List.all_append, HT2.out]; simp [hs1])
              clear hs1
              go_wp2_with (go_at_call 38; refine (cs _).mono ?_; rintro e w5 ⟨rfl, HB5⟩)
              go_roundw
              case rel => exact ⟨k + 1, by go_num, by omega, HT3, Lib.hid (B.cell_below (HBA.out.trans (HB5.mono (by simp))) G0.out), Lib.hid (B.cell_below (HBA.out.trans (HB5.mono (by simp))) G1.out), Lib.hid (B.below_trans HB3.out HB5)⟩
              case measure => simp [intOf]; omega
            | false =>
              have cs := fun W => Key.isSum proof[k].2 false hs1 W
              have HX : Hid (verF root f proof = 3) := Lib.hid (by
                rw [HV3.out, if_neg]
                intro e
                have := List.all_eq_true.1 e proof[k] (List.getElem_mem hlt)
                rw [hs1] at this
                cases this)
              have HY : Hid (verB root f proof = false) := Lib.hid (by unfold verB; rw [HX.out]; rfl)
              clear hs1
              go_wp2_with (go_at_call 38; refine (cs _).mono ?_; rintro e w5 ⟨rfl, HB5⟩)
              go_ret2
              exact ⟨by rw [HX.out, HY.out]; rfl, B.below_trans HB3.out HB5⟩
          · obtain rfl : k = proof.length := by omega
            have HX : Hid (verF root f proof = 0) := Lib.hid (by have := HT2.out; rw [List.take_length] at this; rw [HV3.out, if_pos this])
            have HY : Hid (verB root f proof = decide (verS s0 proof = root)) := Lib.hid (by unfold verB; rw [if_pos HX.out, HV4.out])
            have g0 := G0.out
            have g1 := G1.out
            have c9 := cl wr HB.out
            clear G0 G1 HT2 cl
            go_wp2_with (go_at_call 40; refine c9.mono ?_; rintro e w2 ⟨rfl, HB7⟩)
            have HB2 := Lib.hid (B.below_trans HB.out HB7)
            clear HB7 HB c9 g0 g1
            go_loopw [11, 41] (fun s7 so wr => ∃ (k : Nat) (s : ByteArray), s7 = .string s ∧ so = .int .i64 k ∧ k ≤ proof.length ∧ s.size = 16 ∧ Hid (verS s0 proof = verS s (proof.drop k)) ∧ Hid (Below w.heap.size w wr)) (fun _ so _ => proof.length - (intOf so).toNat)
            case atStart => exact ⟨0, s0, rfl, rfl, Nat.zero_le _, hl16, Lib.hid rfl, HB2⟩
            case round =>
              obtain ⟨k, s, rfl, rfl, hk, h16, HL, HB⟩ := hrel
              by_cases hlt : k < proof.length
              · obtain ⟨b5, o5, rfl, q0', q1'⟩ := tw_at D k hlt
                have q0 := B.cell_below HB.out q0'
                have q1 := B.cell_below HB.out q1'
                have hk1 : (k : Int) < proof.length := by omega
                have hbw := HB.out.size
                have HL2 : Hid (verS s0 proof = verS (one s proof[k]) (proof.drop (k + 1))) := Lib.hid (by rw [HL.out, List.drop_eq_getElem_cons hlt]; rfl)
                have hsz := HP.out _ (List.getElem_mem hlt)
                clear q0' q1' HL
                generalize proof[k] = t at q0 q1 HL2 hsz
                obtain ⟨b, x⟩ := t
                have HB3 := Lib.hid (HB.out.alloc hbw (.cells #[.bool b, .string x] 33))
                have hx : x.size ≤ 1048576 := hsz
                have hno : ¬ 9223372036854775807 < x.size + s.size := by omega
                have hno2 : ¬ 9223372036854775807 < s.size + x.size := by omega
                have cs := Hex.sumOf_any (x ++ s) (by rw [ByteArray.size_append]; omega) _ (HT.out.below HB3.out)
                have cs2 := Hex.sumOf_any (s ++ x) (by rw [ByteArray.size_append]; omega) _ (HT.out.below HB3.out)
                cases b with
                | true =>
                  have HL3 : Hid (verS s0 proof = verS (Hex.sumB (x ++ s)) (proof.drop (k + 1))) := Lib.hid (by rw [HL2.out]; rfl)
                  go_wp2_with (go_at_call 28; refine cs.mono ?_; rintro e w7 ⟨rfl, HB7⟩)
                  go_roundw
                  case rel => exact ⟨k + 1, _, rfl, by go_num, by omega, Hex.sumB_size _, HL3, Lib.hid (B.below_trans HB3.out HB7)⟩
                  case measure => simp [intOf]; omega
                | false =>
                  have HL3 : Hid (verS s0 proof = verS (Hex.sumB (s ++ x)) (proof.drop (k + 1))) := Lib.hid (by rw [HL2.out]; rfl)
                  go_wp2_with (go_at_call 28; refine cs2.mono ?_; rintro e w7 ⟨rfl, HB7⟩)
                  go_roundw
                  case rel => exact ⟨k + 1, _, rfl, by go_num, by omega, Hex.sumB_size _, HL3, Lib.hid (B.below_trans HB3.out HB7)⟩
                  case measure => simp [intOf]; omega
              · obtain rfl : k = proof.length := by omega
                have HZ : Hid (verB root f proof = (s.toList == root.toList)) := Lib.hid (by rw [HY.out, HL.out, List.drop_length, Fd.beqS]; rfl)
                go_wp2
                go_ret2
                exact ⟨by rw [HX.out, HZ.out]; rfl, HB.out⟩
    · have HX : Hid (verF root f proof = Files.fault [f]) := Lib.hid (by rw [HV.out, if_pos hf])
      have HY : Hid (verB root f proof = false) := Lib.hid (by unfold verB; rw [HX.out, if_neg hf])
      clear HV D
      generalize Files.fault [f] = m at c2 hf HX
      go_enter Tryz.func20, Tryz.ntmps20
      go_wp2_with (first
        | (go_at_call 38; refine (c1 _).mono ?_; rintro e w1 ⟨rfl, HB1⟩; have g0 := HN.out _ _ 0 (.string f.1) _ HB1 rfl; have g1 := HN.out _ _ 1 (.slice A f.2.length c) _ HB1 rfl; have HB2 := B.below_trans (HA.out _ _) HB1; have HB3 := HB2.alloc HB2.size (.cells #[.string f.1, .slice A f.2.length c] 27))
        | (go_at_call 39; refine (c2 _ HB2 _).mono ?_; rintro e w3 ⟨rfl, HB4⟩; have HB5 := B.below_trans HB3 HB4))
      go_ret2
      exact ⟨by rw [HX.out, HY.out]; rfl, HB5⟩
end Go.Proofs.YtmcbljongeadeaaGreatDoor.Pf
