/- The spreader's key. Printed by wip/gen/skeygen.py. The spreader's find. Printed by wip/gen/seekgen.py. The program's Spread. Printed by wip/gen/spgen.py. The reference's roomy. Printed by wip/gen/roomygen.py. The closure of the reference's SpreadOf. Printed by wip/gen/trygen.py. The reference's SpreadOf. Printed by wip/gen/sogen.py. -/
import Derived.Test.YtlfobpjefklccaaGreatDoorSprA
import Derived.Test.YtlfobpjefklccaaGreatDoorBuilder
import Derived.Test.YtlfobpjefklccaaGreatDoorSmall
import Derived.Deep.Cut
import Derived.StillTailTactics
import Derived.Carry
import Derived.Laws.EntriesVeiled
namespace Go.Proofs.YtlfobpjefklccaaGreatDoor.Sp
open Go.RowKit
open F (Fr Cl)

theorem dd_len {n : Nat} (h : n < 100) : (Lib.decDigits n).length ≤ 2 := by
  rw [dd_small h]
  split
  · exact Nat.le_succ 1
  · exact Nat.le_refl 2
theorem kst1_len {x y : Nat} (hx : x < 100) (hy : y < 100) : (kst1 (x : Int) (y : Int)).length ≤ 6 := by
  have h1 := dd_len hx
  have h2 := dd_len hy
  have e : (kst1 (x : Int) (y : Int)).length = (Lib.decDigits x).length + 1 + (Lib.decDigits y).length + 1 := by
    unfold kst1
    rw [List.length_append, List.length_append, List.length_append]
    rfl
  omega
set_option maxHeartbeats 4000000 in
set_option maxRecDepth 100000 in
theorem key {w0 w : World} {b : Nat} {A : Option Addr} {c : Nat} {l : List Wn} {gL cL gW cW m : Nat} {vO : Value} {left wait : List Int} {out bd : List ByteArray} (h : Sd w0 w b A c l gL cL gW cW m vO left wait out bd) (hI : ∀ i, In (g0 left i)) (hJ : ∀ i, In (g0 wait i)) (hn : l.length ≤ 12) :
    Calls Tryz.prog 83 #[.pointer (some ⟨b, 0, none⟩)] w fun e w' => e = .returned (.string ⟨(kst left wait l.length).toArray⟩) ∧ Below w.heap.size w w' := by
  have HBI := Lib.hid (Lib.IsBuilderF.of (Lib.fresh_isBuilder 163 5 w))
  have HBx := Lib.hid ((Below.refl w.heap.size w).alloc (Nat.le_refl _) (.cells #[.pointer none, .slice none 0 0] 163))
  have HC1 : Hid (∀ W, Below w.heap.size w W → W.cell? ⟨b, 1, none⟩ = some (.slice (some ⟨gL, 0, none⟩) l.length cL)) := Lib.hid (fun W hW => (h.below hW).c1.1)
  have HC2 : Hid (∀ W, Below w.heap.size w W → W.cell? ⟨b, 2, none⟩ = some (.slice (some ⟨gW, 0, none⟩) l.length cW)) := Lib.hid (fun W hW => (h.below hW).c2.1)
  have HL : Hid (∀ W, Below w.heap.size w W → ∀ k, k < l.length → W.cell? ⟨gL, k, none⟩ = some (.int .i64 (g0 left k))) := Lib.hid (fun W hW k hk => ((h.below hW).L k (by rw [h.ll]; exact hk)).1)
  have HW : Hid (∀ W, Below w.heap.size w W → ∀ k, k < l.length → W.cell? ⟨gW, k, none⟩ = some (.int .i64 (g0 wait k))) := Lib.hid (fun W hW k hk => ((h.below hW).W k (by rw [h.wl]; exact hk)).1)
  have HKL := Lib.hid (kst_len hI hJ)
  have HII := Lib.hid hI
  have HJJ := Lib.hid hJ
  have r1 := HC1.out _ HBx.out
  clear h hI hJ
  go_enter Tryz.func83, Tryz.ntmps83
  go_wp2
  clear r1
  go_loopw [11] (fun so wr => ∃ (k : Nat), so = .int .i64 k ∧ k ≤ l.length ∧ Hid (Lib.IsBuilderF 163 5 w.heap.size w.heap.size (Lib.byteCells (kst left wait k)) wr) ∧ Hid (Below w.heap.size w wr)) (fun so _ => l.length - (intOf so).toNat)
  case atStart => exact ⟨0, rfl, Nat.zero_le _, HBI, HBx⟩
  case round =>
    obtain ⟨k, rfl, hkl, HU, HB⟩ := hrel
    by_cases hlt : k < l.length
    · have hk1 : (k : Int) < l.length := by omega
      have q0 := HL.out wr HB.out k hlt
      have HQ : Hid (∀ W, Below w.heap.size w W → W.cell? ⟨gW, k, none⟩ = some (.int .i64 (g0 wait k))) := Lib.hid (fun W hW => HW.out W hW k hlt)
      have HKS : Hid (kst left wait (k + 1) = kst left wait k ++ kst1 (g0 left k) (g0 wait k)) := Lib.hid rfl
      have hkk := HKL.out k
      obtain ⟨x, hx, hx1⟩ : ∃ x : Nat, g0 left k = x ∧ x < 100 := ⟨(g0 left k).toNat, by have := HII.out k; unfold In at this; omega, by have := HII.out k; unfold In at this; omega⟩
      obtain ⟨y, hy, hy1⟩ : ∃ y : Nat, g0 wait k = y ∧ y < 100 := ⟨(g0 wait k).toNat, by have := HJJ.out k; unfold In at this; omega, by have := HJJ.out k; unfold In at this; omega⟩
      rw [hx] at q0 HKS
      rw [hy] at HQ HKS
      have HI1 := Lib.hid (Tryz.strconv_Itoa_small x hx1)
      have HI2 := Lib.hid (Tryz.strconv_Itoa_small y hy1)
      have HKZ := Lib.hid (kst1_len hx1 hy1)
      have hd1 := dd_len hx1
      have hd2 := dd_len hy1
      have HN1 : Hid (¬ 9223372036854775807 < (Lib.decDigits x).length + 1) := Lib.hid (by omega)
      have HN2 : Hid (¬ 9223372036854775807 < (Lib.decDigits x).length + 1 + (Lib.decDigits y).length) := Lib.hid (by omega)
      have HN3 : Hid (¬ 9223372036854775807 < (Lib.decDigits x).length + 1 + (Lib.decDigits y).length + 1) := Lib.hid (by omega)
      have HSL : Hid (((((⟨(Lib.decDigits x).toArray⟩ : ByteArray) ++ ⟨#[58]⟩) ++ ⟨(Lib.decDigits y).toArray⟩) ++ ⟨#[32]⟩ : ByteArray).data.toList = kst1 (x : Int) (y : Int)) := Lib.hid (by unfold kst1; simp)
      have HCW : Hid (∀ s : ByteArray, s.data.toList = kst1 (x : Int) (y : Int) → Calls Tryz.prog 108 #[.pointer (some ⟨w.heap.size, 0, none⟩), .string s] (wr.drewN 1) fun e w' => e = .returned (.tuple #[.int .i64 s.size, .nilIface]) ∧ Lib.IsBuilderF 163 5 w.heap.size w.heap.size (Lib.byteCells (kst left wait (k + 1))) w' ∧ Below w.heap.size (wr.drewN 1) w') := Lib.hid (fun s hs => by
        have hU : Lib.IsBuilderF 163 5 w.heap.size w.heap.size (Lib.byteCells (kst left wait k)) (wr.drewN 1) := HU.out
        have hsz : s.size = (kst1 (x : Int) (y : Int)).length := by rw [← hs]; exact (Array.length_toList).symm
        have := Bd.write w.heap.size w.heap.size _ s _ hU (by rw [Lib.byteCells_length]; have := HKZ.out; omega) (by have := HB.out.size; simpa using this)
        rwa [Lib.strCells_eq, hs, ← Lib.byteCells_append, ← HKS.out] at this)
      clear hx hy hkk hd1 hd2
      go_upto_region 5 with (fail)
      refine wp_region_held_drew (S := fun w' => Below w.heap.size w w') (by kernel_rfl) (B.below_drew HB.out 1) (fun hHeld => ?_)
      refine wpAnyH_take (i := 0) (v := ?_) At.at0 (by kernel_rfl) (by kernel_rfl) (by kernel_rfl) (fun _ _ _ h => h) (Or.inl ⟨by rfl, ?_⟩) (by assumption) ?_
      rotate_left
      · (intro w9 hSw; (try dsimp only at hSw); go_simp; try (with_reducible rfl))
      try simp only [Act.put, List.setIfInBounds_toArray, List.set_cons_zero, List.set_cons_succ]
      refine wpAnyH_take (i := 3) (v := ?_) At.at3 (by kernel_rfl) (by kernel_rfl) (by kernel_rfl) (fun _ _ _ h => h) (Or.inl ⟨by rfl, ?_⟩) (by assumption) ?_
      rotate_left
      · (intro w9 hSw; (try dsimp only at hSw); go_simp; try (with_reducible rfl))
      try simp only [Act.put, List.setIfInBounds_toArray, List.set_cons_zero, List.set_cons_succ]
      refine wpAnyH_take (i := 4) (v := ?_) At.at4 (by kernel_rfl) (by kernel_rfl) (by kernel_rfl) (fun _ _ _ h => h) (Or.inl ⟨by rfl, ?_⟩) (by assumption) ?_
      rotate_left
      · (intro w9 hSw; (try dsimp only at hSw); go_simp; try (with_reducible rfl))
      try simp only [Act.put, List.setIfInBounds_toArray, List.set_cons_zero, List.set_cons_succ]
      refine wpAnyH_take (i := 5) (v := ?_) At.at5 (by kernel_rfl) (by kernel_rfl) (by kernel_rfl) (fun _ _ _ h => h) (Or.inl ⟨by rfl, ?_⟩) (by assumption) ?_
      rotate_left
      · (intro w9 hSw; (try dsimp only at hSw); go_simp; try (with_reducible rfl))
      try simp only [Act.put, List.setIfInBounds_toArray, List.set_cons_zero, List.set_cons_succ]
      refine wpAnyH_take (i := 6) (v := ?_) At.at6 (by kernel_rfl) (by kernel_rfl) (by kernel_rfl) (fun _ _ _ h => h) (Or.inl ⟨by rfl, ?_⟩) (by assumption) ?_
      rotate_left
      · (intro w9 hSw; (try dsimp only at hSw); have hcc := HC2.out w9 hSw; go_simp; try (with_reducible rfl))
      try simp only [Act.put, List.setIfInBounds_toArray, List.set_cons_zero, List.set_cons_succ]
      refine wpAnyH_take (i := 7) (v := ?_) At.at7 (by kernel_rfl) (by kernel_rfl) (by kernel_rfl) (fun _ _ _ h => h) (Or.inl ⟨by rfl, ?_⟩) (by assumption) ?_
      rotate_left
      · (intro w9 hSw; (try dsimp only at hSw); go_simp; try (with_reducible rfl))
      try simp only [Act.put, List.setIfInBounds_toArray, List.set_cons_zero, List.set_cons_succ]
      refine wpAnyH_take (i := 8) (v := ?_) At.at8 (by kernel_rfl) (by kernel_rfl) (by kernel_rfl) (fun _ _ _ h => h) (Or.inl ⟨by rfl, ?_⟩) (by assumption) ?_
      rotate_left
      · (intro w9 hSw; (try dsimp only at hSw); go_simp; try (with_reducible rfl))
      try simp only [Act.put, List.setIfInBounds_toArray, List.set_cons_zero, List.set_cons_succ]
      refine wpAnyH_take (i := 9) (v := ?_) At.at9 (by kernel_rfl) (by kernel_rfl) (by kernel_rfl) (fun _ _ _ h => h) (Or.inl ⟨by rfl, ?_⟩) (by assumption) ?_
      rotate_left
      · (intro w9 hSw; (try dsimp only at hSw); have hcc := HQ.out w9 hSw; go_simp; try (with_reducible rfl))
      try simp only [Act.put, List.setIfInBounds_toArray, List.set_cons_zero, List.set_cons_succ]
      refine wpAnyH_ready (rs := [1]) (by kernel_rfl) (by simp) ?_
      refine AllReadyH.cons At.at1 (fun K hK => ?_) AllReadyH.nil
      go_simp
      go_at_call 109; refine (HI1.out _).mono ?_; rintro e w5 ⟨rfl, rfl⟩
      go_simp
      refine hK.out _ _ (by assumption) (fun hHeld => ?_)
      clear hK K
      try simp only [Act.put, List.setIfInBounds_toArray, List.set_cons_zero, List.set_cons_succ]
      refine wpAnyH_take (i := 2) (v := ?_) At.at2 (by kernel_rfl) (by kernel_rfl) (by kernel_rfl) (fun _ _ _ h => h) (Or.inl ⟨by rfl, ?_⟩) (by assumption) ?_
      rotate_left
      · (intro w9 hSw; (try dsimp only at hSw); have hno := HN1.out; go_simp; try (with_reducible rfl))
      try simp only [Act.put, List.setIfInBounds_toArray, List.set_cons_zero, List.set_cons_succ]
      refine wpAnyH_ready (rs := [10]) (by kernel_rfl) (by simp) ?_
      refine AllReadyH.cons At.at10 (fun K hK => ?_) AllReadyH.nil
      go_simp
      go_at_call 109; refine (HI2.out _).mono ?_; rintro e w5 ⟨rfl, rfl⟩
      go_simp
      refine hK.out _ _ (by assumption) (fun hHeld => ?_)
      clear hK K
      try simp only [Act.put, List.setIfInBounds_toArray, List.set_cons_zero, List.set_cons_succ]
      refine wpAnyH_take (i := 11) (v := ?_) At.at11 (by kernel_rfl) (by kernel_rfl) (by kernel_rfl) (fun _ _ _ h => h) (Or.inl ⟨by rfl, ?_⟩) (by assumption) ?_
      rotate_left
      · (intro w9 hSw; (try dsimp only at hSw); have hno := HN2.out; go_simp; try (with_reducible rfl))
      try simp only [Act.put, List.setIfInBounds_toArray, List.set_cons_zero, List.set_cons_succ]
      refine wpAnyH_take (i := 12) (v := ?_) At.at12 (by kernel_rfl) (by kernel_rfl) (by kernel_rfl) (fun _ _ _ h => h) (Or.inl ⟨by rfl, ?_⟩) (by assumption) ?_
      rotate_left
      · (intro w9 hSw; (try dsimp only at hSw); have hno := HN3.out; go_simp; try (with_reducible rfl))
      try simp only [Act.put, List.setIfInBounds_toArray, List.set_cons_zero, List.set_cons_succ]
      refine wpAnyH_ready (rs := [13]) (by kernel_rfl) (by simp) ?_
      refine AllReadyH.cons At.at13 (fun K hK => ?_) AllReadyH.nil
      go_simp
      go_at_call 108; refine (HCW.out _ HSL.out).mono ?_; rintro e w7 ⟨rfl, hU7, hB7⟩; have HU7 := Lib.hid hU7; have HB7 := Lib.hid ((B.below_drew HB.out 1).trans hB7); clear hU7 hB7
      go_simp
      refine hK.out _ _ (HB7.out) (fun hHeld => ?_)
      clear hK K
      try simp only [Act.put, List.setIfInBounds_toArray, List.set_cons_zero, List.set_cons_succ]
      refine wpAnyH_done (by kernel_rfl) ?_ _
      go_wp2
      go_roundw
      case rel => exact ⟨k + 1, by go_num, by omega, HU7, HB7⟩
      case measure => simp [intOf]; omega
    · obtain rfl : k = l.length := by omega
      have cs := Lib.hid (Tryz.Builder_String_any_f w.heap.size w.heap.size (kst left wait l.length) wr HU.out (by have := HB.out.size; simpa using this))
      go_wp2_with (go_at_call 110; refine cs.out.mono ?_; rintro e w7 ⟨rfl, -, HB7⟩)
      go_ret
      exact ⟨rfl, HB.out.trans HB7⟩
end Go.Proofs.YtlfobpjefklccaaGreatDoor.Sp
namespace Go.Proofs.YtlfobpjefklccaaGreatDoor.Sp
open Go.RowKit
open F (Fr Cl)

theorem info_str : (Tryz.prog.info? 9).map (fun i => (i.zero, i.size, i.bytes)) = some (some (.string ⟨#[]⟩), 1, 16) := by kernel_rfl
theorem zeroBool (w : World) : (zeroValue 4).run Tryz.prog w = .ok (.bool false) w := by kernel_rfl
theorem clone_ir {w : World} {g c : Nat} {xs : List Int} (h : Ir w g xs) (hn : xs.length ≤ 12) : Calls Tryz.prog 37 #[.slice (some ⟨g, 0, none⟩) xs.length c] w fun e w' => (∃ g' c', e = .returned (.slice (some ⟨g', 0, none⟩) xs.length c') ∧ w.heap.size ≤ g' ∧ g' < w'.heap.size ∧ Ir w' g' xs) ∧ Below w.heap.size w w' := by
  refine (Tryz.slices_Clone_int g 0 xs.length c xs w (Nat.le_refl _) (by omega) (fun j hj => by rw [Nat.zero_add]; exact (h j hj).1)).mono ?_
  rintro e w' ⟨v', rfl, hO, hne, hB⟩
  rw [List.take_length] at hO
  refine ⟨?_, hB⟩
  rcases hO.2 with ⟨h0, -⟩ | ⟨g', cap, cur, rfl, hb, -⟩
  · exact absurd h0 hne
  · exact ⟨g', cap, rfl, hb, (World.ownsRow.lt hO g' rfl).2, Ir.of_own hO⟩
/-- Through a piece of the walk by what holds behind it. -/
theorem wp_mid {P : Program} {c : Code} {Q : Exit → Act → World → Prop} {a : Act} {w : World} {R : Option Addr → Nat → World → Prop} {V : Option Addr → Nat → World → World} {F : Option Addr → Nat → Act}
    (walk : c.wp P (fun e a' w' => e = .normal ∧ ∃ x y z, R x y z ∧ a' = F x y ∧ w' = V x y z) a w) (cont : ∀ x y z, R x y z → Q .normal (F x y) (V x y z)) : c.wp P Q a w :=
  Code.wp_mono (by rintro e a' w' ⟨rfl, x, y, z, h, rfl, rfl⟩; exact cont x y z h) walk
/-- What find tells, by what there is. -/
def FR (w0 w : World) (b : Nat) (A : Option Addr) (c : Nat) (l : List Wn) (gL cL gW m : Nat) (vO : Value) (left wait : List Int) (out : List ByteArray) (o : Option (List ByteArray)) (e : Ending) (w' : World) : Prop := match o with
  | some r => e = .returned (.bool true) ∧ (∃ v, w'.cell? ⟨b, 3, none⟩ = some v ∧ B.Own w' w0.heap.size 9 1 strE v (out ++ r)) ∧ Fr (Sx b gL gW m vO) w w'
  | none => e = .returned (.bool false) ∧ ∃ gW' cW' v bd, Sf w0 w w' b A c l gL cL gW gW' cW' m vO v left wait out bd
def FindAt (w0 : World) (b : Nat) (A : Option Addr) (c : Nat) (l : List Wn) (gL cL m mo : Nat) : Prop :=
  ∀ (gW cW : Nat) (vO : Value) (left wait : List Int) (out bd : List ByteArray) (w : World), Sd w0 w b A c l gL cL gW cW m vO left wait out bd → Bad l bd → (∀ i, 0 ≤ g0 left i ∧ g0 left i ≤ 12) → (∀ i, 0 ≤ g0 wait i ∧ g0 wait i ≤ 12) → sm left = mo → out.length + mo ≤ 12 →
    Calls Tryz.prog 58 #[.pointer (some ⟨b, 0, none⟩), .int .i64 mo] w (FR w0 w b A c l gL cL gW m vO left wait out (sr l mo left wait))
set_option maxHeartbeats 4000000 in
set_option maxRecDepth 100000 in
theorem find_zero (w0 : World) (b : Nat) (A : Option Addr) (c : Nat) (l : List Wn) (gL cL m : Nat) : FindAt w0 b A c l gL cL m 0 := by
  intro gW cW vO left wait out bd w h _ _ _ _ _
  have HS := Lib.hid h
  clear h
  go_enter Tryz.func58, Tryz.ntmps58
  go_wp2
  go_ret
  exact ⟨rfl, ⟨vO, HS.out.c3.1, by rw [List.append_nil]; exact HS.out.O⟩, Fr.refl _ _⟩
set_option maxHeartbeats 16000000 in
set_option maxRecDepth 100000 in
theorem find_step (w0 : World) (b : Nat) (A : Option Addr) (c : Nat) (l : List Wn) (gL cL m mo : Nat) (hn : l.length ≤ 12) (hA : ∀ i, 0 ≤ ap l i ∧ ap l i ≤ 12) (IH : FindAt w0 b A c l gL cL m mo) : FindAt w0 b A c l gL cL m (mo + 1) := by
  intro gW cW vO left wait out bd w h hbad hL hW hs ho
  have HIH := Lib.hid IH
  have HLB := Lib.hid hL
  have HWB := Lib.hid hW
  have HAP := Lib.hid hA
  have HSM := Lib.hid hs
  have HLO := Lib.hid ho
  have hI : ∀ i, In (g0 left i) := fun i => by have := hL i; unfold In; omega
  have hJ : ∀ i, In (g0 wait i) := fun i => by have := hW i; unfold In; omega
  have HKEY := Lib.hid (key h hI hJ hn)
  have HBH := Lib.hid (fun hk => Bad.has hbad h.ll h.wl hI hJ hs hk)
  have HBA := Lib.hid (fun (bd1 : List ByteArray) (hb : Bad l bd1) hk => Bad.add hb h.ll h.wl hI hJ hs hk)
  obtain ⟨f, hf⟩ : ∃ f, f = fun i => if g0 left i = 0 ∨ 0 < g0 wait i then none else (sr l mo (left.set i (g0 left i - 1)) (dec wait i (ap l i))).map (it l i :: ·) := ⟨_, rfl⟩
  have HF := Lib.hid hf
  have HSR : Hid (fs f 0 l.length = sr l (mo + 1) left wait) := Lib.hid (by rw [hf]; rfl)
  have HS := Lib.hid (Sf.start h hbad)
  have hne : ((mo : Int) + 1 == 0) = false := by simp; omega
  have hmb : mo < 12 := by omega
  clear IH hL hW hA hs ho hI hJ h hbad hf
  rw [show ((mo + 1 : Nat) : Int) = (mo : Int) + 1 from rfl]
  generalize sr l (mo + 1) left wait = R at *
  generalize (⟨(kst left wait l.length).toArray⟩ : ByteArray) = K0 at *
  go_enter Tryz.func58, Tryz.ntmps58
  go_upto_region 4 with (go_at_call 83; refine HKEY.out.mono ?_; rintro e w1 ⟨rfl, hB1⟩; have HS1 := Lib.hid (HS.out.below hB1); clear hB1)
  have c4 := HS1.out.sd.c4.1
  have HLK := Lib.hid (look_bds bd K0)
  cases hh : hs bd K0 with
  | true =>
    rw [hh, if_pos rfl] at HLK
    obtain rfl := HBH.out (hs_iff.1 hh)
    go_wp2_with (at_lookup; refine M.wpl_look rfl _ _ 107 rfl 9 4 Tryz.underlying107 Tryz.underlying9 _ (zeroBool _) m _ HS1.out.sd.M rfl _ rfl ?_; simp only [HLK.out, Option.getD_some])
    go_ret
    exact ⟨rfl, gW, cW, vO, bd, HS1.out⟩
  | false =>
    rw [hh, if_neg (by simp)] at HLK
    go_upto_region 6 with (at_lookup; refine M.wpl_look rfl _ _ 107 rfl 9 4 Tryz.underlying107 Tryz.underlying9 _ (zeroBool _) m _ HS1.out.sd.M rfl _ rfl ?_; simp only [HLK.out, Option.getD_none])
    have c0 := HS1.out.sd.c0.1
    clear c4 HLK hh HBH HS
    go_wp2
    clear c0
    go_loopw [25] (fun s25 wr => ∃ (i : Nat), s25 = .int .i64 i ∧ i ≤ l.length ∧ Hid (fs f i (l.length - i) = R) ∧ Hid (∃ gW1 cW1 v1 bd1, Sf w0 w wr b A c l gL cL gW gW1 cW1 m vO v1 left wait out bd1)) (fun s _ => l.length - (intOf s).toNat)
    case atStart => exact ⟨0, rfl, Nat.zero_le _, HSR, Lib.hid ⟨gW, cW, vO, bd, HS1.out⟩⟩
    case round =>
      obtain ⟨i, rfl, hi, HFI, HSI⟩ := hrel
      obtain ⟨gW1, cW1, v1, bd1, hS⟩ := HSI.out
      by_cases hlt : i < l.length
      · have hk1 : (i : Int) < l.length := by omega
        obtain ⟨b5, o5, rfl, q0, q1, q2⟩ := Wn.wn_at (hS.sd.wn.mono hS.sd.be) i hlt
        rw [← it_at hlt] at q0
        rw [← ap_at hlt] at q2
        have HF0 : Hid (f i = none → fs f (i + 1) (l.length - (i + 1)) = R) := Lib.hid (fun h0 => by
          have := HFI.out
          rw [show l.length - i = (l.length - (i + 1)) + 1 by omega, fs, h0] at this
          exact this)
        have HF1 : Hid (∀ r, f i = some r → R = some r) := Lib.hid (fun r h0 => by
          have := HFI.out
          rw [show l.length - i = (l.length - (i + 1)) + 1 by omega, fs, h0] at this
          exact this.symm)
        have HX := HLB.out i
        have HY := HWB.out i
        obtain ⟨x, hx⟩ : ∃ x, g0 left i = x := ⟨_, rfl⟩
        obtain ⟨y, hy⟩ : ∃ y, g0 wait i = y := ⟨_, rfl⟩
        rw [hx] at HX
        rw [hy] at HY
        have HFX : Hid (f i = if x = 0 ∨ 0 < y then none else (sr l mo (left.set i (x - 1)) (dec wait i (ap l i))).map (it l i :: ·)) := Lib.hid (by rw [HF.out]; simp only [hx, hy])
        have HXL := Lib.hid hx
        clear HFI HSI
        go_upto_region 9 with (fail)
        have HAL : Hid (Below wr.heap.size wr (wr.alloc (.cells #[.string (it l i), .int .i64 l[i].2.1, .int .i64 (ap l i)] 32))) := Lib.hid ((Below.refl _ _).alloc (Nat.le_refl _) _)
        have p0 : (wr.alloc (.cells #[.string (it l i), .int .i64 l[i].2.1, .int .i64 (ap l i)] 32)).cell? ⟨wr.heap.size, 0, none⟩ = some (.string (it l i)) := by rw [World.cell?_alloc_new]; rfl
        have p2 : (wr.alloc (.cells #[.string (it l i), .int .i64 l[i].2.1, .int .i64 (ap l i)] 32)).cell? ⟨wr.heap.size, 2, none⟩ = some (.int .i64 (ap l i)) := by rw [World.cell?_alloc_new]; rfl
        have hS1 := hS.below HAL.out
        have HVN : Hid (∀ g, v1.ownBlock = some g → g ≠ wr.heap.size) := Lib.hid (fun g e => by have := hS.sd.lt.2.2 g e; omega)
        have HNN : Hid (b ≠ wr.heap.size ∧ gL ≠ wr.heap.size ∧ gW1 ≠ wr.heap.size ∧ m ≠ wr.heap.size) := Lib.hid (by have h1 := hS.sd.lt; have h2 := hS.sd.hs; exact ⟨by omega, by omega, by omega, by omega⟩)
        clear q0 q1 q2 hS HAL
        generalize wr.alloc (.cells #[.string (it l i), .int .i64 l[i].2.1, .int .i64 (ap l i)] 32) = W1 at *
        generalize wr.heap.size = n7 at *
        have c1 := hS1.sd.c1.1
        have c2 := hS1.sd.c2.1
        have r1 := (hS1.sd.L i (by rw [hS1.sd.ll]; exact hlt)).1
        have r2 := (hS1.sd.W i (by rw [hS1.sd.wl]; exact hlt)).1
        rw [hx] at r1
        rw [hy] at r2
        have HS2 := Lib.hid hS1
        clear hS1 hx hy
        by_cases hx0 : x = 0
        · subst hx0
          go_wp2
          go_roundw
          case rel => exact ⟨i + 1, by go_num, by omega, Lib.hid (HF0.out (by rw [HFX.out, if_pos (.inl rfl)])), Lib.hid ⟨gW1, cW1, v1, bd1, HS2.out⟩⟩
          case measure => simp [intOf]; omega
        · have hxb : (x == 0) = false := by simpa using hx0
          by_cases hy0 : 0 < y
          · go_wp2
            go_roundw
            case rel => exact ⟨i + 1, by go_num, by omega, Lib.hid (HF0.out (by rw [HFX.out, if_pos (.inr hy0)])), Lib.hid ⟨gW1, cW1, v1, bd1, HS2.out⟩⟩
            case measure => simp [intOf]; omega
          · have HCL := Lib.hid (fun W hW => clone_ir (w := W) (g := gW1) (c := cW1) (xs := wait) hW (by rw [HS2.out.sd.wl]; exact hn))
            have HT3L : Hid (left.length = l.length) := Lib.hid HS2.out.sd.ll
            have HWL : Hid (wait.length = l.length) := Lib.hid HS2.out.sd.wl
            rw [HWL.out] at HCL
            go_upto_region 11 with (go_at_call 37; refine (HCL.out _ HS2.out.sd.W).mono ?_; rintro e w2 ⟨⟨g2, c2', rfl, hg2, hg2', hI2⟩, hB2⟩; have HG2 := Lib.hid hg2; have HG2' := Lib.hid hg2'; have HI2 := Lib.hid hI2; have HB2 := Lib.hid hB2; clear hg2 hg2' hI2 hB2)
            have HS3 := Lib.hid (HS2.out.below HB2.out)
            have HT := Lib.hid (Sf.start HS3.out.sd HS3.out.bad)
            have p0 := B.cell_below HB2.out p0
            have p2 := B.cell_below HB2.out p2
            have HNX : Hid (¬ Sx b gL gW1 m v1 n7) := Lib.hid (by
              obtain ⟨h1, h2, h3, h4⟩ := HNN.out
              rintro (h | h | h | h | h)
              · exact h1 h.symm
              · exact h2 h.symm
              · exact h3 h.symm
              · exact h4 h.symm
              · exact HVN.out _ h rfl)
            have HGX : Hid (¬ Sx b gL gW1 m v1 g2) := Lib.hid (by
              have h1 := HS2.out.sd.lt
              have h2 := HS2.out.sd.hs
              have h3 := HG2.out
              rintro (h | h | h | h | h)
              · omega
              · omega
              · omega
              · omega
              · have := h1.2.2 _ h; omega)
            have HGE : Hid (w0.heap.size ≤ g2 ∧ w.heap.size ≤ g2) := Lib.hid (by have h1 := HS2.out.sd.be.size; have h2 := HS2.out.fr.size; have h3 := HG2.out; exact ⟨by omega, by omega⟩)
            have P0 := Lib.hid p0
            have P2 := Lib.hid p2
            have c2 := HS3.out.sd.c2.1
            clear c1 r1 r2 p0 p2 HCL HS2 HNN HVN HB2 HG2
            go_wp2
            clear c2
            go_loopw [58] (fun s58 wr => ∃ (k : Nat) (wk : List Int), s58 = .int .i64 k ∧ k ≤ l.length ∧ Hid (∀ j, g0 wk j = if j < k then max 0 (g0 wait j - 1) else g0 wait j) ∧ Hid (Sf w0 w2 wr b (some ⟨b5, o5, none⟩) c l gL cL gW1 gW1 cW1 m v1 v1 left wk out bd1)) (fun s _ => l.length - (intOf s).toNat)
            case atStart => exact ⟨0, wait, rfl, Nat.zero_le _, Lib.hid (fun j => by rw [if_neg (Nat.not_lt_zero j)]), HT⟩
            case round =>
              obtain ⟨k, wk, rfl, hk, HK, HTk⟩ := hrel
              by_cases hkl : k < l.length
              · have hk2 : (k : Int) < l.length := by omega
                obtain ⟨z, hz⟩ : ∃ z, g0 wait k = z := ⟨_, rfl⟩
                have HZ := HWB.out k
                rw [hz] at HZ
                have c2' : wr.drew.cell? ⟨b, 2, none⟩ = some (.slice (some ⟨gW1, 0, none⟩) l.length cW1) := HTk.out.sd.c2.1
                obtain ⟨d0, z0⟩ : Cl wr.drew gW1 k (.int .i64 z) := by
                  have := HTk.out.sd.W k (by rw [HTk.out.sd.wl]; exact hkl)
                  rw [HK.out k, if_neg (Nat.lt_irrefl k), hz] at this
                  exact this
                have HKZ := Lib.hid hz
                clear hz
                go_upto_region 14 with (fail)
                go_still_tail 15, (by kernel_rfl)
                change wpList _ _ _ _ _ wr.drew
                go_wp2
                go_roundw
                case rel => exact ⟨k + 1, wk.set k (max 0 (z - 1)), by go_num, by omega, Lib.hid (fun j => by
                  rw [g0_set (by rw [HTk.out.sd.wl]; exact hkl), HK.out j]
                  by_cases hj : j = k
                  · subst hj; rw [if_pos rfl, if_pos (Nat.lt_succ_self _), HKZ.out]
                  · rw [if_neg hj]
                    by_cases hj2 : j < k
                    · rw [if_pos hj2, if_pos (by omega)]
                    · rw [if_neg hj2, if_neg (by omega)]), Lib.hid ((HTk.out.below (B.below_drew (Below.refl _ _) 1)).setW hkl _)⟩
                case measure => simp [intOf]; omega
              · obtain rfl : k = l.length := by omega
                have HWK : Hid (wk = wait.map (fun x => max 0 (x - 1))) := Lib.hid (g0_ext (by rw [List.length_map, HTk.out.sd.wl, HWL.out]) (fun j hj => by rw [HK.out j, if_pos (by rw [HTk.out.sd.wl] at hj; exact hj), g0_map (by decide)]))
                obtain rfl := HWK.out
                have p2' : wr.drew.cell? ⟨n7, 2, none⟩ = some (.int .i64 (ap l i)) := HTk.out.fr.cell HNX.out P2.out
                have c2' : wr.drew.cell? ⟨b, 2, none⟩ = some (.slice (some ⟨gW1, 0, none⟩) l.length cW1) := HTk.out.sd.c2.1
                obtain ⟨d0, z0⟩ := HTk.out.sd.W i (by rw [HTk.out.sd.wl]; exact hlt)
                have d0' : wr.drew.cell? ⟨gW1, i, none⟩ = some (.int .i64 (g0 (wait.map (fun x => max 0 (x - 1))) i)) := d0
                have z0' : wr.drew.frozen? ⟨gW1, i, none⟩ = false := z0
                have HT3 : Hid (Sf w0 w2 wr.drew b (some ⟨b5, o5, none⟩) c l gL cL gW1 gW1 cW1 m v1 v1 left (wait.map (fun x => max 0 (x - 1))) out bd1) := Lib.hid (HTk.out.below (B.below_drew (Below.refl _ _) 1))
                clear d0 z0 HK
                go_upto_region 16 with (fail)
                go_still_tail 8, (by kernel_rfl)
                change wpList _ _ _ _ _ wr.drew
                clear HTk
                generalize wr.drew = W3 at *
                go_upto_region 17 with (fail)
                clear p2' c2' d0' z0'
                have HT4 : Hid (Sf w0 w2 (W3.setCell ⟨gW1, i, none⟩ (.int .i64 (ap l i))) b (some ⟨b5, o5, none⟩) c l gL cL gW1 gW1 cW1 m v1 v1 left (dec wait i (ap l i)) out bd1) := Lib.hid (HT3.out.setW hlt (ap l i))
                clear HT3
                generalize W3.setCell ⟨gW1, i, none⟩ (.int .i64 (ap l i)) = W4 at *
                have c1 := HT4.out.sd.c1.1
                obtain ⟨r1, z1⟩ := HT4.out.sd.L i (by rw [HT4.out.sd.ll]; exact hlt)
                rw [HXL.out] at r1
                have HT5 := Lib.hid (HT4.out.setL hlt (x - 1))
                go_upto_region 18 with (fail)
                clear c1 r1 z1
                generalize W4.setCell ⟨gL, i, none⟩ (.int .i64 (x - 1)) = W5 at *
                have p0 : W5.drew.cell? ⟨n7, 0, none⟩ = some (.string (it l i)) := HT5.out.fr.cell HNX.out P0.out
                have C318 : Hid (W5.drew.cell? ⟨b, 3, none⟩ = some v1) := Lib.hid HT5.out.sd.c3.1
                have HO18 : Hid (B.Own W5.drew w0.heap.size 9 1 strE v1 out) := Lib.hid HT5.out.sd.O
                have HZ18 : Hid (w0.heap.size ≤ W5.drew.heap.size) := Lib.hid HT5.out.sd.be.size
                have HA18 : Hid ((W5.drew.alloc (.cells #[.string (it l i)] 9)).cell? ⟨n7, 0, none⟩ = some (.string (it l i)) ∧ (W5.drew.alloc (.cells #[.string (it l i)] 9)).cell? ⟨b, 3, none⟩ = some v1) := Lib.hid ⟨(World.cell?_alloc_some _ _ _ (by rw [p0]; rfl)).trans p0, (World.cell?_alloc_some _ _ _ (by rw [C318.out]; rfl)).trans C318.out⟩
                have HG18 : Hid (∀ v7 w7, B.Own w7 w0.heap.size 9 1 strE v7 (out ++ [it l i]) → (v7.ownBlock = v1.ownBlock ∨ ∀ g, v7.ownBlock = some g → W5.drew.heap.size ≤ g) → (W5.drew.alloc (.cells #[.string (it l i)] 9)).grownBy w7 v1.ownBlock →
                    Fr (fun j => v1.ownBlock = some j) W5 w7 ∧ w7.cell? ⟨n7, 0, none⟩ = some (.string (it l i)) ∧ (w7.setCell ⟨b, 3, none⟩ v7).cell? ⟨n7, 0, none⟩ = some (.string (it l i)) ∧ (B.Own w7 w0.heap.size 9 1 strE v7 (out ++ [it l i]) ∧ (v7.ownBlock = v1.ownBlock ∨ ∀ g, v7.ownBlock = some g → W5.heap.size ≤ g)) ∧ Cl w7 b 3 v1) := Lib.hid (fun v7 w7 hO ha hg => by
                  have hf : Fr (fun j => v1.ownBlock = some j) W5 w7 := (((Fr.refl (fun j => v1.ownBlock = some j) W5).drew 1).alloc (.cells #[.string (it l i)] 9)).grown hg (fun g e _ => e)
                  have q := hf.cell (fun e => HNX.out (.inr (.inr (.inr (.inr e))))) (HT5.out.fr.cell HNX.out P0.out)
                  exact ⟨hf, q, by rw [World.cell?_setCell_other _ _ _ _ (by intro e; exact HNX.out (.inl (Addr.mk.inj e).1.symm))]; exact q, ⟨hO, ha⟩, HT5.out.sd.c3.fr hf (fun e => (HT5.out.sd.on _ e).1 rfl)⟩)
                apply wp_mid (R := fun A7 k7 w7 => Hid (Fr (fun j => v1.ownBlock = some j) W5 w7 ∧ w7.cell? ⟨n7, 0, none⟩ = some (.string (it l i)) ∧ (w7.setCell ⟨b, 3, none⟩ (.slice A7 (out.length + 1) k7)).cell? ⟨n7, 0, none⟩ = some (.string (it l i)) ∧ (B.Own w7 w0.heap.size 9 1 strE (.slice A7 (out.length + 1) k7) (out ++ [it l i]) ∧ ((Value.slice A7 (out.length + 1) k7).ownBlock = v1.ownBlock ∨ ∀ g, (Value.slice A7 (out.length + 1) k7).ownBlock = some g → W5.heap.size ≤ g)) ∧ Cl w7 b 3 v1))
                  (V := fun A7 k7 w7 => w7.setCell ⟨b, 3, none⟩ (.slice A7 (out.length + 1) k7))
                case walk =>
                  refine wp_region_held_drew (S := fun w' => w'.cell? ⟨n7, 0, none⟩ = some (.string (it l i))) (by kernel_rfl) (p0) (fun hHeld => ?_)
                  refine wpAnyH_take (i := 0) (v := ?_) At.at0 (by kernel_rfl) (by kernel_rfl) (by kernel_rfl) (fun _ _ _ h => by cases h.1) (Or.inl ⟨by rfl, ?_⟩) (by assumption) ?_
                  rotate_left
                  · (intro w9 hSw; (try dsimp only at hSw); go_simp; try (with_reducible rfl))
                  try simp only [Act.put, List.setIfInBounds_toArray, List.set_cons_zero, List.set_cons_succ]
                  refine wpAnyH_take (i := 1) (v := ?_) At.at1 (by kernel_rfl) (by kernel_rfl) (by kernel_rfl) (fun _ _ _ h => by cases h.1) (Or.inl ⟨by rfl, ?_⟩) (by assumption) ?_
                  rotate_left
                  · (intro w9 hSw; (try dsimp only at hSw); go_simp; try (with_reducible rfl))
                  try simp only [Act.put, List.setIfInBounds_toArray, List.set_cons_zero, List.set_cons_succ]
                  refine wpAnyH_take (i := 2) (v := ?_) At.at2 (by kernel_rfl) (by kernel_rfl) (by kernel_rfl) (fun _ _ _ h => by cases h.1) (Or.inl ⟨by rfl, ?_⟩) (by assumption) ?_
                  rotate_left
                  · (intro w9 hSw; (try dsimp only at hSw); go_simp; try (with_reducible rfl))
                  try simp only [Act.put, List.setIfInBounds_toArray, List.set_cons_zero, List.set_cons_succ]
                  refine wpAnyH_take (i := 3) (v := ?_) At.at3 (by kernel_rfl) (by kernel_rfl) (by kernel_rfl) (fun _ _ _ h => by cases h.1) (Or.inl ⟨by rfl, ?_⟩) (by assumption) ?_
                  rotate_left
                  · (intro w9 hSw; (try dsimp only at hSw); go_simp; try (with_reducible rfl))
                  try simp only [Act.put, List.setIfInBounds_toArray, List.set_cons_zero, List.set_cons_succ]
                  refine wpAnyH_take (i := 5) (v := ?_) At.at5 (by kernel_rfl) (by kernel_rfl) (by kernel_rfl) (fun _ _ _ h => by cases h.1) (Or.inl ⟨by rfl, ?_⟩) (by assumption) ?_
                  rotate_left
                  · (intro w9 hSw; (try dsimp only at hSw); go_simp; try (with_reducible rfl))
                  try simp only [Act.put, List.setIfInBounds_toArray, List.set_cons_zero, List.set_cons_succ]
                  refine wpAnyH_take (i := 6) (v := ?_) At.at6 (by kernel_rfl) (by kernel_rfl) (by kernel_rfl) (fun _ _ _ h => by cases h.1) (Or.inl ⟨by rfl, ?_⟩) (by assumption) ?_
                  rotate_left
                  · (intro w9 hSw; (try dsimp only at hSw); go_simp; try (with_reducible rfl))
                  try simp only [Act.put, List.setIfInBounds_toArray, List.set_cons_zero, List.set_cons_succ]
                  refine wpAnyH_ready (rs := [4, 7]) (by kernel_rfl) (by simp) ?_
                  refine AllReadyH.cons At.at4 (fun K hK => ?_) (AllReadyH.cons At.at7 (fun K hK => ?_) AllReadyH.nil)
                  · have c3' := C318.out
                    go_simp
                    refine hK.out _ _ (by assumption) (fun hHeld => ?_)
                    clear hK K
                    try simp only [Act.put, List.setIfInBounds_toArray, List.set_cons_zero, List.set_cons_succ]
                    refine wpAnyH_ready (rs := [7]) (by kernel_rfl) (by simp) ?_
                    refine AllReadyH.cons At.at7 (fun K hK => ?_) AllReadyH.nil
                    go_simp
                    refine hK.out _ _ (HA18.out.1) (fun hHeld => ?_)
                    clear hK K
                    try simp only [Act.put, List.setIfInBounds_toArray, List.set_cons_zero, List.set_cons_succ]
                    refine wpAnyH_ready (rs := [8]) (by kernel_rfl) (by simp) ?_
                    refine AllReadyH.cons At.at8 (fun K hK => ?_) AllReadyH.nil
                    refine Copy.step_append_s w0.heap.size rfl _ _ 69 9 (.string ⟨#[]⟩) 1 16 rfl Tryz.underlying69 info_str rfl (by decide) (by decide) strE (fun _ => rfl) strE1 _ _ (it l i) _ rfl HO18.out rfl _ rfl rfl HZ18.out (by have := HLO.out; omega) ?_; intro v7 w7 hO7 ha7 hg7; obtain ⟨A7, k7, rfl⟩ : ∃ A7 k7, v7 = .slice A7 (out.length + 1) k7 := (by have := Copy.shape hO7; rwa [List.length_append, List.length_singleton] at this); have HP7 := Lib.hid (HG18.out _ w7 hO7 ha7 hg7); obtain ⟨-, -, -, -, ⟨d3, z3⟩⟩ := HP7.out; clear hO7 ha7 hg7
                    refine hK.out _ _ (HP7.out.2.1) (fun hHeld => ?_)
                    clear hK K
                    try simp only [Act.put, List.setIfInBounds_toArray, List.set_cons_zero, List.set_cons_succ]
                    refine wpAnyH_take (i := 9) (v := ?_) At.at9 (by kernel_rfl) (by kernel_rfl) (by kernel_rfl) (fun _ _ _ h => by cases h.1) (Or.inl ⟨by rfl, ?_⟩) (by assumption) ?_
                    rotate_left
                    · (intro w9 hSw; (try dsimp only at hSw); go_simp; try (with_reducible rfl))
                    try simp only [Act.put, List.setIfInBounds_toArray, List.set_cons_zero, List.set_cons_succ]
                    refine wpAnyH_take (i := 10) (v := ?_) At.at10 (by kernel_rfl) (by kernel_rfl) (by kernel_rfl) (fun _ _ _ h => by cases h.1) (Or.inl ⟨by rfl, ?_⟩) (by assumption) ?_
                    rotate_left
                    · (intro w9 hSw; (try dsimp only at hSw); go_simp; try (with_reducible rfl))
                    try simp only [Act.put, List.setIfInBounds_toArray, List.set_cons_zero, List.set_cons_succ]
                    refine wpAnyH_ready (rs := [11]) (by kernel_rfl) (by simp) ?_
                    refine AllReadyH.cons At.at11 (fun K hK => ?_) AllReadyH.nil
                    go_simp
                    refine hK.out _ _ (HP7.out.2.2.1) (fun hHeld => ?_)
                    clear hK K
                    try simp only [Act.put, List.setIfInBounds_toArray, List.set_cons_zero, List.set_cons_succ]
                    refine wpAnyH_done (by kernel_rfl) ?_ _
                    exact ⟨rfl, A7, k7, w7, HP7, rfl, rfl⟩
                  · go_simp
                    refine hK.out _ _ (HA18.out.1) (fun hHeld => ?_)
                    clear hK K
                    try simp only [Act.put, List.setIfInBounds_toArray, List.set_cons_zero, List.set_cons_succ]
                    refine wpAnyH_ready (rs := [4]) (by kernel_rfl) (by simp) ?_
                    refine AllReadyH.cons At.at4 (fun K hK => ?_) AllReadyH.nil
                    have c3' : (W5.alloc (.cells #[.string (it l i)] 9)).drew.cell? ⟨b, 3, none⟩ = some v1 := HA18.out.2; go_simp
                    refine hK.out _ _ (by assumption) (fun hHeld => ?_)
                    clear hK K
                    try simp only [Act.put, List.setIfInBounds_toArray, List.set_cons_zero, List.set_cons_succ]
                    refine wpAnyH_ready (rs := [8]) (by kernel_rfl) (by simp) ?_
                    refine AllReadyH.cons At.at8 (fun K hK => ?_) AllReadyH.nil
                    refine Copy.step_append_s w0.heap.size rfl _ _ 69 9 (.string ⟨#[]⟩) 1 16 rfl Tryz.underlying69 info_str rfl (by decide) (by decide) strE (fun _ => rfl) strE1 _ _ (it l i) _ rfl HO18.out rfl _ rfl rfl HZ18.out (by have := HLO.out; omega) ?_; intro v7 w7 hO7 ha7 hg7; obtain ⟨A7, k7, rfl⟩ : ∃ A7 k7, v7 = .slice A7 (out.length + 1) k7 := (by have := Copy.shape hO7; rwa [List.length_append, List.length_singleton] at this); have HP7 := Lib.hid (HG18.out _ w7 hO7 ha7 hg7); obtain ⟨-, -, -, -, ⟨d3, z3⟩⟩ := HP7.out; clear hO7 ha7 hg7
                    refine hK.out _ _ (HP7.out.2.1) (fun hHeld => ?_)
                    clear hK K
                    try simp only [Act.put, List.setIfInBounds_toArray, List.set_cons_zero, List.set_cons_succ]
                    refine wpAnyH_take (i := 9) (v := ?_) At.at9 (by kernel_rfl) (by kernel_rfl) (by kernel_rfl) (fun _ _ _ h => by cases h.1) (Or.inl ⟨by rfl, ?_⟩) (by assumption) ?_
                    rotate_left
                    · (intro w9 hSw; (try dsimp only at hSw); go_simp; try (with_reducible rfl))
                    try simp only [Act.put, List.setIfInBounds_toArray, List.set_cons_zero, List.set_cons_succ]
                    refine wpAnyH_take (i := 10) (v := ?_) At.at10 (by kernel_rfl) (by kernel_rfl) (by kernel_rfl) (fun _ _ _ h => by cases h.1) (Or.inl ⟨by rfl, ?_⟩) (by assumption) ?_
                    rotate_left
                    · (intro w9 hSw; (try dsimp only at hSw); go_simp; try (with_reducible rfl))
                    try simp only [Act.put, List.setIfInBounds_toArray, List.set_cons_zero, List.set_cons_succ]
                    refine wpAnyH_ready (rs := [11]) (by kernel_rfl) (by simp) ?_
                    refine AllReadyH.cons At.at11 (fun K hK => ?_) AllReadyH.nil
                    go_simp
                    refine hK.out _ _ (HP7.out.2.2.1) (fun hHeld => ?_)
                    clear hK K
                    try simp only [Act.put, List.setIfInBounds_toArray, List.set_cons_zero, List.set_cons_succ]
                    refine wpAnyH_done (by kernel_rfl) ?_ _
                    exact ⟨rfl, A7, k7, w7, HP7, rfl, rfl⟩
                case cont =>
                  intro A7 k7 w7 HP7
                  have HT6 := Lib.hid (HT5.out.app HP7.out.2.2.2.1.1 HP7.out.2.2.2.1.2 HP7.out.1 (HT5.out.sd.be.trans (HP7.out.1.below HT5.out.sd.be.size (fun k hk => ((HT5.out.sd.O : World.ownsRow _ _ _ _ _ _ _).lt k hk).1))))
                  clear HP7 p0 C318 HO18 HZ18 HA18 HG18 HT5 HT4
                  generalize w7.setCell ⟨b, 3, none⟩ (.slice A7 (out.length + 1) k7) = W6 at *
                  have HR := HIH.out gW1 cW1 (.slice A7 (out.length + 1) k7) (left.set i (x - 1)) (dec wait i (ap l i)) (out ++ [it l i]) bd1 W6 HT6.out.sd HT6.out.bad
                    (fun j => by
                      rw [g0_set (by have := HT3L.out; omega)]
                      have := HLB.out j
                      split
                      · omega
                      · exact this)
                    (fun j => by
                      unfold dec
                      rw [g0_set (by rw [List.length_map]; have := HWL.out; omega), g0_map (by decide)]
                      have := HWB.out j
                      have := HAP.out i
                      split
                      · exact this
                      · omega)
                    (by rw [sm_set _ _ _ (by have := HT3L.out; omega), HSM.out, HXL.out]; push_cast; omega) (by rw [List.length_append, List.length_singleton]; have := HLO.out; omega)
                  have HFc : Hid (f i = (sr l mo (left.set i (x - 1)) (dec wait i (ap l i))).map (it l i :: ·)) := Lib.hid (by rw [HFX.out, if_neg (by omega)])
                  cases hsr : sr l mo (left.set i (x - 1)) (dec wait i (ap l i)) with
                  | some r =>
                    rw [hsr] at HR HFc
                    obtain rfl := HF1.out _ HFc.out
                    have HRR := Lib.hid HR
                    clear HR
                    go_wp2_with (go_at_call 58; refine HRR.out.mono ?_; rintro e w9 ⟨rfl, ⟨v9, hc9, hO9⟩, hF9⟩; have HC9 := Lib.hid hc9; have HO9 := Lib.hid hO9; have HF9 := Lib.hid hF9; clear hc9 hO9 hF9)
                    go_ret
                    exact ⟨rfl, ⟨v9, HC9.out, by have := HO9.out; rw [List.append_assoc] at this; exact this⟩, ((HS3.out.trans HT6.out).fr.trans HF9.out (fun j hj e => Sx.mono (HS3.out.trans HT6.out).gw (HS3.out.trans HT6.out).vo j hj e))⟩
                  | none =>
                    rw [hsr] at HR HFc
                    have HRR := Lib.hid HR
                    clear HR
                    go_upto_region 21 with (go_at_call 58; refine HRR.out.mono ?_; rintro e w9 ⟨rfl, g9, c9, v9, bd9, hS9⟩; have HT7 := Lib.hid (HT6.out.trans hS9); clear hS9)
                    obtain ⟨g10, k10, rfl, hcap, -⟩ := HT7.out.cut
                    have HT8 : Hid (Sf w0 w2 (w9.drew.setCell ⟨b, 3, none⟩ (.slice (some ⟨g10, 0, none⟩) out.length k10)) b (some ⟨b5, o5, none⟩) c l gL cL gW1 g9 c9 m v1 (.slice (some ⟨g10, 0, none⟩) out.length k10) (left.set i (x - 1)) (dec wait i (ap l i)) out bd9) := Lib.hid (by
                      have hT : Sf w0 w2 w9.drew b (some ⟨b5, o5, none⟩) c l gL cL gW1 g9 c9 m v1 (.slice (some ⟨g10, 0, none⟩) (out.length + 1) k10) (left.set i (x - 1)) (dec wait i (ap l i)) (out ++ [it l i]) bd9 := HT7.out.below (B.below_drew (Below.refl _ _) 1)
                      obtain ⟨g', cap', e, -, h8⟩ := hT.cut
                      simp only [Value.slice.injEq, Option.some.injEq, Addr.mk.injEq, and_true, true_and] at e
                      obtain ⟨rfl, rfl⟩ := e
                      exact h8)
                    have c3' : w9.drew.cell? ⟨b, 3, none⟩ = some (.slice (some ⟨g10, 0, none⟩) (out.length + 1) k10) := HT7.out.sd.c3.1
                    have z3' : w9.drew.frozen? ⟨b, 3, none⟩ = false := HT7.out.sd.c3.2
                    clear HT7 HT6 HRR
                    have hs1 : (0 : Int) ≤ (out.length : Int) := by omega
                    have hs2 : (out.length : Int) ≤ (k10 : Int) := by omega
                    have hs3 : (out.length : Int) ≤ 12 := by have := HLO.out; omega
                    have hwr : IntKind.i64.wrap (out.length : Int) = (out.length : Int) := by rw [IntKind.wrap_i64]; omega
                    go_still_tail 14, (by kernel_rfl)
                    change wpList _ _ _ _ _ w9.drew
                    generalize w9.drew = WA at *
                    go_upto_region 22 with (fail)
                    clear c3' z3'
                    generalize WA.setCell ⟨b, 3, none⟩ (.slice (some ⟨g10, 0, none⟩) out.length k10) = W8 at *
                    have c1 := HT8.out.sd.c1.1
                    obtain ⟨r1, z1⟩ := HT8.out.sd.L i (by rw [HT8.out.sd.ll]; exact hlt)
                    rw [g0_set (by have := HT3L.out; omega), if_pos rfl] at r1
                    have HT9 : Hid (Sf w0 w2 (W8.setCell ⟨gL, i, none⟩ (.int .i64 x)) b (some ⟨b5, o5, none⟩) c l gL cL gW1 g9 c9 m v1 (.slice (some ⟨g10, 0, none⟩) out.length k10) left (dec wait i (ap l i)) out bd9) := Lib.hid (by
                      have h9 := HT8.out.setL hlt x
                      have e : (left.set i (x - 1)).set i x = left := by
                        rw [List.set_set]
                        refine g0_ext (by rw [List.length_set]) (fun j _ => ?_)
                        rw [g0_set (by have := HT3L.out; omega)]
                        by_cases hj : j = i
                        · subst hj; rw [if_pos rfl]; exact HXL.out.symm
                        · rw [if_neg hj]
                      rw [e] at h9
                      exact h9)
                    clear HT8
                    go_upto_region 23 with (fail)
                    clear c1 r1 z1
                    generalize W8.setCell ⟨gL, i, none⟩ (.int .i64 x) = W9 at *
                    obtain ⟨c2, z2⟩ := HT9.out.sd.c2
                    have HTA := Lib.hid ((HS3.out.trans HT9.out).wt (c' := c2') (HI2.out.fr HT9.out.fr HGX.out) HWL.out HGE.out.1 HGE.out.2 (Nat.lt_of_lt_of_le HG2'.out HT9.out.fr.size)
                      ⟨fun e => HGX.out (.inl e), fun e => HGX.out (.inr (.inl e)), fun e => HGX.out (.inr (.inr (.inr (.inl e))))⟩
                      (fun g e q => by
                        subst q
                        rcases HT9.out.vo with h | h
                        · exact HGX.out (.inr (.inr (.inr (.inr (h ▸ e)))))
                        · have := h _ e; have := HG2'.out; omega))
                    go_wp2
                    go_roundw
                    case rel => exact ⟨i + 1, by go_num, by omega, Lib.hid (HF0.out HFc.out), Lib.hid ⟨g2, c2', _, bd9, HTA.out⟩⟩
                    case measure => simp [intOf]; omega
      · obtain rfl : i = l.length := by omega
        have HRN : Hid (R = none) := Lib.hid (by have := HFI.out; rw [Nat.sub_self] at this; exact this.symm)
        obtain rfl := HRN.out
        have c4 := hS.sd.c4.1
        have HS2 := Lib.hid hS
        clear hS HSI
        go_wp2_with (at_mapUpdate; refine M.wpl_put rfl _ _ _ 107 rfl 9 4 Tryz.underlying107 Tryz.underlying9 m _ HS2.out.sd.M rfl _ rfl _ rfl w0 w0.heap.size HS2.out.sd.be HS2.out.sd.lo.2.2.2 ?_; intro w11 hO11 hB11 hG11; have HO11 := Lib.hid hO11; have HG11 := Lib.hid hG11; clear hO11 hB11 hG11)
        go_ret
        exact ⟨rfl, gW1, cW1, v1, _, HS2.out.put HO11.out HG11.out (HBA.out _ HS2.out.bad trivial)⟩
theorem find (w0 : World) (b : Nat) (A : Option Addr) (c : Nat) (l : List Wn) (gL cL m : Nat) (hn : l.length ≤ 12) (hA : ∀ i, 0 ≤ ap l i ∧ ap l i ≤ 12) : ∀ mo, FindAt w0 b A c l gL cL m mo
  | 0 => find_zero w0 b A c l gL cL m
  | mo + 1 => find_step w0 b A c l gL cL m mo hn hA (find w0 b A c l gL cL m hn hA mo)
end Go.Proofs.YtlfobpjefklccaaGreatDoor.Sp
namespace Go.Proofs.YtlfobpjefklccaaGreatDoor.Sp
open Go.RowKit
open F (Fr Cl)

/-- What Spread tells of right counts. -/
def SpRes (o : Option (List ByteArray)) (e : Ending) (w' : World) : Prop := match o with
  | none => e = .returned (.tuple #[.slice none 0 0, .bool false, .int .i64 0])
  | some r => ∃ A c, e = .returned (.tuple #[.slice A r.length c, .bool true, .int .i64 0]) ∧ B.Kd.str.C w' A r
theorem go_ok : ∀ (l : List Wn) (p : Option ByteArray) (s : Int), Wn.go p s l = 0 → (∀ x ∈ l, 1 ≤ x.2.1 ∧ x.2.1 ≤ 12 ∧ 0 ≤ x.2.2 ∧ x.2.2 ≤ 12) ∧ s + sm (l.map (·.2.1)) ≤ 12 := by
  intro l
  induction l with
  | nil => intro p s h; unfold Wn.go at h; split at h <;> simp_all [sm]
  | cons x l ih =>
    intro p s h
    unfold Wn.go at h
    split at h
    · exact absurd h (by decide)
    split at h
    · exact absurd h (by decide)
    split at h
    · exact absurd h (by decide)
    rename_i hb
    obtain ⟨h1, h2⟩ := ih _ _ h
    simp only [Wn.b1, Wn.b2, decide_eq_true_eq, not_or] at hb
    refine ⟨fun y hy => ?_, by rw [List.map_cons, sm]; omega⟩
    rcases List.mem_cons.1 hy with rfl | hy
    · omega
    · exact h1 y hy
theorem fault_ok {l : List Wn} (h : Wn.fault l = 0) : l.length ≤ 12 ∧ (∀ x ∈ l, 1 ≤ x.2.1 ∧ x.2.1 ≤ 12 ∧ 0 ≤ x.2.2 ∧ x.2.2 ≤ 12) ∧ sm (l.map (·.2.1)) ≤ 12 := by
  unfold Wn.fault at h
  split at h
  · exact absurd h (by decide)
  · obtain ⟨h1, h2⟩ := go_ok l none 0 h
    exact ⟨by omega, h1, by omega⟩
theorem sm_app : ∀ (l m : List Int), sm (l ++ m) = sm l + sm m := by
  intro l
  induction l with
  | nil => intro m; simp [sm]
  | cons x l ih => intro m; rw [List.cons_append, sm, sm, ih]; omega
theorem sm_nonneg : ∀ (l : List Wn), (∀ x ∈ l, 1 ≤ x.2.1) → 0 ≤ sm (l.map (·.2.1)) := by
  intro l
  induction l with
  | nil => intro _; exact Int.le_refl _
  | cons x l ih => intro h; rw [List.map_cons, sm]; have := ih (fun y hy => h y (List.mem_cons_of_mem _ hy)); have := h x (List.mem_cons_self ..); omega
theorem sm_take (l : List Wn) (h : ∀ x ∈ l, 1 ≤ x.2.1) (hs : sm (l.map (·.2.1)) ≤ 12) : ∀ k, k ≤ l.length → 0 ≤ sm ((l.take k).map (·.2.1)) ∧ sm ((l.take k).map (·.2.1)) ≤ 12 := by
  intro k _
  have e : sm (l.map (·.2.1)) = sm ((l.take k).map (·.2.1)) + sm ((l.drop k).map (·.2.1)) := by rw [← sm_app, ← List.map_append, List.take_append_drop]
  have h1 := sm_nonneg (l.take k) (fun x hx => h x (List.mem_of_mem_take hx))
  have h2 := sm_nonneg (l.drop k) (fun x hx => h x (List.mem_of_mem_drop hx))
  omega
theorem sb_made {w w1 : World} {A : Option Addr} {l : List Wn} (hC : Wn.wnK.C w A l) (hn : l.length ≤ 12) (hB : Below w.heap.size w w1) (c : Nat) :
    Sb w (((w1.alloc (.cells (madeCells #[.int .i64 0] l.length) 3)).alloc (.map #[] 0)).alloc (.cells #[.slice A l.length c, .slice none 0 0, .slice (some ⟨w1.heap.size, 0, none⟩) l.length l.length, .slice none 0 0, .map (some (w1.heap.size + 1))] 109)) (w1.heap.size + 1 + 1) A c l w1.heap.size (w1.heap.size + 1) (.slice none 0 0) [] := by
  have hI := (make_ints l.length (by omega) w1).2
  change Ir (w1.alloc (.cells (madeCells #[.int .i64 0] l.length) 3)) w1.heap.size (List.replicate l.length 0) at hI
  have b1 : Below w1.heap.size w1 (w1.alloc (.cells (madeCells #[.int .i64 0] l.length) 3)) := (Below.refl _ _).alloc (Nat.le_refl _) _
  have s1 : (w1.alloc (.cells (madeCells #[.int .i64 0] l.length) 3)).heap.size = w1.heap.size + 1 := by simp
  generalize w1.alloc (.cells (madeCells #[.int .i64 0] l.length) 3) = W1 at *
  have hM := M.OM.made W1
  have b2 : Below W1.heap.size W1 (W1.alloc (.map #[] 0)) := (Below.refl _ _).alloc (Nat.le_refl _) _
  have s2 : (W1.alloc (.map #[] 0)).heap.size = W1.heap.size + 1 := by simp
  rw [s1] at hM
  generalize W1.alloc (.map #[] 0) = W2 at *
  have b3 : Below W2.heap.size W2 (W2.alloc (.cells #[.slice A l.length c, .slice none 0 0, .slice (some ⟨w1.heap.size, 0, none⟩) l.length l.length, .slice none 0 0, .map (some (w1.heap.size + 1))] 109)) := (Below.refl _ _).alloc (Nat.le_refl _) _
  have hc := fun i v (h : (#[.slice A l.length c, .slice none 0 0, .slice (some ⟨w1.heap.size, 0, none⟩) l.length l.length, .slice none 0 0, .map (some (w1.heap.size + 1))] : Array Value)[i]? = some v) => Cl.new W2 _ 109 i v h
  have e2 : W2.heap.size = w1.heap.size + 1 + 1 := by omega
  rw [e2] at hc
  have s0 := hB.size
  exact ⟨hC, (hB.trans (b1.mono s0)).trans ((b2.mono (by omega)).trans (b3.mono (by omega))), hc 0 _ rfl, hc 1 _ rfl, hc 2 _ rfl, hc 3 _ rfl, hc 4 _ rfl, (hI.below b2).below b3, ⟨rfl, .inl ⟨rfl, rfl⟩⟩, hM.below b3, ⟨by omega, by omega, by omega⟩, by have := b3.size; omega, ⟨by omega, by omega, by omega⟩, fun g e => by cases e⟩
theorem sr_len (l : List Wn) : ∀ (m : Nat) (left wait : List Int) (r : List ByteArray), sr l m left wait = some r → r.length = m := by
  intro m
  induction m with
  | zero => intro _ _ r h; rw [sr] at h; cases h; rfl
  | succ m ih =>
    intro left wait r h
    rw [sr] at h
    obtain ⟨j, -, -, hf⟩ := fs_some _ _ h
    split at hf
    · cases hf
    · obtain ⟨r', h', rfl⟩ := Option.map_eq_some_iff.1 hf
      rw [List.length_cons, ih _ _ _ h']
theorem g0_rep (n i : Nat) : g0 (List.replicate n (0 : Int)) i = 0 := by
  unfold g0
  rw [List.getD_eq_getElem?_getD, List.getElem?_replicate]
  split <;> rfl
theorem ap_in {l : List Wn} (h : ∀ x ∈ l, 1 ≤ x.2.1 ∧ x.2.1 ≤ 12 ∧ 0 ≤ x.2.2 ∧ x.2.2 ≤ 12) (i : Nat) : 0 ≤ ap l i ∧ ap l i ≤ 12 := by
  unfold ap
  rw [List.getD_eq_getElem?_getD]
  cases hi : l[i]? with
  | none => simp
  | some x => have := h x (List.mem_of_getElem? hi); simp; omega
theorem left_in {l : List Wn} (h : ∀ x ∈ l, 1 ≤ x.2.1 ∧ x.2.1 ≤ 12 ∧ 0 ≤ x.2.2 ∧ x.2.2 ≤ 12) (i : Nat) : 0 ≤ g0 (l.map (·.2.1)) i ∧ g0 (l.map (·.2.1)) i ≤ 12 := by
  unfold g0
  rw [List.getD_eq_getElem?_getD, List.getElem?_map]
  cases hi : l[i]? with
  | none => simp
  | some x => have := h x (List.mem_of_getElem? hi); simp; omega
set_option maxHeartbeats 4000000 in
set_option maxRecDepth 100000 in
theorem find_nil (b : Nat) (w : World) : Calls Tryz.prog 58 #[.pointer (some ⟨b, 0, none⟩), .int .i64 0] w fun e w' => e = .returned (.bool true) ∧ w' = w := by
  go_enter Tryz.func58, Tryz.ntmps58
  go_wp2
  go_ret
  exact ⟨rfl, rfl⟩
set_option maxHeartbeats 4000000 in
set_option maxRecDepth 100000 in
theorem spread_bad (v : Value) (l : List Wn) (hk : ∀ f ∈ l, f.1.size ≤ 9223372036854775807) (w : World) (h : Wn.wnK.S w v l) (hf : Wn.fault l ≠ 0) :
    Calls Tryz.prog 32 #[v] w fun e w' => e = .returned (.tuple #[.slice none 0 0, .bool false, .int .i64 (Wn.fault l)]) ∧ Below w.heap.size w w' := by
  have HC := Lib.hid (Wn.checkCounts v l hk w h)
  have hEb : (Wn.fault l != 0) = true := bne_iff_ne.2 hf
  clear h hf hk
  generalize Wn.fault l = q at *
  go_enter Tryz.func32, Tryz.ntmps32
  go_wp2_with (go_at_call 31; refine HC.out.mono ?_; rintro e w1 ⟨rfl, hB⟩)
  go_ret3
  exact ⟨rfl, hB⟩
set_option maxHeartbeats 8000000 in
set_option maxRecDepth 100000 in
theorem spread_ok (v : Value) (l : List Wn) (hk : ∀ f ∈ l, f.1.size ≤ 9223372036854775807) (w : World) (h : Wn.wnK.S w v l) (hf : Wn.fault l = 0) :
    Calls Tryz.prog 32 #[v] w fun e w' => SpRes (sr l (sm (l.map (·.2.1))).toNat (l.map (·.2.1)) (List.replicate l.length 0)) e w' ∧ Below w.heap.size w w' := by
  have HC := Lib.hid (Wn.checkCounts v l hk w h)
  rw [hf] at HC
  obtain ⟨hn, hb, hs⟩ := fault_ok hf
  obtain ⟨A, c, rfl, hCC⟩ := h
  have HW := Lib.hid hCC
  have HMI := Lib.hid (fun W => make_ints l.length (by omega) W)
  have hmk := fun W => (HMI.out W).1
  have hmm := @run_makeMap Tryz.prog
  clear hk hf hCC
  obtain ⟨R, hR⟩ : ∃ R, sr l (sm (l.map (·.2.1))).toNat (l.map (·.2.1)) (List.replicate l.length 0) = R := ⟨_, rfl⟩
  rw [hR]
  have HRR := Lib.hid hR
  clear hR
  go_enter Tryz.func32, Tryz.ntmps32
  go_upto_region 5 with (go_at_call 31; refine HC.out.mono ?_; rintro e w1 ⟨rfl, hB⟩; have HB := Lib.hid hB; clear hB)
  clear hmk hmm
  have HSB := Lib.hid (sb_made HW.out hn HB.out c)
  clear HMI HC
  generalize w1.heap.size + 1 + 1 = b at *
  generalize w1.heap.size + 1 = m at *
  generalize w1.heap.size = gW at *
  generalize ((w1.alloc (.cells (madeCells #[.int .i64 0] l.length) 3)).alloc (.map #[] 0)).alloc (.cells #[.slice A l.length c, .slice none 0 0, .slice (some ⟨gW, 0, none⟩) l.length l.length, .slice none 0 0, .map (some m)] 109) = W3 at *
  clear HB
  have HWM : Hid (∀ x ∈ l, 1 ≤ x.2.1 ∧ x.2.1 ≤ 12) := Lib.hid (fun x hx => ⟨(hb x hx).1, (hb x hx).2.1⟩)
  have HSM : Hid (∀ k, k ≤ l.length → 0 ≤ sm ((l.take k).map (·.2.1)) ∧ sm ((l.take k).map (·.2.1)) ≤ 12) := Lib.hid (sm_take l (fun x hx => (hb x hx).1) hs)
  have HBB := Lib.hid hb
  have HSS := Lib.hid hs
  clear hb hs
  go_wp2
  go_loopw [7, 24] (fun s7 s24 wr => ∃ (k : Nat) (vL : Value), s24 = .int .i64 k ∧ s7 = .int .i64 (sm ((l.take k).map (·.2.1))) ∧ k ≤ l.length ∧ Hid (Sb w wr b A c l gW m vL ((l.take k).map (·.2.1)))) (fun _ s _ => l.length - (intOf s).toNat)
  case atStart => exact ⟨0, .slice none 0 0, rfl, rfl, Nat.zero_le _, HSB⟩
  case round =>
    obtain ⟨k, vL, rfl, rfl, hk, HB⟩ := hrel
    by_cases hlt : k < l.length
    · have hk1 : (k : Int) < l.length := by omega
      have hS := HB.out
      obtain ⟨b5, o5, rfl, q0, q1, q2⟩ := Wn.wn_at (hS.wn.mono hS.be) k hlt
      have HTK : Hid ((l.take (k + 1)).map (·.2.1) = (l.take k).map (·.2.1) ++ [l[k].2.1]) := Lib.hid (by rw [List.take_succ_eq_append_getElem hlt, List.map_append]; rfl)
      have HT2 : Hid (sm ((l.take (k + 1)).map (·.2.1)) = sm ((l.take k).map (·.2.1)) + l[k].2.1) := Lib.hid (by rw [HTK.out, sm_app]; simp [sm])
      have HTL : Hid (((l.take k).map (·.2.1)).length = k) := Lib.hid (by rw [List.length_map, List.length_take]; omega)
      have hx1 := HSM.out k hk
      have hx2 := HSM.out (k + 1) hlt
      rw [HT2.out] at hx2
      have hmy := HWM.out _ (List.getElem_mem hlt)
      generalize sm ((l.take k).map (·.2.1)) = T0 at *
      generalize (l.take k).map (·.2.1) = X0 at *
      generalize l[k] = y at *
      obtain ⟨y0, y1, y2⟩ := y
      have hx3 : 0 ≤ T0 + y1 ∧ T0 + y1 ≤ 12 := hx2
      go_upto_region 9 with (fail)
      have HAL : Hid (Below wr.heap.size wr (wr.alloc (.cells #[.string y0, .int .i64 y1, .int .i64 y2] 32))) := Lib.hid ((Below.refl _ _).alloc (Nat.le_refl _) _)
      have p1 : (wr.alloc (.cells #[.string y0, .int .i64 y1, .int .i64 y2] 32)).cell? ⟨wr.heap.size, 1, none⟩ = some (.int .i64 y1) := by rw [World.cell?_alloc_new]; rfl
      have HNX : Hid (∀ g, vL.ownBlock = some g → g ≠ wr.heap.size) := Lib.hid (fun g e => by have := hS.lt.2.2 g e; omega)
      have HNB : Hid (b ≠ wr.heap.size) := Lib.hid (by have := hS.lt.1; omega)
      have HS5 := Lib.hid (hS.below HAL.out)
      clear q0 q1 q2 hS HAL HB
      generalize wr.alloc (.cells #[.string y0, .int .i64 y1, .int .i64 y2] 32) = W5 at *
      generalize wr.heap.size = n7 at *
      have P1 := Lib.hid p1
      have p0 : W5.drew.cell? ⟨n7, 1, none⟩ = some (.int .i64 y1) := P1.out
      have C318 : Hid (W5.drew.cell? ⟨b, 1, none⟩ = some vL) := Lib.hid HS5.out.c1.1
      have HO18 : Hid (B.Own W5.drew w.heap.size 3 1 intE vL X0) := Lib.hid HS5.out.O
      have HZ18 : Hid (w.heap.size ≤ W5.drew.heap.size) := Lib.hid HS5.out.be.size
      have HA18 : Hid ((W5.drew.alloc (.cells #[.int .i64 y1] 3)).cell? ⟨n7, 1, none⟩ = some (.int .i64 y1) ∧ (W5.drew.alloc (.cells #[.int .i64 y1] 3)).cell? ⟨b, 1, none⟩ = some vL) := Lib.hid ⟨(World.cell?_alloc_some _ _ _ (by rw [p0]; rfl)).trans p0, (World.cell?_alloc_some _ _ _ (by rw [C318.out]; rfl)).trans C318.out⟩
      have HG18 : Hid (∀ v7 w7, B.Own w7 w.heap.size 3 1 intE v7 (X0 ++ [y1]) → (v7.ownBlock = vL.ownBlock ∨ ∀ g, v7.ownBlock = some g → W5.drew.heap.size ≤ g) → (W5.drew.alloc (.cells #[.int .i64 y1] 3)).grownBy w7 vL.ownBlock →
          Fr (fun j => vL.ownBlock = some j) W5 w7 ∧ w7.cell? ⟨n7, 1, none⟩ = some (.int .i64 y1) ∧ (w7.setCell ⟨b, 1, none⟩ v7).cell? ⟨n7, 1, none⟩ = some (.int .i64 y1) ∧ (B.Own w7 w.heap.size 3 1 intE v7 (X0 ++ [y1]) ∧ (v7.ownBlock = vL.ownBlock ∨ ∀ g, v7.ownBlock = some g → W5.heap.size ≤ g)) ∧ Cl w7 b 1 vL) := Lib.hid (fun v7 w7 hO ha hg => by
        have hf : Fr (fun j => vL.ownBlock = some j) W5 w7 := (((Fr.refl (fun j => vL.ownBlock = some j) W5).drew 1).alloc (.cells #[.int .i64 y1] 3)).grown hg (fun g e _ => e)
        have q := hf.cell (fun e => HNX.out _ e rfl) P1.out
        exact ⟨hf, q, by rw [World.cell?_setCell_other _ _ _ _ (by intro e; exact HNB.out (Addr.mk.inj e).1)]; exact q, ⟨hO, ha⟩, HS5.out.c1.fr hf (fun e => (HS5.out.on _ e).1 rfl)⟩)
      apply wp_mid (R := fun A7 k7 w7 => Hid (Fr (fun j => vL.ownBlock = some j) W5 w7 ∧ w7.cell? ⟨n7, 1, none⟩ = some (.int .i64 y1) ∧ (w7.setCell ⟨b, 1, none⟩ (.slice A7 (k + 1) k7)).cell? ⟨n7, 1, none⟩ = some (.int .i64 y1) ∧ (B.Own w7 w.heap.size 3 1 intE (.slice A7 (k + 1) k7) (X0 ++ [y1]) ∧ ((Value.slice A7 (k + 1) k7).ownBlock = vL.ownBlock ∨ ∀ g, (Value.slice A7 (k + 1) k7).ownBlock = some g → W5.heap.size ≤ g)) ∧ Cl w7 b 1 vL))
        (V := fun A7 k7 w7 => w7.setCell ⟨b, 1, none⟩ (.slice A7 (k + 1) k7))
      case walk =>
        refine wp_region_held_drew (S := fun w' => w'.cell? ⟨n7, 1, none⟩ = some (.int .i64 y1)) (by kernel_rfl) (p0) (fun hHeld => ?_)
        refine wpAnyH_take (i := 0) (v := ?_) At.at0 (by kernel_rfl) (by kernel_rfl) (by kernel_rfl) (fun _ _ _ h => by cases h.1) (Or.inl ⟨by rfl, ?_⟩) (by assumption) ?_
        rotate_left
        · (intro w9 hSw; (try dsimp only at hSw); go_simp; try (with_reducible rfl))
        try simp only [Act.put, List.setIfInBounds_toArray, List.set_cons_zero, List.set_cons_succ]
        refine wpAnyH_take (i := 1) (v := ?_) At.at1 (by kernel_rfl) (by kernel_rfl) (by kernel_rfl) (fun _ _ _ h => by cases h.1) (Or.inl ⟨by rfl, ?_⟩) (by assumption) ?_
        rotate_left
        · (intro w9 hSw; (try dsimp only at hSw); go_simp; try (with_reducible rfl))
        try simp only [Act.put, List.setIfInBounds_toArray, List.set_cons_zero, List.set_cons_succ]
        refine wpAnyH_take (i := 2) (v := ?_) At.at2 (by kernel_rfl) (by kernel_rfl) (by kernel_rfl) (fun _ _ _ h => by cases h.1) (Or.inl ⟨by rfl, ?_⟩) (by assumption) ?_
        rotate_left
        · (intro w9 hSw; (try dsimp only at hSw); go_simp; try (with_reducible rfl))
        try simp only [Act.put, List.setIfInBounds_toArray, List.set_cons_zero, List.set_cons_succ]
        refine wpAnyH_take (i := 3) (v := ?_) At.at3 (by kernel_rfl) (by kernel_rfl) (by kernel_rfl) (fun _ _ _ h => by cases h.1) (Or.inl ⟨by rfl, ?_⟩) (by assumption) ?_
        rotate_left
        · (intro w9 hSw; (try dsimp only at hSw); go_simp; try (with_reducible rfl))
        try simp only [Act.put, List.setIfInBounds_toArray, List.set_cons_zero, List.set_cons_succ]
        refine wpAnyH_take (i := 5) (v := ?_) At.at5 (by kernel_rfl) (by kernel_rfl) (by kernel_rfl) (fun _ _ _ h => by cases h.1) (Or.inl ⟨by rfl, ?_⟩) (by assumption) ?_
        rotate_left
        · (intro w9 hSw; (try dsimp only at hSw); go_simp; try (with_reducible rfl))
        try simp only [Act.put, List.setIfInBounds_toArray, List.set_cons_zero, List.set_cons_succ]
        refine wpAnyH_take (i := 6) (v := ?_) At.at6 (by kernel_rfl) (by kernel_rfl) (by kernel_rfl) (fun _ _ _ h => by cases h.1) (Or.inl ⟨by rfl, ?_⟩) (by assumption) ?_
        rotate_left
        · (intro w9 hSw; (try dsimp only at hSw); go_simp; try (with_reducible rfl))
        try simp only [Act.put, List.setIfInBounds_toArray, List.set_cons_zero, List.set_cons_succ]
        refine wpAnyH_ready (rs := [4, 7]) (by kernel_rfl) (by simp) ?_
        refine AllReadyH.cons At.at4 (fun K hK => ?_) (AllReadyH.cons At.at7 (fun K hK => ?_) AllReadyH.nil)
        · have c3' := C318.out
          go_simp
          refine hK.out _ _ (by assumption) (fun hHeld => ?_)
          clear hK K
          try simp only [Act.put, List.setIfInBounds_toArray, List.set_cons_zero, List.set_cons_succ]
          refine wpAnyH_ready (rs := [7]) (by kernel_rfl) (by simp) ?_
          refine AllReadyH.cons At.at7 (fun K hK => ?_) AllReadyH.nil
          go_simp
          refine hK.out _ _ (HA18.out.1) (fun hHeld => ?_)
          clear hK K
          try simp only [Act.put, List.setIfInBounds_toArray, List.set_cons_zero, List.set_cons_succ]
          refine wpAnyH_ready (rs := [8]) (by kernel_rfl) (by simp) ?_
          refine AllReadyH.cons At.at8 (fun K hK => ?_) AllReadyH.nil
          refine Copy.step_append_s w.heap.size rfl _ _ 23 3 (.int .i64 0) 1 8 rfl Tryz.underlying23 info_i rfl (by decide) (by decide) intE (fun _ => rfl) intE1 _ _ y1 _ rfl HO18.out rfl _ rfl rfl HZ18.out (by have := HTL.out; omega) ?_; intro v7 w7 hO7 ha7 hg7; obtain ⟨A7, k7, rfl⟩ : ∃ A7 k7, v7 = .slice A7 (k + 1) k7 := (by have := Copy.shape hO7; rwa [List.length_append, List.length_singleton, HTL.out] at this); have HP7 := Lib.hid (HG18.out _ w7 hO7 ha7 hg7); obtain ⟨-, -, -, -, ⟨d3, z3⟩⟩ := HP7.out; clear hO7 ha7 hg7
          refine hK.out _ _ (HP7.out.2.1) (fun hHeld => ?_)
          clear hK K
          try simp only [Act.put, List.setIfInBounds_toArray, List.set_cons_zero, List.set_cons_succ]
          refine wpAnyH_take (i := 9) (v := ?_) At.at9 (by kernel_rfl) (by kernel_rfl) (by kernel_rfl) (fun _ _ _ h => by cases h.1) (Or.inl ⟨by rfl, ?_⟩) (by assumption) ?_
          rotate_left
          · (intro w9 hSw; (try dsimp only at hSw); go_simp; try (with_reducible rfl))
          try simp only [Act.put, List.setIfInBounds_toArray, List.set_cons_zero, List.set_cons_succ]
          refine wpAnyH_take (i := 10) (v := ?_) At.at10 (by kernel_rfl) (by kernel_rfl) (by kernel_rfl) (fun _ _ _ h => by cases h.1) (Or.inl ⟨by rfl, ?_⟩) (by assumption) ?_
          rotate_left
          · (intro w9 hSw; (try dsimp only at hSw); go_simp; try (with_reducible rfl))
          try simp only [Act.put, List.setIfInBounds_toArray, List.set_cons_zero, List.set_cons_succ]
          refine wpAnyH_ready (rs := [11]) (by kernel_rfl) (by simp) ?_
          refine AllReadyH.cons At.at11 (fun K hK => ?_) AllReadyH.nil
          go_simp
          refine hK.out _ _ (HP7.out.2.2.1) (fun hHeld => ?_)
          clear hK K
          try simp only [Act.put, List.setIfInBounds_toArray, List.set_cons_zero, List.set_cons_succ]
          refine wpAnyH_done (by kernel_rfl) ?_ _
          exact ⟨rfl, A7, k7, w7, HP7, rfl, rfl⟩
        · go_simp
          refine hK.out _ _ (HA18.out.1) (fun hHeld => ?_)
          clear hK K
          try simp only [Act.put, List.setIfInBounds_toArray, List.set_cons_zero, List.set_cons_succ]
          refine wpAnyH_ready (rs := [4]) (by kernel_rfl) (by simp) ?_
          refine AllReadyH.cons At.at4 (fun K hK => ?_) AllReadyH.nil
          have c3' : (W5.alloc (.cells #[.int .i64 y1] 3)).drew.cell? ⟨b, 1, none⟩ = some vL := HA18.out.2; go_simp
          refine hK.out _ _ (by assumption) (fun hHeld => ?_)
          clear hK K
          try simp only [Act.put, List.setIfInBounds_toArray, List.set_cons_zero, List.set_cons_succ]
          refine wpAnyH_ready (rs := [8]) (by kernel_rfl) (by simp) ?_
          refine AllReadyH.cons At.at8 (fun K hK => ?_) AllReadyH.nil
          refine Copy.step_append_s w.heap.size rfl _ _ 23 3 (.int .i64 0) 1 8 rfl Tryz.underlying23 info_i rfl (by decide) (by decide) intE (fun _ => rfl) intE1 _ _ y1 _ rfl HO18.out rfl _ rfl rfl HZ18.out (by have := HTL.out; omega) ?_; intro v7 w7 hO7 ha7 hg7; obtain ⟨A7, k7, rfl⟩ : ∃ A7 k7, v7 = .slice A7 (k + 1) k7 := (by have := Copy.shape hO7; rwa [List.length_append, List.length_singleton, HTL.out] at this); have HP7 := Lib.hid (HG18.out _ w7 hO7 ha7 hg7); obtain ⟨-, -, -, -, ⟨d3, z3⟩⟩ := HP7.out; clear hO7 ha7 hg7
          refine hK.out _ _ (HP7.out.2.1) (fun hHeld => ?_)
          clear hK K
          try simp only [Act.put, List.setIfInBounds_toArray, List.set_cons_zero, List.set_cons_succ]
          refine wpAnyH_take (i := 9) (v := ?_) At.at9 (by kernel_rfl) (by kernel_rfl) (by kernel_rfl) (fun _ _ _ h => by cases h.1) (Or.inl ⟨by rfl, ?_⟩) (by assumption) ?_
          rotate_left
          · (intro w9 hSw; (try dsimp only at hSw); go_simp; try (with_reducible rfl))
          try simp only [Act.put, List.setIfInBounds_toArray, List.set_cons_zero, List.set_cons_succ]
          refine wpAnyH_take (i := 10) (v := ?_) At.at10 (by kernel_rfl) (by kernel_rfl) (by kernel_rfl) (fun _ _ _ h => by cases h.1) (Or.inl ⟨by rfl, ?_⟩) (by assumption) ?_
          rotate_left
          · (intro w9 hSw; (try dsimp only at hSw); go_simp; try (with_reducible rfl))
          try simp only [Act.put, List.setIfInBounds_toArray, List.set_cons_zero, List.set_cons_succ]
          refine wpAnyH_ready (rs := [11]) (by kernel_rfl) (by simp) ?_
          refine AllReadyH.cons At.at11 (fun K hK => ?_) AllReadyH.nil
          go_simp
          refine hK.out _ _ (HP7.out.2.2.1) (fun hHeld => ?_)
          clear hK K
          try simp only [Act.put, List.setIfInBounds_toArray, List.set_cons_zero, List.set_cons_succ]
          refine wpAnyH_done (by kernel_rfl) ?_ _
          exact ⟨rfl, A7, k7, w7, HP7, rfl, rfl⟩
      case cont =>
        intro A7 k7 w7 HP7
        have HS6 := Lib.hid (HS5.out.app HP7.out.2.2.2.1.1 HP7.out.2.2.2.1.2 HP7.out.1 (HS5.out.be.trans (HP7.out.1.below HS5.out.be.size (fun k hk => ((HS5.out.O : World.ownsRow _ _ _ _ _ _ _).lt k hk).1))))
        have P6 : Hid ((w7.setCell ⟨b, 1, none⟩ (.slice A7 (k + 1) k7)).cell? ⟨n7, 1, none⟩ = some (.int .i64 y1)) := Lib.hid HP7.out.2.2.1
        clear HP7 p0 p1 P1 C318 HO18 HZ18 HA18 HG18 HS5
        generalize w7.setCell ⟨b, 1, none⟩ (.slice A7 (k + 1) k7) = W6 at *
        have p1 := P6.out
        go_wp2
        go_roundw
        case rel => exact ⟨k + 1, .slice A7 (k + 1) k7, by go_num, by rw [HT2.out], by omega, Lib.hid (by rw [HTK.out]; exact HS6.out)⟩
        case measure => simp [intOf]; omega
    · obtain rfl : k = l.length := by omega
      have HB2 : Hid (Sb w wr b A c l gW m vL (l.map (·.2.1))) := Lib.hid (by have := HB.out; rw [List.take_length] at this; exact this)
      rw [List.take_length]
      have hs0 := (HSM.out l.length (Nat.le_refl _)).1
      rw [List.take_length] at hs0
      have HSS' := HSS.out
      clear HB HSB
      by_cases hl : l = []
      · subst hl
        obtain rfl : some [] = R := HRR.out
        have HC3 : Hid (wr.cell? ⟨b, 3, none⟩ = some (.slice none 0 0)) := Lib.hid HB2.out.c3.1
        have HBE := Lib.hid HB2.out.be
        show Code.wp _ _ _ _ _
        go_wp2_with (go_at_call 58; refine (find_nil b wr).mono ?_; rintro e w9 ⟨rfl, rfl⟩; have c3 := HC3.out)
        go_ret3
        exact ⟨⟨none, 0, rfl, B.Kd.C_nil _ _ _⟩, HBE.out⟩
      · obtain ⟨mo, hmo⟩ : ∃ mo : Nat, sm (l.map (·.2.1)) = mo := ⟨(sm (l.map (·.2.1))).toNat, by omega⟩
        have hRR := HRR.out
        rw [hmo, Int.toNat_natCast] at hRR
        rw [hmo]
        obtain ⟨gL, cL, rfl, hSd⟩ := HB2.out.done (by rw [List.length_map]) hl
        have HSd := Lib.hid hSd
        have HF := Lib.hid (find w b A c l gL cL m hn (ap_in HBB.out) mo gW l.length (.slice none 0 0) (l.map (·.2.1)) (List.replicate l.length 0) [] [] wr hSd (fun k hk => by cases hk) (left_in HBB.out) (fun i => by rw [g0_rep]; omega) hmo (by show 0 + mo ≤ 12; omega))
        have HLN := Lib.hid (fun r => sr_len l mo (l.map (·.2.1)) (List.replicate l.length 0) r)
        clear hSd HB2
        cases hsr : sr l mo (l.map (·.2.1)) (List.replicate l.length 0) with
        | none =>
          rw [hsr] at HF hRR
          subst hRR
          go_wp2_with (go_at_call 58; refine HF.out.mono ?_; rintro e w9 ⟨rfl, g9, k9, v9, bd9, hS9⟩; have HS9 := Lib.hid hS9; clear hS9)
          go_ret3
          exact ⟨rfl, HS9.out.sd.be⟩
        | some r =>
          rw [hsr] at HF hRR
          subst hRR
          have hrl := HLN.out r hsr
          go_upto_region 14 with (go_at_call 58; refine HF.out.mono ?_; rintro e w9 ⟨rfl, ⟨v9, hc9, hO9⟩, hF9⟩; have HC9 := Lib.hid hc9; have HO9 := Lib.hid hO9; have HF9 := Lib.hid hF9; clear hc9 hO9 hF9)
          have hn9 : r.length ≤ 140737488355328 := by omega
          clear hrl
          obtain ⟨A9, k9, rfl, hC9⟩ := B.own_S (k := 1) (enc := strE) (hl := fun _ => rfl) (h1 := strE1) (show B.Own w9 w.heap.size 9 1 strE v9 r from HO9.out) hn9
          have HCC := Lib.hid hC9
          have c3 := HC9.out
          clear hC9
          go_wp2
          go_ret3
          exact ⟨⟨A9, k9, rfl, HCC.out⟩, HSd.out.be.trans (HF9.out.below HSd.out.be.size (fun j hj => by
            have hlo := HSd.out.lo
            rcases hj with h | h | h | h | h
            · omega
            · omega
            · omega
            · omega
            · cases h))⟩
end Go.Proofs.YtlfobpjefklccaaGreatDoor.Sp
namespace Go.Proofs.YtlfobpjefklccaaGreatDoor.Sp
open Go.RowKit
open F (Fr Cl)

def cd (l : List Wn) (left last : List Int) (t all : Int) (i : Nat) : Bool := decide (0 < g0 left i ∧ all ≤ max t (g0 last i + ap l i + 1) + (g0 left i - 1) * (ap l i + 1))
theorem roomy_not {l : List Wn} {left last : List Int} {t all : Int} {i : Nat} (hi : i < l.length) (h : cd l left last t all i = true) : roomy l left last t all = false := by
  unfold roomy
  rw [List.all_eq_false]
  exact ⟨i, List.mem_range.2 hi, by unfold cd at h; simp [h]⟩
theorem roomy_yes {l : List Wn} {left last : List Int} {t all : Int} (h : ∀ i, i < l.length → cd l left last t all i = false) : roomy l left last t all = true := by
  unfold roomy
  rw [List.all_eq_true]
  intro i hi
  have := h i (List.mem_range.1 hi)
  unfold cd at this
  rw [this]; rfl
theorem cell_same {w w' : World} (h : w'.heap = w.heap) {a : Addr} {v : Value} (hc : w.cell? a = some v) : w'.cell? a = some v := by
  rw [← hc]; unfold World.cell?; rw [h]
theorem mul_in {a p : Int} (h1 : 0 ≤ a ∧ a ≤ 12) (h2 : 1 ≤ p ∧ p ≤ 13) : 0 ≤ a * p ∧ a * p ≤ 156 := by
  refine ⟨Int.mul_nonneg h1.1 (by omega), ?_⟩
  have := Int.mul_le_mul h1.2 h2.2 (by omega) (by omega : (0 : Int) ≤ 12)
  omega
set_option maxHeartbeats 8000000 in
set_option maxRecDepth 100000 in
theorem roomy_any (A : Option Addr) (c gL cL gR cR : Nat) (l : List Wn) (left last : List Int) (t all : Int) (w : World) (hC : Wn.wnK.C w A l) (hL : Ir w gL left) (hR : Ir w gR last) (ll : left.length = l.length) (lr : last.length = l.length)
    (bL : ∀ i, 0 ≤ g0 left i ∧ g0 left i ≤ 12) (bR : ∀ i, -100 ≤ g0 last i ∧ g0 last i ≤ 12) (bA : ∀ i, 0 ≤ ap l i ∧ ap l i ≤ 12) (ht : 0 ≤ t ∧ t ≤ 12) (hall : 0 ≤ all ∧ all ≤ 12) (hn : l.length ≤ 12) :
    Calls Tryz.prog 60 #[.slice A l.length c, .slice (some ⟨gL, 0, none⟩) l.length cL, .slice (some ⟨gR, 0, none⟩) l.length cR, .int .i64 t, .int .i64 all] w fun e w' => e = .returned (.bool (roomy l left last t all)) ∧ Below w.heap.size w w' := by
  have HW := Lib.hid hC
  have HL := Lib.hid hL
  have HR := Lib.hid hR
  have HBL := Lib.hid bL
  have HBR := Lib.hid bR
  have HBA := Lib.hid bA
  clear hC hL hR bL bR bA
  obtain ⟨R, hRR⟩ : ∃ R, roomy l left last t all = R := ⟨_, rfl⟩
  rw [hRR]
  have HRR := Lib.hid hRR
  clear hRR
  go_enter Tryz.func60, Tryz.ntmps60
  go_wp2
  go_loopw [15] (fun s15 wr => ∃ (k : Nat), s15 = .int .i64 k ∧ k ≤ l.length ∧ Hid (∀ i, i < k → cd l left last t all i = false) ∧ Hid (Below w.heap.size w wr)) (fun s _ => l.length - (intOf s).toNat)
  case atStart => exact ⟨0, rfl, Nat.zero_le _, Lib.hid (fun i hi => absurd hi (Nat.not_lt_zero i)), Lib.hid (Below.refl _ _)⟩
  case round =>
    obtain ⟨k, rfl, hk, HK, HB⟩ := hrel
    by_cases hlt : k < l.length
    · have hk1 : (k : Int) < l.length := by omega
      obtain ⟨b5, o5, rfl, q0, q1, q2⟩ := Wn.wn_at (HW.out.mono HB.out) k hlt
      rw [← ap_at hlt] at q2
      have a0 := ((HL.out.below HB.out) k (by omega)).1
      have a1 := ((HR.out.below HB.out) k (by omega)).1
      have bx := HBL.out k
      have by' := HBR.out k
      have bp := HBA.out k
      have HCD : Hid (cd l left last t all k = decide (0 < g0 left k ∧ all ≤ max t (g0 last k + ap l k + 1) + (g0 left k - 1) * (ap l k + 1))) := Lib.hid rfl
      have HKS : Hid (cd l left last t all k = false → ∀ i, i < k + 1 → cd l left last t all i = false) := Lib.hid (fun h i hi => by
        by_cases e : i = k
        · subst e; exact h
        · exact HK.out i (by omega))
      have HNO : Hid (cd l left last t all k = true → R = false) := Lib.hid (fun h => by rw [← HRR.out]; exact roomy_not hlt h)
      generalize cd l left last t all k = C0 at *
      generalize g0 left k = x at *
      generalize g0 last k = y at *
      generalize ap l k = p at *
      go_upto_region 4 with (fail)
      have HAL : Hid (Below wr.heap.size wr (wr.alloc (.cells #[.string l[k].1, .int .i64 l[k].2.1, .int .i64 p] 32))) := Lib.hid ((Below.refl _ _).alloc (Nat.le_refl _) _)
      have p2 : (wr.alloc (.cells #[.string l[k].1, .int .i64 l[k].2.1, .int .i64 p] 32)).cell? ⟨wr.heap.size, 2, none⟩ = some (.int .i64 p) := by rw [World.cell?_alloc_new]; rfl
      have a0' := B.cell_below HAL.out a0
      have a1' := B.cell_below HAL.out a1
      have HB1 := Lib.hid (B.below_trans HB.out HAL.out)
      clear q0 q1 q2 a0 a1 HAL HB
      generalize wr.alloc (.cells #[.string l[k].1, .int .i64 l[k].2.1, .int .i64 p] 32) = W1 at *
      generalize wr.heap.size = n7 at *
      have HA : Hid (∀ w9 : World, w9.heap = W1.heap → w9.cell? ⟨gL, k, none⟩ = some (.int .i64 x)) := Lib.hid (fun w9 h => cell_same h a0')
      have HB9 : Hid (∀ w9 : World, w9.heap = W1.heap → w9.cell? ⟨gR, k, none⟩ = some (.int .i64 y)) := Lib.hid (fun w9 h => cell_same h a1')
      have HP : Hid (∀ w9 : World, w9.heap = W1.heap → w9.cell? ⟨n7, 2, none⟩ = some (.int .i64 p)) := Lib.hid (fun w9 h => cell_same h p2)
      have HB2 : Hid (Below w.heap.size w W1.drew) := Lib.hid (B.below_drew HB1.out 1)
      clear a0' a1' p2
      by_cases hx : 0 < x
      · have HM := Lib.hid (mul_in (a := x - 1) (p := p + 1) (by omega) (by omega))
        have hm := HM.out
        have w1 : IntKind.i64.wrap (y + p) = y + p := by rw [IntKind.wrap_i64]; omega
        have w2 : IntKind.i64.wrap (y + p + 1) = y + p + 1 := by rw [IntKind.wrap_i64]; omega
        have w3 : IntKind.i64.wrap (x - 1) = x - 1 := by rw [IntKind.wrap_i64]; omega
        have w4 : IntKind.i64.wrap (p + 1) = p + 1 := by rw [IntKind.wrap_i64]; omega
        have w5 : IntKind.i64.wrap ((x - 1) * (p + 1)) = (x - 1) * (p + 1) := by rw [IntKind.wrap_i64]; omega
        have w6 : IntKind.i64.wrap (max t (y + p + 1) + (x - 1) * (p + 1)) = max t (y + p + 1) + (x - 1) * (p + 1) := by rw [IntKind.wrap_i64]; omega
        have HWR := Lib.hid (And.intro w1 (And.intro w2 (And.intro w3 (And.intro w4 (And.intro w5 w6)))))
        clear w1 w2 w3 w4 w5 w6 hm
        refine wp_region_held_drew (S := fun w' => w'.heap = W1.heap) (by kernel_rfl) (rfl) (fun hHeld => ?_)
        refine wpAnyH_take (i := 0) (v := ?_) At.at0 (by kernel_rfl) (by kernel_rfl) (by kernel_rfl) (fun _ _ _ h => h) (Or.inl ⟨by rfl, ?_⟩) (by assumption) ?_
        rotate_left
        · (intro w9 hSw; (try dsimp only at hSw); go_simp; try (with_reducible rfl))
        try simp only [Act.put, List.setIfInBounds_toArray, List.set_cons_zero, List.set_cons_succ]
        refine wpAnyH_take (i := 1) (v := ?_) At.at1 (by kernel_rfl) (by kernel_rfl) (by kernel_rfl) (fun _ _ _ h => h) (Or.inl ⟨by rfl, ?_⟩) (by assumption) ?_
        rotate_left
        · (intro w9 hSw; (try dsimp only at hSw); go_simp; try (with_reducible rfl))
        try simp only [Act.put, List.setIfInBounds_toArray, List.set_cons_zero, List.set_cons_succ]
        refine wpAnyH_take (i := 2) (v := ?_) At.at2 (by kernel_rfl) (by kernel_rfl) (by kernel_rfl) (fun _ _ _ h => h) (Or.inl ⟨by rfl, ?_⟩) (by assumption) ?_
        rotate_left
        · (intro w9 hSw; (try dsimp only at hSw); go_simp; try (with_reducible rfl))
        try simp only [Act.put, List.setIfInBounds_toArray, List.set_cons_zero, List.set_cons_succ]
        refine wpAnyH_take (i := 3) (v := ?_) At.at3 (by kernel_rfl) (by kernel_rfl) (by kernel_rfl) (fun _ _ _ h => h) (Or.inl ⟨by rfl, ?_⟩) (by assumption) ?_
        rotate_left
        · (intro w9 hSw; (try dsimp only at hSw); have hcc := HA.out w9 hSw; go_simp; try (with_reducible rfl))
        try simp only [Act.put, List.setIfInBounds_toArray, List.set_cons_zero, List.set_cons_succ]
        refine wpAnyH_take (i := 4) (v := ?_) At.at4 (by kernel_rfl) (by kernel_rfl) (by kernel_rfl) (fun _ _ _ h => h) (Or.inl ⟨by rfl, ?_⟩) (by assumption) ?_
        rotate_left
        · (intro w9 hSw; (try dsimp only at hSw); go_simp; try (with_reducible rfl))
        try simp only [Act.put, List.setIfInBounds_toArray, List.set_cons_zero, List.set_cons_succ]
        refine wpAnyH_take (i := 5) (v := ?_) At.at5 (by kernel_rfl) (by kernel_rfl) (by kernel_rfl) (fun _ _ _ h => h) (Or.inl ⟨by rfl, ?_⟩) (by assumption) ?_
        rotate_left
        · (intro w9 hSw; (try dsimp only at hSw); go_simp; try (with_reducible rfl))
        try simp only [Act.put, List.setIfInBounds_toArray, List.set_cons_zero, List.set_cons_succ]
        refine wpAnyH_take (i := 6) (v := ?_) At.at6 (by kernel_rfl) (by kernel_rfl) (by kernel_rfl) (fun _ _ _ h => h) (Or.inl ⟨by rfl, ?_⟩) (by assumption) ?_
        rotate_left
        · (intro w9 hSw; (try dsimp only at hSw); go_simp; try (with_reducible rfl))
        try simp only [Act.put, List.setIfInBounds_toArray, List.set_cons_zero, List.set_cons_succ]
        refine wpAnyH_take (i := 7) (v := ?_) At.at7 (by kernel_rfl) (by kernel_rfl) (by kernel_rfl) (fun _ _ _ h => h) (Or.inl ⟨by rfl, ?_⟩) (by assumption) ?_
        rotate_left
        · (intro w9 hSw; (try dsimp only at hSw); go_simp; try (with_reducible rfl))
        try simp only [Act.put, List.setIfInBounds_toArray, List.set_cons_zero, List.set_cons_succ]
        refine wpAnyH_take (i := 8) (v := ?_) At.at8 (by kernel_rfl) (by kernel_rfl) (by kernel_rfl) (fun _ _ _ h => h) (Or.inl ⟨by rfl, ?_⟩) (by assumption) ?_
        rotate_left
        · (intro w9 hSw; (try dsimp only at hSw); go_simp; try (with_reducible rfl))
        try simp only [Act.put, List.setIfInBounds_toArray, List.set_cons_zero, List.set_cons_succ]
        refine wpAnyH_take (i := 9) (v := ?_) At.at9 (by kernel_rfl) (by kernel_rfl) (by kernel_rfl) (fun _ _ _ h => h) (Or.inl ⟨by rfl, ?_⟩) (by assumption) ?_
        rotate_left
        · (intro w9 hSw; (try dsimp only at hSw); go_simp; try (with_reducible rfl))
        try simp only [Act.put, List.setIfInBounds_toArray, List.set_cons_zero, List.set_cons_succ]
        refine wpAnyH_take (i := 10) (v := ?_) At.at10 (by kernel_rfl) (by kernel_rfl) (by kernel_rfl) (fun _ _ _ h => h) (Or.inl ⟨by rfl, ?_⟩) (by assumption) ?_
        rotate_left
        · (intro w9 hSw; (try dsimp only at hSw); have hcc := HB9.out w9 hSw; go_simp; try (with_reducible rfl))
        try simp only [Act.put, List.setIfInBounds_toArray, List.set_cons_zero, List.set_cons_succ]
        refine wpAnyH_take (i := 11) (v := ?_) At.at11 (by kernel_rfl) (by kernel_rfl) (by kernel_rfl) (fun _ _ _ h => h) (Or.inl ⟨by rfl, ?_⟩) (by assumption) ?_
        rotate_left
        · (intro w9 hSw; (try dsimp only at hSw); go_simp; try (with_reducible rfl))
        try simp only [Act.put, List.setIfInBounds_toArray, List.set_cons_zero, List.set_cons_succ]
        refine wpAnyH_take (i := 12) (v := ?_) At.at12 (by kernel_rfl) (by kernel_rfl) (by kernel_rfl) (fun _ _ _ h => h) (Or.inl ⟨by rfl, ?_⟩) (by assumption) ?_
        rotate_left
        · (intro w9 hSw; (try dsimp only at hSw); have hcc := HP.out w9 hSw; go_simp; try (with_reducible rfl))
        try simp only [Act.put, List.setIfInBounds_toArray, List.set_cons_zero, List.set_cons_succ]
        refine wpAnyH_take (i := 13) (v := ?_) At.at13 (by kernel_rfl) (by kernel_rfl) (by kernel_rfl) (fun _ _ _ h => h) (Or.inl ⟨by rfl, ?_⟩) (by assumption) ?_
        rotate_left
        · (intro w9 hSw; (try dsimp only at hSw); go_simp; try (with_reducible rfl))
        try simp only [Act.put, List.setIfInBounds_toArray, List.set_cons_zero, List.set_cons_succ]
        refine wpAnyH_take (i := 14) (v := ?_) At.at14 (by kernel_rfl) (by kernel_rfl) (by kernel_rfl) (fun _ _ _ h => h) (Or.inl ⟨by rfl, ?_⟩) (by assumption) ?_
        rotate_left
        · (intro w9 hSw; (try dsimp only at hSw); go_simp; try (with_reducible rfl))
        try simp only [Act.put, List.setIfInBounds_toArray, List.set_cons_zero, List.set_cons_succ]
        refine wpAnyH_take (i := 15) (v := ?_) At.at15 (by kernel_rfl) (by kernel_rfl) (by kernel_rfl) (fun _ _ _ h => h) (Or.inl ⟨by rfl, ?_⟩) (by assumption) ?_
        rotate_left
        · (intro w9 hSw; (try dsimp only at hSw); go_simp; try (with_reducible rfl))
        try simp only [Act.put, List.setIfInBounds_toArray, List.set_cons_zero, List.set_cons_succ]
        refine wpAnyH_take (i := 16) (v := ?_) At.at16 (by kernel_rfl) (by kernel_rfl) (by kernel_rfl) (fun _ _ _ h => h) (Or.inl ⟨by rfl, ?_⟩) (by assumption) ?_
        rotate_left
        · (intro w9 hSw; (try dsimp only at hSw); go_simp; try (with_reducible rfl))
        try simp only [Act.put, List.setIfInBounds_toArray, List.set_cons_zero, List.set_cons_succ]
        refine wpAnyH_take (i := 17) (v := ?_) At.at17 (by kernel_rfl) (by kernel_rfl) (by kernel_rfl) (fun _ _ _ h => h) (Or.inl ⟨by rfl, ?_⟩) (by assumption) ?_
        rotate_left
        · (intro w9 hSw; (try dsimp only at hSw); go_simp; try (with_reducible rfl))
        try simp only [Act.put, List.setIfInBounds_toArray, List.set_cons_zero, List.set_cons_succ]
        refine wpAnyH_take (i := 18) (v := ?_) At.at18 (by kernel_rfl) (by kernel_rfl) (by kernel_rfl) (fun _ _ _ h => h) (Or.inl ⟨by rfl, ?_⟩) (by assumption) ?_
        rotate_left
        · (intro w9 hSw; (try dsimp only at hSw); go_simp; try (with_reducible rfl))
        try simp only [Act.put, List.setIfInBounds_toArray, List.set_cons_zero, List.set_cons_succ]
        refine wpAnyH_take (i := 19) (v := ?_) At.at19 (by kernel_rfl) (by kernel_rfl) (by kernel_rfl) (fun _ _ _ h => h) (Or.inl ⟨by rfl, ?_⟩) (by assumption) ?_
        rotate_left
        · (intro w9 hSw; (try dsimp only at hSw); have hcc := HA.out w9 hSw; go_simp; try (with_reducible rfl))
        try simp only [Act.put, List.setIfInBounds_toArray, List.set_cons_zero, List.set_cons_succ]
        refine wpAnyH_take (i := 20) (v := ?_) At.at20 (by kernel_rfl) (by kernel_rfl) (by kernel_rfl) (fun _ _ _ h => h) (Or.inl ⟨by rfl, ?_⟩) (by assumption) ?_
        rotate_left
        · (intro w9 hSw; (try dsimp only at hSw); go_simp; try (with_reducible rfl))
        try simp only [Act.put, List.setIfInBounds_toArray, List.set_cons_zero, List.set_cons_succ]
        refine wpAnyH_take (i := 21) (v := ?_) At.at21 (by kernel_rfl) (by kernel_rfl) (by kernel_rfl) (fun _ _ _ h => h) (Or.inl ⟨by rfl, ?_⟩) (by assumption) ?_
        rotate_left
        · (intro w9 hSw; (try dsimp only at hSw); go_simp; try (with_reducible rfl))
        try simp only [Act.put, List.setIfInBounds_toArray, List.set_cons_zero, List.set_cons_succ]
        refine wpAnyH_take (i := 22) (v := ?_) At.at22 (by kernel_rfl) (by kernel_rfl) (by kernel_rfl) (fun _ _ _ h => h) (Or.inl ⟨by rfl, ?_⟩) (by assumption) ?_
        rotate_left
        · (intro w9 hSw; (try dsimp only at hSw); have hcc := HP.out w9 hSw; go_simp; try (with_reducible rfl))
        try simp only [Act.put, List.setIfInBounds_toArray, List.set_cons_zero, List.set_cons_succ]
        refine wpAnyH_take (i := 23) (v := ?_) At.at23 (by kernel_rfl) (by kernel_rfl) (by kernel_rfl) (fun _ _ _ h => h) (Or.inl ⟨by rfl, ?_⟩) (by assumption) ?_
        rotate_left
        · (intro w9 hSw; (try dsimp only at hSw); go_simp; try (with_reducible rfl))
        try simp only [Act.put, List.setIfInBounds_toArray, List.set_cons_zero, List.set_cons_succ]
        refine wpAnyH_take (i := 24) (v := ?_) At.at24 (by kernel_rfl) (by kernel_rfl) (by kernel_rfl) (fun _ _ _ h => h) (Or.inl ⟨by rfl, ?_⟩) (by assumption) ?_
        rotate_left
        · (intro w9 hSw; (try dsimp only at hSw); go_simp; try (with_reducible rfl))
        try simp only [Act.put, List.setIfInBounds_toArray, List.set_cons_zero, List.set_cons_succ]
        refine wpAnyH_take (i := 25) (v := ?_) At.at25 (by kernel_rfl) (by kernel_rfl) (by kernel_rfl) (fun _ _ _ h => h) (Or.inl ⟨by rfl, ?_⟩) (by assumption) ?_
        rotate_left
        · (intro w9 hSw; (try dsimp only at hSw); go_simp; try (with_reducible rfl))
        try simp only [Act.put, List.setIfInBounds_toArray, List.set_cons_zero, List.set_cons_succ]
        refine wpAnyH_take (i := 26) (v := ?_) At.at26 (by kernel_rfl) (by kernel_rfl) (by kernel_rfl) (fun _ _ _ h => h) (Or.inl ⟨by rfl, ?_⟩) (by assumption) ?_
        rotate_left
        · (intro w9 hSw; (try dsimp only at hSw); go_simp; try (with_reducible rfl))
        try simp only [Act.put, List.setIfInBounds_toArray, List.set_cons_zero, List.set_cons_succ]
        refine wpAnyH_take (i := 27) (v := ?_) At.at27 (by kernel_rfl) (by kernel_rfl) (by kernel_rfl) (fun _ _ _ h => h) (Or.inl ⟨by rfl, ?_⟩) (by assumption) ?_
        rotate_left
        · (intro w9 hSw; (try dsimp only at hSw); go_simp; try (with_reducible rfl))
        try simp only [Act.put, List.setIfInBounds_toArray, List.set_cons_zero, List.set_cons_succ]
        refine wpAnyH_take (i := 28) (v := ?_) At.at28 (by kernel_rfl) (by kernel_rfl) (by kernel_rfl) (fun _ _ _ h => h) (Or.inl ⟨by rfl, ?_⟩) (by assumption) ?_
        rotate_left
        · (intro w9 hSw; (try dsimp only at hSw); go_simp; try (with_reducible rfl))
        try simp only [Act.put, List.setIfInBounds_toArray, List.set_cons_zero, List.set_cons_succ]
        refine wpAnyH_done (by kernel_rfl) ?_ _
        simp only [HWR.out.1, HWR.out.2.1, HWR.out.2.2.1, HWR.out.2.2.2.1, HWR.out.2.2.2.2.1, HWR.out.2.2.2.2.2]
        by_cases hc : all ≤ max t (y + p + 1) + (x - 1) * (p + 1)
        · have HRF := HNO.out (by rw [HCD.out]; exact decide_eq_true ⟨hx, hc⟩)
          subst HRF
          go_wp2
          go_ret
          exact ⟨rfl, HB2.out⟩
        · go_wp2
          go_roundw
          case rel => exact ⟨k + 1, by go_num, by omega, Lib.hid (HKS.out (by rw [HCD.out]; exact decide_eq_false (fun h => hc h.2))), HB2⟩
          case measure => simp [intOf]; omega
      · have HX0 := Lib.hid hx
        refine wp_region_held_drew (S := fun w' => w'.heap = W1.heap) (by kernel_rfl) (rfl) (fun hHeld => ?_)
        refine wpAnyH_take (i := 0) (v := ?_) At.at0 (by kernel_rfl) (by kernel_rfl) (by kernel_rfl) (fun _ _ _ h => h) (Or.inl ⟨by rfl, ?_⟩) (by assumption) ?_
        rotate_left
        · (intro w9 hSw; (try dsimp only at hSw); go_simp; try (with_reducible rfl))
        try simp only [Act.put, List.setIfInBounds_toArray, List.set_cons_zero, List.set_cons_succ]
        refine wpAnyH_take (i := 1) (v := ?_) At.at1 (by kernel_rfl) (by kernel_rfl) (by kernel_rfl) (fun _ _ _ h => h) (Or.inl ⟨by rfl, ?_⟩) (by assumption) ?_
        rotate_left
        · (intro w9 hSw; (try dsimp only at hSw); go_simp; try (with_reducible rfl))
        try simp only [Act.put, List.setIfInBounds_toArray, List.set_cons_zero, List.set_cons_succ]
        refine wpAnyH_take (i := 2) (v := ?_) At.at2 (by kernel_rfl) (by kernel_rfl) (by kernel_rfl) (fun _ _ _ h => h) (Or.inl ⟨by rfl, ?_⟩) (by assumption) ?_
        rotate_left
        · (intro w9 hSw; (try dsimp only at hSw); go_simp; try (with_reducible rfl))
        try simp only [Act.put, List.setIfInBounds_toArray, List.set_cons_zero, List.set_cons_succ]
        refine wpAnyH_take (i := 3) (v := ?_) At.at3 (by kernel_rfl) (by kernel_rfl) (by kernel_rfl) (fun _ _ _ h => h) (Or.inl ⟨by rfl, ?_⟩) (by assumption) ?_
        rotate_left
        · (intro w9 hSw; (try dsimp only at hSw); have hcc := HA.out w9 hSw; go_simp; try (with_reducible rfl))
        try simp only [Act.put, List.setIfInBounds_toArray, List.set_cons_zero, List.set_cons_succ]
        refine wpAnyH_take (i := 4) (v := ?_) At.at4 (by kernel_rfl) (by kernel_rfl) (by kernel_rfl) (fun _ _ _ h => h) (Or.inl ⟨by rfl, ?_⟩) (by assumption) ?_
        rotate_left
        · (intro w9 hSw; (try dsimp only at hSw); go_simp; try (with_reducible rfl))
        try simp only [Act.put, List.setIfInBounds_toArray, List.set_cons_zero, List.set_cons_succ]
        refine wpAnyH_take (i := 5) (v := ?_) At.at5 (by kernel_rfl) (by kernel_rfl) (by kernel_rfl) (fun _ _ _ h => h) (Or.inl ⟨by rfl, ?_⟩) (by assumption) ?_
        rotate_left
        · (intro w9 hSw; (try dsimp only at hSw); go_simp; try (with_reducible rfl))
        try simp only [Act.put, List.setIfInBounds_toArray, List.set_cons_zero, List.set_cons_succ]
        refine wpAnyH_take (i := 6) (v := undef) At.at6 (by kernel_rfl) (by kernel_rfl) (by kernel_rfl) (fun _ _ _ h => h) (Or.inr ⟨by rfl, rfl⟩) (by assumption) ?_
        try simp only [Act.put, List.setIfInBounds_toArray, List.set_cons_zero, List.set_cons_succ]
        refine wpAnyH_take (i := 7) (v := undef) At.at7 (by kernel_rfl) (by kernel_rfl) (by kernel_rfl) (fun _ _ _ h => h) (Or.inr ⟨by rfl, rfl⟩) (by assumption) ?_
        try simp only [Act.put, List.setIfInBounds_toArray, List.set_cons_zero, List.set_cons_succ]
        refine wpAnyH_take (i := 8) (v := undef) At.at8 (by kernel_rfl) (by kernel_rfl) (by kernel_rfl) (fun _ _ _ h => h) (Or.inr ⟨by rfl, rfl⟩) (by assumption) ?_
        try simp only [Act.put, List.setIfInBounds_toArray, List.set_cons_zero, List.set_cons_succ]
        refine wpAnyH_take (i := 9) (v := undef) At.at9 (by kernel_rfl) (by kernel_rfl) (by kernel_rfl) (fun _ _ _ h => h) (Or.inr ⟨by rfl, rfl⟩) (by assumption) ?_
        try simp only [Act.put, List.setIfInBounds_toArray, List.set_cons_zero, List.set_cons_succ]
        refine wpAnyH_take (i := 10) (v := undef) At.at10 (by kernel_rfl) (by kernel_rfl) (by kernel_rfl) (fun _ _ _ h => h) (Or.inr ⟨by rfl, rfl⟩) (by assumption) ?_
        try simp only [Act.put, List.setIfInBounds_toArray, List.set_cons_zero, List.set_cons_succ]
        refine wpAnyH_take (i := 11) (v := undef) At.at11 (by kernel_rfl) (by kernel_rfl) (by kernel_rfl) (fun _ _ _ h => h) (Or.inr ⟨by rfl, rfl⟩) (by assumption) ?_
        try simp only [Act.put, List.setIfInBounds_toArray, List.set_cons_zero, List.set_cons_succ]
        refine wpAnyH_take (i := 12) (v := undef) At.at12 (by kernel_rfl) (by kernel_rfl) (by kernel_rfl) (fun _ _ _ h => h) (Or.inr ⟨by rfl, rfl⟩) (by assumption) ?_
        try simp only [Act.put, List.setIfInBounds_toArray, List.set_cons_zero, List.set_cons_succ]
        refine wpAnyH_take (i := 13) (v := undef) At.at13 (by kernel_rfl) (by kernel_rfl) (by kernel_rfl) (fun _ _ _ h => h) (Or.inr ⟨by rfl, rfl⟩) (by assumption) ?_
        try simp only [Act.put, List.setIfInBounds_toArray, List.set_cons_zero, List.set_cons_succ]
        refine wpAnyH_take (i := 14) (v := undef) At.at14 (by kernel_rfl) (by kernel_rfl) (by kernel_rfl) (fun _ _ _ h => h) (Or.inr ⟨by rfl, rfl⟩) (by assumption) ?_
        try simp only [Act.put, List.setIfInBounds_toArray, List.set_cons_zero, List.set_cons_succ]
        refine wpAnyH_take (i := 15) (v := undef) At.at15 (by kernel_rfl) (by kernel_rfl) (by kernel_rfl) (fun _ _ _ h => h) (Or.inr ⟨by rfl, rfl⟩) (by assumption) ?_
        try simp only [Act.put, List.setIfInBounds_toArray, List.set_cons_zero, List.set_cons_succ]
        refine wpAnyH_take (i := 16) (v := undef) At.at16 (by kernel_rfl) (by kernel_rfl) (by kernel_rfl) (fun _ _ _ h => h) (Or.inr ⟨by rfl, rfl⟩) (by assumption) ?_
        try simp only [Act.put, List.setIfInBounds_toArray, List.set_cons_zero, List.set_cons_succ]
        refine wpAnyH_take (i := 17) (v := undef) At.at17 (by kernel_rfl) (by kernel_rfl) (by kernel_rfl) (fun _ _ _ h => h) (Or.inr ⟨by rfl, rfl⟩) (by assumption) ?_
        try simp only [Act.put, List.setIfInBounds_toArray, List.set_cons_zero, List.set_cons_succ]
        refine wpAnyH_take (i := 18) (v := undef) At.at18 (by kernel_rfl) (by kernel_rfl) (by kernel_rfl) (fun _ _ _ h => h) (Or.inr ⟨by rfl, rfl⟩) (by assumption) ?_
        try simp only [Act.put, List.setIfInBounds_toArray, List.set_cons_zero, List.set_cons_succ]
        refine wpAnyH_take (i := 19) (v := undef) At.at19 (by kernel_rfl) (by kernel_rfl) (by kernel_rfl) (fun _ _ _ h => h) (Or.inr ⟨by rfl, rfl⟩) (by assumption) ?_
        try simp only [Act.put, List.setIfInBounds_toArray, List.set_cons_zero, List.set_cons_succ]
        refine wpAnyH_take (i := 20) (v := undef) At.at20 (by kernel_rfl) (by kernel_rfl) (by kernel_rfl) (fun _ _ _ h => h) (Or.inr ⟨by rfl, rfl⟩) (by assumption) ?_
        try simp only [Act.put, List.setIfInBounds_toArray, List.set_cons_zero, List.set_cons_succ]
        refine wpAnyH_take (i := 21) (v := undef) At.at21 (by kernel_rfl) (by kernel_rfl) (by kernel_rfl) (fun _ _ _ h => h) (Or.inr ⟨by rfl, rfl⟩) (by assumption) ?_
        try simp only [Act.put, List.setIfInBounds_toArray, List.set_cons_zero, List.set_cons_succ]
        refine wpAnyH_take (i := 22) (v := undef) At.at22 (by kernel_rfl) (by kernel_rfl) (by kernel_rfl) (fun _ _ _ h => h) (Or.inr ⟨by rfl, rfl⟩) (by assumption) ?_
        try simp only [Act.put, List.setIfInBounds_toArray, List.set_cons_zero, List.set_cons_succ]
        refine wpAnyH_take (i := 23) (v := undef) At.at23 (by kernel_rfl) (by kernel_rfl) (by kernel_rfl) (fun _ _ _ h => h) (Or.inr ⟨by rfl, rfl⟩) (by assumption) ?_
        try simp only [Act.put, List.setIfInBounds_toArray, List.set_cons_zero, List.set_cons_succ]
        refine wpAnyH_take (i := 24) (v := undef) At.at24 (by kernel_rfl) (by kernel_rfl) (by kernel_rfl) (fun _ _ _ h => h) (Or.inr ⟨by rfl, rfl⟩) (by assumption) ?_
        try simp only [Act.put, List.setIfInBounds_toArray, List.set_cons_zero, List.set_cons_succ]
        refine wpAnyH_take (i := 25) (v := undef) At.at25 (by kernel_rfl) (by kernel_rfl) (by kernel_rfl) (fun _ _ _ h => h) (Or.inr ⟨by rfl, rfl⟩) (by assumption) ?_
        try simp only [Act.put, List.setIfInBounds_toArray, List.set_cons_zero, List.set_cons_succ]
        refine wpAnyH_take (i := 26) (v := undef) At.at26 (by kernel_rfl) (by kernel_rfl) (by kernel_rfl) (fun _ _ _ h => h) (Or.inr ⟨by rfl, rfl⟩) (by assumption) ?_
        try simp only [Act.put, List.setIfInBounds_toArray, List.set_cons_zero, List.set_cons_succ]
        refine wpAnyH_take (i := 27) (v := undef) At.at27 (by kernel_rfl) (by kernel_rfl) (by kernel_rfl) (fun _ _ _ h => h) (Or.inr ⟨by rfl, rfl⟩) (by assumption) ?_
        try simp only [Act.put, List.setIfInBounds_toArray, List.set_cons_zero, List.set_cons_succ]
        refine wpAnyH_take (i := 28) (v := ?_) At.at28 (by kernel_rfl) (by kernel_rfl) (by kernel_rfl) (fun _ _ _ h => h) (Or.inl ⟨by rfl, ?_⟩) (by assumption) ?_
        rotate_left
        · (intro w9 hSw; (try dsimp only at hSw); go_simp; try (with_reducible rfl))
        try simp only [Act.put, List.setIfInBounds_toArray, List.set_cons_zero, List.set_cons_succ]
        refine wpAnyH_done (by kernel_rfl) ?_ _
        go_wp2
        go_roundw
        case rel => exact ⟨k + 1, by go_num, by omega, Lib.hid (HKS.out (by rw [HCD.out]; exact decide_eq_false (fun h => hx h.1))), HB2⟩
        case measure => simp [intOf]; omega
    · obtain rfl : k = l.length := by omega
      have HRT : R = true := by rw [← HRR.out]; exact roomy_yes HK.out
      subst HRT
      go_wp2
      go_ret
      exact ⟨rfl, HB.out⟩
end Go.Proofs.YtlfobpjefklccaaGreatDoor.Sp
namespace Go.Proofs.YtlfobpjefklccaaGreatDoor.Sp
open Go.RowKit
open F (Fr Cl)

theorem info_str' : (Tryz.prog.info? 9).map (fun i => (i.zero, i.size, i.bytes)) = some (some (.string ⟨#[]⟩), 1, 16) := by kernel_rfl
theorem set_back {xs : List Int} {i : Nat} {v a : Int} (h : i < xs.length) (e : g0 xs i = a) : (xs.set i v).set i a = xs := by
  rw [List.set_set]
  refine g0_ext (by rw [List.length_set]) (fun j _ => ?_)
  rw [g0_set h]
  by_cases hj : j = i
  · subst hj; rw [if_pos rfl]; exact e.symm
  · rw [if_neg hj]
/-- What try tells, by what there is. -/
def TR (w0 w : World) (x : Bx) (A : Option Addr) (c : Nat) (l : List Wn) (gL cL gR cR : Nat) (all : Int) (vO : Value) (left last : List Int) (out : List ByteArray) (o : Option (List ByteArray)) (e : Ending) (w' : World) : Prop := match o with
  | some r => e = .returned (.bool true) ∧ (∃ v, w'.cell? ⟨x.ro, 0, none⟩ = some v ∧ B.Own w' w0.heap.size 9 1 strE v (out ++ r)) ∧ Fr (Ry x gL gR vO) w w'
  | none => e = .returned (.bool false) ∧ ∃ v, Rf w0 w w' x A c l gL cL gR cR all vO v left last out
def caps (x : Bx) : Array Value := #[.pointer (some ⟨x.ro, 0, none⟩), .pointer (some ⟨x.al, 0, none⟩), .pointer (some ⟨x.bl, 0, none⟩), .pointer (some ⟨x.bL, 0, none⟩), .pointer (some ⟨x.bR, 0, none⟩), .pointer (some ⟨x.bt, 0, none⟩)]
def TryAt (w0 : World) (x : Bx) (A : Option Addr) (c : Nat) (l : List Wn) (gL cL gR cR : Nat) (all : Int) (mo : Nat) : Prop :=
  ∀ (vO : Value) (left last : List Int) (out : List ByteArray) (w : World), Rd w0 w x A c l gL cL gR cR all vO left last out → (∀ i, 0 ≤ g0 left i ∧ g0 left i ≤ 12) → (∀ i, -100 ≤ g0 last i ∧ g0 last i ≤ 12) → (out.length : Int) + mo = all →
    Calls Tryz.prog 59 (caps x) w (TR w0 w x A c l gL cL gR cR all vO left last out (rr l all mo left last))
set_option maxHeartbeats 4000000 in
set_option maxRecDepth 100000 in
theorem try_zero (w0 : World) (x : Bx) (A : Option Addr) (c : Nat) (l : List Wn) (gL cL gR cR : Nat) (all : Int) : TryAt w0 x A c l gL cL gR cR all 0 := by
  intro vO left last out w h _ _ hm
  have HS := Lib.hid h
  obtain ⟨A1, k1, rfl⟩ := Copy.shape h.O
  have c0 := h.c0.1
  have c1 := h.c1.1
  have he : ((out.length : Int) == all) = true := by simp; omega
  clear h hm
  unfold caps
  go_enter Tryz.func59, Tryz.ntmps59
  go_wp2
  go_ret
  exact ⟨rfl, ⟨_, HS.out.c0.1, by rw [List.append_nil]; exact HS.out.O⟩, Fr.refl _ _⟩
set_option maxHeartbeats 16000000 in
set_option maxRecDepth 100000 in
theorem try_step (w0 : World) (x : Bx) (A : Option Addr) (c : Nat) (l : List Wn) (gL cL gR cR : Nat) (all : Int) (mo : Nat) (hn : l.length ≤ 12) (hA : ∀ i, 0 ≤ ap l i ∧ ap l i ≤ 12) (hall : 0 ≤ all ∧ all ≤ 12) (IH : TryAt w0 x A c l gL cL gR cR all mo) : TryAt w0 x A c l gL cL gR cR all (mo + 1) := by
  intro vO left last out w h hL hR hm
  have HIH := Lib.hid IH
  have HLB := Lib.hid hL
  have HRB := Lib.hid hR
  have HAP := Lib.hid hA
  have HLO := Lib.hid hm
  have HALL := Lib.hid hall
  have hT1 : all - ((mo + 1 : Nat) : Int) = out.length := by omega
  have hT2 : all - (mo : Int) = (out.length : Int) + 1 := by omega
  obtain ⟨f, hf⟩ : ∃ f, f = fun i => if g0 left i = 0 ∨ (out.length : Int) - g0 last i - 1 < ap l i then none else
      if roomy l (left.set i (g0 left i - 1)) (last.set i out.length) ((out.length : Int) + 1) all = true then (rr l all mo (left.set i (g0 left i - 1)) (last.set i out.length)).map (it l i :: ·) else none := ⟨_, rfl⟩
  have HF := Lib.hid hf
  have HSR : Hid (fs f 0 l.length = rr l all (mo + 1) left last) := Lib.hid (by rw [hf, rr, hT1, hT2])
  have HS := Lib.hid (Rf.start h)
  obtain ⟨A1, k1, rfl⟩ := Copy.shape h.O
  have c0 := h.c0.1
  have c1 := h.c1.1
  have c2 := h.c2.1
  have he : ((out.length : Int) == all) = false := by simp; omega
  clear IH hL hR hA hm hT1 hT2 h hf
  generalize rr l all (mo + 1) left last = R at *
  unfold caps
  go_enter Tryz.func59, Tryz.ntmps59
  go_wp2
  clear c0 c1 c2 he
  obtain ⟨vO, hvO⟩ : ∃ v, v = Value.slice A1 out.length k1 := ⟨_, rfl⟩
  rw [← hvO] at HS
  have HVO := Lib.hid hvO
  clear hvO
  go_loopw [16] (fun s16 wr => ∃ (i : Nat), s16 = .int .i64 i ∧ i ≤ l.length ∧ Hid (fs f i (l.length - i) = R) ∧ Hid (∃ v1, Rf w0 w wr x A c l gL cL gR cR all vO v1 left last out)) (fun s _ => l.length - (intOf s).toNat)
  case atStart => exact ⟨0, rfl, Nat.zero_le _, HSR, Lib.hid ⟨vO, HS.out⟩⟩
  case round =>
    obtain ⟨i, rfl, hi, HFI, HSI⟩ := hrel
    obtain ⟨v1, hS⟩ := HSI.out
    by_cases hlt : i < l.length
    · have hk1 : (i : Int) < l.length := by omega
      obtain ⟨b5, o5, rfl, q0, q1, q2⟩ := Wn.wn_at (hS.rd.wn.mono hS.rd.be) i hlt
      rw [← it_at hlt] at q0
      rw [← ap_at hlt] at q2
      have HF0 : Hid (f i = none → fs f (i + 1) (l.length - (i + 1)) = R) := Lib.hid (fun h0 => by
        have := HFI.out
        rw [show l.length - i = (l.length - (i + 1)) + 1 by omega, fs, h0] at this
        exact this)
      have HF1 : Hid (∀ r, f i = some r → R = some r) := Lib.hid (fun r h0 => by
        have := HFI.out
        rw [show l.length - i = (l.length - (i + 1)) + 1 by omega, fs, h0] at this
        exact this.symm)
      have HX := HLB.out i
      have HY := HRB.out i
      have HQ := HAP.out i
      obtain ⟨a, hx⟩ : ∃ a, g0 left i = a := ⟨_, rfl⟩
      obtain ⟨y, hy⟩ : ∃ y, g0 last i = y := ⟨_, rfl⟩
      rw [hx] at HX
      rw [hy] at HY
      have HFX : Hid (f i = if a = 0 ∨ (out.length : Int) - y - 1 < ap l i then none else if roomy l (left.set i (a - 1)) (last.set i out.length) ((out.length : Int) + 1) all = true then (rr l all mo (left.set i (a - 1)) (last.set i out.length)).map (it l i :: ·) else none) := Lib.hid (by rw [HF.out]; simp only [hx, hy])
      have HXL := Lib.hid hx
      have HYL := Lib.hid hy
      have HT3L : Hid (left.length = l.length) := Lib.hid hS.rd.ll
      have HT3R : Hid (last.length = l.length) := Lib.hid hS.rd.lr
      have hol : (out.length : Int) ≤ 12 := by have := HLO.out; have := HALL.out; omega
      have r1 := (hS.rd.L i (by rw [hS.rd.ll]; exact hlt)).1
      have r2 := (hS.rd.R i (by rw [hS.rd.lr]; exact hlt)).1
      rw [hx] at r1
      rw [hy] at r2
      have R1 := Lib.hid r1
      have R2 := Lib.hid r2
      clear HFI HSI hx hy r1 r2
      go_upto_region 6 with (fail)
      have HAL : Hid (Below wr.heap.size wr (wr.alloc (.cells #[.string (it l i), .int .i64 l[i].2.1, .int .i64 (ap l i)] 32))) := Lib.hid ((Below.refl _ _).alloc (Nat.le_refl _) _)
      have p0 : (wr.alloc (.cells #[.string (it l i), .int .i64 l[i].2.1, .int .i64 (ap l i)] 32)).cell? ⟨wr.heap.size, 0, none⟩ = some (.string (it l i)) := by rw [World.cell?_alloc_new]; rfl
      have p2 : (wr.alloc (.cells #[.string (it l i), .int .i64 l[i].2.1, .int .i64 (ap l i)] 32)).cell? ⟨wr.heap.size, 2, none⟩ = some (.int .i64 (ap l i)) := by rw [World.cell?_alloc_new]; rfl
      have hS1 := hS.below HAL.out
      have r1 := B.cell_below HAL.out R1.out
      have r2 := B.cell_below HAL.out R2.out
      have HNX : Hid (¬ Ry x gL gR v1 wr.heap.size) := Lib.hid (by
        have h1 := hS.rd.lt
        have h2 := hS.rd.hs
        rintro (h | h | h | h)
        · omega
        · omega
        · omega
        · have := h1.2.2 _ h; omega)
      clear q0 q1 q2 hS HAL R1 R2
      generalize wr.alloc (.cells #[.string (it l i), .int .i64 l[i].2.1, .int .i64 (ap l i)] 32) = W1 at *
      generalize wr.heap.size = n7 at *
      obtain ⟨A3, k3, hv1⟩ := Copy.shape hS1.rd.O
      have HS2 := Lib.hid hS1
      have H0 : Hid (∀ w9 : World, w9.heap = W1.heap → w9.cell? ⟨x.ro, 0, none⟩ = some (.slice A3 out.length k3)) := Lib.hid (fun w9 h => cell_same h (hv1 ▸ hS1.rd.c0.1))
      have H3 : Hid (∀ w9 : World, w9.heap = W1.heap → w9.cell? ⟨x.bL, 0, none⟩ = some (.slice (some ⟨gL, 0, none⟩) l.length cL)) := Lib.hid (fun w9 h => cell_same h hS1.rd.c3.1)
      have H4 : Hid (∀ w9 : World, w9.heap = W1.heap → w9.cell? ⟨x.bR, 0, none⟩ = some (.slice (some ⟨gR, 0, none⟩) l.length cR)) := Lib.hid (fun w9 h => cell_same h hS1.rd.c4.1)
      have HA : Hid (∀ w9 : World, w9.heap = W1.heap → w9.cell? ⟨gL, i, none⟩ = some (.int .i64 a)) := Lib.hid (fun w9 h => cell_same h r1)
      have HB9 : Hid (∀ w9 : World, w9.heap = W1.heap → w9.cell? ⟨gR, i, none⟩ = some (.int .i64 y)) := Lib.hid (fun w9 h => cell_same h r2)
      have HP : Hid (∀ w9 : World, w9.heap = W1.heap → w9.cell? ⟨n7, 2, none⟩ = some (.int .i64 (ap l i))) := Lib.hid (fun w9 h => cell_same h p2)
      have P0 := Lib.hid p0
      have HV1 := Lib.hid hv1
      have HTD : Hid (Rf w0 w W1.drew x (some ⟨b5, o5, none⟩) c l gL cL gR cR all vO v1 left last out) := Lib.hid (hS1.below (B.below_drew (Below.refl _ _) 1))
      have HTS : Hid (Rf w0 W1.drew W1.drew x (some ⟨b5, o5, none⟩) c l gL cL gR cR all v1 v1 left last out) := Lib.hid (Rf.start HTD.out.rd)
      clear r1 r2 p0 p2 hS1 hv1
      by_cases hx0 : a = 0
      · have hab : (a == 0) = true := by simpa using hx0
        refine wp_region_held_drew (S := fun w' => w'.heap = W1.heap) (by kernel_rfl) (rfl) (fun hHeld => ?_)
        refine wpAnyH_take (i := 0) (v := ?_) At.at0 (by kernel_rfl) (by kernel_rfl) (by kernel_rfl) (fun _ _ _ h => h) (Or.inl ⟨by rfl, ?_⟩) (by assumption) ?_
        rotate_left
        · (intro w9 hSw; (try dsimp only at hSw); have hcc := H3.out w9 hSw; go_simp; try (with_reducible rfl))
        try simp only [Act.put, List.setIfInBounds_toArray, List.set_cons_zero, List.set_cons_succ]
        refine wpAnyH_take (i := 1) (v := ?_) At.at1 (by kernel_rfl) (by kernel_rfl) (by kernel_rfl) (fun _ _ _ h => h) (Or.inl ⟨by rfl, ?_⟩) (by assumption) ?_
        rotate_left
        · (intro w9 hSw; (try dsimp only at hSw); go_simp; try (with_reducible rfl))
        try simp only [Act.put, List.setIfInBounds_toArray, List.set_cons_zero, List.set_cons_succ]
        refine wpAnyH_take (i := 2) (v := ?_) At.at2 (by kernel_rfl) (by kernel_rfl) (by kernel_rfl) (fun _ _ _ h => h) (Or.inl ⟨by rfl, ?_⟩) (by assumption) ?_
        rotate_left
        · (intro w9 hSw; (try dsimp only at hSw); go_simp; try (with_reducible rfl))
        try simp only [Act.put, List.setIfInBounds_toArray, List.set_cons_zero, List.set_cons_succ]
        refine wpAnyH_take (i := 3) (v := ?_) At.at3 (by kernel_rfl) (by kernel_rfl) (by kernel_rfl) (fun _ _ _ h => h) (Or.inl ⟨by rfl, ?_⟩) (by assumption) ?_
        rotate_left
        · (intro w9 hSw; (try dsimp only at hSw); have hcc := HA.out w9 hSw; go_simp; try (with_reducible rfl))
        try simp only [Act.put, List.setIfInBounds_toArray, List.set_cons_zero, List.set_cons_succ]
        refine wpAnyH_take (i := 4) (v := ?_) At.at4 (by kernel_rfl) (by kernel_rfl) (by kernel_rfl) (fun _ _ _ h => h) (Or.inl ⟨by rfl, ?_⟩) (by assumption) ?_
        rotate_left
        · (intro w9 hSw; (try dsimp only at hSw); go_simp; try (with_reducible rfl))
        try simp only [Act.put, List.setIfInBounds_toArray, List.set_cons_zero, List.set_cons_succ]
        refine wpAnyH_take (i := 5) (v := ?_) At.at5 (by kernel_rfl) (by kernel_rfl) (by kernel_rfl) (fun _ _ _ h => h) (Or.inl ⟨by rfl, ?_⟩) (by assumption) ?_
        rotate_left
        · (intro w9 hSw; (try dsimp only at hSw); go_simp; try (with_reducible rfl))
        try simp only [Act.put, List.setIfInBounds_toArray, List.set_cons_zero, List.set_cons_succ]
        refine wpAnyH_take (i := 6) (v := undef) At.at6 (by kernel_rfl) (by kernel_rfl) (by kernel_rfl) (fun _ _ _ h => h) (Or.inr ⟨by rfl, rfl⟩) (by assumption) ?_
        try simp only [Act.put, List.setIfInBounds_toArray, List.set_cons_zero, List.set_cons_succ]
        refine wpAnyH_take (i := 7) (v := undef) At.at7 (by kernel_rfl) (by kernel_rfl) (by kernel_rfl) (fun _ _ _ h => h) (Or.inr ⟨by rfl, rfl⟩) (by assumption) ?_
        try simp only [Act.put, List.setIfInBounds_toArray, List.set_cons_zero, List.set_cons_succ]
        refine wpAnyH_take (i := 8) (v := undef) At.at8 (by kernel_rfl) (by kernel_rfl) (by kernel_rfl) (fun _ _ _ h => h) (Or.inr ⟨by rfl, rfl⟩) (by assumption) ?_
        try simp only [Act.put, List.setIfInBounds_toArray, List.set_cons_zero, List.set_cons_succ]
        refine wpAnyH_take (i := 9) (v := undef) At.at9 (by kernel_rfl) (by kernel_rfl) (by kernel_rfl) (fun _ _ _ h => h) (Or.inr ⟨by rfl, rfl⟩) (by assumption) ?_
        try simp only [Act.put, List.setIfInBounds_toArray, List.set_cons_zero, List.set_cons_succ]
        refine wpAnyH_take (i := 10) (v := undef) At.at10 (by kernel_rfl) (by kernel_rfl) (by kernel_rfl) (fun _ _ _ h => h) (Or.inr ⟨by rfl, rfl⟩) (by assumption) ?_
        try simp only [Act.put, List.setIfInBounds_toArray, List.set_cons_zero, List.set_cons_succ]
        refine wpAnyH_take (i := 11) (v := undef) At.at11 (by kernel_rfl) (by kernel_rfl) (by kernel_rfl) (fun _ _ _ h => h) (Or.inr ⟨by rfl, rfl⟩) (by assumption) ?_
        try simp only [Act.put, List.setIfInBounds_toArray, List.set_cons_zero, List.set_cons_succ]
        refine wpAnyH_take (i := 12) (v := undef) At.at12 (by kernel_rfl) (by kernel_rfl) (by kernel_rfl) (fun _ _ _ h => h) (Or.inr ⟨by rfl, rfl⟩) (by assumption) ?_
        try simp only [Act.put, List.setIfInBounds_toArray, List.set_cons_zero, List.set_cons_succ]
        refine wpAnyH_take (i := 13) (v := undef) At.at13 (by kernel_rfl) (by kernel_rfl) (by kernel_rfl) (fun _ _ _ h => h) (Or.inr ⟨by rfl, rfl⟩) (by assumption) ?_
        try simp only [Act.put, List.setIfInBounds_toArray, List.set_cons_zero, List.set_cons_succ]
        refine wpAnyH_take (i := 14) (v := undef) At.at14 (by kernel_rfl) (by kernel_rfl) (by kernel_rfl) (fun _ _ _ h => h) (Or.inr ⟨by rfl, rfl⟩) (by assumption) ?_
        try simp only [Act.put, List.setIfInBounds_toArray, List.set_cons_zero, List.set_cons_succ]
        refine wpAnyH_take (i := 15) (v := undef) At.at15 (by kernel_rfl) (by kernel_rfl) (by kernel_rfl) (fun _ _ _ h => h) (Or.inr ⟨by rfl, rfl⟩) (by assumption) ?_
        try simp only [Act.put, List.setIfInBounds_toArray, List.set_cons_zero, List.set_cons_succ]
        refine wpAnyH_take (i := 16) (v := undef) At.at16 (by kernel_rfl) (by kernel_rfl) (by kernel_rfl) (fun _ _ _ h => h) (Or.inr ⟨by rfl, rfl⟩) (by assumption) ?_
        try simp only [Act.put, List.setIfInBounds_toArray, List.set_cons_zero, List.set_cons_succ]
        refine wpAnyH_take (i := 17) (v := ?_) At.at17 (by kernel_rfl) (by kernel_rfl) (by kernel_rfl) (fun _ _ _ h => h) (Or.inl ⟨by rfl, ?_⟩) (by assumption) ?_
        rotate_left
        · (intro w9 hSw; (try dsimp only at hSw); go_simp; try (with_reducible rfl))
        try simp only [Act.put, List.setIfInBounds_toArray, List.set_cons_zero, List.set_cons_succ]
        refine wpAnyH_done (by kernel_rfl) ?_ _
        go_wp2
        go_roundw
        case rel => exact ⟨i + 1, by go_num, by omega, Lib.hid (HF0.out (by rw [HFX.out, if_pos (.inl hx0)])), Lib.hid ⟨v1, HTD.out⟩⟩
        case measure => simp [intOf]; omega
      · have hab : (a == 0) = false := by simpa using hx0
        have w1 : IntKind.i64.wrap ((out.length : Int) - y) = (out.length : Int) - y := by rw [IntKind.wrap_i64]; omega
        have w2 : IntKind.i64.wrap ((out.length : Int) - y - 1) = (out.length : Int) - y - 1 := by rw [IntKind.wrap_i64]; omega
        have HWR := Lib.hid (And.intro w1 w2)
        clear w1 w2
        refine wp_region_held_drew (S := fun w' => w'.heap = W1.heap) (by kernel_rfl) (rfl) (fun hHeld => ?_)
        refine wpAnyH_take (i := 0) (v := ?_) At.at0 (by kernel_rfl) (by kernel_rfl) (by kernel_rfl) (fun _ _ _ h => h) (Or.inl ⟨by rfl, ?_⟩) (by assumption) ?_
        rotate_left
        · (intro w9 hSw; (try dsimp only at hSw); have hcc := H3.out w9 hSw; go_simp; try (with_reducible rfl))
        try simp only [Act.put, List.setIfInBounds_toArray, List.set_cons_zero, List.set_cons_succ]
        refine wpAnyH_take (i := 1) (v := ?_) At.at1 (by kernel_rfl) (by kernel_rfl) (by kernel_rfl) (fun _ _ _ h => h) (Or.inl ⟨by rfl, ?_⟩) (by assumption) ?_
        rotate_left
        · (intro w9 hSw; (try dsimp only at hSw); go_simp; try (with_reducible rfl))
        try simp only [Act.put, List.setIfInBounds_toArray, List.set_cons_zero, List.set_cons_succ]
        refine wpAnyH_take (i := 2) (v := ?_) At.at2 (by kernel_rfl) (by kernel_rfl) (by kernel_rfl) (fun _ _ _ h => h) (Or.inl ⟨by rfl, ?_⟩) (by assumption) ?_
        rotate_left
        · (intro w9 hSw; (try dsimp only at hSw); go_simp; try (with_reducible rfl))
        try simp only [Act.put, List.setIfInBounds_toArray, List.set_cons_zero, List.set_cons_succ]
        refine wpAnyH_take (i := 3) (v := ?_) At.at3 (by kernel_rfl) (by kernel_rfl) (by kernel_rfl) (fun _ _ _ h => h) (Or.inl ⟨by rfl, ?_⟩) (by assumption) ?_
        rotate_left
        · (intro w9 hSw; (try dsimp only at hSw); have hcc := HA.out w9 hSw; go_simp; try (with_reducible rfl))
        try simp only [Act.put, List.setIfInBounds_toArray, List.set_cons_zero, List.set_cons_succ]
        refine wpAnyH_take (i := 4) (v := ?_) At.at4 (by kernel_rfl) (by kernel_rfl) (by kernel_rfl) (fun _ _ _ h => h) (Or.inl ⟨by rfl, ?_⟩) (by assumption) ?_
        rotate_left
        · (intro w9 hSw; (try dsimp only at hSw); go_simp; try (with_reducible rfl))
        try simp only [Act.put, List.setIfInBounds_toArray, List.set_cons_zero, List.set_cons_succ]
        refine wpAnyH_take (i := 5) (v := ?_) At.at5 (by kernel_rfl) (by kernel_rfl) (by kernel_rfl) (fun _ _ _ h => h) (Or.inl ⟨by rfl, ?_⟩) (by assumption) ?_
        rotate_left
        · (intro w9 hSw; (try dsimp only at hSw); go_simp; try (with_reducible rfl))
        try simp only [Act.put, List.setIfInBounds_toArray, List.set_cons_zero, List.set_cons_succ]
        refine wpAnyH_take (i := 6) (v := ?_) At.at6 (by kernel_rfl) (by kernel_rfl) (by kernel_rfl) (fun _ _ _ h => h) (Or.inl ⟨by rfl, ?_⟩) (by assumption) ?_
        rotate_left
        · (intro w9 hSw; (try dsimp only at hSw); have hcc := H0.out w9 hSw; go_simp; try (with_reducible rfl))
        try simp only [Act.put, List.setIfInBounds_toArray, List.set_cons_zero, List.set_cons_succ]
        refine wpAnyH_take (i := 7) (v := ?_) At.at7 (by kernel_rfl) (by kernel_rfl) (by kernel_rfl) (fun _ _ _ h => h) (Or.inl ⟨by rfl, ?_⟩) (by assumption) ?_
        rotate_left
        · (intro w9 hSw; (try dsimp only at hSw); go_simp; try (with_reducible rfl))
        try simp only [Act.put, List.setIfInBounds_toArray, List.set_cons_zero, List.set_cons_succ]
        refine wpAnyH_take (i := 8) (v := ?_) At.at8 (by kernel_rfl) (by kernel_rfl) (by kernel_rfl) (fun _ _ _ h => h) (Or.inl ⟨by rfl, ?_⟩) (by assumption) ?_
        rotate_left
        · (intro w9 hSw; (try dsimp only at hSw); have hcc := H4.out w9 hSw; go_simp; try (with_reducible rfl))
        try simp only [Act.put, List.setIfInBounds_toArray, List.set_cons_zero, List.set_cons_succ]
        refine wpAnyH_take (i := 9) (v := ?_) At.at9 (by kernel_rfl) (by kernel_rfl) (by kernel_rfl) (fun _ _ _ h => h) (Or.inl ⟨by rfl, ?_⟩) (by assumption) ?_
        rotate_left
        · (intro w9 hSw; (try dsimp only at hSw); go_simp; try (with_reducible rfl))
        try simp only [Act.put, List.setIfInBounds_toArray, List.set_cons_zero, List.set_cons_succ]
        refine wpAnyH_take (i := 10) (v := ?_) At.at10 (by kernel_rfl) (by kernel_rfl) (by kernel_rfl) (fun _ _ _ h => h) (Or.inl ⟨by rfl, ?_⟩) (by assumption) ?_
        rotate_left
        · (intro w9 hSw; (try dsimp only at hSw); go_simp; try (with_reducible rfl))
        try simp only [Act.put, List.setIfInBounds_toArray, List.set_cons_zero, List.set_cons_succ]
        refine wpAnyH_take (i := 11) (v := ?_) At.at11 (by kernel_rfl) (by kernel_rfl) (by kernel_rfl) (fun _ _ _ h => h) (Or.inl ⟨by rfl, ?_⟩) (by assumption) ?_
        rotate_left
        · (intro w9 hSw; (try dsimp only at hSw); have hcc := HB9.out w9 hSw; go_simp; try (with_reducible rfl))
        try simp only [Act.put, List.setIfInBounds_toArray, List.set_cons_zero, List.set_cons_succ]
        refine wpAnyH_take (i := 12) (v := ?_) At.at12 (by kernel_rfl) (by kernel_rfl) (by kernel_rfl) (fun _ _ _ h => h) (Or.inl ⟨by rfl, ?_⟩) (by assumption) ?_
        rotate_left
        · (intro w9 hSw; (try dsimp only at hSw); go_simp; try (with_reducible rfl))
        try simp only [Act.put, List.setIfInBounds_toArray, List.set_cons_zero, List.set_cons_succ]
        refine wpAnyH_take (i := 13) (v := ?_) At.at13 (by kernel_rfl) (by kernel_rfl) (by kernel_rfl) (fun _ _ _ h => h) (Or.inl ⟨by rfl, ?_⟩) (by assumption) ?_
        rotate_left
        · (intro w9 hSw; (try dsimp only at hSw); go_simp; try (with_reducible rfl))
        try simp only [Act.put, List.setIfInBounds_toArray, List.set_cons_zero, List.set_cons_succ]
        refine wpAnyH_take (i := 14) (v := ?_) At.at14 (by kernel_rfl) (by kernel_rfl) (by kernel_rfl) (fun _ _ _ h => h) (Or.inl ⟨by rfl, ?_⟩) (by assumption) ?_
        rotate_left
        · (intro w9 hSw; (try dsimp only at hSw); go_simp; try (with_reducible rfl))
        try simp only [Act.put, List.setIfInBounds_toArray, List.set_cons_zero, List.set_cons_succ]
        refine wpAnyH_take (i := 15) (v := ?_) At.at15 (by kernel_rfl) (by kernel_rfl) (by kernel_rfl) (fun _ _ _ h => h) (Or.inl ⟨by rfl, ?_⟩) (by assumption) ?_
        rotate_left
        · (intro w9 hSw; (try dsimp only at hSw); have hcc := HP.out w9 hSw; go_simp; try (with_reducible rfl))
        try simp only [Act.put, List.setIfInBounds_toArray, List.set_cons_zero, List.set_cons_succ]
        refine wpAnyH_take (i := 16) (v := ?_) At.at16 (by kernel_rfl) (by kernel_rfl) (by kernel_rfl) (fun _ _ _ h => h) (Or.inl ⟨by rfl, ?_⟩) (by assumption) ?_
        rotate_left
        · (intro w9 hSw; (try dsimp only at hSw); go_simp; try (with_reducible rfl))
        try simp only [Act.put, List.setIfInBounds_toArray, List.set_cons_zero, List.set_cons_succ]
        refine wpAnyH_take (i := 17) (v := ?_) At.at17 (by kernel_rfl) (by kernel_rfl) (by kernel_rfl) (fun _ _ _ h => h) (Or.inl ⟨by rfl, ?_⟩) (by assumption) ?_
        rotate_left
        · (intro w9 hSw; (try dsimp only at hSw); go_simp; try (with_reducible rfl))
        try simp only [Act.put, List.setIfInBounds_toArray, List.set_cons_zero, List.set_cons_succ]
        refine wpAnyH_done (by kernel_rfl) ?_ _
        simp only [HWR.out.1, HWR.out.2]
        by_cases hc : (out.length : Int) - y - 1 < ap l i
        · go_wp2
          go_roundw
          case rel => exact ⟨i + 1, by go_num, by omega, Lib.hid (HF0.out (by rw [HFX.out, if_pos (.inr hc)])), Lib.hid ⟨v1, HTD.out⟩⟩
          case measure => simp [intOf]; omega
        · have P0d : Hid (W1.drew.cell? ⟨n7, 0, none⟩ = some (.string (it l i))) := P0
          clear H0 H3 H4 HA HB9 HP P0 HWR HS2 HTS
          obtain rfl := HV1.out
          clear HV1
          generalize W1.drew = Wd at *
          have c4 := HTD.out.rd.c4.1
          have c3 := HTD.out.rd.c3.1
          obtain ⟨r2, z2⟩ := HTD.out.rd.R i (by rw [HTD.out.rd.lr]; exact hlt)
          obtain ⟨r1, z1⟩ := HTD.out.rd.L i (by rw [HTD.out.rd.ll]; exact hlt)
          rw [HXL.out] at r1
          rw [HYL.out] at r2
          have HT5 := Lib.hid (HTD.out.setL hlt (a - 1))
          have P5 : Hid ((Wd.setCell ⟨gL, i, none⟩ (.int .i64 (a - 1))).cell? ⟨n7, 0, none⟩ = some (.string (it l i))) := Lib.hid (by rw [World.cell?_setCell_other _ _ _ _ (by intro e; exact HNX.out (.inr (.inl (Addr.mk.inj e).1.symm)))]; exact P0d.out)
          clear HTD P0d
          go_upto_region 9 with (fail)
          clear c4 c3 r1 r2 z1 z2
          generalize Wd.setCell ⟨gL, i, none⟩ (.int .i64 (a - 1)) = W5 at *
          have c4 := HT5.out.rd.c4.1
          have c0 := HT5.out.rd.c0.1
          obtain ⟨r2, z2⟩ := HT5.out.rd.R i (by rw [HT5.out.rd.lr]; exact hlt)
          have HT6 := Lib.hid (HT5.out.setR hlt (out.length : Int))
          have P6 : Hid ((W5.setCell ⟨gR, i, none⟩ (.int .i64 (out.length : Int))).cell? ⟨n7, 0, none⟩ = some (.string (it l i))) := Lib.hid (by rw [World.cell?_setCell_other _ _ _ _ (by intro e; exact HNX.out (.inr (.inr (.inl (Addr.mk.inj e).1.symm))))]; exact P5.out)
          clear HT5 P5
          go_upto_region 10 with (fail)
          clear c4 c0 r2 z2
          generalize W5.setCell ⟨gR, i, none⟩ (.int .i64 (out.length : Int)) = W6 at *
          have c0 := HT6.out.rd.c0.1
          have p0 := P6.out
          have HO6 : Hid (B.Own W6 w0.heap.size 9 1 strE (.slice A3 out.length k3) out) := Lib.hid HT6.out.rd.O
          have HZ6 : Hid (w0.heap.size ≤ W6.heap.size) := Lib.hid HT6.out.rd.be.size
          have HG : Hid (∀ v7 w7, B.Own w7 w0.heap.size 9 1 strE v7 (out ++ [it l i]) → (v7.ownBlock = (Value.slice A3 out.length k3).ownBlock ∨ ∀ g, v7.ownBlock = some g → W6.heap.size ≤ g) → (W6.alloc (.cells #[.string (it l i)] 9)).grownBy w7 (Value.slice A3 out.length k3).ownBlock →
              Rf w0 w (w7.setCell ⟨x.ro, 0, none⟩ v7) x (some ⟨b5, o5, none⟩) c l gL cL gR cR all vO v7 (left.set i (a - 1)) (last.set i out.length) (out ++ [it l i]) ∧ Cl w7 x.ro 0 (.slice A3 out.length k3)) := Lib.hid (fun v7 w7 hO ha hg => by
            have hf : Fr (fun j => (Value.slice A3 out.length k3).ownBlock = some j) W6 w7 := ((Fr.refl (fun j => (Value.slice A3 out.length k3).ownBlock = some j) W6).alloc (.cells #[.string (it l i)] 9)).grown hg (fun g e _ => e)
            exact ⟨HT6.out.app hO ha hf (HT6.out.rd.be.trans (hf.below HT6.out.rd.be.size (fun k hk => ((HT6.out.rd.O : World.ownsRow _ _ _ _ _ _ _).lt k hk).1))), HT6.out.rd.c0.fr hf (fun e => (HT6.out.rd.on _ e).1 rfl)⟩)
          go_upto_region 11 with (at_builtin; refine Copy.wpl_append_s w0.heap.size rfl _ _ 69 9 (.string ⟨#[]⟩) 1 16 rfl Tryz.underlying69 info_str' rfl (by decide) (by decide) strE (fun _ => rfl) strE1 _ _ (it l i) _ rfl HO6.out rfl _ rfl rfl HZ6.out (by omega) ?_; intro v7 w7 hO7 ha7 hg7; obtain ⟨A7, k7, rfl⟩ : ∃ A7 k7, v7 = .slice A7 (out.length + 1) k7 := (by have := Copy.shape hO7; rwa [List.length_append, List.length_singleton] at this); have HP7 := Lib.hid (HG.out _ w7 hO7 ha7 hg7); obtain ⟨d3, z3⟩ := HP7.out.2; clear hO7 ha7 hg7)
          have HT7' := Lib.hid HP7.out.1
          clear HP7 d3 z3 c0 p0 HO6 HZ6 HG HT6 P6 HNX
          generalize w7.setCell ⟨x.ro, 0, none⟩ (.slice A7 (out.length + 1) k7) = WB at *
          have HBL2 : Hid (∀ j, 0 ≤ g0 (left.set i (a - 1)) j ∧ g0 (left.set i (a - 1)) j ≤ 12) := Lib.hid (fun j => by
            rw [g0_set (by have := HT3L.out; omega)]
            have := HLB.out j
            split
            · omega
            · exact this)
          have HBR2 : Hid (∀ j, -100 ≤ g0 (last.set i out.length) j ∧ g0 (last.set i out.length) j ≤ 12) := Lib.hid (fun j => by
            rw [g0_set (by have := HT3R.out; omega)]
            have := HRB.out j
            split
            · omega
            · exact this)
          have HRM := Lib.hid (roomy_any (some ⟨b5, o5, none⟩) c gL cL gR cR l (left.set i (a - 1)) (last.set i out.length) ((out.length : Int) + 1) all WB (HT7'.out.rd.wn.mono HT7'.out.rd.be) HT7'.out.rd.L HT7'.out.rd.R (by rw [List.length_set]; exact HT3L.out) (by rw [List.length_set]; exact HT3R.out) HBL2.out HBR2.out HAP.out (by have := HLO.out; have := HALL.out; omega) HALL.out hn)
          have HTY : Hid (∀ W, Rd w0 W x (some ⟨b5, o5, none⟩) c l gL cL gR cR all (.slice A7 (out.length + 1) k7) (left.set i (a - 1)) (last.set i out.length) (out ++ [it l i]) → Calls Tryz.prog 59 (caps x) W (TR w0 W x (some ⟨b5, o5, none⟩) c l gL cL gR cR all (.slice A7 (out.length + 1) k7) (left.set i (a - 1)) (last.set i out.length) (out ++ [it l i]) (rr l all mo (left.set i (a - 1)) (last.set i out.length)))) :=
            Lib.hid (fun W h => HIH.out _ _ _ _ W h HBL2.out HBR2.out (by rw [List.length_append, List.length_singleton]; have := HLO.out; omega))
          unfold caps at HTY
          rw [if_neg (by omega)] at HFX
          obtain ⟨c0, -⟩ := HT7'.out.rd.c0
          obtain ⟨c1, -⟩ := HT7'.out.rd.c1
          obtain ⟨c2, -⟩ := HT7'.out.rd.c2
          obtain ⟨c3, -⟩ := HT7'.out.rd.c3
          obtain ⟨c4, -⟩ := HT7'.out.rd.c4
          cases hro : roomy l (left.set i (a - 1)) (last.set i out.length) ((out.length : Int) + 1) all with
          | true =>
            rw [hro] at HRM
            rw [hro, if_pos rfl] at HFX
            cases hrr : rr l all mo (left.set i (a - 1)) (last.set i out.length) with
            | some r =>
              rw [hrr] at HTY HFX
              obtain rfl := HF1.out _ HFX.out
              go_wp2_with (first | (go_at_call 60; refine HRM.out.mono ?_; rintro e w8 ⟨rfl, hB8⟩; have HT8 := Lib.hid (HT7'.out.below hB8); have c5 := HT8.out.rd.c5.1; unfold Bx.clo at c5; clear hB8) | (go_at_call 59; refine (HTY.out _ HT8.out.rd).mono ?_; rintro e w9 ⟨rfl, ⟨v9, hc9, hO9⟩, hF9⟩; have HC9 := Lib.hid hc9; have HO9 := Lib.hid hO9; have HF9 := Lib.hid hF9; clear hc9 hO9 hF9))
              go_ret
              exact ⟨rfl, ⟨v9, HC9.out, by have := HO9.out; rw [List.append_assoc] at this; exact this⟩, by rw [← HVO.out]; exact HT8.out.fr.trans HF9.out (fun j hj e => Ry.mono HT8.out.vo j hj e)⟩
            | none =>
              rw [hrr] at HTY HFX
              have HFN : Hid (f i = none) := HFX
              go_upto_region 13 with (first | (go_at_call 60; refine HRM.out.mono ?_; rintro e w8 ⟨rfl, hB8⟩; have HT8 := Lib.hid (HT7'.out.below hB8); have c5 := HT8.out.rd.c5.1; unfold Bx.clo at c5; clear hB8) | (go_at_call 59; refine (HTY.out _ HT8.out.rd).mono ?_; rintro e w9 ⟨rfl, v9, hS9⟩; have HT7 := Lib.hid (HT8.out.trans hS9); clear hS9))
              clear c0 c1 c2 c3 c4 c5 HTY HRM HT8 HT7'
              obtain ⟨g10, k10, hv10, hcap, hT8⟩ := HT7.out.cut
              have HT8 := Lib.hid hT8
              obtain ⟨c0, z0⟩ := HT7.out.rd.c0
              rw [hv10] at c0
              have hs1 : (0 : Int) ≤ (out.length : Int) := by omega
              have hs2 : (out.length : Int) ≤ (k10 : Int) := by omega
              have hs3 : (out.length : Int) ≤ 12 := by have := HLO.out; have := HALL.out; omega
              have hwr : IntKind.i64.wrap (out.length : Int) = (out.length : Int) := by rw [IntKind.wrap_i64]; omega
              clear hT8 HT7 hv10
              go_upto_region 14 with (fail)
              clear c0 z0 hwr hs1 hs2 hs3
              generalize w9.setCell ⟨x.ro, 0, none⟩ (.slice (some ⟨g10, 0, none⟩) out.length k10) = W8 at *
              have c3 := HT8.out.rd.c3.1
              obtain ⟨r1, z1⟩ := HT8.out.rd.L i (by rw [HT8.out.rd.ll]; exact hlt)
              rw [g0_set (by have := HT3L.out; omega), if_pos rfl] at r1
              have HT9 : Hid (Rf w0 w (W8.setCell ⟨gL, i, none⟩ (.int .i64 a)) x (some ⟨b5, o5, none⟩) c l gL cL gR cR all vO (.slice (some ⟨g10, 0, none⟩) out.length k10) left (last.set i out.length) out) := Lib.hid (by
                have h9 := HT8.out.setL hlt a
                rw [set_back (by have := HT3L.out; omega) HXL.out] at h9
                exact h9)
              clear HT8
              go_upto_region 15 with (fail)
              clear c3 r1 z1
              generalize W8.setCell ⟨gL, i, none⟩ (.int .i64 a) = W9 at *
              have c4 := HT9.out.rd.c4.1
              obtain ⟨r2, z2⟩ := HT9.out.rd.R i (by rw [HT9.out.rd.lr]; exact hlt)
              have HTA : Hid (Rf w0 w (W9.setCell ⟨gR, i, none⟩ (.int .i64 y)) x (some ⟨b5, o5, none⟩) c l gL cL gR cR all vO (.slice (some ⟨g10, 0, none⟩) out.length k10) left last out) := Lib.hid (by
                have h9 := HT9.out.setR hlt y
                rw [set_back (by have := HT3R.out; omega) HYL.out] at h9
                exact h9)
              clear HT9
              go_wp2
              go_roundw
              case rel => exact ⟨i + 1, by go_num, by omega, Lib.hid (HF0.out HFN.out), Lib.hid ⟨_, HTA.out⟩⟩
              case measure => simp [intOf]; omega
          | false =>
            rw [hro] at HRM
            rw [hro, if_neg (by simp)] at HFX
            have HFN : Hid (f i = none) := HFX
            go_upto_region 13 with (go_at_call 60; refine HRM.out.mono ?_; rintro e w9 ⟨rfl, hB8⟩; have HT7 := Lib.hid (HT7'.out.below hB8); clear hB8)
            clear c0 c1 c2 c3 c4 HTY HRM HT7'
            obtain ⟨g10, k10, hv10, hcap, hT8⟩ := HT7.out.cut
            have HT8 := Lib.hid hT8
            obtain ⟨c0, z0⟩ := HT7.out.rd.c0
            rw [hv10] at c0
            have hs1 : (0 : Int) ≤ (out.length : Int) := by omega
            have hs2 : (out.length : Int) ≤ (k10 : Int) := by omega
            have hs3 : (out.length : Int) ≤ 12 := by have := HLO.out; have := HALL.out; omega
            have hwr : IntKind.i64.wrap (out.length : Int) = (out.length : Int) := by rw [IntKind.wrap_i64]; omega
            clear hT8 HT7 hv10
            go_upto_region 14 with (fail)
            clear c0 z0 hwr hs1 hs2 hs3
            generalize w9.setCell ⟨x.ro, 0, none⟩ (.slice (some ⟨g10, 0, none⟩) out.length k10) = W8 at *
            have c3 := HT8.out.rd.c3.1
            obtain ⟨r1, z1⟩ := HT8.out.rd.L i (by rw [HT8.out.rd.ll]; exact hlt)
            rw [g0_set (by have := HT3L.out; omega), if_pos rfl] at r1
            have HT9 : Hid (Rf w0 w (W8.setCell ⟨gL, i, none⟩ (.int .i64 a)) x (some ⟨b5, o5, none⟩) c l gL cL gR cR all vO (.slice (some ⟨g10, 0, none⟩) out.length k10) left (last.set i out.length) out) := Lib.hid (by
              have h9 := HT8.out.setL hlt a
              rw [set_back (by have := HT3L.out; omega) HXL.out] at h9
              exact h9)
            clear HT8
            go_upto_region 15 with (fail)
            clear c3 r1 z1
            generalize W8.setCell ⟨gL, i, none⟩ (.int .i64 a) = W9 at *
            have c4 := HT9.out.rd.c4.1
            obtain ⟨r2, z2⟩ := HT9.out.rd.R i (by rw [HT9.out.rd.lr]; exact hlt)
            have HTA : Hid (Rf w0 w (W9.setCell ⟨gR, i, none⟩ (.int .i64 y)) x (some ⟨b5, o5, none⟩) c l gL cL gR cR all vO (.slice (some ⟨g10, 0, none⟩) out.length k10) left last out) := Lib.hid (by
              have h9 := HT9.out.setR hlt y
              rw [set_back (by have := HT3R.out; omega) HYL.out] at h9
              exact h9)
            clear HT9
            go_wp2
            go_roundw
            case rel => exact ⟨i + 1, by go_num, by omega, Lib.hid (HF0.out HFN.out), Lib.hid ⟨_, HTA.out⟩⟩
            case measure => simp [intOf]; omega
    · obtain rfl : i = l.length := by omega
      have HRN : Hid (R = none) := Lib.hid (by have := HFI.out; rw [Nat.sub_self] at this; exact this.symm)
      obtain rfl := HRN.out
      have HS2 := Lib.hid hS
      clear hS HSI
      go_wp2
      go_ret
      exact ⟨rfl, v1, by have := HS2.out; rw [HVO.out] at this; exact this⟩
theorem try_all (w0 : World) (x : Bx) (A : Option Addr) (c : Nat) (l : List Wn) (gL cL gR cR : Nat) (all : Int) (hn : l.length ≤ 12) (hA : ∀ i, 0 ≤ ap l i ∧ ap l i ≤ 12) (hall : 0 ≤ all ∧ all ≤ 12) : ∀ mo, TryAt w0 x A c l gL cL gR cR all mo
  | 0 => try_zero w0 x A c l gL cL gR cR all
  | mo + 1 => try_step w0 x A c l gL cL gR cR all mo hn hA hall (try_all w0 x A c l gL cL gR cR all hn hA hall mo)
end Go.Proofs.YtlfobpjefklccaaGreatDoor.Sp
namespace Go.Proofs.YtlfobpjefklccaaGreatDoor.Sp
open Go.RowKit
open F (Fr Cl)

/-- What SpreadOf tells. -/
def SoRes (o : Option (List ByteArray)) (e : Ending) (w' : World) : Prop := match o with
  | none => e = .returned (.tuple #[.slice none 0 0, .bool false])
  | some r => ∃ A c, e = .returned (.tuple #[.slice A r.length c, .bool true]) ∧ B.Kd.str.C w' A r
theorem g0_rep' (n i : Nat) (v : Int) (h : i < n) : g0 (List.replicate n v) i = v := by
  unfold g0
  rw [List.getD_eq_getElem?_getD, List.getElem?_replicate, if_pos h]
  rfl
theorem g0_rep_in (n i : Nat) (v : Int) : g0 (List.replicate n v) i = v ∨ g0 (List.replicate n v) i = 0 := by
  unfold g0
  rw [List.getD_eq_getElem?_getD, List.getElem?_replicate]
  split
  · exact .inl rfl
  · exact .inr rfl
theorem g0_many {l : List Wn} {k : Nat} (h : k < l.length) : g0 (l.map (·.2.1)) k = l[k].2.1 := by
  unfold g0
  rw [List.getD_eq_getElem?_getD, List.getElem?_map, List.getElem?_eq_getElem h]; rfl
/-- The search's state as it begins. -/
theorem rd_made {w wr : World} {bl gL bL gR bR al : Nat} {A : Option Addr} {c : Nat} {l : List Wn} {sum : Int} {xs ys : List Int} (h : Rb w wr bl gL bL gR bR al A c l sum xs ys) (t1 t2 : TypeId) :
    Rd w ((wr.alloc (.cells #[.slice none 0 0] t1)).alloc (.cells #[Bx.clo ⟨wr.heap.size, al, bl, bL, bR, wr.heap.size + 1⟩] t2)) ⟨wr.heap.size, al, bl, bL, bR, wr.heap.size + 1⟩ A c l gL l.length gR l.length sum (.slice none 0 0) xs ys [] := by
  have he := h.e
  have hz := h.be.size
  have h1 := Cl.new wr #[.slice none 0 0] t1 0 _ rfl
  have b1 : Below wr.heap.size wr (wr.alloc (.cells #[.slice none 0 0] t1)) := (Below.refl _ _).alloc (Nat.le_refl _) _
  have s1 : (wr.alloc (.cells #[.slice none 0 0] t1)).heap.size = wr.heap.size + 1 := by simp
  have h2 := h.below b1
  generalize wr.alloc (.cells #[.slice none 0 0] t1) = W1 at *
  generalize hclo : Bx.clo ⟨wr.heap.size, al, bl, bL, bR, wr.heap.size + 1⟩ = fz at *
  have h3 := Cl.new W1 #[fz] t2 0 _ rfl
  have b2 : Below W1.heap.size W1 (W1.alloc (.cells #[fz] t2)) := (Below.refl _ _).alloc (Nat.le_refl _) _
  have s2 : (W1.alloc (.cells #[fz] t2)).heap.size = W1.heap.size + 1 := by simp
  have h4 := h2.below b2
  have h5 := h1.below b2
  rw [s1] at h3
  generalize W1.alloc (.cells #[fz] t2) = W2 at *
  exact ⟨h4.wn, h4.be, h5, h4.c1, h4.c2, h4.c3, h4.c4, hclo ▸ h3, h4.L, h4.R, ⟨rfl, .inl ⟨rfl, rfl⟩⟩, h.ll, h.lr, ⟨hz, by show w.heap.size ≤ gL; omega, by show w.heap.size ≤ gR; omega⟩, ⟨by omega, by omega⟩, ⟨by show wr.heap.size ≠ gL; omega, by show wr.heap.size ≠ gR; omega, by omega⟩,
    fun u hu => by
      show u ≠ wr.heap.size ∧ u ≠ gL ∧ u ≠ gR
      rcases hu with h | h | h | h | h <;> (simp only at h; exact ⟨by omega, by omega, by omega⟩),
    fun g e => by cases e⟩
set_option maxHeartbeats 8000000 in
set_option maxRecDepth 100000 in
theorem spreadOf (v : Value) (l : List Wn) (w : World) (h : Wn.wnK.S w v l) (hf : Wn.fault l = 0) :
    Calls Tryz.prog 33 #[v] w fun e w' => SoRes (sr l (sm (l.map (·.2.1))).toNat (l.map (·.2.1)) (List.replicate l.length 0)) e w' ∧ Below w.heap.size w w' := by
  obtain ⟨hn, hb, hs⟩ := fault_ok hf
  obtain ⟨A, c, rfl, hCC⟩ := h
  have HW := Lib.hid hCC
  have HMI := Lib.hid (fun W => make_ints l.length (by omega) W)
  have hmk := fun W => (HMI.out W).1
  have HRB := Lib.hid (rb_made hCC hn c)
  clear hf hCC
  obtain ⟨R, hR⟩ : ∃ R, sr l (sm (l.map (·.2.1))).toNat (l.map (·.2.1)) (List.replicate l.length 0) = R := ⟨_, rfl⟩
  rw [hR]
  have HRR := Lib.hid hR
  clear hR
  go_enter Tryz.func33, Tryz.ntmps33
  go_upto_region 4 with (fail)
  clear hmk HMI
  generalize ((((((w.alloc (.cells #[.slice A l.length c] 29)).alloc (.cells (madeCells #[.int .i64 0] l.length) 3)).alloc (.cells #[.slice (some ⟨w.heap.size + 1, 0, none⟩) l.length l.length] 23)).alloc (.cells (madeCells #[.int .i64 0] l.length) 3)).alloc (.cells #[.slice (some ⟨w.heap.size + 1 + 1 + 1, 0, none⟩) l.length l.length] 23)).alloc (.cells #[.int .i64 0] 3)) = W6 at *
  generalize w.heap.size + 1 + 1 + 1 + 1 + 1 = al at *
  generalize w.heap.size + 1 + 1 + 1 + 1 = bR at *
  generalize w.heap.size + 1 + 1 + 1 = gR at *
  generalize w.heap.size + 1 + 1 = bL at *
  generalize w.heap.size + 1 = gL at *
  obtain ⟨bl, hbl⟩ : ∃ bl, bl = w.heap.size := ⟨_, rfl⟩
  have HRB' : Hid (Rb w W6 bl gL bL gR bR al A c l 0 (List.replicate l.length 0) (List.replicate l.length 0)) := Lib.hid (by rw [hbl]; exact HRB.out)
  clear HRB
  rw [← hbl]
  clear hbl
  have HWM : Hid (∀ x ∈ l, 1 ≤ x.2.1 ∧ x.2.1 ≤ 12) := Lib.hid (fun x hx => ⟨(hb x hx).1, (hb x hx).2.1⟩)
  have HSM : Hid (∀ k, k ≤ l.length → 0 ≤ sm ((l.take k).map (·.2.1)) ∧ sm ((l.take k).map (·.2.1)) ≤ 12) := Lib.hid (sm_take l (fun x hx => (hb x hx).1) hs)
  have HBB := Lib.hid hb
  have HSS := Lib.hid hs
  clear hb hs
  have c2 := HRB'.out.c2.1
  go_wp2
  clear c2
  go_loopw [19] (fun s19 wr => ∃ (k : Nat) (xs ys : List Int), s19 = .int .i64 k ∧ k ≤ l.length ∧ Hid (∀ j, g0 xs j = if j < k then g0 (l.map (·.2.1)) j else 0) ∧ Hid (∀ j, g0 ys j = if j < k then -100 else 0) ∧ Hid (Rb w wr bl gL bL gR bR al A c l (sm ((l.take k).map (·.2.1))) xs ys)) (fun s _ => l.length - (intOf s).toNat)
  case atStart => exact ⟨0, _, _, rfl, Nat.zero_le _, Lib.hid (fun j => by rw [if_neg (Nat.not_lt_zero j), g0_rep]), Lib.hid (fun j => by rw [if_neg (Nat.not_lt_zero j), g0_rep]), HRB'⟩
  case round =>
    obtain ⟨k, xs, ys, rfl, hk, HXS, HYS, HB⟩ := hrel
    by_cases hlt : k < l.length
    · have hk1 : (k : Int) < l.length := by omega
      have hS := HB.out
      obtain ⟨b5, o5, rfl, q0, q1, q2⟩ := Wn.wn_at (hS.wn.mono hS.be) k hlt
      have HT2 : Hid (sm ((l.take (k + 1)).map (·.2.1)) = sm ((l.take k).map (·.2.1)) + l[k].2.1) := Lib.hid (by rw [List.take_succ_eq_append_getElem hlt, List.map_append, sm_app]; simp [sm])
      have HGM : Hid (g0 (l.map (·.2.1)) k = l[k].2.1) := Lib.hid (g0_many hlt)
      have hx1 := HSM.out k hk
      have hx2 := HSM.out (k + 1) hlt
      rw [HT2.out] at hx2
      have hmy := HWM.out _ (List.getElem_mem hlt)
      generalize sm ((l.take k).map (·.2.1)) = T0 at *
      generalize l[k] = y at *
      obtain ⟨y0, y1, y2⟩ := y
      have hx3 : 0 ≤ T0 + y1 ∧ T0 + y1 ≤ 12 := hx2
      go_upto_region 7 with (fail)
      have HAL : Hid (Below wr.heap.size wr (wr.alloc (.cells #[.string y0, .int .i64 y1, .int .i64 y2] 32))) := Lib.hid ((Below.refl _ _).alloc (Nat.le_refl _) _)
      have p1 : (wr.alloc (.cells #[.string y0, .int .i64 y1, .int .i64 y2] 32)).cell? ⟨wr.heap.size, 1, none⟩ = some (.int .i64 y1) := by rw [World.cell?_alloc_new]; rfl
      have HN8 : Hid (al < wr.heap.size) := Lib.hid (hS.e.2.2.2.2.2.2)
      have HS5 := Lib.hid (hS.below HAL.out)
      clear q0 q1 q2 hS HAL HB
      generalize wr.alloc (.cells #[.string y0, .int .i64 y1, .int .i64 y2] 32) = W5 at *
      generalize wr.heap.size = n8 at *
      have HSD : Hid (Rb w W5.drew bl gL bL gR bR al (some ⟨b5, o5, none⟩) c l T0 xs ys) := Lib.hid (HS5.out.below (B.below_drew (Below.refl _ _) 1))
      have HPD : Hid (W5.drew.cell? ⟨n8, 1, none⟩ = some (.int .i64 y1)) := Lib.hid p1
      have HS6 := Lib.hid (HSD.out.setL hlt y1)
      have HS7 := Lib.hid (HS6.out.setR hlt (-100))
      have HP6 : Hid ((W5.drew.setCell ⟨gL, k, none⟩ (.int .i64 y1)).cell? ⟨n8, 1, none⟩ = some (.int .i64 y1)) := Lib.hid (by rw [World.cell?_setCell_other _ _ _ _ (by intro e; have := (Addr.mk.inj e).1; have := HSD.out.e; have := HN8.out; simp only at *; omega)]; exact HPD.out)
      have HP7 : Hid (((W5.drew.setCell ⟨gL, k, none⟩ (.int .i64 y1)).setCell ⟨gR, k, none⟩ (.int .i64 (-100))).cell? ⟨n8, 1, none⟩ = some (.int .i64 y1)) := Lib.hid (by rw [World.cell?_setCell_other _ _ _ _ (by intro e; have := (Addr.mk.inj e).1; have := HSD.out.e; have := HN8.out; simp only at *; omega)]; exact HP6.out)
      have HK0 := Lib.hid (And.intro HSD.out.c3.1 (And.intro HSD.out.c4.1 HPD.out))
      have HK1 := Lib.hid (And.intro HS6.out.c3.1 (And.intro HS6.out.c4.1 HP6.out))
      have HK2 := Lib.hid (And.intro HS7.out.c3.1 (And.intro HS7.out.c4.1 HP7.out))
      obtain ⟨d1, z1⟩ := HSD.out.L k (by rw [HSD.out.ll]; exact hlt)
      obtain ⟨d2, z2⟩ := HS6.out.R k (by rw [HS6.out.lr]; exact hlt)
      obtain ⟨d3, z3⟩ := HS5.out.R k (by rw [HSD.out.lr]; exact hlt)
      have hgg : ¬ gL = gR := by have := HSD.out.e; omega
      have hgg' : ¬ gR = gL := fun e => hgg e.symm
      have HXS2 : Hid (∀ j, g0 (xs.set k y1) j = if j < k + 1 then g0 (l.map (·.2.1)) j else 0) := Lib.hid (fun j => by
        rw [g0_set (by rw [HSD.out.ll]; exact hlt), HXS.out j]
        by_cases hj : j = k
        · subst hj; rw [if_pos rfl, if_pos (Nat.lt_succ_self _), HGM.out]
        · rw [if_neg hj]
          by_cases hj2 : j < k
          · rw [if_pos hj2, if_pos (by omega)]
          · rw [if_neg hj2, if_neg (by omega)])
      have HYS2 : Hid (∀ j, g0 (ys.set k (-100)) j = if j < k + 1 then -100 else 0) := Lib.hid (fun j => by
        rw [g0_set (by rw [HSD.out.lr]; exact hlt), HYS.out j]
        by_cases hj : j = k
        · subst hj; rw [if_pos rfl, if_pos (Nat.lt_succ_self _)]
        · rw [if_neg hj]
          by_cases hj2 : j < k
          · rw [if_pos hj2, if_pos (by omega)]
          · rw [if_neg hj2, if_neg (by omega)])
      clear p1 HS5 HXS HYS
      refine wp_region_held_drew (S := fun w' => w'.cell? ⟨bL, 0, none⟩ = some (.slice (some ⟨gL, 0, none⟩) l.length l.length) ∧ w'.cell? ⟨bR, 0, none⟩ = some (.slice (some ⟨gR, 0, none⟩) l.length l.length) ∧ w'.cell? ⟨n8, 1, none⟩ = some (.int .i64 y1)) (by kernel_rfl) (HK0.out) (fun hHeld => ?_)
      refine wpAnyH_take (i := 0) (v := ?_) At.at0 (by kernel_rfl) (by kernel_rfl) (by kernel_rfl) (fun _ _ _ h => h) (Or.inl ⟨by rfl, ?_⟩) (by assumption) ?_
      rotate_left
      · (intro w9 hSw; (try dsimp only at hSw); obtain ⟨hs1, hs2, hs3⟩ := hSw; go_simp; try (with_reducible rfl))
      try simp only [Act.put, List.setIfInBounds_toArray, List.set_cons_zero, List.set_cons_succ]
      refine wpAnyH_take (i := 1) (v := ?_) At.at1 (by kernel_rfl) (by kernel_rfl) (by kernel_rfl) (fun _ _ _ h => h) (Or.inl ⟨by rfl, ?_⟩) (by assumption) ?_
      rotate_left
      · (intro w9 hSw; (try dsimp only at hSw); go_simp; try (with_reducible rfl))
      try simp only [Act.put, List.setIfInBounds_toArray, List.set_cons_zero, List.set_cons_succ]
      refine wpAnyH_take (i := 4) (v := ?_) At.at4 (by kernel_rfl) (by kernel_rfl) (by kernel_rfl) (fun _ _ _ h => h) (Or.inl ⟨by rfl, ?_⟩) (by assumption) ?_
      rotate_left
      · (intro w9 hSw; (try dsimp only at hSw); go_simp; try (with_reducible rfl))
      try simp only [Act.put, List.setIfInBounds_toArray, List.set_cons_zero, List.set_cons_succ]
      refine wpAnyH_take (i := 5) (v := ?_) At.at5 (by kernel_rfl) (by kernel_rfl) (by kernel_rfl) (fun _ _ _ h => h) (Or.inl ⟨by rfl, ?_⟩) (by assumption) ?_
      rotate_left
      · (intro w9 hSw; (try dsimp only at hSw); obtain ⟨hs1, hs2, hs3⟩ := hSw; go_simp; try (with_reducible rfl))
      try simp only [Act.put, List.setIfInBounds_toArray, List.set_cons_zero, List.set_cons_succ]
      refine wpAnyH_take (i := 2) (v := ?_) At.at2 (by kernel_rfl) (by kernel_rfl) (by kernel_rfl) (fun _ _ _ h => h) (Or.inl ⟨by rfl, ?_⟩) (by assumption) ?_
      rotate_left
      · (intro w9 hSw; (try dsimp only at hSw); obtain ⟨hs1, hs2, hs3⟩ := hSw; go_simp; try (with_reducible rfl))
      try simp only [Act.put, List.setIfInBounds_toArray, List.set_cons_zero, List.set_cons_succ]
      refine wpAnyH_take (i := 3) (v := ?_) At.at3 (by kernel_rfl) (by kernel_rfl) (by kernel_rfl) (fun _ _ _ h => h) (Or.inl ⟨by rfl, ?_⟩) (by assumption) ?_
      rotate_left
      · (intro w9 hSw; (try dsimp only at hSw); go_simp; try (with_reducible rfl))
      try simp only [Act.put, List.setIfInBounds_toArray, List.set_cons_zero, List.set_cons_succ]
      refine wpAnyH_take (i := 6) (v := ?_) At.at6 (by kernel_rfl) (by kernel_rfl) (by kernel_rfl) (fun _ _ _ h => h) (Or.inl ⟨by rfl, ?_⟩) (by assumption) ?_
      rotate_left
      · (intro w9 hSw; (try dsimp only at hSw); go_simp; try (with_reducible rfl))
      try simp only [Act.put, List.setIfInBounds_toArray, List.set_cons_zero, List.set_cons_succ]
      refine wpAnyH_ready (rs := [7]) (by kernel_rfl) (by simp) ?_
      refine AllReadyH.cons At.at7 (fun K hK => ?_) AllReadyH.nil
      go_simp
      refine hK.out _ _ (HK1.out) (fun hHeld => ?_)
      clear hK K
      try simp only [Act.put, List.setIfInBounds_toArray, List.set_cons_zero, List.set_cons_succ]
      refine wpAnyH_take (i := 8) (v := ?_) At.at8 (by kernel_rfl) (by kernel_rfl) (by kernel_rfl) (fun _ _ _ h => h) (Or.inl ⟨by rfl, ?_⟩) (by assumption) ?_
      rotate_left
      · (intro w9 hSw; (try dsimp only at hSw); go_simp; try (with_reducible rfl))
      try simp only [Act.put, List.setIfInBounds_toArray, List.set_cons_zero, List.set_cons_succ]
      refine wpAnyH_ready (rs := [9]) (by kernel_rfl) (by simp) ?_
      refine AllReadyH.cons At.at9 (fun K hK => ?_) AllReadyH.nil
      go_simp
      refine hK.out _ _ (HK2.out) (fun hHeld => ?_)
      clear hK K
      try simp only [Act.put, List.setIfInBounds_toArray, List.set_cons_zero, List.set_cons_succ]
      refine wpAnyH_done (by kernel_rfl) ?_ _
      have HS7' : Hid (Rb w (((W5.setCell ⟨gL, k, none⟩ (.int .i64 y1)).setCell ⟨gR, k, none⟩ (.int .i64 (-100))).drew) bl gL bL gR bR al (some ⟨b5, o5, none⟩) c l T0 (xs.set k y1) (ys.set k (-100))) := HS7
      have HP7' : Hid ((((W5.setCell ⟨gL, k, none⟩ (.int .i64 y1)).setCell ⟨gR, k, none⟩ (.int .i64 (-100))).drew).cell? ⟨n8, 1, none⟩ = some (.int .i64 y1)) := HP7
      clear d1 d2 z1 z2 d3 z3 hgg hgg' HK0 HK1 HK2 HPD HP6 HS6 HSD HS7 HP7
      generalize (((W5.setCell ⟨gL, k, none⟩ (.int .i64 y1)).setCell ⟨gR, k, none⟩ (.int .i64 (-100))).drew) = W7 at *
      have p1 := HP7'.out
      obtain ⟨c1, z1⟩ := HS7'.out.c1
      have HS8 := Lib.hid (HS7'.out.setA (T0 + y1))
      go_wp2
      go_roundw
      case rel => exact ⟨k + 1, _, _, by go_num, by omega, HXS2, HYS2, Lib.hid (by rw [HT2.out]; exact HS8.out)⟩
      case measure => simp [intOf]; omega
    · obtain rfl : k = l.length := by omega
      have hB := HB.out
      rw [List.take_length] at hB
      have hxs : xs = l.map (·.2.1) := g0_ext (by rw [hB.ll, List.length_map]) (fun j hj => by rw [HXS.out j, if_pos (by rw [hB.ll] at hj; exact hj)])
      have hys : ys = List.replicate l.length (-100) := g0_ext (by rw [hB.lr, List.length_replicate]) (fun j hj => by rw [HYS.out j, if_pos (by rw [hB.lr] at hj; exact hj), g0_rep' _ _ _ (by rw [hB.lr] at hj; exact hj)])
      subst hxs hys
      have hs0 := (HSM.out l.length (Nat.le_refl _)).1
      rw [List.take_length] at hs0
      have HSS' := HSS.out
      obtain ⟨mo, hmo⟩ : ∃ mo : Nat, sm (l.map (·.2.1)) = mo := ⟨(sm (l.map (·.2.1))).toNat, by omega⟩
      have hRR := HRR.out
      rw [hmo, Int.toNat_natCast] at hRR
      rw [hmo] at hB
      have HB9 := Lib.hid hB
      have hrr : rr l (mo : Int) mo (l.map (·.2.1)) (List.replicate l.length (-100)) = R := by
        rw [← hRR]
        refine rr_sr l mo (fun i => (ap_in HBB.out i).1) mo _ _ _ (by rw [List.length_map]) (by rw [List.length_replicate]) (by rw [List.length_replicate]) (fun i => (left_in HBB.out i).1) (fun i hi => ?_) hmo
        rw [g0_rep, g0_rep' _ _ _ hi]
        have := ap_in HBB.out i
        omega
      have HTY : Hid (∀ (x : Bx) (W : World), Rd w W x A c l gL l.length gR l.length mo (.slice none 0 0) (l.map (·.2.1)) (List.replicate l.length (-100)) [] → Calls Tryz.prog 59 (caps x) W (TR w W x A c l gL l.length gR l.length mo (.slice none 0 0) (l.map (·.2.1)) (List.replicate l.length (-100)) [] R)) := Lib.hid (fun x W hW => by
        rw [← hrr]
        exact try_all w x A c l gL l.length gR l.length mo hn (ap_in HBB.out) (by omega) mo _ _ _ _ W hW (left_in HBB.out) (fun i => by rcases g0_rep_in l.length i (-100) with e | e <;> rw [e] <;> omega) (by show (0 : Int) + mo = mo; omega))
      have HLN := Lib.hid (fun r => sr_len l mo (l.map (·.2.1)) (List.replicate l.length 0) r)
      clear hB HB hrr HXS HYS HRB'
      go_upto_region 12 with (fail)
      have hz := Cl.new (wr.alloc (.cells #[.slice none 0 0] 69)) #[.nilFunc] 63 0 _ rfl
      rw [show (wr.alloc (.cells #[.slice none 0 0] 69)).heap.size = wr.heap.size + 1 by simp] at hz
      obtain ⟨d0, z0⟩ := hz
      go_upto_region 13 with (fail)
      clear d0 z0
      have HRD := Lib.hid (rd_made HB9.out 69 63)
      unfold Bx.clo at HRD
      have HT0 := Lib.hid (HTY.out _ _ HRD.out)
      unfold caps at HT0
      obtain ⟨c5, -⟩ := HRD.out.c5
      unfold Bx.clo at c5
      simp only at c5 HT0
      clear HTY HB9
      cases R with
      | none =>
        go_wp2_with (go_at_call 59; refine HT0.out.mono ?_; rintro e w9 ⟨rfl, v9, hS9⟩; have HS9 := Lib.hid hS9; clear hS9)
        go_ret2
        exact ⟨rfl, HS9.out.rd.be⟩
      | some r =>
        have hrl := HLN.out r hRR
        have hn9 : r.length ≤ 140737488355328 := by omega
        clear hrl
        go_upto_region 15 with (go_at_call 59; refine HT0.out.mono ?_; rintro e w9 ⟨rfl, ⟨v9, hc9, hO9⟩, hF9⟩; have HC9 := Lib.hid hc9; have HO9 := Lib.hid hO9; have HF9 := Lib.hid hF9; clear hc9 hO9 hF9)
        obtain ⟨A9, k9, rfl, hC9⟩ := B.own_S (k := 1) (enc := strE) (hl := fun _ => rfl) (h1 := strE1) (show B.Own w9 w.heap.size 9 1 strE v9 r from HO9.out) hn9
        have HCC := Lib.hid hC9
        have c0 := HC9.out
        try simp only at c0
        clear hC9
        go_wp2
        go_ret2
        exact ⟨⟨A9, k9, rfl, HCC.out⟩, HRD.out.be.trans (HF9.out.below HRD.out.be.size (fun j hj => by
          have hlo := HRD.out.lo
          try simp only at hlo
          rcases hj with h | h | h | h
          · try simp only at h
            omega
          · omega
          · omega
          · cases h))⟩
end Go.Proofs.YtlfobpjefklccaaGreatDoor.Sp
