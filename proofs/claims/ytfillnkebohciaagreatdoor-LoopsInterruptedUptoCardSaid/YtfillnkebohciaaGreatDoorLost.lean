/- The program's Lost. Printed by wip/gen/lostgen.py. -/
import Derived.Test.YtfillnkebohciaaGreatDoorPlayed
import Derived.Test.YtfillnkebohciaaGreatDoorRefLost
import Derived.Test.YtfillnkebohciaaGreatDoorSrt
import Derived.Test.YtfillnkebohciaaGreatDoorRg
import Derived.Test.YtfillnkebohciaaGreatDoorSmall
import Derived.Deep.Cut
namespace Go.Proofs.YtfillnkebohciaaGreatDoor.Rn
open Go.RowKit
open F (Fr Cl)
open L (Lp At lv)
open T (Step stK)
open Come (tot Ok its TM TL ptrs ptr has has_iff look_ptrs nub nub_mem ptE ptE1 ptK info_pt own_pt str_at Pt)

theorem TM_fr {w w' : World} {mb lo : Nat} {ks : List ByteArray} {bk : ByteArray → Nat} {f g : ByteArray → Int} {S : Nat → Prop} (h : TM w mb lo ks bk f g) (hf : Fr S w w') (hS : ∀ i, i < w.heap.size → ¬ S i) : TM w' mb lo ks bk f g :=
  ⟨Come.om_fr h.om hf (hS _ h.om.lt), h.hlo, fun k hk => by obtain ⟨a, b, c, d⟩ := h.cl k hk; exact ⟨a, b, c.fr hf (hS _ c.lt), d.fr hf (hS _ d.lt)⟩, h.inj⟩
theorem TL_below {w w' : World} {mb lo : Nat} {l : List Step} (h : TL w mb lo l) (hb : Below w.heap.size w w') : TL w' mb lo l := by
  obtain ⟨bk, h⟩ := h
  exact ⟨bk, h.below hb⟩
theorem nub_len (l : List Step) : (nub l []).length ≤ l.length := by
  have e := congrArg List.length (Come.srt_dd l)
  rw [SK.srt_length] at e
  have := Come.dd_len l
  omega
theorem sps_keys (x : List Pl) (k : ByteArray) : k ∈ nub (sps x) [] ↔ k ∈ x.map (·.1) := by
  rw [nub_mem]
  have e : (sps x).map (·.1) = x.map (·.1) := by unfold sps; rw [List.map_map]; rfl
  rw [e]
  simp
theorem sps_len (x : List Pl) : (sps x).length = x.length := by unfold sps; rw [List.length_map]
theorem put_len (es : M.Es) (k : ByteArray) (v : Value) : (M.put es k v).length ≤ es.length + 1 := by
  unfold M.put
  split
  · rw [List.length_map]; omega
  · rw [List.length_append]; simp
theorem put_keys (es : M.Es) (k : ByteArray) (v : Value) (q : ByteArray) : q ∈ (M.put es k v).map (·.1) ↔ q ∈ es.map (·.1) ∨ q = k := by
  unfold M.put
  split
  · rename_i h
    have e : (es.map (fun p => if p.1 = k then (k, v) else p)).map (·.1) = es.map (·.1) := by
      rw [List.map_map]
      refine List.map_congr_left fun p _ => ?_
      show (if p.1 = k then (k, v) else p).1 = p.1
      split
      · rename_i e; exact e.symm
      · rfl
    rw [e]
    constructor
    · exact Or.inl
    · rintro (h1 | rfl)
      · exact h1
      · obtain ⟨p, hp, e⟩ := List.any_eq_true.1 h
        exact List.mem_map.2 ⟨p, hp, of_decide_eq_true e⟩
  · rw [List.map_append, List.mem_append]
    simp
/-- What an item's tally is where there is none. -/
theorem ct_none {x : List Pl} {k : ByteArray} (h : has (nub (sps x) []) k = false) : ct x k = 0 ∧ tl x k = 0 := by
  have e := Come.its_none h
  unfold ct tl
  rw [e]
  exact ⟨rfl, rfl⟩
theorem below_fr {base n : Nat} {w0 w w' : World} (hb : Below base w0 w) (hl : base ≤ w0.heap.size) (hf : Fr (fun b => b = n) w w') (hn : base ≤ n) : Below base w0 w' :=
  hb.trans (hf.below (Nat.le_trans hl hb.size) (fun k e => by subst e; exact hn))
set_option maxHeartbeats 2000000 in
set_option maxRecDepth 100000 in
theorem lost_bad (x : Lp) (A As : Option Addr) (c c' : Nat) (wf wt af : Int) (A2 : Option Addr) (c2 n2 : Nat) (w : World) (q : Int) (hq : q ≠ 0)
    (CP : ∀ W, Below w.heap.size w W → Calls Tryz.prog 57 #[lv x A As c c', .agg #[.int .i64 wf, .int .i64 wt], .slice A2 n2 c2, .int .i64 af] W fun e w' => NoPlayer q e ∧ Below W.heap.size W w') :
    Calls Tryz.prog 31 #[lv x A As c c', .agg #[.int .i64 wf, .int .i64 wt], .slice A2 n2 c2, .int .i64 af] w fun e w' => e = .returned (.tuple #[.slice none 0 0, .int .i64 q]) ∧ Below w.heap.size w w' := by
  have HA := Lib.hid (fun (c d : Array Value) (e e' : TypeId) => (((Below.refl w.heap.size w).alloc (Nat.le_refl _) (.cells c e)).alloc (by simp) (.cells d e')))
  have HCP := Lib.hid CP
  have hqb : (q != 0) = true := bne_iff_ne.2 hq
  clear CP hq
  unfold lv at HCP ⊢
  go_enter Tryz.func31, Tryz.ntmps31
  go_wp2_with (go_at_call 57; refine (HCP.out _ (HA.out _ _ _ _)).mono ?_; rintro e w2 ⟨hN, hB2⟩; unfold NoPlayer at hN; obtain rfl := hN; have HB2 := Lib.hid (B.below_trans (HA.out _ _ _ _) hB2); clear hB2)
  go_ret2
  exact ⟨rfl, HB2.out⟩
set_option maxHeartbeats 4000000 in
set_option maxRecDepth 100000 in
theorem lost_bad2 (x : Lp) (A As : Option Addr) (c c' : Nat) (wf wt af : Int) (A2 : Option Addr) (c2 n2 : Nat) (w : World) (l : List Step) (bs : List Bk) (q : Int) (hq : q ≠ 0)
    (CP : ∀ W, Below w.heap.size w W → Calls Tryz.prog 57 #[lv x A As c c', .agg #[.int .i64 wf, .int .i64 wt], .slice A2 n2 c2, .int .i64 af] W fun e w' => Player W l wf wt af bs e w' ∧ Below W.heap.size W w')
    (CQ : ∀ W, Below w.heap.size w W → Calls Tryz.prog 57 #[lv x A As c c', .agg #[.int .i64 wf, .int .i64 wt], .slice none 0 0, .int .i64 af] W fun e w' => NoPlayer q e ∧ Below W.heap.size W w') :
    Calls Tryz.prog 31 #[lv x A As c c', .agg #[.int .i64 wf, .int .i64 wt], .slice A2 n2 c2, .int .i64 af] w fun e w' => e = .returned (.tuple #[.slice none 0 0, .int .i64 q]) ∧ Below w.heap.size w w' := by
  have HA := Lib.hid (fun (c d : Array Value) (e e' : TypeId) => (((Below.refl w.heap.size w).alloc (Nat.le_refl _) (.cells c e)).alloc (by simp) (.cells d e')))
  have HT := Lib.hid (fun (c c' : Array Value) (o o' : TypeId) (w2 : World) => @Copy.two w w2 c c' o o')
  have HCP := Lib.hid CP
  have HCQ := Lib.hid CQ
  have hqb : (q != 0) = true := bne_iff_ne.2 hq
  unfold Player at HCP
  clear CP CQ hq
  unfold lv at HCP HCQ ⊢
  go_enter Tryz.func31, Tryz.ntmps31
  go_wp2_with (first
    | (go_at_call 57; (with_reducible refine (HCP.out _ (HA.out _ _ _ _)).mono ?_); rintro e w2 ⟨⟨b, w0, A5, c5, ps, vO, vX, s, rfl, hP, hown, -, -⟩, hB2⟩; have HP := Lib.hid hP; have HOW := Lib.hid hown; have HZ2 := HT.out _ _ _ _ _ hB2; have u0 := HZ2.1 0 _ rfl; have u1 := HZ2.1 1 _ rfl; have u2 := HZ2.1 2 _ rfl; have u3 := HZ2.1 3 _ rfl; have u4 := HZ2.1 4 _ rfl; have u5 := HZ2.1 5 _ rfl; have y0 := HZ2.2.1 0 _ rfl; have y1 := HZ2.2.1 1 _ rfl; have HB2 := Lib.hid (B.below_trans (HA.out _ _ _ _) hB2); clear hB2 hP hown HZ2)
    | (go_at_call 57; (with_reducible refine (HCQ.out _ HB2.out).mono ?_); rintro e w3 ⟨hN, hB3⟩; unfold NoPlayer at hN; obtain rfl := hN; have HB3 := Lib.hid (B.below_trans HB2.out hB3); clear hB3))
  go_ret2
  exact ⟨rfl, HB3.out⟩
set_option maxHeartbeats 8000000 in
set_option maxRecDepth 100000 in
theorem lost_good (x : Lp) (A As : Option Addr) (c c' : Nat) (wf wt af : Int) (A2 : Option Addr) (c2 n2 : Nat) (w : World) (l : List Step) (bs : List Bk)
    (hl1 : (ownOf (all l wf wt af bs)).length ≤ 3000) (hl0 : (ownOf (all l wf wt af [])).length ≤ 3000) (hX : Ok (sps (ownOf (all l wf wt af [])))) (hY : Ok (sps (ownOf (all l wf wt af bs))))
    (hxi : ∀ p ∈ ownOf (all l wf wt af []), p.1 ∈ l.map (·.1)) (hyi : ∀ p ∈ ownOf (all l wf wt af bs), p.1 ∈ l.map (·.1)) (hsz : ∀ s ∈ l, s.1.size ≤ 64)
    (CP : ∀ W, Below w.heap.size w W → Calls Tryz.prog 57 #[lv x A As c c', .agg #[.int .i64 wf, .int .i64 wt], .slice A2 n2 c2, .int .i64 af] W fun e w' => Player W l wf wt af bs e w' ∧ Below W.heap.size W w')
    (CQ : ∀ W, Below w.heap.size w W → Calls Tryz.prog 57 #[lv x A As c c', .agg #[.int .i64 wf, .int .i64 wt], .slice none 0 0, .int .i64 af] W fun e w' => Player W l wf wt af [] e w' ∧ Below W.heap.size W w') :
    Calls Tryz.prog 31 #[lv x A As c c', .agg #[.int .i64 wf, .int .i64 wt], .slice A2 n2 c2, .int .i64 af] w fun e w' => (∃ A c, e = .returned (.tuple #[.slice A (lost l (ownOf (all l wf wt af [])) (ownOf (all l wf wt af bs))).length c, .int .i64 0]) ∧ ptK.C w' A (lost l (ownOf (all l wf wt af [])) (ownOf (all l wf wt af bs)))) ∧ Below w.heap.size w w' := by
  have HA := Lib.hid (fun (c d : Array Value) (e e' : TypeId) => (((Below.refl w.heap.size w).alloc (Nat.le_refl _) (.cells c e)).alloc (by simp) (.cells d e')))
  have HT := Lib.hid (fun (c c' : Array Value) (o o' : TypeId) (w2 : World) => @Copy.two w w2 c c' o o')
  have HCP := Lib.hid CP
  have HCQ := Lib.hid CQ
  unfold Player at HCP HCQ
  generalize ownOf (all l wf wt af []) = X at *
  generalize ownOf (all l wf wt af bs) = Y at *
  have HCX := Lib.hid (fun (k : ByteArray) => ct_in hX hl0 k)
  have HCY := Lib.hid (fun (k : ByteArray) => ct_in hY hl1 k)
  have HL1 := Lib.hid hl1
  have HL0 := Lib.hid hl0
  have HPLX := Lib.hid (show ∀ p ∈ X, 1 ≤ p.2.2 ∧ p.2.2 ≤ 3600000 from fun p hp => hX _ (List.mem_map.2 ⟨p, hp, rfl⟩))
  have HPLY := Lib.hid (show ∀ p ∈ Y, 1 ≤ p.2.2 ∧ p.2.2 ≤ 3600000 from fun p hp => hY _ (List.mem_map.2 ⟨p, hp, rfl⟩))
  have HSRT := Lib.hid (fun (ks : List ByteArray) (hn : ks.Nodup) (hk : ∀ k, k ∈ ks ↔ k ∈ X.map (·.1) ∨ k ∈ Y.map (·.1)) => srt_lost (l := l) hn hk hxi hyi)
  have HSZX : Hid (∀ k ∈ X.map (·.1), k.size ≤ maxLen) := Lib.hid (fun k hk => by
    obtain ⟨p, hp, rfl⟩ := List.mem_map.1 hk
    obtain ⟨s, hs, e⟩ := List.mem_map.1 (hxi p hp)
    have := hsz s hs
    rw [← e]; simp only [maxLen]; omega)
  have HSZY : Hid (∀ k ∈ Y.map (·.1), k.size ≤ maxLen) := Lib.hid (fun k hk => by
    obtain ⟨p, hp, rfl⟩ := List.mem_map.1 hk
    obtain ⟨s, hs, e⟩ := List.mem_map.1 (hyi p hp)
    have := hsz s hs
    rw [← e]; simp only [maxLen]; omega)
  generalize lost l X Y = LL at *
  clear CP CQ hl1 hl0 hX hY hxi hyi hsz
  unfold lv at HCP HCQ ⊢
  go_enter Tryz.func31, Tryz.ntmps31
  go_upto_region 7 with (first
    | (go_at_call 57; (with_reducible refine (HCP.out _ (HA.out _ _ _ _)).mono ?_); rintro e w2 ⟨⟨b, w0, A5, c5, ps, vO, vX, s, rfl, hP, hown, -, -⟩, hB2⟩; have HP := Lib.hid hP; have HOW := Lib.hid hown; have HZ2 := HT.out _ _ _ _ _ hB2; have u0 := HZ2.1 0 _ rfl; have u1 := HZ2.1 1 _ rfl; have u2 := HZ2.1 2 _ rfl; have u3 := HZ2.1 3 _ rfl; have u4 := HZ2.1 4 _ rfl; have u5 := HZ2.1 5 _ rfl; have y0 := HZ2.2.1 0 _ rfl; have y1 := HZ2.2.1 1 _ rfl; have HB2 := Lib.hid (B.below_trans (HA.out _ _ _ _) hB2); clear hB2 hP hown HZ2)
    | (go_at_call 57; (with_reducible refine (HCQ.out _ HB2.out).mono ?_); rintro e w3 ⟨⟨b9, w9, A9, c9, ps9, vO9, vX9, s9, rfl, hP, hown, -, -⟩, hB3⟩; have HQ := Lib.hid hP; have HOV := Lib.hid hown; have HP3 := Lib.hid (HP.out.below hB3); have HB3 := Lib.hid (B.below_trans HB2.out hB3); clear hB3 hP hown))
  clear u0 u1 u2 u3 u4 u5 y0 y1 HT HA HCP HCQ HP
  have hO1 := HP3.out.O
  have hO2 := HQ.out.O
  rw [HOW.out] at hO1
  rw [HOV.out] at hO2
  obtain ⟨AO, cO, eO⟩ := Copy.shape hO1
  obtain ⟨AV, cV, eV⟩ := Copy.shape hO2
  subst eO eV
  have HF1 := Lib.hid HP3.out.c6.1
  have HF2 := Lib.hid HQ.out.c6.1
  have HS1 := Lib.hid (fun (W : World) (hb : Below w3.heap.size w3 W) => sums AO cO Y W (by obtain ⟨A', c', e, hC⟩ := B.own_S (k := 4) (enc := plE) (hl := fun _ => rfl) (h1 := plE1) hO1 (by have := HL1.out; omega); simp only [Value.slice.injEq] at e; obtain ⟨rfl, -, -⟩ := e; exact hC.mono hb) HPLY.out (by have := HL1.out; omega))
  have HS2 := Lib.hid (fun (W : World) (hb : Below w3.heap.size w3 W) => sums AV cV X W (by obtain ⟨A', c', e, hC⟩ := B.own_S (k := 4) (enc := plE) (hl := fun _ => rfl) (h1 := plE1) hO2 (by have := HL0.out; omega); simp only [Value.slice.injEq] at e; obtain ⟨rfl, -, -⟩ := e; exact hC.mono hb) HPLX.out (by have := HL0.out; omega))
  clear hO1 hO2 HP3 HQ HOW HOV
  refine wp_region_held_drew (S := fun w' => Below w3.heap.size w3 w') (by kernel_rfl) (B.below_drew (Below.refl _ w3) 1) (fun hHeld => ?_)
  refine wpAnyH_take (i := 0) (v := ?_) At.at0 (by kernel_rfl) (by kernel_rfl) (by kernel_rfl) (fun _ _ _ h => h) (Or.inl ⟨by rfl, ?_⟩) (by assumption) ?_
  rotate_left
  · (intro w9 hSw; (try dsimp only at hSw); go_simp; try (with_reducible rfl))
  try simp only [Act.put, List.setIfInBounds_toArray, List.set_cons_zero, List.set_cons_succ]
  refine wpAnyH_take (i := 1) (v := ?_) At.at1 (by kernel_rfl) (by kernel_rfl) (by kernel_rfl) (fun _ _ _ h => h) (Or.inl ⟨by rfl, ?_⟩) (by assumption) ?_
  rotate_left
  · (intro w9 hSw; (try dsimp only at hSw); go_simp; try (with_reducible rfl))
  try simp only [Act.put, List.setIfInBounds_toArray, List.set_cons_zero, List.set_cons_succ]
  refine wpAnyH_take (i := 2) (v := ?_) At.at2 (by kernel_rfl) (by kernel_rfl) (by kernel_rfl) (fun _ _ _ h => h) (Or.inl ⟨by rfl, ?_⟩) (by assumption) ?_
  rotate_left
  · (intro w9 hSw; (try dsimp only at hSw); go_simp; try (with_reducible rfl))
  try simp only [Act.put, List.setIfInBounds_toArray, List.set_cons_zero, List.set_cons_succ]
  refine wpAnyH_take (i := 3) (v := ?_) At.at3 (by kernel_rfl) (by kernel_rfl) (by kernel_rfl) (fun _ _ _ h => h) (Or.inl ⟨by rfl, ?_⟩) (by assumption) ?_
  rotate_left
  · (intro w9 hSw; (try dsimp only at hSw); have hcc := B.cell_below hSw HF1.out; go_simp; try (with_reducible rfl))
  try simp only [Act.put, List.setIfInBounds_toArray, List.set_cons_zero, List.set_cons_succ]
  refine wpAnyH_take (i := 5) (v := ?_) At.at5 (by kernel_rfl) (by kernel_rfl) (by kernel_rfl) (fun _ _ _ h => h) (Or.inl ⟨by rfl, ?_⟩) (by assumption) ?_
  rotate_left
  · (intro w9 hSw; (try dsimp only at hSw); go_simp; try (with_reducible rfl))
  try simp only [Act.put, List.setIfInBounds_toArray, List.set_cons_zero, List.set_cons_succ]
  refine wpAnyH_take (i := 6) (v := ?_) At.at6 (by kernel_rfl) (by kernel_rfl) (by kernel_rfl) (fun _ _ _ h => h) (Or.inl ⟨by rfl, ?_⟩) (by assumption) ?_
  rotate_left
  · (intro w9 hSw; (try dsimp only at hSw); go_simp; try (with_reducible rfl))
  try simp only [Act.put, List.setIfInBounds_toArray, List.set_cons_zero, List.set_cons_succ]
  refine wpAnyH_take (i := 7) (v := ?_) At.at7 (by kernel_rfl) (by kernel_rfl) (by kernel_rfl) (fun _ _ _ h => h) (Or.inl ⟨by rfl, ?_⟩) (by assumption) ?_
  rotate_left
  · (intro w9 hSw; (try dsimp only at hSw); go_simp; try (with_reducible rfl))
  try simp only [Act.put, List.setIfInBounds_toArray, List.set_cons_zero, List.set_cons_succ]
  refine wpAnyH_take (i := 8) (v := ?_) At.at8 (by kernel_rfl) (by kernel_rfl) (by kernel_rfl) (fun _ _ _ h => h) (Or.inl ⟨by rfl, ?_⟩) (by assumption) ?_
  rotate_left
  · (intro w9 hSw; (try dsimp only at hSw); have hcc := B.cell_below hSw HF2.out; go_simp; try (with_reducible rfl))
  try simp only [Act.put, List.setIfInBounds_toArray, List.set_cons_zero, List.set_cons_succ]
  refine wpAnyH_ready (rs := [4]) (by kernel_rfl) (by simp) ?_
  refine AllReadyH.cons At.at4 (fun K hK => ?_) AllReadyH.nil
  go_simp
  go_at_call 61; refine (HS1.out _ (B.below_drew (Below.refl _ w3) 1)).mono ?_; rintro e w5 ⟨m1, rfl, hT5, hB5⟩; have HT5 := Lib.hid hT5; have HB5 := Lib.hid (B.below_trans (w := w3) (B.below_drew (Below.refl _ w3) 1) hB5); clear hT5 hB5
  go_simp
  refine hK.out _ _ (HB5.out) (fun hHeld => ?_)
  clear hK K
  try simp only [Act.put, List.setIfInBounds_toArray, List.set_cons_zero, List.set_cons_succ]
  refine wpAnyH_ready (rs := [9]) (by kernel_rfl) (by simp) ?_
  refine AllReadyH.cons At.at9 (fun K hK => ?_) AllReadyH.nil
  go_simp
  go_at_call 61; refine (HS2.out _ HB5.out).mono ?_; rintro e w6 ⟨m2, rfl, hT6, hB6⟩; have HT6 := Lib.hid hT6; have HT1 := Lib.hid (TL_below HT5.out hB6); have HB6 := Lib.hid (B.below_trans (w := w3) HB5.out hB6); clear hT6 hB6
  go_simp
  refine hK.out _ _ (HB6.out) (fun hHeld => ?_)
  clear hK K
  try simp only [Act.put, List.setIfInBounds_toArray, List.set_cons_zero, List.set_cons_succ]
  refine wpAnyH_take (i := 10) (v := ?_) At.at10 (by kernel_rfl) (by kernel_rfl) (by kernel_rfl) (fun _ _ _ h => h) (Or.inl ⟨by rfl, ?_⟩) (by assumption) ?_
  rotate_left
  · (intro w9 hSw; (try dsimp only at hSw); go_simp; try (with_reducible rfl))
  try simp only [Act.put, List.setIfInBounds_toArray, List.set_cons_zero, List.set_cons_succ]
  refine wpAnyH_take (i := 11) (v := ?_) At.at11 (by kernel_rfl) (by kernel_rfl) (by kernel_rfl) (fun _ _ _ h => h) (Or.inl ⟨by rfl, ?_⟩) (by assumption) ?_
  rotate_left
  · (intro w9 hSw; (try dsimp only at hSw); go_simp; try (with_reducible rfl))
  try simp only [Act.put, List.setIfInBounds_toArray, List.set_cons_zero, List.set_cons_succ]
  refine wpAnyH_done (by kernel_rfl) ?_ _
  have HBW := Lib.hid (B.below_trans HB3.out HB6.out)
  clear HB3 HB5 HB6 HT5 HS1 HS2 HF1 HF2 HPLX HPLY
  have hmm := @run_makeMap Tryz.prog
  have HM0 := Lib.hid (M.OM.made w6)
  have HB7 := Lib.hid ((Below.refl _ w6).alloc (Nat.le_refl _) (.map #[] 0))
  have HSZ7 : Hid (w6.heap.size < (w6.alloc (.map #[] 0)).heap.size) := Lib.hid (by simp)
  go_upto_region 9 with (fail)
  clear hmm
  generalize w6.alloc (.map #[] 0) = W7 at *
  obtain ⟨bk1, hT1⟩ := HT1.out
  obtain ⟨bk2, hT2⟩ := HT6.out
  have HTM1 := Lib.hid hT1
  have HTM2 := Lib.hid hT2
  have HK1 := Lib.hid (fun q => sps_keys Y q)
  have HK2 := Lib.hid (fun q => sps_keys X q)
  have HN1 : Hid ((nub (sps Y) []).length ≤ 3000) := Lib.hid (by have := nub_len (sps Y); rw [sps_len] at this; have := HL1.out; omega)
  have HN2 : Hid ((nub (sps X) []).length ≤ 3000) := Lib.hid (by have := nub_len (sps X); rw [sps_len] at this; have := HL0.out; omega)
  have HCN1 := Lib.hid (fun (k : ByteArray) (h : has (nub (sps Y) []) k = false) => ct_none h)
  have HCN2 := Lib.hid (fun (k : ByteArray) (h : has (nub (sps X) []) k = false) => ct_none h)
  clear HT1 HT6 hT1 hT2
  change Hid (TM w6 m1 _ _ bk1 (fun k => ct Y k) (fun k => tl Y k)) at HTM1
  change Hid (TM w6 m2 _ _ bk2 (fun k => ct X k) (fun k => tl X k)) at HTM2
  generalize nub (sps Y) [] = k1 at *
  generalize nub (sps X) [] = k2 at *
  have HSZ8 : Hid (∀ b, b < W7.heap.size → b ≠ W7.heap.size) := Lib.hid (fun b h => by omega)
  go_wp2
  have HM8 := Lib.hid (HM0.out.below ((Below.refl _ W7).alloc (Nat.le_refl _) (.cells #[.map (some m1), .map (some m2)] 85)))
  have HB8 := Lib.hid (HB7.out.trans (((Below.refl _ W7).alloc (Nat.le_refl _) (.cells #[.map (some m1), .map (some m2)] 85)).mono HB7.out.size))
  have HC0 : Hid ((W7.alloc (.cells #[.map (some m1), .map (some m2)] 85)).cell? ⟨W7.heap.size, 0, none⟩ = some (.map (some m1))) := Lib.hid ((World.cell?_alloc_new W7 _ _ 0).trans rfl)
  have HC1 : Hid ((W7.alloc (.cells #[.map (some m1), .map (some m2)] 85)).cell? ⟨W7.heap.size, 1, none⟩ = some (.map (some m2))) := Lib.hid ((World.cell?_alloc_new W7 _ _ 1).trans rfl)
  clear HM0 HB7 HSZ8
  generalize W7.alloc (.cells #[.map (some m1), .map (some m2)] 85) = W8 at *
  have HSL : Hid (∃ g, g = W7.heap.size ∧ w6.heap.size < g) := Lib.hid ⟨_, rfl, HSZ7.out⟩
  generalize W7.heap.size = g at *
  clear HSZ7
  go_loopw [62] (fun s62 wr => ∃ (j : Nat) (es : M.Es), s62 = .int .i64 j ∧ j ≤ 2 ∧ Hid (M.OM wr w6.heap.size es) ∧ Hid (∀ q, q ∈ es.map (·.1) ↔ (1 ≤ j ∧ q ∈ k1) ∨ (2 ≤ j ∧ q ∈ k2)) ∧ Hid (es.length ≤ j * 3000) ∧ Hid (Fr (fun b => b = w6.heap.size) W8 wr)) (fun s _ => 2 - (intOf s).toNat)
  case atStart => exact ⟨0, [], rfl, by omega, HM8, Lib.hid (by simp), Lib.hid (by simp), Lib.hid (Fr.refl _ _)⟩
  case round =>
    obtain ⟨j, es, rfl, hj, HO, HE, HEL, HF⟩ := hrel
    by_cases hlt : j < 2
    · have hj1 : (j : Int) < 2 := by omega
      obtain ⟨mj, kj, ej, HC, HMJ, HKJ, HNJ, HZJ, HEJ⟩ : ∃ (mj : Nat) (kj : List ByteArray) (ej : M.Es), Hid (W8.cell? ⟨g, j, none⟩ = some (.map (some mj))) ∧ Hid (M.OM w6 mj ej) ∧ Hid (ej.map (·.1) = kj) ∧ Hid (kj.length ≤ 3000) ∧ Hid (∀ q ∈ kj, q.size ≤ maxLen) ∧ Hid (∀ q, (1 ≤ j + 1 ∧ q ∈ k1) ∨ (2 ≤ j + 1 ∧ q ∈ k2) ↔ ((1 ≤ j ∧ q ∈ k1) ∨ (2 ≤ j ∧ q ∈ k2)) ∨ q ∈ kj) := by
        rcases (show j = 0 ∨ j = 1 by omega) with rfl | rfl
        · exact ⟨m1, k1, _, HC0, Lib.hid HTM1.out.om, Lib.hid (Come.ptrs_keys k1 bk1), HN1, Lib.hid (fun q hq => HSZY.out q ((HK1.out q).1 hq)), Lib.hid (fun q => by simp)⟩
        · exact ⟨m2, k2, _, HC1, Lib.hid HTM2.out.om, Lib.hid (Come.ptrs_keys k2 bk2), HN2, Lib.hid (fun q hq => HSZX.out q ((HK2.out q).1 hq)), Lib.hid (fun q => by simp)⟩
      have f0 : wr.cell? ⟨g, j, none⟩ = some (.map (some mj)) := HF.out.cell (by intro e; obtain ⟨g', e1, e2⟩ := HSL.out; exact absurd (show g = w6.heap.size from e) (by omega)) HC.out
      have HOJ : Hid (M.OM wr mj ej) := Lib.hid (Come.om_fr (HMJ.out.below HB8.out) HF.out (by intro e; have := HMJ.out.lt; omega))
      have HRL : Hid (w6.heap.size < wr.heap.size ∧ mj < w6.heap.size ∧ W8.heap.size ≤ wr.heap.size) := Lib.hid ⟨HO.out.lt, HMJ.out.lt, HF.out.size⟩
      go_wp2_with (at_range; refine Rg.wpl_range rfl _ 85 rfl 92 Tryz.underlying9 Tryz.underlying85 ej rfl HOJ.out (fun p hp => HZJ.out _ (by rw [← HKJ.out]; exact List.mem_map.2 ⟨p, hp, rfl⟩)) (by have e := congrArg List.length HKJ.out; rw [List.length_map] at e; have := HNJ.out; omega) ?_; intro w10 lf0 hlf hrg hg10 hs10; rw [HKJ.out] at hrg; have HRG0 := Lib.hid hrg; have HLF := Lib.hid (fun q (hq : q ∈ kj) => (by rw [← HKJ.out] at hq; obtain ⟨p, hp, rfl⟩ := List.mem_map.1 hq; exact hlf p hp : lf0 q = true)); have HO10 := Lib.hid (Come.om_fr (S := fun _ => False) HO.out ((Fr.refl _ _).grown hg10 (fun g e _ => by cases e)) (fun h => h)); have HF10 := Lib.hid (HF.out.grown hg10 (fun g e _ => by cases e)); clear hrg hlf hg10 hs10)
      go_frame
      generalize wr.heap.size = r0 at *
      clear f0 HO HF HOJ
      go_loopw [18] (fun _ wr2 => ∃ (lf : ByteArray → Bool) (cnt : Nat) (es2 : M.Es), Hid (Rg.Rg Tryz.prog 9 wr2 mj r0 kj lf cnt) ∧ Hid (M.OM wr2 w6.heap.size es2) ∧ Hid (∀ q, q ∈ es2.map (·.1) ↔ q ∈ es.map (·.1) ∨ (q ∈ kj ∧ lf q = false)) ∧ Hid (es2.length + cnt ≤ es.length + 3000) ∧ Hid (Fr (fun b => b = w6.heap.size) W8 wr2)) (fun _ wr2 => wr2.rangeLeft mj r0)
      case atStart => exact ⟨lf0, _, es, HRG0, HO10, Lib.hid (fun q => by constructor; exact Or.inl; rintro (h | ⟨h1, h2⟩); exact h; rw [HLF.out q h1] at h2; cases h2), Lib.hid (by have e := congrArg List.length HKJ.out; rw [List.length_map] at e; have := HNJ.out; omega), HF10⟩
      case round =>
        obtain ⟨lf, cnt, es2, HRG, HO2, HE2, HL2, HF2⟩ := hrel
        go_wp2_with (at_next; refine Rg.wpl_next rfl _ rfl Tryz.underlying9 rfl HRG.out ?_ ?_)
        · intro hdone
          have HD := Lib.hid hdone
          clear hdone
          go_wp2
          go_roundw
          case rel => exact ⟨j + 1, es2, by go_num, by omega, HO2, Lib.hid (fun q => by rw [HE2.out q, HE.out q, HEJ.out q]; constructor; rintro (h | ⟨h, -⟩); exact .inl h; exact .inr h; rintro (h | h); exact .inl h; exact .inr ⟨h, HD.out q⟩), Lib.hid (by have := HL2.out; have := HEL.out; omega), HF2⟩
          case measure => simp [intOf]; omega
        · intro y c11 w11 cnt' hy hly hrg hlt11 hg11 hs11 hen
          have HRG2 := Lib.hid hrg
          have HY := Lib.hid (And.intro hy hly)
          have HO11 := Lib.hid (Come.om_fr (S := fun b => b = r0) HO2.out ((Fr.refl _ _).grown hg11 (fun g e _ => (Option.some.inj e).symm)) (by intro e; have := HRL.out; omega))
          have HF11 := Lib.hid (HF2.out.grown hg11 (fun g e h => by cases e; exfalso; have := HRL.out; omega))
          have HMS : Hid (cnt' < cnt ∧ wr.rangeLeft mj r0 = cnt) := Lib.hid ⟨hlt11, HRG.out.left_eq⟩
          clear hrg hy hly hg11 hs11 hlt11 HRG HO2 HF2
          go_wp2_with (at_mapUpdate; refine M.wpl_put rfl _ _ _ 115 rfl 9 4 Tryz.underlying115 Tryz.underlying9 w6.heap.size es2 HO11.out rfl _ rfl _ rfl w11 w6.heap.size (Below.refl _ _) (Nat.le_refl _) ?_; intro w12 HO12 _ HG12; have HP12 := Lib.hid HO12; have HF12 := Lib.hid (HF11.out.grown HG12 (fun g e _ => (Option.some.inj e).symm)); have HRG3 := Lib.hid (HRG2.out.kept HG12 (by have := HRL.out; simp; omega) (by have := HRL.out; simp; omega)); clear HO12 HG12 hen)
          go_frame
          go_roundw
          case rel => exact ⟨_, cnt', _, HRG3, HP12, Lib.hid (fun q => by
            rw [put_keys, HE2.out q]
            constructor
            · rintro ((h | ⟨h1, h2⟩) | rfl)
              · exact .inl h
              · exact .inr ⟨h1, by simp [h2]⟩
              · exact .inr ⟨HY.out.1, by simp⟩
            · rintro (h | ⟨h1, h2⟩)
              · exact .inl (.inl h)
              · simp only [Bool.and_eq_false_iff, Bool.not_eq_false', decide_eq_true_eq] at h2
                rcases h2 with h2 | h2
                · exact .inl (.inr ⟨h1, h2⟩)
                · exact .inr h2), Lib.hid (Nat.le_trans (Nat.add_le_add_right (put_len _ _ _) _) (by have := HL2.out; have := HMS.out.1; omega)), HF12⟩
          case measure => rw [HRG3.out.left_eq, HMS.out.2]; exact HMS.out.1
    · obtain rfl : j = 2 := by omega
      have HZES : Hid (∀ p ∈ es, p.1.size ≤ maxLen) := Lib.hid (fun p hp => by
        rcases (HE.out p.1).1 (List.mem_map.2 ⟨p, hp, rfl⟩) with ⟨-, h⟩ | ⟨-, h⟩
        · exact HSZY.out _ ((HK1.out _).1 h)
        · exact HSZX.out _ ((HK2.out _).1 h))
      have HLKZ : Hid ((SK.srt (es.map (·.1))).filterMap (lp X Y) = LL) := Lib.hid (HSRT.out _ HO.out.nodup (fun k => by
        rw [HE.out k, HK1.out k, HK2.out k]
        constructor
        · rintro (⟨-, h⟩ | ⟨-, h⟩); exact .inr h; exact .inl h
        · rintro (h | h); exact .inr ⟨by omega, h⟩; exact .inl ⟨by omega, h⟩))
      have HKL : Hid ((SK.srt (es.map (·.1))).length ≤ 6000) := Lib.hid (by rw [SK.srt_length, List.length_map]; have := HEL.out; omega)
      clear HE HSRT HK1 HK2 HSZX HSZY HN1 HN2 HSL HC0 HC1 HM8
      go_wp2_with (first
        | (go_at_call 62; refine (SK.keys_bool w6.heap.size _).mono ?_; rintro e w9 ⟨rfl, rfl⟩)
        | (go_at_call 41; refine (SK.sorted_bool w6.heap.size es wr HO.out HZES.out (by have := HEL.out; omega)).mono ?_; rintro e W4 ⟨v4, rfl, hO4, hB4⟩; obtain ⟨A4, c4, rfl⟩ := Copy.shape hO4; have HO4 := Lib.hid hO4; have HB34 := Lib.hid (((Below.refl _ wr).alloc (Nat.le_refl _) (.cells #[.map (some w6.heap.size)] 115)).trans (hB4.mono (by omega))); clear hO4 hB4))
      have HFR : Hid (Fr (fun b => b = w6.heap.size) w6 W4) := Lib.hid (((Fr.of_below HB8.out).trans HF.out (fun _ _ h => h)).then_below HB34.out)
      have HTN1 := Lib.hid (TM_fr HTM1.out HFR.out (fun i hi e => by omega))
      have HTN2 := Lib.hid (TM_fr HTM2.out HFR.out (fun i hi e => by omega))
      have HBW4 := Lib.hid (B.below_trans HBW.out (HFR.out.below (Nat.le_refl _) (fun k e => by show w6.heap.size ≤ k; omega)))
      have HKS : Hid (B.Kd.str.C W4 A4 (SK.srt (es.map (·.1)))) := Lib.hid (by obtain ⟨A', c', e, hC⟩ := B.own_str HO4.out (by have := HKL.out; omega); cases e; exact hC)
      generalize SK.srt (es.map (·.1)) = kz at *
      clear HO4 HB34 HFR HTM1 HTM2 HBW HO HF HEL HZES HB8
      go_loopw [19, 79] (fun s19 s79 wr => ∃ (j : Nat) (v3 : Value), s79 = .int .i64 j ∧ j ≤ kz.length ∧ v3 = s19 ∧ Hid (B.Own wr W4.heap.size 53 5 ptE v3 ((kz.take j).filterMap (lp X Y))) ∧ Hid (Below W4.heap.size W4 wr)) (fun _ s _ => kz.length - (intOf s).toNat)
      case atStart => exact ⟨0, _, rfl, Nat.zero_le _, rfl, Lib.hid (by rw [List.take_zero]; exact B.Own.nil _ _ _ _ _), Lib.hid (Below.refl _ _)⟩
      case round =>
        obtain ⟨j, v3, rfl, hj, rfl, HO, HB⟩ := hrel
        by_cases hlt : j < kz.length
        · obtain ⟨b1, o1, rfl, f0⟩ := str_at (HKS.out.mono HB.out) j hlt
          have hj1 : (j : Int) < kz.length := by omega
          have hkl : kz.length ≤ 6000 := HKL.out
          have HTK : Hid ((kz.take (j + 1)).filterMap (lp X Y) = (kz.take j).filterMap (lp X Y) ++ [kz[j]].filterMap (lp X Y)) := Lib.hid (by rw [List.take_succ_eq_append_getElem hlt, List.filterMap_append])
          have HLT : Hid (((kz.take j).filterMap (lp X Y)).length ≤ 6000) := Lib.hid (by have := List.length_filterMap_le (lp X Y) (kz.take j); rw [List.length_take] at this; omega)
          generalize hkk : kz[j] = kk at *
          clear hkk
          obtain ⟨⟨hc0, hc1⟩, hc2, hc3⟩ := HCX.out kk
          obtain ⟨⟨hd0, hd1⟩, hd2, hd3⟩ := HCY.out kk
          have HLN := Lib.hid (fun h => lp_none (x := X) (y := Y) (k := kk) h)
          have HLS := Lib.hid (fun h => lp_some (x := X) (y := Y) (k := kk) h)
          generalize (kz.take j).filterMap (lp X Y) = PS at *
          have HPX := Lib.hid (fun (h : has k2 kk = true) => (show Cl W4 (bk2 kk) 0 (.int .i64 (ct X kk)) ∧ Cl W4 (bk2 kk) 1 (.int .i64 (tl X kk)) from (HTN2.out.cl kk (has_iff.1 h)).2.2))
          have HPY := Lib.hid (fun (h : has k1 kk = true) => (show Cl W4 (bk1 kk) 0 (.int .i64 (ct Y kk)) ∧ Cl W4 (bk1 kk) 1 (.int .i64 (tl Y kk)) from (HTN1.out.cl kk (has_iff.1 h)).2.2))
          have HQX := Lib.hid (HCN2.out kk)
          have HQY := Lib.hid (HCN1.out kk)
          have HLX := Lib.hid (look_ptrs (ks := k2) (bk := bk2) kk)
          have HLY := Lib.hid (look_ptrs (ks := k1) (bk := bk1) kk)
          generalize ct X kk = qa at *
          generalize tl X kk = ua at *
          generalize ct Y kk = qb at *
          generalize tl Y kk = ub at *
          go_upto_region 22 with (fail)
          have HZ := Lib.hid (show (Cl ((wr.alloc (.cells #[.int .i64 0, .int .i64 0] 95)).alloc (.cells #[.int .i64 0, .int .i64 0] 95)) wr.heap.size 0 (.int .i64 0) ∧ Cl ((wr.alloc (.cells #[.int .i64 0, .int .i64 0] 95)).alloc (.cells #[.int .i64 0, .int .i64 0] 95)) wr.heap.size 1 (.int .i64 0)) ∧ Cl ((wr.alloc (.cells #[.int .i64 0, .int .i64 0] 95)).alloc (.cells #[.int .i64 0, .int .i64 0] 95)) (wr.heap.size + 1) 0 (.int .i64 0) ∧ Cl ((wr.alloc (.cells #[.int .i64 0, .int .i64 0] 95)).alloc (.cells #[.int .i64 0, .int .i64 0] 95)) (wr.heap.size + 1) 1 (.int .i64 0) from by
            have e : (wr.alloc (.cells #[.int .i64 0, .int .i64 0] 95)).heap.size = wr.heap.size + 1 := by simp
            refine ⟨⟨(Cl.new wr _ _ 0 _ rfl).below ((Below.refl _ _).alloc (Nat.le_refl _) _), (Cl.new wr _ _ 1 _ rfl).below ((Below.refl _ _).alloc (Nat.le_refl _) _)⟩, ?_⟩
            rw [← e]
            exact ⟨Cl.new _ _ _ 0 _ rfl, Cl.new _ _ _ 1 _ rfl⟩)
          have HBA := Lib.hid (((Below.refl _ wr).alloc (Nat.le_refl _) (.cells #[.int .i64 0, .int .i64 0] 95)).alloc (by simp) (.cells #[.int .i64 0, .int .i64 0] 95))
          have HO5 := Lib.hid (HO.out.below HBA.out)
          have HB5 := Lib.hid (B.below_trans HB.out HBA.out)
          have HN0 : Hid (W4.heap.size ≤ wr.heap.size) := Lib.hid HB.out.size
          have HPO : Hid (∀ g, v3.ownBlock = some g → g < wr.heap.size) := Lib.hid (fun g e => (World.ownsRow.lt HO.out g e).2)
          clear f0 HO HB HBA
          generalize (wr.alloc (.cells #[.int .i64 0, .int .i64 0] 95)).alloc (.cells #[.int .i64 0, .int .i64 0] 95) = W5 at *
          generalize wr.heap.size = n0 at *
          cases hX : has k2 kk with
          | true =>
            have HM5 := Lib.hid (HTN2.out.below HB5.out).om
            have HLK : Hid (M.look (ptrs k2 bk2) kk = some (ptr (bk2 kk))) := Lib.hid (by rw [HLX.out, if_pos hX])
            obtain ⟨⟨p0, -⟩, p1, -⟩ := HPX.out hX
            have r0 := B.cell_below HB5.out p0
            have r1 := B.cell_below HB5.out p1
            obtain ⟨⟨⟨v0, z0⟩, v1, z1⟩, -⟩ := HZ.out
            clear p0 p1
            go_upto_region 25 with (at_lookup; refine M.wpl_look rfl _ _ 85 rfl 9 92 Tryz.underlying85 Tryz.underlying9 _ (Come.zeroTally _) m2 _ HM5.out rfl kk rfl ?_; simp only [HLK.out, Option.getD_some, ptr])
            have HFS : Hid (Fr (fun b => b = n0) W5 ((W5.setCell ⟨n0, 0, none⟩ (.int .i64 qa)).setCell ⟨n0, 1, none⟩ (.int .i64 ua))) := Lib.hid (((Fr.refl (fun b => b = n0) W5).set (p := ⟨n0, 0, none⟩) (fun _ => rfl) _).set (p := ⟨n0, 1, none⟩) (fun _ => rfl) _)
            have HST : Hid (Cl ((W5.setCell ⟨n0, 0, none⟩ (.int .i64 qa)).setCell ⟨n0, 1, none⟩ (.int .i64 ua)) n0 0 (.int .i64 qa) ∧ Cl ((W5.setCell ⟨n0, 0, none⟩ (.int .i64 qa)).setCell ⟨n0, 1, none⟩ (.int .i64 ua)) n0 1 (.int .i64 ua)) := Lib.hid (by
              obtain ⟨⟨y0, y1⟩, -⟩ := HZ.out
              exact ⟨(y0.set _).set_ne (by simp) _, (y1.set_ne (by simp) _).set _⟩)
            have HB6 := Lib.hid (below_fr HB5.out (Nat.le_refl _) HFS.out (by have := HN0.out; omega))
            have HO6 := Lib.hid (own_fr HO5.out HFS.out (fun g e h => by have := HPO.out g e; omega))
            have HZ6 := Lib.hid (And.intro HST.out (And.intro (HZ.out.2.1.fr HFS.out (by simp)) (HZ.out.2.2.fr HFS.out (by simp))))
            clear r0 r1 v0 v1 z0 z1 HM5 HLK HFS HST HO5 HB5 HZ
            generalize ((W5.setCell ⟨n0, 0, none⟩ (.int .i64 qa)).setCell ⟨n0, 1, none⟩ (.int .i64 ua)) = W6 at *
            cases hY : has k1 kk with
            | true =>
              have HM5 := Lib.hid (HTN1.out.below HB6.out).om
              have HLK : Hid (M.look (ptrs k1 bk1) kk = some (ptr (bk1 kk))) := Lib.hid (by rw [HLY.out, if_pos hY])
              obtain ⟨⟨p0, -⟩, p1, -⟩ := HPY.out hY
              have r0 := B.cell_below HB6.out p0
              have r1 := B.cell_below HB6.out p1
              obtain ⟨-, ⟨v0, z0⟩, v1, z1⟩ := HZ6.out
              clear p0 p1
              go_upto_region 28 with (at_lookup; refine M.wpl_look rfl _ _ 85 rfl 9 92 Tryz.underlying85 Tryz.underlying9 _ (Come.zeroTally _) m1 _ HM5.out rfl kk rfl ?_; simp only [HLK.out, Option.getD_some, ptr])
              have HFS : Hid (Fr (fun b => b = n0 + 1) W6 ((W6.setCell ⟨n0 + 1, 0, none⟩ (.int .i64 qb)).setCell ⟨n0 + 1, 1, none⟩ (.int .i64 ub))) := Lib.hid (((Fr.refl (fun b => b = n0 + 1) W6).set (p := ⟨n0 + 1, 0, none⟩) (fun _ => rfl) _).set (p := ⟨n0 + 1, 1, none⟩) (fun _ => rfl) _)
              have HST : Hid (Cl ((W6.setCell ⟨n0 + 1, 0, none⟩ (.int .i64 qb)).setCell ⟨n0 + 1, 1, none⟩ (.int .i64 ub)) (n0 + 1) 0 (.int .i64 qb) ∧ Cl ((W6.setCell ⟨n0 + 1, 0, none⟩ (.int .i64 qb)).setCell ⟨n0 + 1, 1, none⟩ (.int .i64 ub)) (n0 + 1) 1 (.int .i64 ub)) := Lib.hid (by
                obtain ⟨-, y0, y1⟩ := HZ6.out
                exact ⟨(y0.set _).set_ne (by simp) _, (y1.set_ne (by simp) _).set _⟩)
              have HB7 := Lib.hid (below_fr HB6.out (Nat.le_refl _) HFS.out (by have := HN0.out; omega))
              have HO7 := Lib.hid (own_fr HO6.out HFS.out (fun g e h => by have := HPO.out g e; omega))
              have HZ7 := Lib.hid (And.intro (And.intro (HZ6.out.1.1.fr HFS.out (by simp)) (HZ6.out.1.2.fr HFS.out (by simp))) HST.out)
              clear r0 r1 v0 v1 z0 z1 HM5 HLK HFS HST HO6 HB6 HZ6
              generalize ((W6.setCell ⟨n0 + 1, 0, none⟩ (.int .i64 qb)).setCell ⟨n0 + 1, 1, none⟩ (.int .i64 ub)) = W7 at *
              obtain ⟨⟨⟨a0, -⟩, a1, -⟩, ⟨b0, -⟩, b1, -⟩ := HZ7.out
              by_cases hq : qa = qb
              · subst hq
                by_cases hu : ua = ub
                · subst hu
                  have HF : Hid ([kk].filterMap (lp X Y) = []) := Lib.hid (List.filterMap_cons_none (HLN.out ⟨by omega, by omega⟩))
                  clear HLN HLS
                  go_wp2
                  go_roundw
                  case rel => exact ⟨j + 1, _, by go_num, by omega, rfl, by rw [HTK.out, HF.out, List.append_nil]; exact HO7, HB7⟩
                  case measure => simp [intOf]; omega
                · have hub : (ua == ub) = false := beq_eq_false_iff_ne.2 hu
                  have HF : Hid ([kk].filterMap (lp X Y) = [(kk, 0, 1, ua - ub, 1)]) := Lib.hid (List.filterMap_cons_some (by rw [HLS.out (by omega)]; simp))
                  clear HLN HLS
                  go_wp2_with (at_builtin; (refine Copy.wpl_append_g (w0 := W4) W4.heap.size rfl _ _ 41 53 (.agg #[.string ⟨#[]⟩, .int .i64 0, .int .i64 0, .int .i64 0, .int .i64 0]) 5 48 rfl Tryz.underlying41 info_pt rfl (by decide) (by decide) ptE (fun _ => rfl) ptE1 _ PS (kk, 0, 1, ua - ub, 1) _ rfl HO7.out rfl _ (by simp) rfl HB7.out HB7.out.size (by have := HLT.out; omega) ?_); intro v8 w8 hO8 hB8 _; have HO8 := Lib.hid hO8; have HB8 := Lib.hid hB8; clear hO8 hB8)
                  go_roundw
                  case rel => exact ⟨j + 1, _, by go_num, by omega, rfl, by rw [HTK.out, HF.out]; exact HO8, HB8⟩
                  case measure => simp [intOf]; omega
              · have hqb : (qa == qb) = false := beq_eq_false_iff_ne.2 hq
                have HF : Hid ([kk].filterMap (lp X Y) = [(kk, qa - qb, 1, ua - ub, 1)]) := Lib.hid (List.filterMap_cons_some (by rw [HLS.out (by omega)]))
                clear HLN HLS
                go_wp2_with (at_builtin; (refine Copy.wpl_append_g (w0 := W4) W4.heap.size rfl _ _ 41 53 (.agg #[.string ⟨#[]⟩, .int .i64 0, .int .i64 0, .int .i64 0, .int .i64 0]) 5 48 rfl Tryz.underlying41 info_pt rfl (by decide) (by decide) ptE (fun _ => rfl) ptE1 _ PS (kk, qa - qb, 1, ua - ub, 1) _ rfl HO7.out rfl _ (by simp) rfl HB7.out HB7.out.size (by have := HLT.out; omega) ?_); intro v8 w8 hO8 hB8 _; have HO8 := Lib.hid hO8; have HB8 := Lib.hid hB8; clear hO8 hB8)
                go_roundw
                case rel => exact ⟨j + 1, _, by go_num, by omega, rfl, by rw [HTK.out, HF.out]; exact HO8, HB8⟩
                case measure => simp [intOf]; omega
            | false =>
              have HM5 := Lib.hid (HTN1.out.below HB6.out).om
              have HLK : Hid (M.look (ptrs k1 bk1) kk = none) := Lib.hid (by rw [HLY.out, if_neg (by rw [hY]; simp)])
              go_upto_region 28 with (at_lookup; refine M.wpl_look rfl _ _ 85 rfl 9 92 Tryz.underlying85 Tryz.underlying9 _ (Come.zeroTally _) m1 _ HM5.out rfl kk rfl ?_; simp only [HLK.out, Option.getD_none])
              obtain ⟨e1, e2⟩ := HQY.out hY
              subst e1 e2
              have HO7 := HO6
              have HB7 := HB6
              have HZ7 := HZ6
              clear HO6 HB6 HZ6 HM5 HLK
              generalize W6 = W7 at *
              obtain ⟨⟨⟨a0, -⟩, a1, -⟩, ⟨b0, -⟩, b1, -⟩ := HZ7.out
              by_cases hq : qa = 0
              · obtain rfl := hq
                by_cases hu : ua = 0
                · obtain rfl := hu
                  have HF : Hid ([kk].filterMap (lp X Y) = []) := Lib.hid (List.filterMap_cons_none (HLN.out ⟨by omega, by omega⟩))
                  clear HLN HLS
                  go_wp2
                  go_roundw
                  case rel => exact ⟨j + 1, _, by go_num, by omega, rfl, by rw [HTK.out, HF.out, List.append_nil]; exact HO7, HB7⟩
                  case measure => simp [intOf]; omega
                · have hub : (ua == 0) = false := beq_eq_false_iff_ne.2 hu
                  have HF : Hid ([kk].filterMap (lp X Y) = [(kk, 0, 1, ua, 1)]) := Lib.hid (List.filterMap_cons_some (by rw [HLS.out (by omega)]; simp))
                  clear HLN HLS
                  go_wp2_with (at_builtin; (refine Copy.wpl_append_g (w0 := W4) W4.heap.size rfl _ _ 41 53 (.agg #[.string ⟨#[]⟩, .int .i64 0, .int .i64 0, .int .i64 0, .int .i64 0]) 5 48 rfl Tryz.underlying41 info_pt rfl (by decide) (by decide) ptE (fun _ => rfl) ptE1 _ PS (kk, 0, 1, ua, 1) _ rfl HO7.out rfl _ (by simp) rfl HB7.out HB7.out.size (by have := HLT.out; omega) ?_); intro v8 w8 hO8 hB8 _; have HO8 := Lib.hid hO8; have HB8 := Lib.hid hB8; clear hO8 hB8)
                  go_roundw
                  case rel => exact ⟨j + 1, _, by go_num, by omega, rfl, by rw [HTK.out, HF.out]; exact HO8, HB8⟩
                  case measure => simp [intOf]; omega
              · have hqb : (qa == 0) = false := beq_eq_false_iff_ne.2 hq
                have HF : Hid ([kk].filterMap (lp X Y) = [(kk, qa, 1, ua, 1)]) := Lib.hid (List.filterMap_cons_some (by rw [HLS.out (by omega)]; simp))
                clear HLN HLS
                go_wp2_with (at_builtin; (refine Copy.wpl_append_g (w0 := W4) W4.heap.size rfl _ _ 41 53 (.agg #[.string ⟨#[]⟩, .int .i64 0, .int .i64 0, .int .i64 0, .int .i64 0]) 5 48 rfl Tryz.underlying41 info_pt rfl (by decide) (by decide) ptE (fun _ => rfl) ptE1 _ PS (kk, qa, 1, ua, 1) _ rfl HO7.out rfl _ (by simp) rfl HB7.out HB7.out.size (by have := HLT.out; omega) ?_); intro v8 w8 hO8 hB8 _; have HO8 := Lib.hid hO8; have HB8 := Lib.hid hB8; clear hO8 hB8)
                go_roundw
                case rel => exact ⟨j + 1, _, by go_num, by omega, rfl, by rw [HTK.out, HF.out]; exact HO8, HB8⟩
                case measure => simp [intOf]; omega
          | false =>
            have HM5 := Lib.hid (HTN2.out.below HB5.out).om
            have HLK : Hid (M.look (ptrs k2 bk2) kk = none) := Lib.hid (by rw [HLX.out, if_neg (by rw [hX]; simp)])
            go_upto_region 25 with (at_lookup; refine M.wpl_look rfl _ _ 85 rfl 9 92 Tryz.underlying85 Tryz.underlying9 _ (Come.zeroTally _) m2 _ HM5.out rfl kk rfl ?_; simp only [HLK.out, Option.getD_none])
            obtain ⟨e1, e2⟩ := HQX.out hX
            subst e1 e2
            have HO6 := HO5
            have HB6 := HB5
            have HZ6 := HZ
            clear HO5 HB5 HZ HM5 HLK
            generalize W5 = W6 at *
            cases hY : has k1 kk with
            | true =>
              have HM5 := Lib.hid (HTN1.out.below HB6.out).om
              have HLK : Hid (M.look (ptrs k1 bk1) kk = some (ptr (bk1 kk))) := Lib.hid (by rw [HLY.out, if_pos hY])
              obtain ⟨⟨p0, -⟩, p1, -⟩ := HPY.out hY
              have r0 := B.cell_below HB6.out p0
              have r1 := B.cell_below HB6.out p1
              obtain ⟨-, ⟨v0, z0⟩, v1, z1⟩ := HZ6.out
              clear p0 p1
              go_upto_region 28 with (at_lookup; refine M.wpl_look rfl _ _ 85 rfl 9 92 Tryz.underlying85 Tryz.underlying9 _ (Come.zeroTally _) m1 _ HM5.out rfl kk rfl ?_; simp only [HLK.out, Option.getD_some, ptr])
              have HFS : Hid (Fr (fun b => b = n0 + 1) W6 ((W6.setCell ⟨n0 + 1, 0, none⟩ (.int .i64 qb)).setCell ⟨n0 + 1, 1, none⟩ (.int .i64 ub))) := Lib.hid (((Fr.refl (fun b => b = n0 + 1) W6).set (p := ⟨n0 + 1, 0, none⟩) (fun _ => rfl) _).set (p := ⟨n0 + 1, 1, none⟩) (fun _ => rfl) _)
              have HST : Hid (Cl ((W6.setCell ⟨n0 + 1, 0, none⟩ (.int .i64 qb)).setCell ⟨n0 + 1, 1, none⟩ (.int .i64 ub)) (n0 + 1) 0 (.int .i64 qb) ∧ Cl ((W6.setCell ⟨n0 + 1, 0, none⟩ (.int .i64 qb)).setCell ⟨n0 + 1, 1, none⟩ (.int .i64 ub)) (n0 + 1) 1 (.int .i64 ub)) := Lib.hid (by
                obtain ⟨-, y0, y1⟩ := HZ6.out
                exact ⟨(y0.set _).set_ne (by simp) _, (y1.set_ne (by simp) _).set _⟩)
              have HB7 := Lib.hid (below_fr HB6.out (Nat.le_refl _) HFS.out (by have := HN0.out; omega))
              have HO7 := Lib.hid (own_fr HO6.out HFS.out (fun g e h => by have := HPO.out g e; omega))
              have HZ7 := Lib.hid (And.intro (And.intro (HZ6.out.1.1.fr HFS.out (by simp)) (HZ6.out.1.2.fr HFS.out (by simp))) HST.out)
              clear r0 r1 v0 v1 z0 z1 HM5 HLK HFS HST HO6 HB6 HZ6
              generalize ((W6.setCell ⟨n0 + 1, 0, none⟩ (.int .i64 qb)).setCell ⟨n0 + 1, 1, none⟩ (.int .i64 ub)) = W7 at *
              obtain ⟨⟨⟨a0, -⟩, a1, -⟩, ⟨b0, -⟩, b1, -⟩ := HZ7.out
              by_cases hq : 0 = qb
              · obtain rfl := hq.symm
                by_cases hu : 0 = ub
                · obtain rfl := hu.symm
                  have HF : Hid ([kk].filterMap (lp X Y) = []) := Lib.hid (List.filterMap_cons_none (HLN.out ⟨by omega, by omega⟩))
                  clear HLN HLS
                  go_wp2
                  go_roundw
                  case rel => exact ⟨j + 1, _, by go_num, by omega, rfl, by rw [HTK.out, HF.out, List.append_nil]; exact HO7, HB7⟩
                  case measure => simp [intOf]; omega
                · have hub : (0 == ub) = false := beq_eq_false_iff_ne.2 hu
                  have HF : Hid ([kk].filterMap (lp X Y) = [(kk, 0, 1, -ub, 1)]) := Lib.hid (List.filterMap_cons_some (by rw [HLS.out (by omega)]; simp))
                  clear HLN HLS
                  go_wp2_with (at_builtin; (refine Copy.wpl_append_g (w0 := W4) W4.heap.size rfl _ _ 41 53 (.agg #[.string ⟨#[]⟩, .int .i64 0, .int .i64 0, .int .i64 0, .int .i64 0]) 5 48 rfl Tryz.underlying41 info_pt rfl (by decide) (by decide) ptE (fun _ => rfl) ptE1 _ PS (kk, 0, 1, -ub, 1) _ rfl HO7.out rfl _ (by simp) rfl HB7.out HB7.out.size (by have := HLT.out; omega) ?_); intro v8 w8 hO8 hB8 _; have HO8 := Lib.hid hO8; have HB8 := Lib.hid hB8; clear hO8 hB8)
                  go_roundw
                  case rel => exact ⟨j + 1, _, by go_num, by omega, rfl, by rw [HTK.out, HF.out]; exact HO8, HB8⟩
                  case measure => simp [intOf]; omega
              · have hqb : (0 == qb) = false := beq_eq_false_iff_ne.2 hq
                have HF : Hid ([kk].filterMap (lp X Y) = [(kk, -qb, 1, -ub, 1)]) := Lib.hid (List.filterMap_cons_some (by rw [HLS.out (by omega)]; simp))
                clear HLN HLS
                go_wp2_with (at_builtin; (refine Copy.wpl_append_g (w0 := W4) W4.heap.size rfl _ _ 41 53 (.agg #[.string ⟨#[]⟩, .int .i64 0, .int .i64 0, .int .i64 0, .int .i64 0]) 5 48 rfl Tryz.underlying41 info_pt rfl (by decide) (by decide) ptE (fun _ => rfl) ptE1 _ PS (kk, -qb, 1, -ub, 1) _ rfl HO7.out rfl _ (by simp) rfl HB7.out HB7.out.size (by have := HLT.out; omega) ?_); intro v8 w8 hO8 hB8 _; have HO8 := Lib.hid hO8; have HB8 := Lib.hid hB8; clear hO8 hB8)
                go_roundw
                case rel => exact ⟨j + 1, _, by go_num, by omega, rfl, by rw [HTK.out, HF.out]; exact HO8, HB8⟩
                case measure => simp [intOf]; omega
            | false =>
              have HM5 := Lib.hid (HTN1.out.below HB6.out).om
              have HLK : Hid (M.look (ptrs k1 bk1) kk = none) := Lib.hid (by rw [HLY.out, if_neg (by rw [hY]; simp)])
              go_upto_region 28 with (at_lookup; refine M.wpl_look rfl _ _ 85 rfl 9 92 Tryz.underlying85 Tryz.underlying9 _ (Come.zeroTally _) m1 _ HM5.out rfl kk rfl ?_; simp only [HLK.out, Option.getD_none])
              obtain ⟨e1, e2⟩ := HQY.out hY
              subst e1 e2
              have HO7 := HO6
              have HB7 := HB6
              have HZ7 := HZ6
              clear HO6 HB6 HZ6 HM5 HLK
              generalize W6 = W7 at *
              obtain ⟨⟨⟨a0, -⟩, a1, -⟩, ⟨b0, -⟩, b1, -⟩ := HZ7.out
              have HF : Hid ([kk].filterMap (lp X Y) = []) := Lib.hid (List.filterMap_cons_none (HLN.out ⟨by omega, by omega⟩))
              clear HLN HLS
              go_wp2
              go_roundw
              case rel => exact ⟨j + 1, _, by go_num, by omega, rfl, by rw [HTK.out, HF.out, List.append_nil]; exact HO7, HB7⟩
              case measure => simp [intOf]; omega
        · obtain rfl : j = kz.length := by omega
          have ho := HO.out
          rw [List.take_length, HLKZ.out] at ho
          obtain ⟨A7, c7, rfl, hC7⟩ := own_pt ho (by rw [← HLKZ.out]; have := List.length_filterMap_le (lp X Y) kz; have := HKL.out; omega)
          have HC7 := Lib.hid hC7
          have HB7 := Lib.hid (B.below_trans HBW4.out HB.out)
          clear ho hC7 HO
          go_wp2
          go_ret2
          exact ⟨⟨_, _, rfl, HC7.out⟩, HB7.out⟩
end Go.Proofs.YtfillnkebohciaaGreatDoor.Rn
