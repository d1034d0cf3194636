/- The program's Run. The reference's LostOf.. The reference's RunOf, by the plain law. -/
import Derived.Test.YtfillnkebohciaaGreatDoorPlayed
import Derived.Test.YtfillnkebohciaaGreatDoorSrt
import Derived.Test.YtfillnkebohciaaGreatDoorRefAll
import Derived.Test.YtfillnkebohciaaGreatDoorRnP
import Derived.Test.YtfillnkebohciaaGreatDoorSmall
namespace Go.Proofs.YtfillnkebohciaaGreatDoor.Rn
open Go.RowKit
open F (Fr Cl)
open L (Lp At lv)
open T (Step stK)
open Come (tot Ok)

/-- What plays of a run are like. -/
theorem all_ok {l : List Step} (hok : Ok l) (hn : l ≠ []) {wf wt af : Int} {bs : List Bk} (hC : Cs wt (cuts wf wt bs) wf) :
    (∀ p ∈ all l wf wt af bs, (wf ≤ p.1.2.1 ∧ 1 ≤ p.1.2.2 ∧ p.1.2.1 + p.1.2.2 ≤ wt) ∧ (p.2 = false → p.1.2.2 ≤ 3600000 ∧ p.1.1 ∈ l.map (·.1))) ∧ ((all l wf wt af bs).map (·.1)).Pairwise (fun p q => p.2.1 < q.2.1) := by
  obtain ⟨h1, h2⟩ := idl_ok hok hn (wf := wf) (af := af) (cuts wf wt bs) wf (0, lg l 0) (G_zero hok hn) hC
  refine ⟨h1, List.pairwise_map.2 (h2.imp_of_mem (fun {p q} hp _ h => ?_))⟩
  have := (h1 p hp).1.2.1
  omega
set_option maxHeartbeats 2000000 in
set_option maxRecDepth 100000 in
theorem run_bad (x : Lp) (A As : Option Addr) (c c' : Nat) (wf wt af : Int) (A2 : Option Addr) (c2 n2 : Nat) (w : World) (q : Int) (hq : q ≠ 0)
    (CP : ∀ W, Below w.heap.size w W → Calls Tryz.prog 57 #[lv x A As c c', .agg #[.int .i64 wf, .int .i64 wt], .slice A2 n2 c2, .int .i64 af] W fun e w' => NoPlayer q e ∧ Below W.heap.size W w') :
    Calls Tryz.prog 30 #[lv x A As c c', .agg #[.int .i64 wf, .int .i64 wt], .slice A2 n2 c2, .int .i64 af] w fun e w' => e = .returned (.tuple #[.slice none 0 0, .int .i64 q]) ∧ Below w.heap.size w w' := by
  have HA := Lib.hid (fun (c d : Array Value) (e e' : TypeId) => (((Below.refl w.heap.size w).alloc (Nat.le_refl _) (.cells c e)).alloc (by simp) (.cells d e')))
  have HCP := Lib.hid CP
  have hqb : (q != 0) = true := bne_iff_ne.2 hq
  clear CP hq
  unfold lv at HCP ⊢
  go_enter Tryz.func30, Tryz.ntmps30
  go_wp2_with (go_at_call 57; refine (HCP.out _ (HA.out _ _ _ _)).mono ?_; rintro e w2 ⟨hN, hB2⟩; unfold NoPlayer at hN; obtain rfl := hN; have HB2 := Lib.hid (B.below_trans (HA.out _ _ _ _) hB2); clear hB2)
  go_ret2
  exact ⟨rfl, HB2.out⟩
set_option maxRecDepth 100000 in
/-- A row of plays, put in order. -/
theorem sort_pl (v : Value) (base : Nat) (xs zs : List Pl) (w : World) (HO : B.Own w base 77 4 plE v xs) (hp : zs.Perm xs) (hz : zs.Pairwise (fun p q => p.2.1 < q.2.1)) (hb : ∀ p ∈ zs, 0 ≤ p.2.1 ∧ p.2.1 ≤ 345686400000) (hn : xs.length ≤ 5000) :
    Calls Tryz.prog 59 #[v, .func (.func 60) #[] #[]] w fun e w' => e = .returned (.tuple #[]) ∧ B.Own w' base 77 4 plE v zs ∧ w.grownBy w' v.ownBlock := by
  have eg : ∀ args w, (callFunc 60 args).run Tryz.prog w = .ok (.enter 60 args) w := enters_of Tryz.func60 (by kernel_rfl) rfl
  have hm : ∀ p ∈ xs, 0 ≤ p.2.1 ∧ p.2.1 ≤ 345686400000 := fun p h => hb p (hp.mem_iff.2 h)
  have aE : ∀ w, (isAgg 77).run Tryz.prog w = .ok true w := Tryz.isAgg77
  have zE : ∀ w, (Go.sizeOf 77).run Tryz.prog w = .ok 4 w := Tryz.sizeOf77
  exact SortK.sortFunc Tryz.sortPl 4 (by decide) aE zE plE (fun _ => rfl) plE1 xs zs hp (fun p => p.2.1) hz (fun x y => x.2.1 - y.2.1) (fun x _ y _ => by show x.2.1 - y.2.1 < 0 ↔ x.2.1 < y.2.1; omega) 60 #[] base 77 v w eg HO
    (fun x hx y hy W _ => byAt x y W ⟨(hm x hx).1, (hm x hx).2, (hm y hy).1, (hm y hy).2⟩) (by omega)
set_option maxHeartbeats 4000000 in
set_option maxRecDepth 100000 in
theorem run_good (x : Lp) (A As : Option Addr) (c c' : Nat) (wf wt af : Int) (A2 : Option Addr) (c2 n2 : Nat) (w : World) (l : List Step) (bs : List Bk) (hok : Ok l) (hn : l ≠ []) (hl : (all l wf wt af bs).length ≤ 3000) (hcs : Cs wt (cuts wf wt bs) wf) (h0 : 0 ≤ wf) (h1 : wt ≤ 345686400000)
    (CP : ∀ W, Below w.heap.size w W → Calls Tryz.prog 57 #[lv x A As c c', .agg #[.int .i64 wf, .int .i64 wt], .slice A2 n2 c2, .int .i64 af] W fun e w' => Player W l wf wt af bs e w' ∧ Below W.heap.size W w') :
    Calls Tryz.prog 30 #[lv x A As c c', .agg #[.int .i64 wf, .int .i64 wt], .slice A2 n2 c2, .int .i64 af] w fun e w' => (∃ A c, e = .returned (.tuple #[.slice A ((all l wf wt af bs).map (·.1)).length c, .int .i64 0]) ∧ plK.C w' A ((all l wf wt af bs).map (·.1))) ∧ Below w.heap.size w w' := by
  have HA := Lib.hid (fun (c d : Array Value) (e e' : TypeId) => (((Below.refl w.heap.size w).alloc (Nat.le_refl _) (.cells c e)).alloc (by simp) (.cells d e')))
  have HCP := Lib.hid CP
  obtain ⟨g1, g2⟩ := all_ok hok hn (af := af) hcs
  have g3 : ∀ p ∈ (all l wf wt af bs).map (·.1), 0 ≤ p.2.1 ∧ p.2.1 ≤ 345686400000 := fun p hp => by
    obtain ⟨q, hq, rfl⟩ := List.mem_map.1 hp
    have := (g1 q hq).1
    omega
  have HPW := Lib.hid g2
  obtain ⟨p1, p2⟩ := own_oth (all l wf wt af bs)
  have HP1 := Lib.hid p1
  have HP2 := Lib.hid p2
  have HL := Lib.hid hl
  have HB0 := Lib.hid (And.intro h0 h1)
  have HRV := Lib.hid (g3)
  unfold Player at HCP
  generalize all l wf wt af bs = al at *
  clear CP g1 g2 g3 p1 p2 hl h0 h1 hok hn hcs
  unfold lv at HCP ⊢
  go_enter Tryz.func30, Tryz.ntmps30
  go_upto_region 4 with (go_at_call 57; refine (HCP.out _ (HA.out _ _ _ _)).mono ?_; rintro e w2 ⟨⟨b, w0, A5, c5, ps, vO, vX, s, rfl, hP, hown, hoth, -⟩, hB2⟩; have HP := Lib.hid hP; have HOW := Lib.hid hown; have HOT := Lib.hid hoth; have HB2 := Lib.hid (B.below_trans (HA.out _ _ _ _) hB2); clear hB2 hP hown hoth)
  obtain ⟨AO, cO, eO⟩ := Copy.shape HP.out.O
  obtain ⟨AX, cX, eX⟩ := Copy.shape HP.out.X
  subst eO eX
  have f6 := HP.out.c6.1
  have f7 := HP.out.c7.1
  go_still_tail 8, (by kernel_rfl)
  have HP3 := Lib.hid (HP.out.below (B.below_drew (Below.refl _ w2) 1))
  have HB3 := Lib.hid (B.below_drew HB2.out 1)
  change wpList _ _ _ _ _ w2.drew
  change Hid (Pw w0 w2.drew _ _ _ _ _ _ _ _ _ _ _) at HP3
  change Hid (Below w.heap.size w w2.drew) at HB3
  clear f6 f7
  generalize w2.drew = W3 at *
  have HAL := Lib.hid ((Below.refl _ W3).alloc (Nat.le_refl _) (.cells #[.slice AO s.own.length cO, .slice AX s.oth.length cX] 68))
  have hcc := concat_pl _ _ w0.heap.size w0.heap.size W3.heap.size s.own s.oth _ (HP3.out.O.below HAL.out) (HP3.out.X.below HAL.out) ((World.cell?_alloc_new W3 _ _ 0).trans rfl) ((World.cell?_alloc_new W3 _ _ 1).trans rfl) (by rw [HOW.out]; have := HP1.out; have := HL.out; omega) (by rw [HOT.out]; have := HP1.out; have := HL.out; omega)
  have HCC := Lib.hid hcc
  clear hcc
  go_upto_region 5 with (go_at_call 58; refine HCC.out.mono ?_; rintro e w4 ⟨v4, rfl, hO4, hB4⟩; have HO4 := Lib.hid hO4; have HB4 := Lib.hid (B.below_trans HAL.out hB4); clear hO4 hB4)
  obtain ⟨A4, n4, c4, e4⟩ : ∃ A n c, v4 = .slice A n c := by obtain ⟨A4, c4, e4⟩ := Copy.shape HO4.out; exact ⟨_, _, _, e4⟩
  subst e4
  have hpm := HP2.out
  rw [← HOW.out, ← HOT.out] at hpm
  have hso := sort_pl _ _ _ _ _ HO4.out hpm.symm HPW.out HRV.out (by have := hpm.length_eq; simp at this ⊢; have := HL.out; omega)
  have HSO := Lib.hid hso
  clear hso hpm
  go_upto_region 6 with (go_at_call 59; refine HSO.out.mono ?_; rintro e w5 ⟨rfl, hO5, hg5⟩; have HO5 := Lib.hid hO5; have HB5 := Lib.hid ((F.Fr.grown (S := fun k => w.heap.size ≤ k) (F.Fr.of_below (B.below_trans HB3.out HB4.out)) hg5 (fun g hg h => by have h1 := (World.ownsRow.lt HO4.out g hg).1; have h2 := HB3.out.size; have h3 := HAL.out.size; exact Nat.le_trans h2 (Nat.le_trans h3 h1))).below (Nat.le_refl _) (fun _ h => h)); clear hO5 hg5)
  obtain ⟨A9, c9, e9, hC⟩ := B.own_S (k := 4) (enc := plE) (hl := fun _ => rfl) (h1 := plE1) HO5.out (by have := HL.out; simp; omega)
  simp only [Value.slice.injEq] at e9
  obtain ⟨rfl, e9, rfl⟩ := e9
  have HC := Lib.hid hC
  clear hC
  have HE := Lib.hid e9
  clear e9
  go_wp2
  go_ret2
  exact ⟨⟨_, _, by rw [HE.out]; rfl, HC.out⟩, HB5.out⟩
end Go.Proofs.YtfillnkebohciaaGreatDoor.Rn
namespace Go.Proofs.YtfillnkebohciaaGreatDoor.Rn
open Go.RowKit
open F (Fr Cl)
open T (Step stK)
open Come (tot Ok its tot_app its_snoc its_le tot_in ptE ptE1 ptK info_pt own_pt str_at Pt)

def ct (x : List Pl) (k : ByteArray) : Int := (its (sps x) k).length
def tl (x : List Pl) (k : ByteArray) : Int := tot (its (sps x) k)
theorem sps_snoc (x : List Pl) (p : Pl) : sps (x ++ [p]) = sps x ++ [(p.1, p.2.2)] := by unfold sps; rw [List.map_append]; rfl
theorem ct_yes {x : List Pl} {p : Pl} {k : ByteArray} (h : p.1 = k) : ct (x ++ [p]) k = ct x k + 1 ∧ tl (x ++ [p]) k = tl x k + p.2.2 := by
  unfold ct tl
  rw [sps_snoc, its_snoc, if_pos h, tot_app]
  exact ⟨by simp, by simp [tot]⟩
theorem ct_no {x : List Pl} {p : Pl} {k : ByteArray} (h : p.1 ≠ k) : ct (x ++ [p]) k = ct x k ∧ tl (x ++ [p]) k = tl x k := by
  unfold ct tl
  rw [sps_snoc, its_snoc, if_neg h, List.append_nil]
  exact ⟨rfl, rfl⟩
theorem ct_in {x : List Pl} (h : Ok (sps x)) (hl : x.length ≤ 3000) (k : ByteArray) : (0 ≤ ct x k ∧ ct x k ≤ 5000) ∧ 0 ≤ tl x k ∧ tl x k ≤ 18000000000 := by
  have e : (sps x).length = x.length := by unfold sps; rw [List.length_map]
  obtain ⟨i1, i2, i3⟩ := its_le h k
  have := tot_in h (by omega) (sps x).length
  rw [List.take_length] at this
  unfold ct tl
  omega
theorem ok_sub {x y : List Pl} (h : Ok (sps x)) (hs : ∀ p ∈ y, p ∈ x) : Ok (sps y) := fun s hs' => by
  obtain ⟨p, hp, rfl⟩ := List.mem_map.1 hs'
  exact h _ (List.mem_map.2 ⟨p, hs p hp, rfl⟩)
theorem ownOf_snoc (x : List (Pl × Bool)) (p : Pl × Bool) : ownOf (x ++ [p]) = ownOf x ++ (if p.2 then [] else [p.1]) := by
  unfold ownOf
  obtain ⟨p1, p2⟩ := p
  cases p2 <;> simp [List.filter_append]
theorem ownOf_take {R : List (Pl × Bool)} (i : Nat) : ∀ p ∈ ownOf (R.take i), p ∈ ownOf R := fun p hp => by
  unfold ownOf at *
  obtain ⟨q, hq, rfl⟩ := List.mem_map.1 hp
  obtain ⟨h1, h2⟩ := List.mem_filter.1 hq
  exact List.mem_map.2 ⟨q, List.mem_filter.2 ⟨List.mem_of_mem_take h1, h2⟩, rfl⟩
theorem lp_none {x y : List Pl} {k : ByteArray} (h : ct x k - ct y k = 0 ∧ tl x k - tl y k = 0) : lp x y k = none := if_pos h
theorem lp_some {x y : List Pl} {k : ByteArray} (h : ¬ (ct x k - ct y k = 0 ∧ tl x k - tl y k = 0)) : lp x y k = some (k, ct x k - ct y k, 1, tl x k - tl y k, 1) := if_neg h
set_option maxHeartbeats 8000000 in
set_option maxRecDepth 100000 in
theorem lostOf_good (A : Option Addr) (cL : Nat) (l : List Step) (wf wt af : Int) (A2 : Option Addr) (c2 n2 : Nat) (w : World) (R1 R2 : List (Pl × Bool)) (h1 : stK.C w A l) (hl : l.length ≤ 5000) (hR1 : R1.length ≤ 3000) (hR2 : R2.length ≤ 3000) (hX : Ok (sps (R2.map (·.1)))) (hY : Ok (sps (ownOf R1)))
    (CP : ∀ W, Below w.heap.size w W → Calls Tryz.prog 63 #[.slice A l.length cL, .agg #[.int .i64 wf, .int .i64 wt], .slice A2 n2 c2, .int .i64 af] W fun e w' => RaRes R1 e w' ∧ Below W.heap.size W w')
    (CQ : ∀ W, Below w.heap.size w W → Calls Tryz.prog 63 #[.slice A l.length cL, .agg #[.int .i64 wf, .int .i64 wt], .slice none 0 0, .int .i64 af] W fun e w' => RaRes R2 e w' ∧ Below W.heap.size W w') :
    Calls Tryz.prog 34 #[.slice A l.length cL, .agg #[.int .i64 wf, .int .i64 wt], .slice A2 n2 c2, .int .i64 af] w fun e w' => (∃ A c, e = .returned (.tuple #[.slice A (lost l (R2.map (·.1)) (ownOf R1)).length c, .int .i64 0]) ∧ ptK.C w' A (lost l (R2.map (·.1)) (ownOf R1))) ∧ Below w.heap.size w w' := by
  have HA := Lib.hid (fun (c : Array Value) (e : TypeId) => (Below.refl w.heap.size w).alloc (Nat.le_refl _) (.cells c e))
  have HCP := Lib.hid CP
  have HCQ := Lib.hid CQ
  have hb1 : decide (R1.length ≤ 3000) = true := decide_eq_true hR1
  have hb2 : decide (R2.length ≤ 3000) = true := decide_eq_true hR2
  unfold RaRes at HCP HCQ
  rw [hb1] at HCP
  rw [hb2] at HCQ
  have HI := Lib.hid (fun W (hb : Below w.heap.size w W) => Come.itemsOf A cL l W (h1.mono hb) hl)
  have HPE : Hid (lost l (R2.map (·.1)) (ownOf R1) = (Told.dd (l.map (·.1))).filterMap (lp (R2.map (·.1)) (ownOf R1))) := Lib.hid rfl
  have HDL := Lib.hid (Nat.le_trans (Come.dd_len l) hl)
  have HL1 := Lib.hid hR1
  have HL2 := Lib.hid hR2
  have HX := Lib.hid (fun (i : Nat) (k : ByteArray) => ct_in (x := (R2.take i).map (·.1)) (ok_sub hX (fun p hp => by obtain ⟨q, hq, rfl⟩ := List.mem_map.1 hp; exact List.mem_map.2 ⟨q, List.mem_of_mem_take hq, rfl⟩)) (by rw [List.length_map, List.length_take]; omega) k)
  have HY := Lib.hid (fun (i : Nat) (k : ByteArray) => ct_in (x := ownOf (R1.take i)) (ok_sub hY (ownOf_take i)) (by have := (own_oth (R1.take i)).1; rw [List.length_take] at this; omega) k)
  have HXs := Lib.hid (fun (i : Nat) (h : i < R2.length) => (show 1 ≤ R2[i].1.2.2 ∧ R2[i].1.2.2 ≤ 3600000 from hX _ (List.mem_map.2 ⟨R2[i].1, List.mem_map.2 ⟨R2[i], List.getElem_mem h, rfl⟩, rfl⟩)))
  have HYs := Lib.hid (fun (i : Nat) (h : i < R1.length) (hb : R1[i].2 = false) => (show 1 ≤ R1[i].1.2.2 ∧ R1[i].1.2.2 ≤ 3600000 from hY _ (List.mem_map.2 ⟨R1[i].1, List.mem_map.2 ⟨R1[i], List.mem_filter.2 ⟨List.getElem_mem h, by rw [hb]; rfl⟩, rfl⟩, rfl⟩)))
  have HXT : Hid (ct ((R2.take R2.length).map (·.1)) = ct (R2.map (·.1)) ∧ tl ((R2.take R2.length).map (·.1)) = tl (R2.map (·.1))) := Lib.hid (by rw [List.take_length]; exact ⟨rfl, rfl⟩)
  have HYT : Hid (ct (ownOf (R1.take R1.length)) = ct (ownOf R1) ∧ tl (ownOf (R1.take R1.length)) = tl (ownOf R1)) := Lib.hid (by rw [List.take_length]; exact ⟨rfl, rfl⟩)
  generalize Told.dd (l.map (·.1)) = ks at *
  generalize lost l (R2.map (·.1)) (ownOf R1) = PL at *
  clear CP CQ h1 hl hX hY hb1 hb2 hR1 hR2
  go_enter Tryz.func34, Tryz.ntmps34
  go_wp2_with (first
    | (go_at_call 63; (with_reducible refine (HCP.out _ (HA.out _ _)).mono ?_); rintro e w2 ⟨⟨A3, c3, rfl, hC⟩, hB2⟩; have f0 : w2.cell? ⟨w.heap.size, 0, none⟩ = some (.int .i64 wf) := B.cell_below hB2 ((World.cell?_alloc_new w _ _ 0).trans rfl); have f1 : w2.cell? ⟨w.heap.size, 1, none⟩ = some (.int .i64 wt) := B.cell_below hB2 ((World.cell?_alloc_new w _ _ 1).trans rfl); have HB2 := Lib.hid (B.below_trans (HA.out _ _) hB2); have HC := Lib.hid hC; clear hB2 hC)
    | (go_at_call 63; (with_reducible refine (HCQ.out _ HB2.out).mono ?_); clear f0 f1; rintro e w3 ⟨⟨A5, c5, rfl, hC⟩, hB3⟩; have HC5 := Lib.hid hC; have HC3 := Lib.hid (HC.out.mono hB3); have HB3 := Lib.hid (B.below_trans HB2.out hB3); clear hB3 hC)
    | (go_at_call 45; (with_reducible refine (HI.out _ HB3.out).mono ?_); rintro e W4 ⟨v4, rfl, hO4, hB4⟩; obtain ⟨A4, c4, rfl⟩ := Copy.shape hO4; have HO4 := Lib.hid hO4; have HQ5 := Lib.hid (HC5.out.mono hB4); have HQ3 := Lib.hid (HC3.out.mono hB4); have HB4 := Lib.hid (B.below_trans HB3.out hB4); clear hO4 hB4))
  have HKS : Hid (B.Kd.str.C W4 A4 ks) := Lib.hid (by obtain ⟨A', c', e, hC⟩ := B.own_str HO4.out (by have := HDL.out; omega); cases e; exact hC)
  clear HO4 HC HC3 HC5 HCP HCQ HI
  go_loopw [14, 47] (fun s14 s47 wr => ∃ (j : Nat) (v3 : Value), s47 = .int .i64 j ∧ j ≤ ks.length ∧ v3 = s14 ∧ Hid (B.Own wr W4.heap.size 53 5 ptE v3 ((ks.take j).filterMap (lp (R2.map (·.1)) (ownOf R1)))) ∧ Hid (Below W4.heap.size W4 wr)) (fun _ s _ => ks.length - (intOf s).toNat)
  case atStart => exact ⟨0, _, rfl, Nat.zero_le _, rfl, Lib.hid (by rw [List.take_zero]; exact B.Own.nil _ _ _ _ _), Lib.hid (Below.refl _ _)⟩
  case round =>
    obtain ⟨j, v3, rfl, hj, rfl, HO, HB⟩ := hrel
    by_cases hlt : j < ks.length
    · obtain ⟨b1, o1, rfl, f0⟩ := str_at (HKS.out.mono HB.out) j hlt
      have hj1 : (j : Int) < ks.length := by omega
      have hkl : ks.length ≤ 5000 := by have := HDL.out; omega
      have HTK : Hid ((ks.take (j + 1)).filterMap (lp (R2.map (·.1)) (ownOf R1)) = (ks.take j).filterMap (lp (R2.map (·.1)) (ownOf R1)) ++ [ks[j]].filterMap (lp (R2.map (·.1)) (ownOf R1))) := Lib.hid (by rw [List.take_succ_eq_append_getElem hlt, List.filterMap_append])
      have HLT : Hid (((ks.take j).filterMap (lp (R2.map (·.1)) (ownOf R1))).length ≤ 5000) := Lib.hid (by have := List.length_filterMap_le (lp (R2.map (·.1)) (ownOf R1)) (ks.take j); rw [List.length_take] at this; have := HDL.out; omega)
      generalize hkk : ks[j] = kk at *
      go_wp2
      go_loopw [17, 18, 53] (fun s17 s18 s53 wr => ∃ i : Nat, s53 = .int .i64 i ∧ i ≤ R2.length ∧ s17 = .int .i64 (ct ((R2.take i).map (·.1)) kk) ∧ s18 = .int .i64 (tl ((R2.take i).map (·.1)) kk) ∧ Hid (B.Own wr W4.heap.size 53 5 ptE v3 ((ks.take j).filterMap (lp (R2.map (·.1)) (ownOf R1)))) ∧ Hid (Below W4.heap.size W4 wr)) (fun _ _ s _ => R2.length - (intOf s).toNat)
      case atStart => exact ⟨0, rfl, Nat.zero_le _, rfl, rfl, HO, HB⟩
      case round =>
        obtain ⟨i, rfl, hi, rfl, rfl, HO2, HB2⟩ := hrel
        obtain ⟨⟨hc0, hc1⟩, hc2, hc3⟩ := HX.out i kk
        have hR := HL2.out
        by_cases hlt2 : i < R2.length
        · obtain ⟨b2, o2, rfl, e0, e1, e2, e3, e4⟩ := pd_at (HQ5.out.mono HB2.out) i hlt2
          have hi1 : (i : Int) < R2.length := by omega
          have hi3 : (i : Int) < 3000 := by omega
          have HTS : Hid ((R2.take (i + 1)).map (·.1) = (R2.take i).map (·.1) ++ [R2[i].1]) := Lib.hid (by rw [List.take_succ_eq_append_getElem hlt2, List.map_append]; rfl)
          obtain ⟨hs3, hs3'⟩ := HXs.out i hlt2
          generalize R2[i] = s at *
          obtain ⟨⟨s1, s2, s3⟩, s4⟩ := s
          simp only [] at hs3 hs3'
          rcases Come.seq_cases s1 kk with ⟨hse, hsb⟩ | ⟨hse, hsb⟩
          · have HT1 := Lib.hid (ct_yes (x := (R2.take i).map (·.1)) (p := (s1, s2, s3)) hse.out)
            rw [← HTS.out] at HT1
            generalize ct ((R2.take i).map (·.1)) kk = q at *
            generalize tl ((R2.take i).map (·.1)) kk = u at *
            clear HTS
            go_wp2
            go_roundw
            case rel => exact ⟨i + 1, by go_num, by omega, by rw [HT1.out.1], by rw [HT1.out.2], Lib.hid (HO2.out.below ((Below.refl _ _).alloc (Nat.le_refl _) _)), Lib.hid (HB2.out.alloc HB2.out.size _)⟩
            case measure => simp [intOf]; omega
          · have HT1 := Lib.hid (ct_no (x := (R2.take i).map (·.1)) (p := (s1, s2, s3)) hse.out)
            rw [← HTS.out] at HT1
            generalize ct ((R2.take i).map (·.1)) kk = q at *
            generalize tl ((R2.take i).map (·.1)) kk = u at *
            clear HTS
            go_wp2
            go_roundw
            case rel => exact ⟨i + 1, by go_num, by omega, by rw [HT1.out.1], by rw [HT1.out.2], Lib.hid (HO2.out.below ((Below.refl _ _).alloc (Nat.le_refl _) _)), Lib.hid (HB2.out.alloc HB2.out.size _)⟩
            case measure => simp [intOf]; omega
        · obtain rfl : i = R2.length := by omega
          rw [HXT.out.1] at hc0 hc1 ⊢
          rw [HXT.out.2] at hc2 hc3 ⊢
          generalize hcx : ct (R2.map (·.1)) kk = cx at *
          generalize htx : tl (R2.map (·.1)) kk = tx at *
          have HCX := Lib.hid hcx
          have HTX := Lib.hid htx
          clear hcx htx HO HB
          go_wp2
          go_loopw [17, 18, 72] (fun s17 s18 s72 wr => ∃ i : Nat, s72 = .int .i64 i ∧ i ≤ R1.length ∧ s17 = .int .i64 (cx - ct (ownOf (R1.take i)) kk) ∧ s18 = .int .i64 (tx - tl (ownOf (R1.take i)) kk) ∧ Hid (B.Own wr W4.heap.size 53 5 ptE v3 ((ks.take j).filterMap (lp (R2.map (·.1)) (ownOf R1)))) ∧ Hid (Below W4.heap.size W4 wr)) (fun _ _ s _ => R1.length - (intOf s).toNat)
          case atStart => exact ⟨0, rfl, Nat.zero_le _, by rw [List.take_zero]; exact congrArg _ (Int.sub_zero cx).symm, by rw [List.take_zero]; exact congrArg _ (Int.sub_zero tx).symm, HO2, HB2⟩
          case round =>
            obtain ⟨i, rfl, hi, rfl, rfl, HO3, HB3⟩ := hrel
            obtain ⟨⟨hd0, hd1⟩, hd2, hd3⟩ := HY.out i kk
            have hR1 := HL1.out
            by_cases hlt3 : i < R1.length
            · obtain ⟨b2, o2, rfl, e0, e1, e2, e3, e4⟩ := pd_at (HQ3.out.mono HB3.out) i hlt3
              have hi1 : (i : Int) < R1.length := by omega
              have hi3 : (i : Int) < 3000 := by omega
              have HTS : Hid (ownOf (R1.take (i + 1)) = ownOf (R1.take i) ++ (if R1[i].2 then [] else [R1[i].1])) := Lib.hid (by rw [List.take_succ_eq_append_getElem hlt3, ownOf_snoc])
              have hys := HYs.out i hlt3
              obtain ⟨⟨hg0, hg1⟩, hg2, hg3⟩ := HY.out (i + 1) kk
              generalize R1[i] = s at *
              obtain ⟨⟨s1, s2, s3⟩, s4⟩ := s
              simp only [] at hys HTS
              rcases Come.seq_cases s1 kk with ⟨hse, hsb⟩ | ⟨hse, hsb⟩
              · cases s4 with
                | false =>
                  obtain ⟨hs3, hs3'⟩ := hys rfl
                  have HTS2 : Hid (ownOf (R1.take (i + 1)) = ownOf (R1.take i) ++ [(s1, s2, s3)]) := HTS
                  have HT1 := Lib.hid (ct_yes (x := ownOf (R1.take i)) (p := (s1, s2, s3)) hse.out)
                  rw [← HTS2.out] at HT1
                  have HU1 : Hid (cx - ct (ownOf (R1.take (i + 1))) kk = cx - ct (ownOf (R1.take i)) kk - 1 ∧ tx - tl (ownOf (R1.take (i + 1))) kk = tx - tl (ownOf (R1.take i)) kk - s3) := Lib.hid (by rw [HT1.out.1, HT1.out.2]; exact ⟨by omega, (Int.sub_sub _ _ _).symm⟩)
                  clear hg0 hg1 hg2 hg3 HT1 HTS HTS2
                  have k1 : -5000 ≤ cx - ct (ownOf (R1.take i)) kk := by omega
                  have k2 : cx - ct (ownOf (R1.take i)) kk ≤ 5000 := by omega
                  have k3 : -18000000000 ≤ tx - tl (ownOf (R1.take i)) kk := by omega
                  have k4 : tx - tl (ownOf (R1.take i)) kk ≤ 18000000000 := by omega
                  generalize cx - ct (ownOf (R1.take i)) kk = q at *
                  generalize tx - tl (ownOf (R1.take i)) kk = u at *
                  go_wp2
                  go_roundw
                  case rel => exact ⟨i + 1, by go_num, by omega, by rw [HU1.out.1], by rw [HU1.out.2], Lib.hid (HO3.out.below ((Below.refl _ _).alloc (Nat.le_refl _) _)), Lib.hid (HB3.out.alloc HB3.out.size _)⟩
                  case measure => simp [intOf]; omega
                | true =>
                  have HTS2 : Hid (ownOf (R1.take (i + 1)) = ownOf (R1.take i)) := Lib.hid (by rw [HTS.out]; exact List.append_nil _)
                  clear hg0 hg1 hg2 hg3 HTS
                  go_wp2
                  go_roundw
                  case rel => exact ⟨i + 1, by go_num, by omega, by rw [HTS2.out], by rw [HTS2.out], Lib.hid (HO3.out.below ((Below.refl _ _).alloc (Nat.le_refl _) _)), Lib.hid (HB3.out.alloc HB3.out.size _)⟩
                  case measure => simp [intOf]; omega
              · have HU : Hid (ct (ownOf (R1.take (i + 1))) kk = ct (ownOf (R1.take i)) kk ∧ tl (ownOf (R1.take (i + 1))) kk = tl (ownOf (R1.take i)) kk) := Lib.hid (by
                  rw [HTS.out]
                  cases s4 with
                  | false => exact ct_no hse.out
                  | true => exact ⟨congrArg (ct · kk) (List.append_nil _), congrArg (tl · kk) (List.append_nil _)⟩)
                clear hg0 hg1 hg2 hg3 HTS
                go_wp2
                go_roundw
                case rel => exact ⟨i + 1, by go_num, by omega, by rw [HU.out.1], by rw [HU.out.2], Lib.hid (HO3.out.below ((Below.refl _ _).alloc (Nat.le_refl _) _)), Lib.hid (HB3.out.alloc HB3.out.size _)⟩
                case measure => simp [intOf]; omega
            · obtain rfl : i = R1.length := by omega
              rw [HYT.out.1] at hd0 hd1 ⊢
              rw [HYT.out.2] at hd2 hd3 ⊢
              have HLN := Lib.hid (fun h => lp_none (x := R2.map (·.1)) (y := ownOf R1) (k := kk) h)
              have HLS := Lib.hid (fun h => lp_some (x := R2.map (·.1)) (y := ownOf R1) (k := kk) h)
              rw [HCX.out, HTX.out] at HLN HLS
              have k1 : -5000 ≤ cx - ct (ownOf R1) kk := by omega
              have k2 : cx - ct (ownOf R1) kk ≤ 5000 := by omega
              have k3 : -18000000000 ≤ tx - tl (ownOf R1) kk := by omega
              have k4 : tx - tl (ownOf R1) kk ≤ 18000000000 := by omega
              generalize cx - ct (ownOf R1) kk = q at *
              generalize tx - tl (ownOf R1) kk = u at *
              generalize (ks.take j).filterMap (lp (R2.map (·.1)) (ownOf R1)) = PS at *
              clear HCX HTX HXT HYT HX HY HXs HYs
              by_cases hq : q = 0
              · have hqb : (q != 0) = false := by rw [hq]; rfl
                by_cases hu : u = 0
                · have hub : (u != 0) = false := by rw [hu]; rfl
                  have HF : Hid ([kk].filterMap (lp (R2.map (·.1)) (ownOf R1)) = []) := Lib.hid (List.filterMap_cons_none (HLN.out ⟨hq, hu⟩))
                  clear HLN HLS hq hu
                  go_wp2
                  go_roundw
                  case rel => exact ⟨j + 1, _, by go_num, by omega, rfl, by rw [HTK.out, HF.out, List.append_nil]; exact HO3, HB3⟩
                  case measure => simp [intOf]; omega
                · have hub : (u != 0) = true := bne_iff_ne.2 hu
                  have HF : Hid ([kk].filterMap (lp (R2.map (·.1)) (ownOf R1)) = [(kk, 0, 1, u, 1)]) := Lib.hid (List.filterMap_cons_some (by rw [HLS.out (fun h => hu h.2), hq]))
                  clear HLN HLS hu hqb
                  subst hq
                  have hqb : ((0 : Int) != 0) = false := rfl
                  go_wp2_with (at_builtin; (refine Copy.wpl_append_g (w0 := W4) W4.heap.size rfl _ _ 41 53 (.agg #[.string ⟨#[]⟩, .int .i64 0, .int .i64 0, .int .i64 0, .int .i64 0]) 5 48 rfl Tryz.underlying41 info_pt rfl (by decide) (by decide) ptE (fun _ => rfl) ptE1 _ PS (kk, 0, 1, u, 1) _ rfl HO3.out rfl _ (by simp) rfl HB3.out HB3.out.size (by have := HLT.out; omega) ?_); intro v7 w7 hO7 hB7 _; have HO7 := Lib.hid hO7; have HB7 := Lib.hid hB7; clear hO7 hB7)
                  go_roundw
                  case rel => exact ⟨j + 1, _, by go_num, by omega, rfl, by rw [HTK.out, HF.out]; exact HO7, HB7⟩
                  case measure => simp [intOf]; omega
              · have hqb : (q != 0) = true := bne_iff_ne.2 hq
                have HF : Hid ([kk].filterMap (lp (R2.map (·.1)) (ownOf R1)) = [(kk, q, 1, u, 1)]) := Lib.hid (List.filterMap_cons_some (HLS.out (fun h => hq h.1)))
                clear HLN HLS hq
                go_wp2_with (at_builtin; (refine Copy.wpl_append_g (w0 := W4) W4.heap.size rfl _ _ 41 53 (.agg #[.string ⟨#[]⟩, .int .i64 0, .int .i64 0, .int .i64 0, .int .i64 0]) 5 48 rfl Tryz.underlying41 info_pt rfl (by decide) (by decide) ptE (fun _ => rfl) ptE1 _ PS (kk, q, 1, u, 1) _ rfl HO3.out rfl _ (by simp) rfl HB3.out HB3.out.size (by have := HLT.out; omega) ?_); intro v7 w7 hO7 hB7 _; have HO7 := Lib.hid hO7; have HB7 := Lib.hid hB7; clear hO7 hB7)
                go_roundw
                case rel => exact ⟨j + 1, _, by go_num, by omega, rfl, by rw [HTK.out, HF.out]; exact HO7, HB7⟩
                case measure => simp [intOf]; omega
    · obtain rfl : j = ks.length := by omega
      have ho := HO.out
      rw [List.take_length, ← HPE.out] at ho
      obtain ⟨A7, c7, rfl, hC7⟩ := own_pt ho (by rw [HPE.out]; have := List.length_filterMap_le (lp (R2.map (·.1)) (ownOf R1)) ks; have := HDL.out; omega)
      have HC7 := Lib.hid hC7
      have HB7 := Lib.hid (B.below_trans HB4.out HB.out)
      clear ho hC7 HO
      go_wp2
      go_ret2
      exact ⟨⟨_, _, rfl, HC7.out⟩, HB7.out⟩
set_option maxHeartbeats 8000000 in
set_option maxRecDepth 100000 in
theorem lostOf_big (A : Option Addr) (cL : Nat) (l : List Step) (wf wt af : Int) (A2 : Option Addr) (c2 n2 : Nat) (w : World) (R1 R2 : List (Pl × Bool)) (hR : 3000 < R1.length ∨ 3000 < R2.length)
    (CP : ∀ W, Below w.heap.size w W → Calls Tryz.prog 63 #[.slice A l.length cL, .agg #[.int .i64 wf, .int .i64 wt], .slice A2 n2 c2, .int .i64 af] W fun e w' => RaRes R1 e w' ∧ Below W.heap.size W w')
    (CQ : ∀ W, Below w.heap.size w W → Calls Tryz.prog 63 #[.slice A l.length cL, .agg #[.int .i64 wf, .int .i64 wt], .slice none 0 0, .int .i64 af] W fun e w' => RaRes R2 e w' ∧ Below W.heap.size W w') :
    Calls Tryz.prog 34 #[.slice A l.length cL, .agg #[.int .i64 wf, .int .i64 wt], .slice A2 n2 c2, .int .i64 af] w fun e w' => e = .returned (.tuple #[.slice none 0 0, .int .i64 2]) ∧ Below w.heap.size w w' := by
  have HA := Lib.hid (fun (c : Array Value) (e : TypeId) => (Below.refl w.heap.size w).alloc (Nat.le_refl _) (.cells c e))
  have HCP := Lib.hid CP
  have HCQ := Lib.hid CQ
  have hb : decide (R1.length ≤ 3000) = false ∨ decide (R2.length ≤ 3000) = false := by
    rcases hR with h | h
    · exact .inl (decide_eq_false (by omega))
    · exact .inr (decide_eq_false (by omega))
  unfold RaRes at HCP HCQ
  generalize decide (R1.length ≤ 3000) = b1 at *
  generalize decide (R2.length ≤ 3000) = b2 at *
  clear CP CQ hR
  cases b1
  · clear hb
    cases b2
    all_goals
      go_enter Tryz.func34, Tryz.ntmps34
    all_goals (go_wp2_with (first
        | (go_at_call 63; (with_reducible refine (HCP.out _ (HA.out _ _)).mono ?_); rintro e w2 ⟨⟨A3, c3, rfl, hC⟩, hB2⟩; have f0 : w2.cell? ⟨w.heap.size, 0, none⟩ = some (.int .i64 wf) := B.cell_below hB2 ((World.cell?_alloc_new w _ _ 0).trans rfl); have f1 : w2.cell? ⟨w.heap.size, 1, none⟩ = some (.int .i64 wt) := B.cell_below hB2 ((World.cell?_alloc_new w _ _ 1).trans rfl); have HB2 := Lib.hid (B.below_trans (HA.out _ _) hB2); have HC := Lib.hid hC; clear hB2 hC)
        | (go_at_call 63; (with_reducible refine (HCQ.out _ HB2.out).mono ?_); clear f0 f1; rintro e w3 ⟨⟨A5, c5, rfl, hC⟩, hB3⟩; have HC5 := Lib.hid hC; have HC3 := Lib.hid (HC.out.mono hB3); have HB3 := Lib.hid (B.below_trans HB2.out hB3); clear hB3 hC)))
    all_goals go_ret2
    all_goals exact ⟨rfl, HB3.out⟩
  · obtain rfl : b2 = false := by rcases hb with h | h; cases h; exact h
    clear hb
    go_enter Tryz.func34, Tryz.ntmps34
    go_wp2_with (first
        | (go_at_call 63; (with_reducible refine (HCP.out _ (HA.out _ _)).mono ?_); rintro e w2 ⟨⟨A3, c3, rfl, hC⟩, hB2⟩; have f0 : w2.cell? ⟨w.heap.size, 0, none⟩ = some (.int .i64 wf) := B.cell_below hB2 ((World.cell?_alloc_new w _ _ 0).trans rfl); have f1 : w2.cell? ⟨w.heap.size, 1, none⟩ = some (.int .i64 wt) := B.cell_below hB2 ((World.cell?_alloc_new w _ _ 1).trans rfl); have HB2 := Lib.hid (B.below_trans (HA.out _ _) hB2); have HC := Lib.hid hC; clear hB2 hC)
        | (go_at_call 63; (with_reducible refine (HCQ.out _ HB2.out).mono ?_); clear f0 f1; rintro e w3 ⟨⟨A5, c5, rfl, hC⟩, hB3⟩; have HC5 := Lib.hid hC; have HC3 := Lib.hid (HC.out.mono hB3); have HB3 := Lib.hid (B.below_trans HB2.out hB3); clear hB3 hC))
    go_ret2
    exact ⟨rfl, HB3.out⟩
end Go.Proofs.YtfillnkebohciaaGreatDoor.Rn
namespace Go.Proofs.YtfillnkebohciaaGreatDoor.Rn
open Go.RowKit
open T (Step stK)
open Come (tot Ok)

theorem rfl_big {l : List Step} (hok : Ok l) (hn : l ≠ []) {wf wt af : Int} {bs : List Bk} (hC : Cs wt (cuts wf wt bs) wf) (h : 3000 < (all l wf wt af bs).length) : 3000 < (rfl_ l wf wt af (wt - wf).toNat wf 0 (lg l 0) (cuts wf wt bs) []).length := (rfl_all hok hn hC _ (Nat.le_refl _)).2 h
theorem rfl_eq {l : List Step} (hok : Ok l) (hn : l ≠ []) {wf wt af : Int} {bs : List Bk} (hC : Cs wt (cuts wf wt bs) wf) (h : (all l wf wt af bs).length ≤ 3000) : rfl_ l wf wt af (wt - wf).toNat wf 0 (lg l 0) (cuts wf wt bs) [] = all l wf wt af bs := (rfl_all hok hn hC _ (Nat.le_refl _)).1 h
theorem runAll_at (A : Option Addr) (cL : Nat) (l : List Step) (wf wt af : Int) (A2 : Option Addr) (c2 : Nat) (bs : List Bk) (w : World) (h1 : stK.C w A l) (hok : Ok l) (hn : l ≠ []) (hl : l.length ≤ 5000) (hC : bkK.C w A2 bs) (hbl : bs.length ≤ 500)
    (hbs : ∀ x ∈ bs, 0 ≤ x.2.1 ∧ x.2.1 < x.2.2 ∧ x.2.2 ≤ 345686400000) (hcs : Cs wt (cuts wf wt bs) wf) (ha : 0 ≤ wf ∧ wf ≤ wt ∧ wt ≤ 345686400000) (haf : 1 ≤ af ∧ af ≤ 4) :
    ∀ W, Below w.heap.size w W → Calls Tryz.prog 63 #[.slice A l.length cL, .agg #[.int .i64 wf, .int .i64 wt], .slice A2 bs.length c2, .int .i64 af] W fun e w' => RaRes (rfl_ l wf wt af (wt - wf).toNat wf 0 (lg l 0) (cuts wf wt bs) []) e w' ∧ Below W.heap.size W w' :=
  fun W hb => runAll A cL l wf wt af A2 c2 bs W (h1.mono hb) hok hn hl (hC.mono hb) hbl hbs hcs ha haf
theorem refRun_good (A : Option Addr) (cL : Nat) (l : List Step) (wf wt af : Int) (A2 : Option Addr) (c2 : Nat) (bs : List Bk) (w : World) (h1 : stK.C w A l) (hok : Ok l) (hn : l ≠ []) (hl : l.length ≤ 5000) (hC : bkK.C w A2 bs) (hbl : bs.length ≤ 500)
    (hbs : ∀ x ∈ bs, 0 ≤ x.2.1 ∧ x.2.1 < x.2.2 ∧ x.2.2 ≤ 345686400000) (hcs : Cs wt (cuts wf wt bs) wf) (ha : 0 ≤ wf ∧ wf ≤ wt ∧ wt ≤ 345686400000) (haf : 1 ≤ af ∧ af ≤ 4) (hs : (all l wf wt af bs).length ≤ 3000) :
    Calls Tryz.prog 33 #[.slice A l.length cL, .agg #[.int .i64 wf, .int .i64 wt], .slice A2 bs.length c2, .int .i64 af] w fun e w' => (∃ A c, e = .returned (.tuple #[.slice A ((all l wf wt af bs).map (·.1)).length c, .int .i64 0]) ∧ plK.C w' A ((all l wf wt af bs).map (·.1))) ∧ Below w.heap.size w w' := by
  have h := runAll_at A cL l wf wt af A2 c2 bs w h1 hok hn hl hC hbl hbs hcs ha haf
  rw [rfl_eq hok hn hcs hs] at h
  exact runOf_good A cL l.length wf wt af A2 c2 bs.length w _ hs h
theorem refRun_big (A : Option Addr) (cL : Nat) (l : List Step) (wf wt af : Int) (A2 : Option Addr) (c2 : Nat) (bs : List Bk) (w : World) (h1 : stK.C w A l) (hok : Ok l) (hn : l ≠ []) (hl : l.length ≤ 5000) (hC : bkK.C w A2 bs) (hbl : bs.length ≤ 500)
    (hbs : ∀ x ∈ bs, 0 ≤ x.2.1 ∧ x.2.1 < x.2.2 ∧ x.2.2 ≤ 345686400000) (hcs : Cs wt (cuts wf wt bs) wf) (ha : 0 ≤ wf ∧ wf ≤ wt ∧ wt ≤ 345686400000) (haf : 1 ≤ af ∧ af ≤ 4) (hs : 3000 < (all l wf wt af bs).length) :
    Calls Tryz.prog 33 #[.slice A l.length cL, .agg #[.int .i64 wf, .int .i64 wt], .slice A2 bs.length c2, .int .i64 af] w fun e w' => e = .returned (.tuple #[.slice none 0 0, .int .i64 2]) ∧ Below w.heap.size w w' :=
  runOf_big A cL l.length wf wt af A2 c2 bs.length w _ (rfl_big hok hn hcs hs) (runAll_at A cL l wf wt af A2 c2 bs w h1 hok hn hl hC hbl hbs hcs ha haf)
theorem runAll_none (A : Option Addr) (cL : Nat) (l : List Step) (wf wt af : Int) (w : World) (h1 : stK.C w A l) (hok : Ok l) (hn : l ≠ []) (hl : l.length ≤ 5000) (hcs : Cs wt (cuts wf wt []) wf) (ha : 0 ≤ wf ∧ wf ≤ wt ∧ wt ≤ 345686400000) (haf : 1 ≤ af ∧ af ≤ 4) :
    ∀ W, Below w.heap.size w W → Calls Tryz.prog 63 #[.slice A l.length cL, .agg #[.int .i64 wf, .int .i64 wt], .slice none 0 0, .int .i64 af] W fun e w' => RaRes (rfl_ l wf wt af (wt - wf).toNat wf 0 (lg l 0) (cuts wf wt []) []) e w' ∧ Below W.heap.size W w' :=
  runAll_at A cL l wf wt af none 0 [] w h1 hok hn hl (B.Kd.C_nil _ _ _) (by simp) (by simp) hcs ha haf
theorem refLost_good (A : Option Addr) (cL : Nat) (l : List Step) (wf wt af : Int) (A2 : Option Addr) (c2 : Nat) (bs : List Bk) (w : World) (h1 : stK.C w A l) (hok : Ok l) (hn : l ≠ []) (hl : l.length ≤ 5000) (hC : bkK.C w A2 bs) (hbl : bs.length ≤ 500)
    (hbs : ∀ x ∈ bs, 0 ≤ x.2.1 ∧ x.2.1 < x.2.2 ∧ x.2.2 ≤ 345686400000) (hcs : Cs wt (cuts wf wt bs) wf) (ha : 0 ≤ wf ∧ wf ≤ wt ∧ wt ≤ 345686400000) (haf : 1 ≤ af ∧ af ≤ 4) (hcs0 : Cs wt (cuts wf wt []) wf) (hs : (all l wf wt af bs).length ≤ 3000) (hs0 : (all l wf wt af []).length ≤ 3000) (hX : Ok (sps ((all l wf wt af []).map (·.1)))) (hY : Ok (sps (ownOf (all l wf wt af bs)))) :
    Calls Tryz.prog 34 #[.slice A l.length cL, .agg #[.int .i64 wf, .int .i64 wt], .slice A2 bs.length c2, .int .i64 af] w fun e w' => (∃ A c, e = .returned (.tuple #[.slice A (lost l ((all l wf wt af []).map (·.1)) (ownOf (all l wf wt af bs))).length c, .int .i64 0]) ∧ Come.ptK.C w' A (lost l ((all l wf wt af []).map (·.1)) (ownOf (all l wf wt af bs)))) ∧ Below w.heap.size w w' := by
  have h := runAll_at A cL l wf wt af A2 c2 bs w h1 hok hn hl hC hbl hbs hcs ha haf
  have h0 := runAll_none A cL l wf wt af w h1 hok hn hl hcs0 ha haf
  rw [rfl_eq hok hn hcs hs] at h
  rw [rfl_eq hok hn hcs0 hs0] at h0
  exact lostOf_good A cL l wf wt af A2 c2 bs.length w _ _ h1 hl hs hs0 hX hY h h0
theorem refLost_big (A : Option Addr) (cL : Nat) (l : List Step) (wf wt af : Int) (A2 : Option Addr) (c2 : Nat) (bs : List Bk) (w : World) (h1 : stK.C w A l) (hok : Ok l) (hn : l ≠ []) (hl : l.length ≤ 5000) (hC : bkK.C w A2 bs) (hbl : bs.length ≤ 500)
    (hbs : ∀ x ∈ bs, 0 ≤ x.2.1 ∧ x.2.1 < x.2.2 ∧ x.2.2 ≤ 345686400000) (hcs : Cs wt (cuts wf wt bs) wf) (ha : 0 ≤ wf ∧ wf ≤ wt ∧ wt ≤ 345686400000) (haf : 1 ≤ af ∧ af ≤ 4) (hcs0 : Cs wt (cuts wf wt []) wf) (hs : 3000 < (all l wf wt af bs).length ∨ 3000 < (all l wf wt af []).length) :
    Calls Tryz.prog 34 #[.slice A l.length cL, .agg #[.int .i64 wf, .int .i64 wt], .slice A2 bs.length c2, .int .i64 af] w fun e w' => e = .returned (.tuple #[.slice none 0 0, .int .i64 2]) ∧ Below w.heap.size w w' :=
  lostOf_big A cL l wf wt af A2 c2 bs.length w _ _ (hs.imp (rfl_big hok hn hcs) (rfl_big hok hn hcs0)) (runAll_at A cL l wf wt af A2 c2 bs w h1 hok hn hl hC hbl hbs hcs ha haf) (runAll_none A cL l wf wt af w h1 hok hn hl hcs0 ha haf)
theorem own_steps {l : List Step} (hok : Ok l) (hn : l ≠ []) {wf wt af : Int} {bs : List Bk} (hC : Cs wt (cuts wf wt bs) wf) : Ok (sps (ownOf (all l wf wt af bs))) := fun s hs => by
  obtain ⟨p, hp, rfl⟩ := List.mem_map.1 hs
  unfold ownOf at hp
  obtain ⟨q, hq, rfl⟩ := List.mem_map.1 hp
  obtain ⟨h1, h2⟩ := List.mem_filter.1 hq
  obtain ⟨g1, g2⟩ := (all_ok hok hn hC).1 q h1
  exact ⟨g1.2.1, (g2 (by simpa using h2)).1⟩
theorem all_none (l : List Step) (wf wt af : Int) : ∀ p ∈ all l wf wt af [], p.2 = false := fun p hp => by
  unfold all cuts at hp
  rw [List.map_nil, List.filter_nil, idl] at hp
  split at hp
  · unfold tg at hp
    obtain ⟨q, -, rfl⟩ := List.mem_map.1 hp
    rfl
  · cases hp
theorem none_own (l : List Step) (wf wt af : Int) : ownOf (all l wf wt af []) = (all l wf wt af []).map (·.1) := by
  unfold ownOf
  rw [List.filter_eq_self.2 (fun p hp => by rw [all_none l wf wt af p hp]; rfl)]
end Go.Proofs.YtfillnkebohciaaGreatDoor.Rn
