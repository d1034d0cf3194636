/- The reference's gathered. Printed by wip/gen/gathrgen.py out of XGath's text. -/
import Derived.Test.YtlfobpjefklccaaDoorGath
namespace Go.Proofs.YtlfobpjefklccaaDoor.H
open Go.RowKit
open L (Lp row row1 At AtR lv kdL kid_at rowR)
open F (Fr Cl)

theorem counted_someR' {R : Nat → Prop} (x it : Lp) (m : Nat) (A As : Option Addr) (c c' : Nat) (w : World) (h : LR R w x A As) (hv : Vd x) (hc : cnt x = some (it, m)) :
    Calls Tryd.prog 64 #[lv x A As c c'] w fun e w' => (∃ A' As' d d', e = .returned (.tuple #[.agg #[.int .i64 it.kind, .string it.item, .int .i64 it.long, .int .i64 it.many, .slice A' it.kids.length d, .slice As' it.shares.length d'], .int .i64 m]) ∧ LR R w' it A' As') ∧ Below w.heap.size w w' :=
  (countedR_some x it m A As c c' w h hv hc).mono fun _ _ he => ⟨by obtain ⟨A', As', d, d', e, hl⟩ := he.1; exact ⟨A', As', d, d', e, hl⟩, he.2⟩
theorem reps_len (it : Lp) (n : Nat) (h : n ≤ 20000) : (reps it n).length ≤ 201 := by
  unfold reps
  rw [List.length_append, List.length_replicate]
  split
  · simp; omega
  · split <;> simp <;> omega
theorem reps_zero (it : Lp) : reps it 0 = [] := rfl
theorem reps_step (it : Lp) {r : Nat} (h : 1 < r) : ∃ t : Nat, min (r : Int) 100 = t ∧ (r : Int) - t = (r - t : Nat) ∧ 1 ≤ t ∧ t ≤ 100 ∧ reps it r = [rp it t] ++ reps it (r - t) := by
  by_cases hr : 100 ≤ r
  · obtain ⟨q, rfl⟩ : ∃ q, r = q + 100 := ⟨r - 100, by omega⟩
    refine ⟨100, by omega, by omega, by omega, by omega, ?_⟩
    rw [Nat.add_sub_cancel]
    unfold reps
    rw [show (q + 100) / 100 = q / 100 + 1 by omega, show (q + 100) % 100 = q % 100 by omega, List.replicate_succ]
    rfl
  · refine ⟨r, by omega, by omega, by omega, by omega, ?_⟩
    rw [Nat.sub_self, reps_zero, List.append_nil]
    unfold reps
    rw [show r / 100 = 0 by omega, show r % 100 = r by omega, if_neg (by omega), if_neg (by omega)]
    rfl
/-- What is so while an item that comes often is written out. -/
structure Tl (Q : Nat → Prop) (wm wo W6 : World) (tot : List Lp) (it : Lp) (wz : World) (s6 : Value) (lo1 : List Lp) (rs1 : List (B.Rw 6)) (r : Nat) : Prop where
  own : B.Own wz wm.heap.size 25 6 Subtype.val s6 rs1
  rows : RowsL (RB Q wm.heap.size wz s6) wz lo1 rs1
  eq : lo1 ++ reps it r = tot
  fr : Fr (fun b => wm.heap.size ≤ b ∧ b < wo.heap.size) W6 wz
  bel : Below wm.heap.size wm wz
  so : ∀ g, s6.ownBlock = some g → wm.heap.size ≤ g ∧ (g < wo.heap.size ∨ W6.heap.size ≤ g)
  len : tot.length ≤ 1000
theorem Tl.rlen {Q : Nat → Prop} {wm wo W6 : World} {tot : List Lp} {it : Lp} {wz : World} {s6 : Value} {lo1 : List Lp} {rs1 : List (B.Rw 6)} {r : Nat} (h : Tl Q wm wo W6 tot it wz s6 lo1 rs1 r) : rs1.length ≤ 1000 := by
  have h1 := h.rows.1
  have h2 := congrArg List.length h.eq
  have h3 := h.len
  rw [List.length_append] at h2
  omega
theorem Tl.lr {Q : Nat → Prop} {wm wo W6 : World} {tot : List Lp} {it : Lp} {wz : World} {s6 : Value} {lo1 : List Lp} {rs1 : List (B.Rw 6)} {r : Nat} (h : Tl Q wm wo W6 tot it wz s6 lo1 rs1 r) (hQ : ∀ b, Q b → b < wm.heap.size) {x : Lp} {A As : Option Addr} (hl : LR Q W6 x A As) : LR Q wz x A As :=
  hl.fr h.fr (fun b hb hs => by have := hQ b hb; omega) (fun _ h => h)
theorem Tl.box {Q : Nat → Prop} {wm wo W6 : World} {tot : List Lp} {it : Lp} {wz : World} {s6 : Value} {lo1 : List Lp} {rs1 : List (B.Rw 6)} {r : Nat} (h : Tl Q wm wo W6 tot it wz s6 lo1 rs1 r) {bi : Nat} (hb : wo.heap.size ≤ bi) {v0 v1 v2 v3 v4 v5 : Value}
    (hc : W6.cell? ⟨bi, 0, none⟩ = some v0 ∧ W6.cell? ⟨bi, 1, none⟩ = some v1 ∧ W6.cell? ⟨bi, 2, none⟩ = some v2 ∧ W6.cell? ⟨bi, 3, none⟩ = some v3 ∧ W6.cell? ⟨bi, 4, none⟩ = some v4 ∧ W6.cell? ⟨bi, 5, none⟩ = some v5) :
    wz.cell? ⟨bi, 0, none⟩ = some v0 ∧ wz.cell? ⟨bi, 1, none⟩ = some v1 ∧ wz.cell? ⟨bi, 2, none⟩ = some v2 ∧ wz.cell? ⟨bi, 3, none⟩ = some v3 ∧ wz.cell? ⟨bi, 4, none⟩ = some v4 ∧ wz.cell? ⟨bi, 5, none⟩ = some v5 := by
  have hn : ¬ (wm.heap.size ≤ bi ∧ bi < wo.heap.size) := by omega
  exact ⟨h.fr.cell hn hc.1, h.fr.cell hn hc.2.1, h.fr.cell hn hc.2.2.1, h.fr.cell hn hc.2.2.2.1, h.fr.cell hn hc.2.2.2.2.1, h.fr.cell hn hc.2.2.2.2.2⟩
theorem Tl.start {Q : Nat → Prop} {wm wo W6 W9 : World} {it : Lp} {vo : Value} {lo : List Lp} {rs : List (B.Rw 6)} {n : Nat} (ho : B.Own wo wm.heap.size 25 6 Subtype.val vo rs) (hr : RowsL (RB Q wm.heap.size wo vo) wo lo rs) (hc : Below wo.heap.size wo W6) (h9 : Below W6.heap.size W6 W9) (h2 : Below wm.heap.size wm wo)
    (hl : (lo ++ reps it n).length ≤ 1000) : Tl Q wm wo W6 (lo ++ reps it n) it W9 vo lo rs n := by
  have hb := B.below_trans hc h9
  refine ⟨ho.below hb, hr.fr (S := fun _ => False) (Fr.of_below hb) (fun _ _ h => h) (fun b hb' => hb'.elim .inl (fun hb' => .inr ⟨hb'.1, Nat.lt_of_lt_of_le hb'.2.1 hb.size, hb'.2.2.1, hb'.2.2.2.below hb hb'.2.1⟩)), rfl, Fr.of_below h9, h2.trans (hb.mono h2.size), fun g e => ?_, hl⟩
  have := World.ownsRow.lt ho g e
  exact ⟨this.1, .inl this.2⟩
theorem Tl.push {Q : Nat → Prop} {wm wo W6 : World} {tot : List Lp} {it : Lp} {wz : World} {s6 : Value} {lo1 : List Lp} {rs1 : List (B.Rw 6)} {r : Nat} (h : Tl Q wm wo W6 tot it wz s6 lo1 rs1 r) (hQ : ∀ b, Q b → b < wm.heap.size) (_hwo : wo.heap.size ≤ W6.heap.size) {W W' w1 : World} {v1 : Value} {ys : List Lp} {rs' : List (B.Rw 6)} {r' : Nat}
    (hB : Below wz.heap.size wz W) (hy : RowsL (RN Q wz.heap.size W) W ys rs') (hW : Below W.heap.size W W') (HG : W'.grownBy w1 s6.ownBlock) (HOB : v1.ownBlock = s6.ownBlock ∨ ∀ g, v1.ownBlock = some g → W.heap.size ≤ g) (HO : B.Own w1 wm.heap.size 25 6 Subtype.val v1 (rs1 ++ rs')) (he : reps it r = ys ++ reps it r') :
    Tl Q wm wo W6 tot it w1 v1 (lo1 ++ ys) (rs1 ++ rs') r' := by
  have hV : ∀ g, s6.ownBlock = some g → wm.heap.size ≤ g ∧ g < wz.heap.size := fun g e => World.ownsRow.lt h.own g e
  have hF : Fr (fun b => s6.ownBlock = some b) wz w1 := (Fr.of_below (B.below_trans hB hW)).grown HG (fun g e _ => e)
  have hs1 := hB.size
  have hs2 := h.fr.size
  refine ⟨HO, push_all hQ h.bel.size hV h.rows hB hy hW HG HOB, ?_, h.fr.trans hF (fun i hi e => ?_), h.bel.trans (hF.below h.bel.size (fun g e => (hV g e).1)), fun g e => ?_, h.len⟩
  · rw [List.append_assoc, ← he, h.eq]
  · have := h.so i e
    omega
  · rcases HOB with hh | hh
    · exact h.so g (hh ▸ e)
    · have h1 := hh g e
      have := World.ownsRow.lt HO g e
      exact ⟨this.1, .inr (by omega)⟩
set_option maxHeartbeats 32000000 in
set_option maxRecDepth 100000 in
theorem gatheredR_any {R : Nat → Prop} (l : List Lp) (A : Option Addr) (c : Nat) (w : World) (h : SR R w A l) (hR : ∀ b, R b → b < w.heap.size) (hv : ∀ x ∈ l, Vd x) (hp : partsL l ≤ 200) :
    Calls Tryd.prog 41 #[.slice A l.length c] w fun e w' => SlRes R w.heap.size (gath l) e w' ∧ Below w.heap.size w w' := by
  have HH := Lib.hid h
  have HRR := Lib.hid hR
  have HV := Lib.hid hv
  have HP := Lib.hid hp
  have LL : l.length ≤ 200 := Nat.le_trans (partsL_len l) hp
  clear h hR hv hp
  go_enter Tryd.func41, Tryd.ntmps41
  go_wp2
  go_loopw [3, 16] (fun s3 s16 wr => ∃ (k : Nat) (rs : List (B.Rw 6)), s16 = .int .i64 k ∧ k ≤ l.length ∧ Hid (B.Own wr w.heap.size 25 6 Subtype.val s3 rs) ∧ Hid (RowsL (RB R w.heap.size wr s3) wr (flat (l.take k)) rs) ∧ Hid (Below w.heap.size w wr)) (fun _ s _ => l.length - (intOf s).toNat)
  case atStart => exact ⟨0, [], rfl, by omega, Lib.hid (B.Own.nil _ _ _ _ _), Lib.hid (RowsL.nil _ _), Lib.hid (Below.refl _ _)⟩
  case round =>
    obtain ⟨k, rs, rfl, hk, HO, HRL, HB⟩ := hrel
    by_cases hlt : k < l.length
    · obtain ⟨b1, o1, A2, As2, c2, c2', rfl, hat, f0, f1, f2, f3, f4, f5⟩ := row_facts HH.out HB.out k hlt
      have hk1 : (k : Int) < l.length := by omega
      have hvk := HV.out l[k] (List.getElem_mem hlt)
      have HFT := Lib.hid (flat_take hlt)
      have HSM := Lib.hid (flat_small HV.out (k + 1))
      have HLV : Hid (∀ g, u3.ownBlock = some g → w.heap.size ≤ g ∧ g < wr.heap.size) := Lib.hid (fun g e => World.ownsRow.lt HO.out g e)
      have HLN : Hid (rs.length = (flat (l.take k)).length) := Lib.hid HRL.out.1
      have HAT := Lib.hid hat
      have HOK := Lib.hid (T.own_ok hvk.own)
      generalize l[k] = y at *
      have HBA := Lib.hid ((Below.refl _ wr).alloc (Nat.le_refl _) (.cells #[.int .i64 y.kind, .string y.item, .int .i64 y.long, .int .i64 y.many, .slice A2 y.kids.length c2, .slice As2 y.shares.length c2'] 25))
      have HOW := Lib.hid (HO.out.below HBA.out)
      by_cases h2 : y.kind = 2
      · have hb2 : (y.kind == 2) = true := by rw [h2]; rfl
        have hkp : 0 < y.kids.length := HOK.out.2.2.1 (by omega)
        obtain ⟨rs', HR', HC'⟩ := hat.kids.rows
        obtain ⟨b3, o3, rfl⟩ : ∃ b o, A2 = some ⟨b, o, none⟩ := by obtain ⟨b, o, _, _, _, _, e, _⟩ := hat.kids.at 0 hkp; exact ⟨b, o, e⟩
        have hrl : rs'.length = y.kids.length := HR'.1
        have HRS := Lib.hid (HR'.fr (R' := RN R wr.heap.size (wr.alloc (.cells #[.int .i64 y.kind, .string y.item, .int .i64 y.long, .int .i64 y.many, .slice (some ⟨b3, o3, none⟩) y.kids.length c2, .slice As2 y.shares.length c2'] 25))) (S := fun _ => False) (Fr.of_below HBA.out) (fun _ _ h => h) (fun b hb => .inl hb))
        have HCS := Lib.hid (HC'.mono HBA.out)
        have HRL' := Lib.hid hrl
        have HFE : Hid (flat (l.take (k + 1)) = flat (l.take k) ++ y.kids) := Lib.hid (by rw [HFT.out, if_pos h2])
        clear HR' HC' h2 hrl hat hvk
        go_wp2_with (at_builtin; (refine wpl_append_all_s (W := (wr.alloc (.cells #[.int .i64 y.kind, .string y.item, .int .i64 y.long, .int .i64 y.many, .slice (some ⟨b3, o3, none⟩) y.kids.length c2, .slice As2 y.shares.length c2'] 25))) w.heap.size rfl _ _ 22 25 (.agg #[.int .i64 0, .string ⟨#[]⟩, .int .i64 0, .int .i64 0, .slice none 0 0, .slice none 0 0]) 6 88 rfl Tryd.underlying22 L.info_loop rfl (by decide) (by decide) Subtype.val (fun y => y.2.1) (fun y => y.2.2) _ rs rs' (by rw [HRL'.out]; exact hkp) HOW.out rfl _ c2 (by rw [HRL'.out]; rfl) HCS.out (by have := HB.out.size; simp; omega) (by have := HSM.out; rw [HFE.out, List.length_append] at this; have := HLN.out; have := HRL'.out; have := HP.out; omega) ?_); intro v1 w1 hO1 hOB1 hG1; have HO1 := Lib.hid hO1; have HOB1 := Lib.hid hOB1; have HG1 := Lib.hid hG1; clear hO1 hOB1 hG1)
        have HPU := Lib.hid (push_all (lo := w.heap.size) HRR.out HB.out.size HLV.out HRL.out HBA.out HRS.out (Below.refl _ _) HG1.out HOB1.out)
        have HBN : Hid (Below w.heap.size w w1) := Lib.hid (HB.out.trans (((Fr.of_below (S := fun b => u3.ownBlock = some b) HBA.out).grown HG1.out (fun g e _ => e)).below HB.out.size (fun g e => (HLV.out g e).1)))
        go_roundw
        case rel => exact ⟨k + 1, rs ++ rs', by go_num, by omega, HO1, Lib.hid (by rw [HFE.out]; exact HPU.out), HBN⟩
        case measure => simp [intOf]; omega
      · have hb2 : (y.kind == 2) = false := by rw [beq_eq_false_iff_ne]; exact h2
        have HFE : Hid (flat (l.take (k + 1)) = flat (l.take k) ++ [y]) := Lib.hid (by rw [HFT.out, if_neg h2])
        have HRS := Lib.hid (RowsL.one c2 c2' ((HAT.out.below HBA.out).weak (R' := RN R wr.heap.size (wr.alloc (.cells #[.int .i64 y.kind, .string y.item, .int .i64 y.long, .int .i64 y.many, .slice A2 y.kids.length c2, .slice As2 y.shares.length c2'] 25))) (fun b hb => .inl hb)))
        clear h2 hat hvk
        go_wp2_with (at_builtin; (refine Copy.wpl_append_s (W := (wr.alloc (.cells #[.int .i64 y.kind, .string y.item, .int .i64 y.long, .int .i64 y.many, .slice A2 y.kids.length c2, .slice As2 y.shares.length c2'] 25))) w.heap.size rfl _ _ 22 25 (.agg #[.int .i64 0, .string ⟨#[]⟩, .int .i64 0, .int .i64 0, .slice none 0 0, .slice none 0 0]) 6 88 rfl Tryd.underlying22 L.info_loop rfl (by decide) (by decide) Subtype.val (fun y => y.2.1) (fun y => y.2.2) _ rs (rowR y A2 As2 c2 c2') _ rfl HOW.out rfl (wr.heap.size + 1) (by simp) rfl (by have := HB.out.size; simp; omega) (by have := HSM.out; rw [HFE.out, List.length_append] at this; have := HLN.out; have := HP.out; have e1 : [y].length = 1 := rfl; omega) ?_); intro v1 w1 hO1 hOB1 hG1; have HO1 := Lib.hid hO1; have HOB1 := Lib.hid hOB1; have HG1 := Lib.hid hG1; clear hO1 hOB1 hG1)
        have HPU := Lib.hid (push_all (lo := w.heap.size) HRR.out HB.out.size HLV.out HRL.out HBA.out HRS.out ((Below.refl _ _).alloc (Nat.le_refl _) _) HG1.out HOB1.out)
        have HBN : Hid (Below w.heap.size w w1) := Lib.hid (HB.out.trans (((Fr.of_below (S := fun b => u3.ownBlock = some b) (HBA.out.trans (((Below.refl _ _).alloc (Nat.le_refl _) _).mono HBA.out.size))).grown HG1.out (fun g e _ => e)).below HB.out.size (fun g e => (HLV.out g e).1)))
        go_roundw
        case rel => exact ⟨k + 1, rs ++ [rowR y A2 As2 c2 c2'], by go_num, by omega, HO1, Lib.hid (by rw [HFE.out]; exact HPU.out), HBN⟩
        case measure => simp [intOf]; omega
    · obtain rfl : k = l.length := by omega
      have hrl := HRL.out
      rw [List.take_length] at hrl
      have hvf := flat_vd HV.out
      obtain ⟨A3, d3, e3, hS3⟩ := own_end (lo' := w.heap.size) HO.out hrl (Nat.le_refl _) (by have := partsL_len (flat l); have := hvf.2.1; have := HP.out; omega)
      subst e3
      have HS3 := Lib.hid hS3
      have HVF := Lib.hid hvf.1
      have HPF : Hid (partsL (flat l) ≤ 200) := Lib.hid (Nat.le_trans hvf.2.1 HP.out)
      have LF : (flat l).length ≤ 200 := Nat.le_trans (partsL_len (flat l)) HPF.out
      have HGA : Hid (gath l = mrg (flat l)) := Lib.hid rfl
      have HGP : Hid ((gath l).length ≤ 200) := Lib.hid (Nat.le_trans (partsL_len _) (Nat.le_trans (gath_vd HV.out).2.1 HP.out))
      have HR2 : Hid (∀ b, RN R w.heap.size wr b → b < wr.heap.size) := Lib.hid (fun b hb => by
        rcases hb with hb | hb
        · have := HRR.out b hb; have := HB.out.size; omega
        · exact hb.2.1)
      clear hrl hvf hS3 hlt hk HO HRL
      generalize flat l = F at *
      generalize hgl : gath l = G at *
      have HGL := Lib.hid hgl
      clear hgl
      generalize hwr : wr = wm at *
      clear hwr
      go_wp2
      go_loopw [6, 7] (fun s6 s7 wr => ∃ (i : Nat) (lo : List Lp) (rs : List (B.Rw 6)), s7 = .int .i64 i ∧ i ≤ F.length ∧ Hid (B.Own wr wm.heap.size 25 6 Subtype.val s6 rs) ∧ Hid (RowsL (RB (RN R w.heap.size wm) wm.heap.size wr s6) wr lo rs) ∧ Hid (lo ++ mrg (F.drop i) = G) ∧ Hid (Below wm.heap.size wm wr)) (fun _ s _ => F.length - (intOf s).toNat)
      case atStart => exact ⟨0, [], [], rfl, by omega, Lib.hid (B.Own.nil _ _ _ _ _), Lib.hid (RowsL.nil _ _), Lib.hid (by rw [List.drop_zero, List.nil_append]; exact HGA.out.symm), Lib.hid (Below.refl _ _)⟩
      case round =>
        obtain ⟨i, lo, rs, rfl, hi, HO, HRL, HG, HB2⟩ := hrel
        generalize hvo : u6 = vo at *
        generalize hwo : wr = wo at *
        clear hvo hwo
        by_cases hlt : i < F.length
        · have HC : Hid (cnt F[i] = cnt F[i]) := Lib.hid rfl
          obtain ⟨b1, o1, A2, As2, c2, c2', rfl, hat, f0, f1, f2, f3, f4, f5⟩ := row_facts HS3.out HB2.out i hlt
          have hk1 : (i : Int) < F.length := by omega
          have hvk := HVF.out F[i] (List.getElem_mem hlt)
          have HDR : Hid (F.drop i = F[i] :: F.drop (i + 1)) := Lib.hid (List.drop_eq_getElem_cons hlt)
          have HLV : Hid (∀ g, vo.ownBlock = some g → wm.heap.size ≤ g ∧ g < wo.heap.size) := Lib.hid (fun g e => World.ownsRow.lt HO.out g e)
          have HLO : Hid (rs.length ≤ 200) := Lib.hid (by have h1 := HRL.out.1; have h2 := congrArg List.length HG.out; rw [List.length_append] at h2; have := HGP.out; omega)
          have HAT := Lib.hid hat
          have HXR := Lib.hid (fun W (hb : Below wo.heap.size wo W) => (⟨B.cell_below hb f0, B.cell_below hb f1, B.cell_below hb f2, B.cell_below hb f3, B.cell_below hb f4, B.cell_below hb f5⟩ : _ ∧ _ ∧ _ ∧ _ ∧ _ ∧ _))
          cases hc : cnt F[i] with
          | none =>
            have cc := countedR_none F[i] A2 As2 c2 c2' wo hat hvk hc
            have HCN := Lib.hid hc
            unfold lv at cc
            generalize F[i] = y at *
            clear hc hvk hat HC
            go_wp2_with (first
              | (go_at_call 64; refine cc.mono ?_; rintro e w2 ⟨rfl, hB5⟩; have HB5 := Lib.hid hB5; clear hB5; have HX5 := Lib.hid (fun o => HXR.out (w2.alloc o) (B.below_trans HB5.out ((Below.refl _ _).alloc (Nat.le_refl _) o))); have g0 := fun o => (HX5.out o).1; have g1 := fun o => (HX5.out o).2.1; have g2 := fun o => (HX5.out o).2.2.1; have g3 := fun o => (HX5.out o).2.2.2.1; have g4 := fun o => (HX5.out o).2.2.2.2.1; have g5 := fun o => (HX5.out o).2.2.2.2.2)
              | (at_builtin; (refine Copy.wpl_append_s (W := (w2.alloc (.cells #[.int .i64 0, .string ⟨#[]⟩, .int .i64 0, .int .i64 0, .slice none 0 0, .slice none 0 0] 25))) wm.heap.size rfl _ _ 22 25 (.agg #[.int .i64 0, .string ⟨#[]⟩, .int .i64 0, .int .i64 0, .slice none 0 0, .slice none 0 0]) 6 88 rfl Tryd.underlying22 L.info_loop rfl (by decide) (by decide) Subtype.val (fun y => y.2.1) (fun y => y.2.2) _ rs (rowR y A2 As2 c2 c2') _ rfl (HO.out.below (B.below_trans HB5.out ((Below.refl _ _).alloc (Nat.le_refl _) _))) rfl (w2.heap.size + 1) (by simp) rfl (by have := HB2.out.size; have := HB5.out.size; simp; omega) (by have := HLO.out; omega) ?_); intro v1 w1 hO1 hOB1 hG1; have HO1 := Lib.hid hO1; have HOB1 := Lib.hid hOB1; have HG1 := Lib.hid hG1; clear hO1 hOB1 hG1))
            have HBA := Lib.hid (B.below_trans HB5.out ((Below.refl _ _).alloc (Nat.le_refl _) (.cells #[.int .i64 0, .string ⟨#[]⟩, .int .i64 0, .int .i64 0, .slice none 0 0, .slice none 0 0] 25)))
            have HPU := Lib.hid (push_all (lo := wm.heap.size) HR2.out HB2.out.size HLV.out HRL.out HBA.out (RowsL.one c2 c2' ((HAT.out.below HBA.out).weak (fun b hb => .inl hb))) ((Below.refl _ _).alloc (Nat.le_refl _) _) HG1.out HOB1.out)
            have HBN : Hid (Below wm.heap.size wm w1) := Lib.hid (HB2.out.trans (((Fr.of_below (S := fun b => vo.ownBlock = some b) (B.below_trans HBA.out ((Below.refl _ _).alloc (Nat.le_refl _) _))).grown HG1.out (fun g e _ => e)).below HB2.out.size (fun g e => (HLV.out g e).1)))
            go_roundw
            case rel => exact ⟨i + 1, lo ++ [y], rs ++ [rowR y A2 As2 c2 c2'], by go_num, by omega, HO1, HPU, Lib.hid (by rw [← HG.out, HDR.out, mrg_none _ HCN.out, List.append_assoc]; rfl), HBN⟩
            case measure => simp [intOf]; omega
          | some r =>
            obtain ⟨it, m⟩ := r
            have cc := counted_someR' F[i] it m A2 As2 c2 c2' wo hat hvk hc
            have HCN := Lib.hid hc
            obtain ⟨hvi, hik, hm1, hm2, -⟩ := vd_cnt hvk hc
            have HIK := Lib.hid hik
            have HM1 := Lib.hid hm1
            have hm8 : ((m : Int) == 0) = false := by rw [beq_eq_false_iff_ne]; omega
            unfold lv at cc
            generalize F[i] = y at *
            clear hc hvk hat HC hvi hik hm1 HXR
            have HIL := Lib.hid hlt
            obtain ⟨G2, hG2⟩ : ∃ G2, grp it (F.drop (i + 1)) m = G2 := ⟨_, rfl⟩
            have HG2 := Lib.hid hG2
            clear hG2
            go_wp2_with (go_at_call 64; refine cc.mono ?_; rintro e w2 ⟨⟨A4, As4, d4, d4', rfl, hit⟩, hB5⟩; have HIT5 := Lib.hid hit; have HB5 := Lib.hid hB5; clear hit hB5)
            have HWQ := Lib.hid HB5.out.size
            have HBC := Lib.hid (B.below_trans HB5.out ((Below.refl _ w2).alloc (Nat.le_refl _) (.cells #[.int .i64 it.kind, .string it.item, .int .i64 it.long, .int .i64 it.many, .slice A4 it.kids.length d4, .slice As4 it.shares.length d4'] 25)))
            have HIT := Lib.hid (HIT5.out.below ((Below.refl _ w2).alloc (Nat.le_refl _) (.cells #[.int .i64 it.kind, .string it.item, .int .i64 it.long, .int .i64 it.many, .slice A4 it.kids.length d4, .slice As4 it.shares.length d4'] 25)))
            have HXI := Lib.hid (fun (W : World) => @L.boxed it A4 As4 d4 d4' w2 W 25)
            have HR3 : Hid (∀ b, RN R w.heap.size wm b → b < (w2.alloc (.cells #[.int .i64 it.kind, .string it.item, .int .i64 it.long, .int .i64 it.many, .slice A4 it.kids.length d4, .slice As4 it.shares.length d4'] 25)).heap.size) := Lib.hid (fun b hb => Nat.lt_of_lt_of_le (HR2.out b hb) (Nat.le_trans HB2.out.size HBC.out.size))
            have HS4 := Lib.hid (fun W (hb : Below (w2.alloc (.cells #[.int .i64 it.kind, .string it.item, .int .i64 it.long, .int .i64 it.many, .slice A4 it.kids.length d4, .slice As4 it.shares.length d4'] 25)).heap.size (w2.alloc (.cells #[.int .i64 it.kind, .string it.item, .int .i64 it.long, .int .i64 it.many, .slice A4 it.kids.length d4, .slice As4 it.shares.length d4'] 25)) W) => row_facts HS3.out (HB2.out.trans ((B.below_trans HBC.out hb).mono HB2.out.size)))
            have HWO := Lib.hid HBC.out.size
            generalize hbw : w2.heap.size = bi at *
            have HBI6 : Hid (wo.heap.size ≤ bi) := Lib.hid HWQ.out
            clear hbw HB5 HIT5 HWQ
            generalize (w2.alloc (.cells #[.int .i64 it.kind, .string it.item, .int .i64 it.long, .int .i64 it.many, .slice A4 it.kids.length d4, .slice As4 it.shares.length d4'] 25)) = W6 at *
            have HGE : Hid (m ≤ G2.1) := Lib.hid (by rw [← HG2.out]; exact grp_ge it _ m)
            have HGS : Hid (grp it (F.drop i) 0 = G2) := Lib.hid (by rw [HDR.out, grp, HCN.out]; simp only [if_true, Nat.zero_add]; exact HG2.out)
            go_loopw [7, 10] (fun s7 s9 wz => ∃ (j n : Nat), s7 = .int .i64 j ∧ s9 = .int .i64 n ∧ j ≤ F.length ∧ Hid (i ≤ j) ∧ n ≤ 100 * j ∧ Hid (n = 0 ∨ i < j) ∧ Hid (grp it (F.drop j) n = G2) ∧ Hid (Below W6.heap.size W6 wz)) (fun s _ _ => F.length - (intOf s).toNat)
            case atStart => exact ⟨i, 0, rfl, rfl, by omega, Lib.hid (Nat.le_refl _), by omega, Lib.hid (.inl rfl), HGS, Lib.hid (Below.refl _ _)⟩
            case round =>
              obtain ⟨j, n, rfl, rfl, hj2, HJ1, hn9, HN0, HGR, HBI⟩ := hrel
              by_cases hjl : j < F.length
              · obtain ⟨b5, o5, A5, As5, k5, k5', e5, hat5, g0, g1, g2, g3, g4, g5⟩ := HS4.out wr HBI.out j hjl
                cases e5
                have hk2 : (j : Int) < F.length := by omega
                have hvy := HVF.out F[j] (List.getElem_mem hjl)
                have hgr := HGR.out
                rw [List.drop_eq_getElem_cons hjl, grp] at hgr
                cases hcy : cnt F[j] with
                | none =>
                  rw [hcy] at hgr
                  have HEX : Hid (G2 = (n, F.drop j)) := Lib.hid (by rw [← hgr, List.drop_eq_getElem_cons hjl])
                  have cc5 := countedR_none F[j] A5 As5 k5 k5' wr hat5 hvy hcy
                  unfold lv at cc5
                  generalize F[j] = z at *
                  clear hgr hvy hcy hat5
                  go_wp2_with (go_at_call 64; refine cc5.mono ?_; rintro e w8 ⟨rfl, hB8⟩; have HB9 := Lib.hid (B.below_trans (B.below_trans HBI.out hB8) ((Below.refl _ w8).alloc (Nat.le_refl _) (.cells #[.int .i64 0, .string ⟨#[]⟩, .int .i64 0, .int .i64 0, .slice none 0 0, .slice none 0 0] 25))); clear hB8)
                  clear HGR
                  have HN1 : Hid (1 ≤ n) := Lib.hid (by have h1 := HGE.out; have h2 := HM1.out; rw [HEX.out] at h1; have h3 : m ≤ n := h1; omega)
                  have HJ2 : Hid (i < j) := Lib.hid (by have h1 := HN1.out; have h2 := HN0.out; omega)
                  have HT0 : Hid (Tl (RN R w.heap.size wm) wm wo W6 (lo ++ reps it n) it (w8.alloc (.cells #[.int .i64 0, .string ⟨#[]⟩, .int .i64 0, .int .i64 0, .slice none 0 0, .slice none 0 0] 25)) vo lo rs n) := Lib.hid (Tl.start HO.out HRL.out HBC.out HB9.out HB2.out (by have := reps_len it n (by omega); have h1 := HRL.out.1; have := HLO.out; rw [List.length_append]; omega))
                  generalize (w8.alloc (.cells #[.int .i64 0, .string ⟨#[]⟩, .int .i64 0, .int .i64 0, .slice none 0 0, .slice none 0 0] 25)) = W9 at *
                  go_loopw [6, 10] (fun s6 s10 wz => ∃ (r : Nat) (lo1 : List Lp) (rs1 : List (B.Rw 6)), s10 = .int .i64 r ∧ r ≤ n ∧ Hid (Tl (RN R w.heap.size wm) wm wo W6 (lo ++ reps it n) it wz s6 lo1 rs1 r)) (fun _ s _ => (intOf s).toNat)
                  case atStart => exact ⟨n, lo, rs, rfl, Nat.le_refl _, HT0⟩
                  case round =>
                    obtain ⟨r, lo1, rs1, rfl, hrn, HTL⟩ := hrel
                    have HIZ : Hid (LR (RN R w.heap.size wm) wr it A4 As4) := Lib.hid (HTL.out.lr HR2.out HIT.out)
                    obtain ⟨y0, y1, y2, y3, y4, y5⟩ := HTL.out.box HBI6.out (HXI.out W6 (Below.refl _ _))
                    by_cases h1r : 1 < r
                    · have hd1 : decide ((1 : Int) < r) = true := decide_eq_true (by omega)
                      obtain ⟨t, hmin, hq, ht1, ht2, hre⟩ := reps_step it h1r
                      have HRE := Lib.hid hre
                      have HT2 := Lib.hid ht2
                      have HT1 := Lib.hid ht1
                      have HBA := Lib.hid ((Below.refl _ wr).alloc (Nat.le_refl _) (.cells #[.int .i64 it.kind, .string it.item, .int .i64 it.long, .int .i64 it.many, .slice A4 it.kids.length d4, .slice As4 it.shares.length d4'] 25))
                      have HOW := Lib.hid (HTL.out.own.below HBA.out)
                      clear hre
                      go_wp2_with (at_builtin; (refine Copy.wpl_append_s (W := (wr.alloc (.cells #[.int .i64 it.kind, .string it.item, .int .i64 it.long, .int .i64 it.many, .slice A4 it.kids.length d4, .slice As4 it.shares.length d4'] 25))) wm.heap.size rfl _ _ 22 25 (.agg #[.int .i64 0, .string ⟨#[]⟩, .int .i64 0, .int .i64 0, .slice none 0 0, .slice none 0 0]) 6 88 rfl Tryd.underlying22 L.info_loop rfl (by decide) (by decide) Subtype.val (fun y => y.2.1) (fun y => y.2.2) _ rs1 (rowR (rp it t) (some ⟨wr.heap.size, 0, none⟩) none 1 0) _ rfl HOW.out rfl (wr.heap.size + 1) (by simp) rfl (by have := HTL.out.bel.size; simp; omega) (by have := HTL.out.rlen; omega) ?_); intro v1 w1 hO1 hOB1 hG1; have HO1 := Lib.hid hO1; have HOB1 := Lib.hid hOB1; have HG1 := Lib.hid hG1; clear hO1 hOB1 hG1)
                      have HTN := Lib.hid (HTL.out.push HR2.out HWO.out HBA.out (RowsL.one 1 0 (lr_rp (m := (t : Int)) HIZ.out (by omega) (by have := HT2.out; omega) 25)) ((Below.refl _ _).alloc (Nat.le_refl _) _) HG1.out HOB1.out HO1.out HRE.out)
                      go_roundw
                      case rel => exact ⟨r - t, _, _, by go_num, by omega, HTN⟩
                      case measure => simp [intOf]; omega
                    · have hd1 : decide ((1 : Int) < r) = false := decide_eq_false (by omega)
                      by_cases h0 : r = 1
                      · have hb1 : ((r : Int) == 1) = true := by subst h0; rfl
                        have HOW := Lib.hid HTL.out.own
                        have HRE : Hid (reps it r = [it] ++ reps it 0) := Lib.hid (by subst h0; rfl)
                        clear h0
                        go_wp2_with (at_builtin; (refine Copy.wpl_append_s (W := wr) wm.heap.size rfl _ _ 22 25 (.agg #[.int .i64 0, .string ⟨#[]⟩, .int .i64 0, .int .i64 0, .slice none 0 0, .slice none 0 0]) 6 88 rfl Tryd.underlying22 L.info_loop rfl (by decide) (by decide) Subtype.val (fun y => y.2.1) (fun y => y.2.2) _ rs1 (rowR it A4 As4 d4 d4') _ rfl HOW.out rfl _ rfl rfl (by have := HTL.out.bel.size; simp; omega) (by have := HTL.out.rlen; omega) ?_); intro v1 w1 hO1 hOB1 hG1; have HO1 := Lib.hid hO1; have HOB1 := Lib.hid hOB1; have HG1 := Lib.hid hG1; clear hO1 hOB1 hG1)
                        have HTN := Lib.hid (HTL.out.push HR2.out HWO.out (Below.refl _ _) (RowsL.one d4 d4' (HIZ.out.weak (fun b hb => .inl hb))) ((Below.refl _ _).alloc (Nat.le_refl _) _) HG1.out HOB1.out HO1.out HRE.out)
                        go_roundw
                        case rel => exact ⟨j, _, _, rfl, hj2, Lib.hid HTN.out.own, Lib.hid HTN.out.rows, Lib.hid (by rw [← HG.out, HDR.out, mrg_some _ HCN.out, HG2.out, HEX.out, ← List.append_assoc, ← HTN.out.eq, reps_zero, List.append_nil]), Lib.hid HTN.out.bel⟩
                        case measure => simp [intOf]; have := HJ2.out; have := HIL.out; omega
                      · have hb1 : ((r : Int) == 1) = false := by rw [beq_eq_false_iff_ne]; omega
                        have HR0 : Hid (reps it r = []) := Lib.hid (by rw [show r = 0 from by omega]; exact reps_zero it)
                        clear h0
                        go_wp2
                        go_roundw
                        case rel => exact ⟨j, _, _, rfl, hj2, Lib.hid HTL.out.own, Lib.hid HTL.out.rows, Lib.hid (by rw [← HG.out, HDR.out, mrg_some _ HCN.out, HG2.out, HEX.out, ← List.append_assoc, ← HTL.out.eq, HR0.out, List.append_nil]), Lib.hid HTL.out.bel⟩
                        case measure => simp [intOf]; have := HJ2.out; have := HIL.out; omega
                | some ry =>
                  obtain ⟨it2, m2⟩ := ry
                  rw [hcy] at hgr
                  have cc5 := counted_someR' F[j] it2 m2 A5 As5 k5 k5' wr hat5 hvy hcy
                  obtain ⟨-, -, hm5, hm6, -⟩ := vd_cnt hvy hcy
                  have hm7 : ((m2 : Int) == 0) = false := by rw [beq_eq_false_iff_ne]; omega
                  unfold lv at cc5
                  by_cases he : it2 = it
                  · have hgr2 : grp it (F.drop (j + 1)) (n + m2) = G2 := by rw [← hgr]; simp [he]
                    have HGR2 := Lib.hid hgr2
                    have ceq := fun W A6 As6 d6 d6' (h6 : LR (RN R w.heap.size wm) W it2 A6 As6) (hb : Below W6.heap.size W6 W) => equalR it2 it A6 As6 A4 As4 d6 d6' d4 d4' W h6 (HIT.out.below hb)
                    rw [decide_eq_true he] at ceq
                    unfold lv at ceq
                    generalize F[j] = z at *
                    clear hgr hgr2 hvy hcy hat5 he
                    go_wp2_with (first
                      | (go_at_call 64; refine cc5.mono ?_; rintro e w8 ⟨⟨A6, As6, d6, d6', rfl, hit6⟩, hB8⟩; have HB9 := Lib.hid (fun o => B.below_trans (B.below_trans HBI.out hB8) ((Below.refl _ w8).alloc (Nat.le_refl _) o)); have HIT6 := Lib.hid (fun o => hit6.below ((Below.refl _ w8).alloc (Nat.le_refl _) o)); clear hB8 hit6; have v0 := fun o => (HXI.out _ (HB9.out o)).1; have v1 := fun o => (HXI.out _ (HB9.out o)).2.1; have v2 := fun o => (HXI.out _ (HB9.out o)).2.2.1; have v3 := fun o => (HXI.out _ (HB9.out o)).2.2.2.1; have v4 := fun o => (HXI.out _ (HB9.out o)).2.2.2.2.1; have v5 := fun o => (HXI.out _ (HB9.out o)).2.2.2.2.2)
                      | (go_at_call 10; refine (ceq _ _ _ _ _ (HIT6.out _) (HB9.out _)).mono ?_; rintro e w9 ⟨rfl, hB9⟩; have HBJ := Lib.hid (B.below_trans (HB9.out _) hB9); clear hB9))
                    go_roundw
                    case rel => exact ⟨j + 1, n + m2, by go_num, by go_num, by omega, Lib.hid (by have := HJ1.out; omega), by omega, Lib.hid (.inr (by have := HJ1.out; omega)), HGR2, HBJ⟩
                    case measure => simp [intOf]; omega
                  · have HEX : Hid (G2 = (n, F.drop j)) := Lib.hid (by rw [← hgr, List.drop_eq_getElem_cons hjl]; simp [he])
                    have ceq := fun W A6 As6 d6 d6' (h6 : LR (RN R w.heap.size wm) W it2 A6 As6) (hb : Below W6.heap.size W6 W) => equalR it2 it A6 As6 A4 As4 d6 d6' d4 d4' W h6 (HIT.out.below hb)
                    rw [decide_eq_false he] at ceq
                    unfold lv at ceq
                    generalize F[j] = z at *
                    clear hgr hvy hcy hat5 he
                    go_wp2_with (first
                      | (go_at_call 64; refine cc5.mono ?_; rintro e w8 ⟨⟨A6, As6, d6, d6', rfl, hit6⟩, hB8⟩; have HB9 := Lib.hid (fun o => B.below_trans (B.below_trans HBI.out hB8) ((Below.refl _ w8).alloc (Nat.le_refl _) o)); have HIT6 := Lib.hid (fun o => hit6.below ((Below.refl _ w8).alloc (Nat.le_refl _) o)); clear hB8 hit6; have v0 := fun o => (HXI.out _ (HB9.out o)).1; have v1 := fun o => (HXI.out _ (HB9.out o)).2.1; have v2 := fun o => (HXI.out _ (HB9.out o)).2.2.1; have v3 := fun o => (HXI.out _ (HB9.out o)).2.2.2.1; have v4 := fun o => (HXI.out _ (HB9.out o)).2.2.2.2.1; have v5 := fun o => (HXI.out _ (HB9.out o)).2.2.2.2.2)
                      | (go_at_call 10; refine (ceq _ _ _ _ _ (HIT6.out _) (HB9.out _)).mono ?_; rintro e w9 ⟨rfl, hB9⟩; have HBJ := Lib.hid (B.below_trans (HB9.out _) hB9); clear hB9))
                    have HB9 := HBJ
                    clear HGR
                    have HN1 : Hid (1 ≤ n) := Lib.hid (by have h1 := HGE.out; have h2 := HM1.out; rw [HEX.out] at h1; have h3 : m ≤ n := h1; omega)
                    have HJ2 : Hid (i < j) := Lib.hid (by have h1 := HN1.out; have h2 := HN0.out; omega)
                    have HT0 : Hid (Tl (RN R w.heap.size wm) wm wo W6 (lo ++ reps it n) it w9 vo lo rs n) := Lib.hid (Tl.start HO.out HRL.out HBC.out HB9.out HB2.out (by have := reps_len it n (by omega); have h1 := HRL.out.1; have := HLO.out; rw [List.length_append]; omega))
                    generalize w9 = W9 at *
                    go_loopw [6, 10] (fun s6 s10 wz => ∃ (r : Nat) (lo1 : List Lp) (rs1 : List (B.Rw 6)), s10 = .int .i64 r ∧ r ≤ n ∧ Hid (Tl (RN R w.heap.size wm) wm wo W6 (lo ++ reps it n) it wz s6 lo1 rs1 r)) (fun _ s _ => (intOf s).toNat)
                    case atStart => exact ⟨n, lo, rs, rfl, Nat.le_refl _, HT0⟩
                    case round =>
                      obtain ⟨r, lo1, rs1, rfl, hrn, HTL⟩ := hrel
                      have HIZ : Hid (LR (RN R w.heap.size wm) wr it A4 As4) := Lib.hid (HTL.out.lr HR2.out HIT.out)
                      obtain ⟨y0, y1, y2, y3, y4, y5⟩ := HTL.out.box HBI6.out (HXI.out W6 (Below.refl _ _))
                      by_cases h1r : 1 < r
                      · have hd1 : decide ((1 : Int) < r) = true := decide_eq_true (by omega)
                        obtain ⟨t, hmin, hq, ht1, ht2, hre⟩ := reps_step it h1r
                        have HRE := Lib.hid hre
                        have HT2 := Lib.hid ht2
                        have HT1 := Lib.hid ht1
                        have HBA := Lib.hid ((Below.refl _ wr).alloc (Nat.le_refl _) (.cells #[.int .i64 it.kind, .string it.item, .int .i64 it.long, .int .i64 it.many, .slice A4 it.kids.length d4, .slice As4 it.shares.length d4'] 25))
                        have HOW := Lib.hid (HTL.out.own.below HBA.out)
                        clear hre
                        go_wp2_with (at_builtin; (refine Copy.wpl_append_s (W := (wr.alloc (.cells #[.int .i64 it.kind, .string it.item, .int .i64 it.long, .int .i64 it.many, .slice A4 it.kids.length d4, .slice As4 it.shares.length d4'] 25))) wm.heap.size rfl _ _ 22 25 (.agg #[.int .i64 0, .string ⟨#[]⟩, .int .i64 0, .int .i64 0, .slice none 0 0, .slice none 0 0]) 6 88 rfl Tryd.underlying22 L.info_loop rfl (by decide) (by decide) Subtype.val (fun y => y.2.1) (fun y => y.2.2) _ rs1 (rowR (rp it t) (some ⟨wr.heap.size, 0, none⟩) none 1 0) _ rfl HOW.out rfl (wr.heap.size + 1) (by simp) rfl (by have := HTL.out.bel.size; simp; omega) (by have := HTL.out.rlen; omega) ?_); intro v1 w1 hO1 hOB1 hG1; have HO1 := Lib.hid hO1; have HOB1 := Lib.hid hOB1; have HG1 := Lib.hid hG1; clear hO1 hOB1 hG1)
                        have HTN := Lib.hid (HTL.out.push HR2.out HWO.out HBA.out (RowsL.one 1 0 (lr_rp (m := (t : Int)) HIZ.out (by omega) (by have := HT2.out; omega) 25)) ((Below.refl _ _).alloc (Nat.le_refl _) _) HG1.out HOB1.out HO1.out HRE.out)
                        go_roundw
                        case rel => exact ⟨r - t, _, _, by go_num, by omega, HTN⟩
                        case measure => simp [intOf]; omega
                      · have hd1 : decide ((1 : Int) < r) = false := decide_eq_false (by omega)
                        by_cases h0 : r = 1
                        · have hb1 : ((r : Int) == 1) = true := by subst h0; rfl
                          have HOW := Lib.hid HTL.out.own
                          have HRE : Hid (reps it r = [it] ++ reps it 0) := Lib.hid (by subst h0; rfl)
                          clear h0
                          go_wp2_with (at_builtin; (refine Copy.wpl_append_s (W := wr) wm.heap.size rfl _ _ 22 25 (.agg #[.int .i64 0, .string ⟨#[]⟩, .int .i64 0, .int .i64 0, .slice none 0 0, .slice none 0 0]) 6 88 rfl Tryd.underlying22 L.info_loop rfl (by decide) (by decide) Subtype.val (fun y => y.2.1) (fun y => y.2.2) _ rs1 (rowR it A4 As4 d4 d4') _ rfl HOW.out rfl _ rfl rfl (by have := HTL.out.bel.size; simp; omega) (by have := HTL.out.rlen; omega) ?_); intro v1 w1 hO1 hOB1 hG1; have HO1 := Lib.hid hO1; have HOB1 := Lib.hid hOB1; have HG1 := Lib.hid hG1; clear hO1 hOB1 hG1)
                          have HTN := Lib.hid (HTL.out.push HR2.out HWO.out (Below.refl _ _) (RowsL.one d4 d4' (HIZ.out.weak (fun b hb => .inl hb))) ((Below.refl _ _).alloc (Nat.le_refl _) _) HG1.out HOB1.out HO1.out HRE.out)
                          go_roundw
                          case rel => exact ⟨j, _, _, rfl, hj2, Lib.hid HTN.out.own, Lib.hid HTN.out.rows, Lib.hid (by rw [← HG.out, HDR.out, mrg_some _ HCN.out, HG2.out, HEX.out, ← List.append_assoc, ← HTN.out.eq, reps_zero, List.append_nil]), Lib.hid HTN.out.bel⟩
                          case measure => simp [intOf]; have := HJ2.out; have := HIL.out; omega
                        · have hb1 : ((r : Int) == 1) = false := by rw [beq_eq_false_iff_ne]; omega
                          have HR0 : Hid (reps it r = []) := Lib.hid (by rw [show r = 0 from by omega]; exact reps_zero it)
                          clear h0
                          go_wp2
                          go_roundw
                          case rel => exact ⟨j, _, _, rfl, hj2, Lib.hid HTL.out.own, Lib.hid HTL.out.rows, Lib.hid (by rw [← HG.out, HDR.out, mrg_some _ HCN.out, HG2.out, HEX.out, ← List.append_assoc, ← HTL.out.eq, HR0.out, List.append_nil]), Lib.hid HTL.out.bel⟩
                          case measure => simp [intOf]; have := HJ2.out; have := HIL.out; omega
              · have hjl2 : j = F.length := by omega
                have HEX : Hid (G2 = (n, F.drop j)) := Lib.hid (by rw [← HGR.out, List.drop_eq_nil_of_le (by omega)]; rfl)
                clear hjl2
                have HB9 := HBI
                go_wp2
                clear HGR
                have HN1 : Hid (1 ≤ n) := Lib.hid (by have h1 := HGE.out; have h2 := HM1.out; rw [HEX.out] at h1; have h3 : m ≤ n := h1; omega)
                have HJ2 : Hid (i < j) := Lib.hid (by have h1 := HN1.out; have h2 := HN0.out; omega)
                have HT0 : Hid (Tl (RN R w.heap.size wm) wm wo W6 (lo ++ reps it n) it wr vo lo rs n) := Lib.hid (Tl.start HO.out HRL.out HBC.out HB9.out HB2.out (by have := reps_len it n (by omega); have h1 := HRL.out.1; have := HLO.out; rw [List.length_append]; omega))
                generalize wr = W9 at *
                go_loopw [6, 10] (fun s6 s10 wz => ∃ (r : Nat) (lo1 : List Lp) (rs1 : List (B.Rw 6)), s10 = .int .i64 r ∧ r ≤ n ∧ Hid (Tl (RN R w.heap.size wm) wm wo W6 (lo ++ reps it n) it wz s6 lo1 rs1 r)) (fun _ s _ => (intOf s).toNat)
                case atStart => exact ⟨n, lo, rs, rfl, Nat.le_refl _, HT0⟩
                case round =>
                  obtain ⟨r, lo1, rs1, rfl, hrn, HTL⟩ := hrel
                  have HIZ : Hid (LR (RN R w.heap.size wm) wr it A4 As4) := Lib.hid (HTL.out.lr HR2.out HIT.out)
                  obtain ⟨y0, y1, y2, y3, y4, y5⟩ := HTL.out.box HBI6.out (HXI.out W6 (Below.refl _ _))
                  by_cases h1r : 1 < r
                  · have hd1 : decide ((1 : Int) < r) = true := decide_eq_true (by omega)
                    obtain ⟨t, hmin, hq, ht1, ht2, hre⟩ := reps_step it h1r
                    have HRE := Lib.hid hre
                    have HT2 := Lib.hid ht2
                    have HT1 := Lib.hid ht1
                    have HBA := Lib.hid ((Below.refl _ wr).alloc (Nat.le_refl _) (.cells #[.int .i64 it.kind, .string it.item, .int .i64 it.long, .int .i64 it.many, .slice A4 it.kids.length d4, .slice As4 it.shares.length d4'] 25))
                    have HOW := Lib.hid (HTL.out.own.below HBA.out)
                    clear hre
                    go_wp2_with (at_builtin; (refine Copy.wpl_append_s (W := (wr.alloc (.cells #[.int .i64 it.kind, .string it.item, .int .i64 it.long, .int .i64 it.many, .slice A4 it.kids.length d4, .slice As4 it.shares.length d4'] 25))) wm.heap.size rfl _ _ 22 25 (.agg #[.int .i64 0, .string ⟨#[]⟩, .int .i64 0, .int .i64 0, .slice none 0 0, .slice none 0 0]) 6 88 rfl Tryd.underlying22 L.info_loop rfl (by decide) (by decide) Subtype.val (fun y => y.2.1) (fun y => y.2.2) _ rs1 (rowR (rp it t) (some ⟨wr.heap.size, 0, none⟩) none 1 0) _ rfl HOW.out rfl (wr.heap.size + 1) (by simp) rfl (by have := HTL.out.bel.size; simp; omega) (by have := HTL.out.rlen; omega) ?_); intro v1 w1 hO1 hOB1 hG1; have HO1 := Lib.hid hO1; have HOB1 := Lib.hid hOB1; have HG1 := Lib.hid hG1; clear hO1 hOB1 hG1)
                    have HTN := Lib.hid (HTL.out.push HR2.out HWO.out HBA.out (RowsL.one 1 0 (lr_rp (m := (t : Int)) HIZ.out (by omega) (by have := HT2.out; omega) 25)) ((Below.refl _ _).alloc (Nat.le_refl _) _) HG1.out HOB1.out HO1.out HRE.out)
                    go_roundw
                    case rel => exact ⟨r - t, _, _, by go_num, by omega, HTN⟩
                    case measure => simp [intOf]; omega
                  · have hd1 : decide ((1 : Int) < r) = false := decide_eq_false (by omega)
                    by_cases h0 : r = 1
                    · have hb1 : ((r : Int) == 1) = true := by subst h0; rfl
                      have HOW := Lib.hid HTL.out.own
                      have HRE : Hid (reps it r = [it] ++ reps it 0) := Lib.hid (by subst h0; rfl)
                      clear h0
                      go_wp2_with (at_builtin; (refine Copy.wpl_append_s (W := wr) wm.heap.size rfl _ _ 22 25 (.agg #[.int .i64 0, .string ⟨#[]⟩, .int .i64 0, .int .i64 0, .slice none 0 0, .slice none 0 0]) 6 88 rfl Tryd.underlying22 L.info_loop rfl (by decide) (by decide) Subtype.val (fun y => y.2.1) (fun y => y.2.2) _ rs1 (rowR it A4 As4 d4 d4') _ rfl HOW.out rfl _ rfl rfl (by have := HTL.out.bel.size; simp; omega) (by have := HTL.out.rlen; omega) ?_); intro v1 w1 hO1 hOB1 hG1; have HO1 := Lib.hid hO1; have HOB1 := Lib.hid hOB1; have HG1 := Lib.hid hG1; clear hO1 hOB1 hG1)
                      have HTN := Lib.hid (HTL.out.push HR2.out HWO.out (Below.refl _ _) (RowsL.one d4 d4' (HIZ.out.weak (fun b hb => .inl hb))) ((Below.refl _ _).alloc (Nat.le_refl _) _) HG1.out HOB1.out HO1.out HRE.out)
                      go_roundw
                      case rel => exact ⟨j, _, _, rfl, hj2, Lib.hid HTN.out.own, Lib.hid HTN.out.rows, Lib.hid (by rw [← HG.out, HDR.out, mrg_some _ HCN.out, HG2.out, HEX.out, ← List.append_assoc, ← HTN.out.eq, reps_zero, List.append_nil]), Lib.hid HTN.out.bel⟩
                      case measure => simp [intOf]; have := HJ2.out; have := HIL.out; omega
                    · have hb1 : ((r : Int) == 1) = false := by rw [beq_eq_false_iff_ne]; omega
                      have HR0 : Hid (reps it r = []) := Lib.hid (by rw [show r = 0 from by omega]; exact reps_zero it)
                      clear h0
                      go_wp2
                      go_roundw
                      case rel => exact ⟨j, _, _, rfl, hj2, Lib.hid HTL.out.own, Lib.hid HTL.out.rows, Lib.hid (by rw [← HG.out, HDR.out, mrg_some _ HCN.out, HG2.out, HEX.out, ← List.append_assoc, ← HTL.out.eq, HR0.out, List.append_nil]), Lib.hid HTL.out.bel⟩
                      case measure => simp [intOf]; have := HJ2.out; have := HIL.out; omega
        · obtain rfl : i = F.length := by omega
          have hg := HG.out
          rw [List.drop_length, mrg_nil, List.append_nil] at hg
          obtain ⟨A8, d8, e8, hS8⟩ := own_end (lo' := wm.heap.size) HO.out HRL.out (Nat.le_refl _) (by have := HGP.out; rw [hg]; omega)
          subst e8
          have HG8 := Lib.hid hg
          have HS8 := Lib.hid hS8
          clear hg hS8
          go_wp2
          go_ret
          refine ⟨⟨A8, d8, by rw [HGL.out]; first | rfl | (rw [HG8.out]; rfl), ?_⟩, HB.out.trans (HB2.out.mono HB.out.size)⟩
          rw [HGL.out, ← HG8.out]
          refine HS8.out.weak (fun b hb => ?_)
          have h1 := HB.out.size
          have h2 := HB2.out.size
          rcases hb with (hb | hb) | hb
          · exact .inl hb
          · exact .inr ⟨hb.1, by omega, hb.2.2.below HB2.out hb.2.1⟩
          · exact .inr ⟨by omega, hb.2⟩
end Go.Proofs.YtlfobpjefklccaaDoor.H
