/- The program's gathered. -/
import Derived.Test.YtlfobpjefklccaaDoorMany
namespace Go.Proofs.YtlfobpjefklccaaDoor.H
open Go.RowKit
open L (Lp row row1 At AtR lv kdL kid_at rowR)
open F (Fr Cl)

/-- append of a slice that is not empty; what grew, and where the row is afterwards. -/
theorem wpl_append_all_s {α : Type} {P : Program} {ops : Array Oper} {rest : List Oper} {o : Oper} {a : Act} {Q : Exit → Act → World → Prop} {W : World} (base : Nat) (hgd : o.guard = none) (s x : Operand) (t e : TypeId) (z : Value) (k bytes : Nat)
    (ho : o.op = .call { callee := .builtin .append, args := #[s, x], argTypes := #[t, t] }) (ht : P.underlying t = some (.slice e)) (hinfo : (P.info? e).map (fun i => (i.zero, i.size, i.bytes)) = some (some z, k, bytes)) (hz : z.cells.size = k) (hk : 0 < k) (hby : 0 < bytes)
    (enc : α → List Value) (hlen : ∀ x, (enc x).length = k) (h1 : ∀ x, ∀ v ∈ enc x, v.oneCell' = true) (v : Value) (xs ys : List α) (hys : 0 < ys.length)
    (HO : B.Own W base e k enc v xs) (hs : a.eval s = v) (A : Addr) (c : Nat) (hx : a.eval x = .slice (some A) ys.length c) (C : (B.Kd.flat k enc hlen h1).C W (some A) ys) (hbase : base ≤ W.heap.size) (hroom : (xs.length + ys.length) * bytes ≤ 140737488355328)
    (h : ∀ v1 w1, B.Own w1 base e k enc v1 (xs ++ ys) → (v1.ownBlock = v.ownBlock ∨ ∀ g, v1.ownBlock = some g → W.heap.size ≤ g) → W.grownBy w1 v.ownBlock → wpList P ops Q rest (a.put o.dst v1) w1) :
    wpList P ops Q (o :: rest) a W := by
  obtain ⟨i0, hi, hzz⟩ := Option.map_eq_some_iff.1 hinfo
  simp only [Prod.mk.injEq] at hzz
  obtain ⟨hz0, hz1, hz2⟩ := hzz
  have hn : xs.length + ys.length ≤ 140737488355328 := Nat.le_trans (Nat.le_mul_of_pos_right _ hby) hroom
  have hml : xs.length + ys.length ≤ maxLen := by simp only [maxLen]; omega
  have HO1 : W.ownsRow base e k v xs.length (xs.flatMap enc) := HO
  have hlenm : (ys.flatMap enc).length = ys.length * k := by
    clear C hx hroom hn h hml hys
    induction ys with
    | nil => simp
    | cons y ys ih => rw [List.flatMap_cons, List.length_append, hlen, ih, List.length_cons, Nat.succ_mul]; omega
  have hc : ∀ j u, (ys.flatMap enc)[j]? = some u → W.cell? (A.add j) = some u := fun j u hj => by
    obtain ⟨q, i, hq, hi', rfl, rfl⟩ := B.flatMap_all hk hlen hj
    obtain ⟨b, off, cs, hA, hK, hcc⟩ := C.at q hq
    obtain rfl : A = ⟨b, off, none⟩ := Option.some.inj hA
    have hK' : cs = enc ys[q] := hK
    subst hK'
    rw [Lib.add_plain, show off + (q * k + i) = off + q * k + i from by omega]
    exact hcc i hi'
  have h1' : ∀ u ∈ ys.flatMap enc, u.oneCell' = true := fun u hu => by
    obtain ⟨y, _, hy⟩ := List.mem_flatMap.1 hu
    exact h1 y u hy
  have hfm : xs.flatMap enc ++ ys.flatMap enc = (xs ++ ys).flatMap enc := by rw [List.flatMap_append]
  have hll : (xs ++ ys).length = xs.length + ys.length := List.length_append
  have own' : ∀ {b : Nat} {v1 : Value} {w1 : World}, base ≤ b → w1.ownsRow b e k v1 (xs.length + ys.length) (xs.flatMap enc ++ ys.flatMap enc) → B.Own w1 base e k enc v1 (xs ++ ys) := fun {b v1 w1} hb hr => by
    refine Copy.own_mono (base := b) ?_ hb
    unfold B.Own
    rw [hll, ← hfm]
    exact hr
  have grows : ∀ (ao : Option Addr) (cap : Nat), v = .slice ao xs.length cap → (ao = none → xs.length = 0 ∧ cap = 0) → (∀ b, ao = some b → ∀ j u, (xs.flatMap enc)[j]? = some u → W.cell? (b.add j) = some u) → cap < xs.length + ys.length → wpList P ops Q (o :: rest) a W := fun ao cap hv hno hold hfull => by
    refine wpList_append_grows W hgd s x t ho e i0 z k bytes ht hi hz0 hz1 hz2 hz hk ao xs.length cap (xs.flatMap enc) (hs.trans hv) hno HO1.1 hold A ys.length c (ys.flatMap enc) hx hlenm hc h1' hfull hml hroom fun v1 w1 hr hg => ?_
    refine h v1 w1 (own' hbase hr) (.inr fun g hg1 => ?_) ⟨hg.os, hg.tape, hg.output, hg.size, fun k hk _ => hg.block k hk (by simp)⟩
    exact (World.ownsRow.lt hr g hg1).1
  rcases HO1.2 with ⟨hv, h0⟩ | ⟨g, cap, cur, hv, hb, hg, hcap, -⟩
  · exact grows none 0 (by rw [hv, h0]) (fun _ => ⟨h0, rfl⟩) (fun b hb => by cases hb) (by omega)
  · by_cases hfit : xs.length + ys.length ≤ cap
    · refine wpList_append_fits W hgd s x t ho base e i0 k ht hi hz1 g xs.length cap (xs.flatMap enc) (hs.trans hv) (hv ▸ HO1) A ys.length c (ys.flatMap enc) hx hlenm hc h1' hfit fun w1 hr hg => ?_
      exact h _ w1 (own' (Nat.le_refl _) hr) (.inl (by rw [hv]; rfl)) (by rw [hv]; exact hg)
    · exact grows (some ⟨g, 0, none⟩) cap hv (fun h => by cases h) (fun b hb' j u hj => by cases hb'; exact HO1.cells (g := g) (by rw [hv]; rfl) j u hj) (by omega)
theorem flat_take {l : List Lp} {k : Nat} (h : k < l.length) : flat (l.take (k + 1)) = flat (l.take k) ++ (if l[k].kind = 2 then l[k].kids else [l[k]]) := by
  unfold flat
  rw [← List.take_append_getElem h, List.flatMap_append, List.flatMap_singleton]
theorem flat_small {l : List Lp} (hv : ∀ x ∈ l, Vd x) (k : Nat) : (flat (l.take k)).length ≤ partsL l := by
  have h1 := (flat_vd (l := l.take k) (fun x hx => hv x (List.mem_of_mem_take hx))).2.1
  have h2 := partsL_len (flat (l.take k))
  have h3 : partsL l = partsL (l.take k) + partsL (l.drop k) := by rw [← partsL_append, List.take_append_drop]
  omega
theorem row_facts {R : Nat → Prop} {w wr : World} {A : Option Addr} {l : List Lp} (h : SR R w A l) (hb : Below w.heap.size w wr) (k : Nat) (hk : k < l.length) : ∃ b off A' As' c c', A = some ⟨b, off, none⟩ ∧ LR R wr l[k] A' As' ∧ wr.cell? ⟨b, off + k * 6, none⟩ = some (.int .i64 l[k].kind) ∧ wr.cell? ⟨b, off + k * 6 + 1, none⟩ = some (.string l[k].item) ∧ wr.cell? ⟨b, off + k * 6 + 2, none⟩ = some (.int .i64 l[k].long) ∧ wr.cell? ⟨b, off + k * 6 + 3, none⟩ = some (.int .i64 l[k].many) ∧
    wr.cell? ⟨b, off + k * 6 + 4, none⟩ = some (.slice A' l[k].kids.length c) ∧ wr.cell? ⟨b, off + k * 6 + 5, none⟩ = some (.slice As' l[k].shares.length c') := by
  obtain ⟨b, off, A', As', c, c', e, -, h1, h2⟩ := h.at k hk
  exact ⟨b, off, A', As', c, c', e, h2.below hb, B.cell_below hb (h1 0 _ rfl), B.cell_below hb (h1 1 _ rfl), B.cell_below hb (h1 2 _ rfl), B.cell_below hb (h1 3 _ rfl), B.cell_below hb (h1 4 _ rfl), B.cell_below hb (h1 5 _ rfl)⟩
theorem counted_some' {R : Nat → Prop} (x it : Lp) (m : Nat) (A As : Option Addr) (c c' : Nat) (w : World) (h : LR R w x A As) (hv : Vd x) (hc : cnt x = some (it, m)) :
    Calls Tryd.prog 79 #[lv x A As c c'] w fun e w' => (∃ A' As' d d', e = .returned (.tuple #[.agg #[.int .i64 it.kind, .string it.item, .int .i64 it.long, .int .i64 it.many, .slice A' it.kids.length d, .slice As' it.shares.length d'], .int .i64 m, .bool true]) ∧ LR R w' it A' As') ∧ Below w.heap.size w w' :=
  (counted_some x it m A As c c' w h hv hc).mono fun _ _ he => ⟨by obtain ⟨A', As', d, d', e, hl⟩ := he.1; exact ⟨A', As', d, d', e, hl⟩, he.2⟩
set_option maxHeartbeats 16000000 in
set_option maxRecDepth 100000 in
theorem gathered_any {R : Nat → Prop} (l : List Lp) (A : Option Addr) (c : Nat) (w : World) (h : SR R w A l) (hR : ∀ b, R b → b < w.heap.size) (hv : ∀ x ∈ l, Vd x) (hp : partsL l ≤ 200) :
    Calls Tryd.prog 57 #[.slice A l.length c] w fun e w' => SlRes R w.heap.size (gath l) e w' ∧ Below w.heap.size w w' := by
  have HH := Lib.hid h
  have HRR := Lib.hid hR
  have HV := Lib.hid hv
  have HP := Lib.hid hp
  have LL : l.length ≤ 200 := Nat.le_trans (partsL_len l) hp
  clear h hR hv hp
  go_enter Tryd.func57, Tryd.ntmps57
  go_wp2
  go_loopw [3, 16] (fun s3 s16 wr => ∃ (k : Nat) (rs : List (B.Rw 6)), s16 = .int .i64 k ∧ k ≤ l.length ∧ Hid (B.Own wr w.heap.size 25 6 Subtype.val s3 rs) ∧ Hid (RowsL (RB R w.heap.size wr s3) wr (flat (l.take k)) rs) ∧ Hid (Below w.heap.size w wr)) (fun _ s _ => l.length - (intOf s).toNat)
  case atStart => exact ⟨0, [], rfl, by omega, Lib.hid (B.Own.nil _ _ _ _ _), Lib.hid (RowsL.nil _ _), Lib.hid (Below.refl _ _)⟩
  case round =>
    obtain ⟨k, rs, rfl, hk, HO, HRL, HB⟩ := hrel
    by_cases hlt : k < l.length
    · obtain ⟨b1, o1, A2, As2, c2, c2', rfl, hat, f0, f1, f2, f3, f4, f5⟩ := row_facts HH.out HB.out k hlt
      have hk1 : (k : Int) < l.length := by omega
      have hvk := HV.out l[k] (List.getElem_mem hlt)
      have HFT := Lib.hid (flat_take hlt)
      have HSM := Lib.hid (flat_small HV.out (k + 1))
      have HLV : Hid (∀ g, u3.ownBlock = some g → w.heap.size ≤ g ∧ g < wr.heap.size) := Lib.hid (fun g e => World.ownsRow.lt HO.out g e)
      have HLN : Hid (rs.length = (flat (l.take k)).length) := Lib.hid HRL.out.1
      have HAT := Lib.hid hat
      have HOK := Lib.hid (T.own_ok hvk.own)
      generalize l[k] = y at *
      have HBA := Lib.hid ((Below.refl _ wr).alloc (Nat.le_refl _) (.cells #[.int .i64 y.kind, .string y.item, .int .i64 y.long, .int .i64 y.many, .slice A2 y.kids.length c2, .slice As2 y.shares.length c2'] 25))
      have HOW := Lib.hid (HO.out.below HBA.out)
      by_cases h2 : y.kind = 2
      · have hb2 : (y.kind == 2) = true := by rw [h2]; rfl
        have hkp : 0 < y.kids.length := HOK.out.2.2.1 (by omega)
        obtain ⟨rs', HR', HC'⟩ := hat.kids.rows
        obtain ⟨b3, o3, rfl⟩ : ∃ b o, A2 = some ⟨b, o, none⟩ := by obtain ⟨b, o, _, _, _, _, e, _⟩ := hat.kids.at 0 hkp; exact ⟨b, o, e⟩
        have hrl : rs'.length = y.kids.length := HR'.1
        have HRS := Lib.hid (HR'.fr (R' := RN R wr.heap.size (wr.alloc (.cells #[.int .i64 y.kind, .string y.item, .int .i64 y.long, .int .i64 y.many, .slice (some ⟨b3, o3, none⟩) y.kids.length c2, .slice As2 y.shares.length c2'] 25))) (S := fun _ => False) (Fr.of_below HBA.out) (fun _ _ h => h) (fun b hb => .inl hb))
        have HCS := Lib.hid (HC'.mono HBA.out)
        have HRL' := Lib.hid hrl
        have HFE : Hid (flat (l.take (k + 1)) = flat (l.take k) ++ y.kids) := Lib.hid (by rw [HFT.out, if_pos h2])
        clear HR' HC' h2 hrl hat hvk
        go_wp2_with (at_builtin; (refine wpl_append_all_s (W := (wr.alloc (.cells #[.int .i64 y.kind, .string y.item, .int .i64 y.long, .int .i64 y.many, .slice (some ⟨b3, o3, none⟩) y.kids.length c2, .slice As2 y.shares.length c2'] 25))) w.heap.size rfl _ _ 22 25 (.agg #[.int .i64 0, .string ⟨#[]⟩, .int .i64 0, .int .i64 0, .slice none 0 0, .slice none 0 0]) 6 88 rfl Tryd.underlying22 L.info_loop rfl (by decide) (by decide) Subtype.val (fun y => y.2.1) (fun y => y.2.2) _ rs rs' (by rw [HRL'.out]; exact hkp) HOW.out rfl _ c2 (by rw [HRL'.out]; rfl) HCS.out (by have := HB.out.size; simp; omega) (by have := HSM.out; rw [HFE.out, List.length_append] at this; have := HLN.out; have := HRL'.out; have := HP.out; omega) ?_); intro v1 w1 hO1 hOB1 hG1; have HO1 := Lib.hid hO1; have HOB1 := Lib.hid hOB1; have HG1 := Lib.hid hG1; clear hO1 hOB1 hG1)
        have HPU := Lib.hid (push_all (lo := w.heap.size) HRR.out HB.out.size HLV.out HRL.out HBA.out HRS.out (Below.refl _ _) HG1.out HOB1.out)
        have HBN : Hid (Below w.heap.size w w1) := Lib.hid (HB.out.trans (((Fr.of_below (S := fun b => u3.ownBlock = some b) HBA.out).grown HG1.out (fun g e _ => e)).below HB.out.size (fun g e => (HLV.out g e).1)))
        go_roundw
        case rel => exact ⟨k + 1, rs ++ rs', by go_num, by omega, HO1, Lib.hid (by rw [HFE.out]; exact HPU.out), HBN⟩
        case measure => simp [intOf]; omega
      · have hb2 : (y.kind == 2) = false := by rw [beq_eq_false_iff_ne]; exact h2
        have HFE : Hid (flat (l.take (k + 1)) = flat (l.take k) ++ [y]) := Lib.hid (by rw [HFT.out, if_neg h2])
        have HRS := Lib.hid (RowsL.one c2 c2' ((HAT.out.below HBA.out).weak (R' := RN R wr.heap.size (wr.alloc (.cells #[.int .i64 y.kind, .string y.item, .int .i64 y.long, .int .i64 y.many, .slice A2 y.kids.length c2, .slice As2 y.shares.length c2'] 25))) (fun b hb => .inl hb)))
        clear h2 hat hvk
        go_wp2_with (at_builtin; (refine Copy.wpl_append_s (W := (wr.alloc (.cells #[.int .i64 y.kind, .string y.item, .int .i64 y.long, .int .i64 y.many, .slice A2 y.kids.length c2, .slice As2 y.shares.length c2'] 25))) w.heap.size rfl _ _ 22 25 (.agg #[.int .i64 0, .string ⟨#[]⟩, .int .i64 0, .int .i64 0, .slice none 0 0, .slice none 0 0]) 6 88 rfl Tryd.underlying22 L.info_loop rfl (by decide) (by decide) Subtype.val (fun y => y.2.1) (fun y => y.2.2) _ rs (rowR y A2 As2 c2 c2') _ rfl HOW.out rfl (wr.heap.size + 1) (by simp) rfl (by have := HB.out.size; simp; omega) (by have := HSM.out; rw [HFE.out, List.length_append] at this; have := HLN.out; have := HP.out; have e1 : [y].length = 1 := rfl; omega) ?_); intro v1 w1 hO1 hOB1 hG1; have HO1 := Lib.hid hO1; have HOB1 := Lib.hid hOB1; have HG1 := Lib.hid hG1; clear hO1 hOB1 hG1)
        have HPU := Lib.hid (push_all (lo := w.heap.size) HRR.out HB.out.size HLV.out HRL.out HBA.out HRS.out ((Below.refl _ _).alloc (Nat.le_refl _) _) HG1.out HOB1.out)
        have HBN : Hid (Below w.heap.size w w1) := Lib.hid (HB.out.trans (((Fr.of_below (S := fun b => u3.ownBlock = some b) (HBA.out.trans (((Below.refl _ _).alloc (Nat.le_refl _) _).mono HBA.out.size))).grown HG1.out (fun g e _ => e)).below HB.out.size (fun g e => (HLV.out g e).1)))
        go_roundw
        case rel => exact ⟨k + 1, rs ++ [rowR y A2 As2 c2 c2'], by go_num, by omega, HO1, Lib.hid (by rw [HFE.out]; exact HPU.out), HBN⟩
        case measure => simp [intOf]; omega
    · obtain rfl : k = l.length := by omega
      have hrl := HRL.out
      rw [List.take_length] at hrl
      have hvf := flat_vd HV.out
      obtain ⟨A3, d3, e3, hS3⟩ := own_end (lo' := w.heap.size) HO.out hrl (Nat.le_refl _) (by have := partsL_len (flat l); have := hvf.2.1; have := HP.out; omega)
      subst e3
      have HS3 := Lib.hid hS3
      have HVF := Lib.hid hvf.1
      have HPF : Hid (partsL (flat l) ≤ 200) := Lib.hid (Nat.le_trans hvf.2.1 HP.out)
      have LF : (flat l).length ≤ 200 := Nat.le_trans (partsL_len (flat l)) HPF.out
      have HGA : Hid (gath l = mrg (flat l)) := Lib.hid rfl
      have HGP : Hid ((gath l).length ≤ 200) := Lib.hid (Nat.le_trans (partsL_len _) (Nat.le_trans (gath_vd HV.out).2.1 HP.out))
      have HR2 : Hid (∀ b, RN R w.heap.size wr b → b < wr.heap.size) := Lib.hid (fun b hb => by
        rcases hb with hb | hb
        · have := HRR.out b hb; have := HB.out.size; omega
        · exact hb.2.1)
      clear hrl hvf hS3 hlt hk HO HRL
      generalize flat l = F at *
      generalize hgl : gath l = G at *
      have HGL := Lib.hid hgl
      clear hgl
      generalize hwr : wr = wm at *
      clear hwr
      go_wp2
      go_loopw [6, 7] (fun s6 s7 wr => ∃ (i : Nat) (lo : List Lp) (rs : List (B.Rw 6)), s7 = .int .i64 i ∧ i ≤ F.length ∧ Hid (B.Own wr wm.heap.size 25 6 Subtype.val s6 rs) ∧ Hid (RowsL (RB (RN R w.heap.size wm) wm.heap.size wr s6) wr lo rs) ∧ Hid (lo ++ mrg (F.drop i) = G) ∧ Hid (Below wm.heap.size wm wr)) (fun _ s _ => F.length - (intOf s).toNat)
      case atStart => exact ⟨0, [], [], rfl, by omega, Lib.hid (B.Own.nil _ _ _ _ _), Lib.hid (RowsL.nil _ _), Lib.hid (by rw [List.drop_zero, List.nil_append]; exact HGA.out.symm), Lib.hid (Below.refl _ _)⟩
      case round =>
        obtain ⟨i, lo, rs, rfl, hi, HO, HRL, HG, HB2⟩ := hrel
        generalize hvo : u6 = vo at *
        generalize hwo : wr = wo at *
        clear hvo hwo
        by_cases hlt : i < F.length
        · have HC : Hid (cnt F[i] = cnt F[i]) := Lib.hid rfl
          obtain ⟨b1, o1, A2, As2, c2, c2', rfl, hat, f0, f1, f2, f3, f4, f5⟩ := row_facts HS3.out HB2.out i hlt
          have hk1 : (i : Int) < F.length := by omega
          have hvk := HVF.out F[i] (List.getElem_mem hlt)
          have HDR : Hid (F.drop i = F[i] :: F.drop (i + 1)) := Lib.hid (List.drop_eq_getElem_cons hlt)
          have HLV : Hid (∀ g, vo.ownBlock = some g → wm.heap.size ≤ g ∧ g < wo.heap.size) := Lib.hid (fun g e => World.ownsRow.lt HO.out g e)
          have HLO : Hid (rs.length ≤ 200) := Lib.hid (by have h1 := HRL.out.1; have h2 := congrArg List.length HG.out; rw [List.length_append] at h2; have := HGP.out; omega)
          have HAT := Lib.hid hat
          have HXR := Lib.hid (fun W (hb : Below wo.heap.size wo W) => (⟨B.cell_below hb f0, B.cell_below hb f1, B.cell_below hb f2, B.cell_below hb f3, B.cell_below hb f4, B.cell_below hb f5⟩ : _ ∧ _ ∧ _ ∧ _ ∧ _ ∧ _))
          cases hc : cnt F[i] with
          | none =>
            have cc := counted_none F[i] A2 As2 c2 c2' wo hat hvk hc
            have HCN := Lib.hid hc
            unfold lv at cc
            generalize F[i] = y at *
            clear hc hvk hat HC
            go_wp2_with (first
              | (go_at_call 79; refine cc.mono ?_; rintro e w2 ⟨rfl, hB5⟩; have HB5 := Lib.hid hB5; clear hB5; have HX5 := Lib.hid (fun o => HXR.out (w2.alloc o) (B.below_trans HB5.out ((Below.refl _ _).alloc (Nat.le_refl _) o))); have g0 := fun o => (HX5.out o).1; have g1 := fun o => (HX5.out o).2.1; have g2 := fun o => (HX5.out o).2.2.1; have g3 := fun o => (HX5.out o).2.2.2.1; have g4 := fun o => (HX5.out o).2.2.2.2.1; have g5 := fun o => (HX5.out o).2.2.2.2.2)
              | (at_builtin; (refine Copy.wpl_append_s (W := (w2.alloc (.cells #[.int .i64 0, .string ⟨#[]⟩, .int .i64 0, .int .i64 0, .slice none 0 0, .slice none 0 0] 25))) wm.heap.size rfl _ _ 22 25 (.agg #[.int .i64 0, .string ⟨#[]⟩, .int .i64 0, .int .i64 0, .slice none 0 0, .slice none 0 0]) 6 88 rfl Tryd.underlying22 L.info_loop rfl (by decide) (by decide) Subtype.val (fun y => y.2.1) (fun y => y.2.2) _ rs (rowR y A2 As2 c2 c2') _ rfl (HO.out.below (B.below_trans HB5.out ((Below.refl _ _).alloc (Nat.le_refl _) _))) rfl (w2.heap.size + 1) (by simp) rfl (by have := HB2.out.size; have := HB5.out.size; simp; omega) (by have := HLO.out; omega) ?_); intro v1 w1 hO1 hOB1 hG1; have HO1 := Lib.hid hO1; have HOB1 := Lib.hid hOB1; have HG1 := Lib.hid hG1; clear hO1 hOB1 hG1))
            have HBA := Lib.hid (B.below_trans HB5.out ((Below.refl _ _).alloc (Nat.le_refl _) (.cells #[.int .i64 0, .string ⟨#[]⟩, .int .i64 0, .int .i64 0, .slice none 0 0, .slice none 0 0] 25)))
            have HPU := Lib.hid (push_all (lo := wm.heap.size) HR2.out HB2.out.size HLV.out HRL.out HBA.out (RowsL.one c2 c2' ((HAT.out.below HBA.out).weak (fun b hb => .inl hb))) ((Below.refl _ _).alloc (Nat.le_refl _) _) HG1.out HOB1.out)
            have HBN : Hid (Below wm.heap.size wm w1) := Lib.hid (HB2.out.trans (((Fr.of_below (S := fun b => vo.ownBlock = some b) (B.below_trans HBA.out ((Below.refl _ _).alloc (Nat.le_refl _) _))).grown HG1.out (fun g e _ => e)).below HB2.out.size (fun g e => (HLV.out g e).1)))
            go_roundw
            case rel => exact ⟨i + 1, lo ++ [y], rs ++ [rowR y A2 As2 c2 c2'], by go_num, by omega, HO1, HPU, Lib.hid (by rw [← HG.out, HDR.out, mrg_none _ HCN.out, List.append_assoc]; rfl), HBN⟩
            case measure => simp [intOf]; omega
          | some r =>
            obtain ⟨it, m⟩ := r
            have cc := counted_some' F[i] it m A2 As2 c2 c2' wo hat hvk hc
            have HCN := Lib.hid hc
            obtain ⟨hvi, hik, hm1, hm2, -⟩ := vd_cnt hvk hc
            have HIK := Lib.hid hik
            have HM1 := Lib.hid hm1
            unfold lv at cc
            generalize F[i] = y at *
            clear hc hvk hat HC hvi hik hm1 HXR
            have HIL := Lib.hid hlt
            obtain ⟨G2, hG2⟩ : ∃ G2, grp it (F.drop (i + 1)) m = G2 := ⟨_, rfl⟩
            have HG2 := Lib.hid hG2
            clear hG2
            go_wp2_with (go_at_call 79; refine cc.mono ?_; rintro e w2 ⟨⟨A4, As4, d4, d4', rfl, hit⟩, hB5⟩; have HIT5 := Lib.hid hit; have HB5 := Lib.hid hB5; clear hit hB5)
            have HBC := Lib.hid (B.below_trans HB5.out ((Below.refl _ w2).alloc (Nat.le_refl _) (.cells #[.int .i64 it.kind, .string it.item, .int .i64 it.long, .int .i64 it.many, .slice A4 it.kids.length d4, .slice As4 it.shares.length d4'] 25)))
            have HIT := Lib.hid (HIT5.out.below ((Below.refl _ w2).alloc (Nat.le_refl _) (.cells #[.int .i64 it.kind, .string it.item, .int .i64 it.long, .int .i64 it.many, .slice A4 it.kids.length d4, .slice As4 it.shares.length d4'] 25)))
            have HXI := Lib.hid (fun (W : World) => @L.boxed it A4 As4 d4 d4' w2 W 25)
            have HR3 : Hid (∀ b, RN R w.heap.size wm b → b < (w2.alloc (.cells #[.int .i64 it.kind, .string it.item, .int .i64 it.long, .int .i64 it.many, .slice A4 it.kids.length d4, .slice As4 it.shares.length d4'] 25)).heap.size) := Lib.hid (fun b hb => Nat.lt_of_lt_of_le (HR2.out b hb) (Nat.le_trans HB2.out.size HBC.out.size))
            have HS4 := Lib.hid (fun W (hb : Below (w2.alloc (.cells #[.int .i64 it.kind, .string it.item, .int .i64 it.long, .int .i64 it.many, .slice A4 it.kids.length d4, .slice As4 it.shares.length d4'] 25)).heap.size (w2.alloc (.cells #[.int .i64 it.kind, .string it.item, .int .i64 it.long, .int .i64 it.many, .slice A4 it.kids.length d4, .slice As4 it.shares.length d4'] 25)) W) => row_facts HS3.out (HB2.out.trans ((B.below_trans HBC.out hb).mono HB2.out.size)))
            generalize hbw : w2.heap.size = bi at *
            clear hbw HB5 HIT5
            generalize (w2.alloc (.cells #[.int .i64 it.kind, .string it.item, .int .i64 it.long, .int .i64 it.many, .slice A4 it.kids.length d4, .slice As4 it.shares.length d4'] 25)) = W6 at *
            have HMNF := fun n (hn : n ≤ 1000000) W (hb : Below W6.heap.size W6 W) => many_any it n A4 As4 d4 d4' W (HIT.out.below hb) (fun b hb' => Nat.lt_of_lt_of_le (HR3.out b hb') hb.size) hn
            unfold lv at HMNF
            go_loopw [7, 9] (fun s7 s9 wz => ∃ (j n : Nat), s7 = .int .i64 j ∧ s9 = .int .i64 n ∧ j ≤ F.length ∧ Hid (i + 1 ≤ j) ∧ n ≤ 100 * j ∧ Hid (1 ≤ n) ∧ Hid (grp it (F.drop j) n = G2) ∧ Hid (Below W6.heap.size W6 wz)) (fun s _ _ => F.length - (intOf s).toNat)
            case atStart => exact ⟨i + 1, m, by go_num, rfl, by omega, Lib.hid (Nat.le_refl _), by omega, HM1, HG2, Lib.hid (Below.refl _ _)⟩
            case round =>
              obtain ⟨j, n, rfl, rfl, hj2, HJ1, hn9, HN1, HGR, HBI⟩ := hrel
              have HMN := HMNF n (by omega)
              have HNE := Lib.hid (reps_cons (n := n) HIK.out HN1.out)
              have HNL : Hid ((reps it n).length ≤ 400) := Lib.hid (by
                unfold reps
                rw [List.length_append, List.length_replicate]
                split
                · simp; omega
                · split <;> simp <;> omega)
              clear HMNF
              by_cases hjl : j < F.length
              · obtain ⟨b5, o5, A5, As5, k5, k5', e5, hat5, g0, g1, g2, g3, g4, g5⟩ := HS4.out wr HBI.out j hjl
                cases e5
                have hk2 : (j : Int) < F.length := by omega
                have hvy := HVF.out F[j] (List.getElem_mem hjl)
                have hgr := HGR.out
                rw [List.drop_eq_getElem_cons hjl, grp] at hgr
                cases hcy : cnt F[j] with
                | none =>
                  rw [hcy] at hgr
                  have HEX : Hid (G2 = (n, F.drop j)) := Lib.hid (by rw [← hgr, List.drop_eq_getElem_cons hjl])
                  have cc5 := counted_none F[j] A5 As5 k5 k5' wr hat5 hvy hcy
                  unfold lv at cc5
                  generalize F[j] = z at *
                  clear hgr hvy hcy hat5
                  go_wp2_with (first
                    | (go_at_call 79; refine cc5.mono ?_; rintro e w8 ⟨rfl, hB8⟩; have HB9 := Lib.hid (B.below_trans (B.below_trans HBI.out hB8) ((Below.refl _ w8).alloc (Nat.le_refl _) (.cells #[.int .i64 0, .string ⟨#[]⟩, .int .i64 0, .int .i64 0, .slice none 0 0, .slice none 0 0] 25))); clear hB8; obtain ⟨v0, v1, v2, v3, v4, v5⟩ := HXI.out _ HB9.out)
                    | (go_at_call 80; refine (HMN _ HB9.out).mono ?_; rintro e w7 ⟨⟨A7, d7, rfl, hS7⟩, hB7⟩; have HB7 := Lib.hid (B.below_trans (B.below_trans HBC.out HB9.out) hB7); obtain ⟨rs7, hR7, hC7⟩ := hS7.rows; have hrp : 0 < (reps it n).length := (by obtain ⟨_, _, _, e, _⟩ := HNE.out; rw [e]; simp); obtain ⟨b7, o7, rfl⟩ : ∃ b o, A7 = some ⟨b, o, none⟩ := (by obtain ⟨b, o, _, _, _, _, e, _⟩ := hS7.at 0 hrp; exact ⟨b, o, e⟩); have HRL7 : Hid (rs7.length = (reps it n).length) := Lib.hid hR7.1; have HR7 := Lib.hid (hR7.fr (R' := RN (RN R w.heap.size wm) wo.heap.size w7) (S := fun _ => False) (Fr.refl _ _) (fun _ _ h => h) (fun b hb => hb.elim (fun hb => .inl hb) (fun hb => .inr ⟨by have := HBC.out.size; have := HB9.out.size; omega, hb.2⟩))); have HC7 := Lib.hid hC7; have HRP := Lib.hid hrp; clear hS7 hB7 hR7 hC7 hrp)
                    | (at_builtin; (refine wpl_append_all_s (W := w7) wm.heap.size rfl _ _ 22 25 (.agg #[.int .i64 0, .string ⟨#[]⟩, .int .i64 0, .int .i64 0, .slice none 0 0, .slice none 0 0]) 6 88 rfl Tryd.underlying22 L.info_loop rfl (by decide) (by decide) Subtype.val (fun y => y.2.1) (fun y => y.2.2) _ rs rs7 (by rw [HRL7.out]; exact HRP.out) (HO.out.below HB7.out) rfl _ d7 (by rw [HRL7.out]; rfl) HC7.out (Nat.le_trans HB2.out.size HB7.out.size) (by have := HLO.out; have := HRL7.out; have := HNL.out; omega) ?_); intro v9 w9 hO9 hOB9 hG9; have HO9 := Lib.hid hO9; have HOB9 := Lib.hid hOB9; have HG9 := Lib.hid hG9; clear hO9 hOB9 hG9))
                  have HPU := Lib.hid (push_all (lo := wm.heap.size) HR2.out HB2.out.size HLV.out HRL.out HB7.out HR7.out (Below.refl _ _) HG9.out HOB9.out)
                  have HBN : Hid (Below wm.heap.size wm w9) := Lib.hid (HB2.out.trans (((Fr.of_below (S := fun b => vo.ownBlock = some b) HB7.out).grown HG9.out (fun g e _ => e)).below HB2.out.size (fun g e => (HLV.out g e).1)))
                  go_roundw
                  case rel => exact ⟨j, lo ++ reps it n, rs ++ rs7, rfl, hj2, HO9, HPU, Lib.hid (by rw [← HG.out, HDR.out, mrg_some _ HCN.out, HG2.out, HEX.out, List.append_assoc]), HBN⟩
                  case measure => simp [intOf]; have := HJ1.out; have := HIL.out; omega
                | some ry =>
                  obtain ⟨it2, m2⟩ := ry
                  rw [hcy] at hgr
                  have cc5 := counted_some' F[j] it2 m2 A5 As5 k5 k5' wr hat5 hvy hcy
                  obtain ⟨-, -, hm5, hm6, -⟩ := vd_cnt hvy hcy
                  unfold lv at cc5
                  by_cases he : it2 = it
                  · have hgr2 : grp it (F.drop (j + 1)) (n + m2) = G2 := by rw [← hgr]; simp [he]
                    have HGR2 := Lib.hid hgr2
                    have ceq := fun W A6 As6 d6 d6' (h6 : LR (RN R w.heap.size wm) W it2 A6 As6) (hb : Below W6.heap.size W6 W) => equalP it2 it A6 As6 A4 As4 d6 d6' d4 d4' W h6 (HIT.out.below hb)
                    rw [decide_eq_true he] at ceq
                    unfold lv at ceq
                    generalize F[j] = z at *
                    clear hgr hgr2 hvy hcy hat5 he
                    go_wp2_with (first
                      | (go_at_call 79; refine cc5.mono ?_; rintro e w8 ⟨⟨A6, As6, d6, d6', rfl, hit6⟩, hB8⟩; have HB9 := Lib.hid (fun o => B.below_trans (B.below_trans HBI.out hB8) ((Below.refl _ w8).alloc (Nat.le_refl _) o)); have HIT6 := Lib.hid (fun o => hit6.below ((Below.refl _ w8).alloc (Nat.le_refl _) o)); clear hB8 hit6; have v0 := fun o => (HXI.out _ (HB9.out o)).1; have v1 := fun o => (HXI.out _ (HB9.out o)).2.1; have v2 := fun o => (HXI.out _ (HB9.out o)).2.2.1; have v3 := fun o => (HXI.out _ (HB9.out o)).2.2.2.1; have v4 := fun o => (HXI.out _ (HB9.out o)).2.2.2.2.1; have v5 := fun o => (HXI.out _ (HB9.out o)).2.2.2.2.2)
                      | (go_at_call 58; refine (ceq _ _ _ _ _ (HIT6.out _) (HB9.out _)).mono ?_; rintro e w9 ⟨rfl, hB9⟩; have HBJ := Lib.hid (B.below_trans (HB9.out _) hB9); clear hB9))
                    go_roundw
                    case rel => exact ⟨j + 1, n + m2, by go_num, by go_num, by omega, Lib.hid (by have := HJ1.out; omega), by omega, Lib.hid (by have := HN1.out; omega), HGR2, HBJ⟩
                    case measure => simp [intOf]; omega
                  · have HEX : Hid (G2 = (n, F.drop j)) := Lib.hid (by rw [← hgr, List.drop_eq_getElem_cons hjl]; simp [he])
                    have ceq := fun W A6 As6 d6 d6' (h6 : LR (RN R w.heap.size wm) W it2 A6 As6) (hb : Below W6.heap.size W6 W) => equalP it2 it A6 As6 A4 As4 d6 d6' d4 d4' W h6 (HIT.out.below hb)
                    rw [decide_eq_false he] at ceq
                    unfold lv at ceq
                    generalize F[j] = z at *
                    clear hgr hvy hcy hat5 he
                    go_wp2_with (first
                      | (go_at_call 79; refine cc5.mono ?_; rintro e w8 ⟨⟨A6, As6, d6, d6', rfl, hit6⟩, hB8⟩; have HB8 := Lib.hid (fun o => B.below_trans (B.below_trans HBI.out hB8) ((Below.refl _ w8).alloc (Nat.le_refl _) o)); have HIT6 := Lib.hid (fun o => hit6.below ((Below.refl _ w8).alloc (Nat.le_refl _) o)); clear hB8 hit6; have v0 := fun o => (HXI.out _ (HB8.out o)).1; have v1 := fun o => (HXI.out _ (HB8.out o)).2.1; have v2 := fun o => (HXI.out _ (HB8.out o)).2.2.1; have v3 := fun o => (HXI.out _ (HB8.out o)).2.2.2.1; have v4 := fun o => (HXI.out _ (HB8.out o)).2.2.2.2.1; have v5 := fun o => (HXI.out _ (HB8.out o)).2.2.2.2.2)
                      | (go_at_call 58; refine (ceq _ _ _ _ _ (HIT6.out _) (HB8.out _)).mono ?_; rintro e w9 ⟨rfl, hB9⟩; have HB9 := Lib.hid (B.below_trans (HB8.out _) hB9); clear hB9; obtain ⟨x0, x1, x2, x3, x4, x5⟩ := HXI.out _ HB9.out)
                      | (go_at_call 80; refine (HMN _ HB9.out).mono ?_; rintro e w7 ⟨⟨A7, d7, rfl, hS7⟩, hB7⟩; have HB7 := Lib.hid (B.below_trans (B.below_trans HBC.out HB9.out) hB7); obtain ⟨rs7, hR7, hC7⟩ := hS7.rows; have hrp : 0 < (reps it n).length := (by obtain ⟨_, _, _, e, _⟩ := HNE.out; rw [e]; simp); obtain ⟨b7, o7, rfl⟩ : ∃ b o, A7 = some ⟨b, o, none⟩ := (by obtain ⟨b, o, _, _, _, _, e, _⟩ := hS7.at 0 hrp; exact ⟨b, o, e⟩); have HRL7 : Hid (rs7.length = (reps it n).length) := Lib.hid hR7.1; have HR7 := Lib.hid (hR7.fr (R' := RN (RN R w.heap.size wm) wo.heap.size w7) (S := fun _ => False) (Fr.refl _ _) (fun _ _ h => h) (fun b hb => hb.elim (fun hb => .inl hb) (fun hb => .inr ⟨by have := HBC.out.size; have := HB9.out.size; omega, hb.2⟩))); have HC7 := Lib.hid hC7; have HRP := Lib.hid hrp; clear hS7 hB7 hR7 hC7 hrp)
                      | (at_builtin; (refine wpl_append_all_s (W := w7) wm.heap.size rfl _ _ 22 25 (.agg #[.int .i64 0, .string ⟨#[]⟩, .int .i64 0, .int .i64 0, .slice none 0 0, .slice none 0 0]) 6 88 rfl Tryd.underlying22 L.info_loop rfl (by decide) (by decide) Subtype.val (fun y => y.2.1) (fun y => y.2.2) _ rs rs7 (by rw [HRL7.out]; exact HRP.out) (HO.out.below HB7.out) rfl _ d7 (by rw [HRL7.out]; rfl) HC7.out (Nat.le_trans HB2.out.size HB7.out.size) (by have := HLO.out; have := HRL7.out; have := HNL.out; omega) ?_); intro v9 w9 hO9 hOB9 hG9; have HO9 := Lib.hid hO9; have HOB9 := Lib.hid hOB9; have HG9 := Lib.hid hG9; clear hO9 hOB9 hG9))
                    have HPU := Lib.hid (push_all (lo := wm.heap.size) HR2.out HB2.out.size HLV.out HRL.out HB7.out HR7.out (Below.refl _ _) HG9.out HOB9.out)
                    have HBN : Hid (Below wm.heap.size wm w9) := Lib.hid (HB2.out.trans (((Fr.of_below (S := fun b => vo.ownBlock = some b) HB7.out).grown HG9.out (fun g e _ => e)).below HB2.out.size (fun g e => (HLV.out g e).1)))
                    go_roundw
                    case rel => exact ⟨j, lo ++ reps it n, rs ++ rs7, rfl, hj2, HO9, HPU, Lib.hid (by rw [← HG.out, HDR.out, mrg_some _ HCN.out, HG2.out, HEX.out, List.append_assoc]), HBN⟩
                    case measure => simp [intOf]; have := HJ1.out; have := HIL.out; omega
              · have hjl2 : j = F.length := by omega
                have HEX : Hid (G2 = (n, F.drop j)) := Lib.hid (by rw [← HGR.out, List.drop_eq_nil_of_le (by omega)]; rfl)
                clear hjl2
                have HB9 := HBI
                obtain ⟨v0, v1, v2, v3, v4, v5⟩ := HXI.out _ HB9.out
                go_wp2_with (first
                  | (go_at_call 80; refine (HMN _ HB9.out).mono ?_; rintro e w7 ⟨⟨A7, d7, rfl, hS7⟩, hB7⟩; have HB7 := Lib.hid (B.below_trans (B.below_trans HBC.out HB9.out) hB7); obtain ⟨rs7, hR7, hC7⟩ := hS7.rows; have hrp : 0 < (reps it n).length := (by obtain ⟨_, _, _, e, _⟩ := HNE.out; rw [e]; simp); obtain ⟨b7, o7, rfl⟩ : ∃ b o, A7 = some ⟨b, o, none⟩ := (by obtain ⟨b, o, _, _, _, _, e, _⟩ := hS7.at 0 hrp; exact ⟨b, o, e⟩); have HRL7 : Hid (rs7.length = (reps it n).length) := Lib.hid hR7.1; have HR7 := Lib.hid (hR7.fr (R' := RN (RN R w.heap.size wm) wo.heap.size w7) (S := fun _ => False) (Fr.refl _ _) (fun _ _ h => h) (fun b hb => hb.elim (fun hb => .inl hb) (fun hb => .inr ⟨by have := HBC.out.size; have := HB9.out.size; omega, hb.2⟩))); have HC7 := Lib.hid hC7; have HRP := Lib.hid hrp; clear hS7 hB7 hR7 hC7 hrp)
                  | (at_builtin; (refine wpl_append_all_s (W := w7) wm.heap.size rfl _ _ 22 25 (.agg #[.int .i64 0, .string ⟨#[]⟩, .int .i64 0, .int .i64 0, .slice none 0 0, .slice none 0 0]) 6 88 rfl Tryd.underlying22 L.info_loop rfl (by decide) (by decide) Subtype.val (fun y => y.2.1) (fun y => y.2.2) _ rs rs7 (by rw [HRL7.out]; exact HRP.out) (HO.out.below HB7.out) rfl _ d7 (by rw [HRL7.out]; rfl) HC7.out (Nat.le_trans HB2.out.size HB7.out.size) (by have := HLO.out; have := HRL7.out; have := HNL.out; omega) ?_); intro v9 w9 hO9 hOB9 hG9; have HO9 := Lib.hid hO9; have HOB9 := Lib.hid hOB9; have HG9 := Lib.hid hG9; clear hO9 hOB9 hG9))
                have HPU := Lib.hid (push_all (lo := wm.heap.size) HR2.out HB2.out.size HLV.out HRL.out HB7.out HR7.out (Below.refl _ _) HG9.out HOB9.out)
                have HBN : Hid (Below wm.heap.size wm w9) := Lib.hid (HB2.out.trans (((Fr.of_below (S := fun b => vo.ownBlock = some b) HB7.out).grown HG9.out (fun g e _ => e)).below HB2.out.size (fun g e => (HLV.out g e).1)))
                go_roundw
                case rel => exact ⟨j, lo ++ reps it n, rs ++ rs7, rfl, hj2, HO9, HPU, Lib.hid (by rw [← HG.out, HDR.out, mrg_some _ HCN.out, HG2.out, HEX.out, List.append_assoc]), HBN⟩
                case measure => simp [intOf]; have := HJ1.out; have := HIL.out; omega
        · obtain rfl : i = F.length := by omega
          have hg := HG.out
          rw [List.drop_length, mrg_nil, List.append_nil] at hg
          obtain ⟨A8, d8, e8, hS8⟩ := own_end (lo' := wm.heap.size) HO.out HRL.out (Nat.le_refl _) (by have := HGP.out; rw [hg]; omega)
          subst e8
          have HG8 := Lib.hid hg
          have HS8 := Lib.hid hS8
          clear hg hS8
          go_wp2
          go_ret
          refine ⟨⟨A8, d8, by rw [HGL.out]; first | rfl | (rw [HG8.out]; rfl), ?_⟩, HB.out.trans (HB2.out.mono HB.out.size)⟩
          rw [HGL.out, ← HG8.out]
          refine HS8.out.weak (fun b hb => ?_)
          have h1 := HB.out.size
          have h2 := HB2.out.size
          rcases hb with (hb | hb) | hb
          · exact .inl hb
          · exact .inr ⟨hb.1, by omega, hb.2.2.below HB2.out hb.2.1⟩
          · exact .inr ⟨by omega, hb.2⟩
end Go.Proofs.YtlfobpjefklccaaDoor.H
