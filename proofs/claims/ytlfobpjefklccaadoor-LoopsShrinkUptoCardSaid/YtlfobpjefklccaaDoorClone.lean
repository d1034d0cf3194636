/- A copy of a loop: the program's clone. Printed by wip/gen/clonegen.py. -/
import Derived.Test.YtlfobpjefklccaaDoorLeast
import Derived.Deep.RegionLaw
import Derived.Deep.AppendLies
namespace Go.Proofs.YtlfobpjefklccaaDoor.H
open Go.RowKit
open L (Lp row row1 At AtR lv kdL kid_at rowR)
open F (Fr Cl)

/-- Shares of the call's own, ahead of lo. -/
def Sh (w : World) (lo : Nat) (wr : World) (As : Option Addr) (l : List Int) : Prop := B.Kd.int.C wr As l ∧ (0 < l.length → ∃ b, As = some ⟨b, 0, none⟩ ∧ w.heap.size + 2 ≤ b ∧ b < lo ∧ b < wr.heap.size ∧ UF wr b)
theorem Sh.fr {w wr w2 : World} {lo : Nat} {As : Option Addr} {l : List Int} {S : Nat → Prop} (h : Sh w lo wr As l) (hf : Fr S wr w2) (hs : ∀ b, S b → b < w.heap.size + 2 ∨ lo ≤ b) : Sh w lo w2 As l := by
  refine ⟨L.C_fr (R := fun b => w.heap.size + 2 ≤ b ∧ b < lo) h.1 (fun hp => ?_) hf (fun b hb e => by have := hs b e; omega), fun hp => ?_⟩
  · obtain ⟨b, e, h1, h2, -⟩ := h.2 hp
    exact ⟨b, 0, e, h1, h2⟩
  · obtain ⟨b, e, h1, h2, h3, h4⟩ := h.2 hp
    exact ⟨b, e, h1, h2, Nat.lt_of_lt_of_le h3 hf.size, h4.fr hf h3 (fun e => by have := hs b e; omega)⟩
theorem Sh.own {w wr : World} {lo : Nat} {A : Option Addr} {c : Nat} {xs : List Int} {base : Nat} (h : B.Own wr base 3 1 L.inE (.slice A xs.length c) xs) (hb : w.heap.size + 2 ≤ base) (hlo : wr.heap.size ≤ lo) (hl : xs.length ≤ 1048576) : Sh w lo wr A xs := by
  obtain ⟨A8, c8, e8, hC8⟩ := B.own_int h (by omega)
  cases e8
  refine ⟨hC8, fun hp => ?_⟩
  obtain ⟨g, e, h1, h2⟩ := L.own_blk h hp
  have h3 := (World.ownsRow.lt h g h2).2
  exact ⟨g, e, by omega, by omega, h3, UF.own h h2⟩
set_option maxHeartbeats 8000000 in
set_option maxRecDepth 100000 in
theorem clone_any : ∀ (n : Nat) {R : Nat → Prop} (x : Lp) (A As : Option Addr) (c c' : Nat) (w : World), parts x ≤ n → LR R w x A As → (∀ b, R b → b < w.heap.size) →
    Calls Tryd.prog 21 #[lv x A As c c'] w fun e w' => CrRes R w.heap.size x e w' ∧ Below w.heap.size w w' := by
  intro n
  induction n with
  | zero => intro R x _ _ _ _ _ h; rw [parts_eq] at h; omega
  | succ n ih =>
  intro R x A As c c' w hn h hR
  have HH := Lib.hid h
  have HRR := Lib.hid hR
  have HIH := Lib.hid (fun (R' : Nat → Prop) (k : Lp) (hk : k ∈ x.kids) (A' As' : Option Addr) (d d' : Nat) (W : World) (h' : LR R' W k A' As') (hR' : ∀ b, R' b → b < W.heap.size) => (ih (R := R') k A' As' d d' W (by have := partsL_mem hk; rw [parts_eq] at hn; omega) h' hR').mono fun e w' he => (⟨cr_open he.1, he.2⟩ : _ ∧ _))
  have HCL := Lib.hid (fun (W : World) (hb : Below w.heap.size w W) => cloneLoop (R := R) A c x.kids W (h.kids.below hb) (fun b hb2 => by have := hR b hb2; have := hb.size; omega))
  have HCI := Lib.hid (fun (W : World) (hb : Below w.heap.size w W) => L.cloneInt As c' x.shares W (h.sh.mono hb) h.ok.2.2.2.1)
  have LK : x.kids.length ≤ 1048576 := h.ok.2.2.1
  have LS : x.shares.length ≤ 1048576 := h.ok.2.2.2.1
  clear ih hn h hR
  unfold lv at HIH ⊢
  go_enter Tryd.func21, Tryd.ntmps21
  go_wp2
  have HZ := Lib.hid (@Bz.new w x A As c c')
  generalize (w.alloc (.cells #[.int .i64 x.kind, .string x.item, .int .i64 x.long, .int .i64 x.many, .slice A x.kids.length c, .slice As x.shares.length c'] 25)).alloc (.cells #[.int .i64 0, .string ⟨#[]⟩, .int .i64 0, .int .i64 0, .slice none 0 0, .slice none 0 0] 25) = W0 at *
  have y4 := HZ.out.y 4 _ rfl
  have y5 := HZ.out.y 5 _ rfl
  have HWd := Lib.hid (HZ.out.below (B.below_drew (Below.refl W0.heap.size W0) 1))
  go_region_law (first
    | (go_simp; go_at_call 19; refine (HCI.out (W0.drewN 1) HWd.out.bl).mono ?_; rintro e w5 ⟨A5, c5, rfl, hO5, hB5⟩; have HO5 := Lib.hid hO5; have HZ5 := Lib.hid (HWd.out.below hB5); clear hO5 hB5; have u4 := HZ5.out.y 4 _ rfl)
    | (go_simp; go_at_call 35; refine (HCL.out _ HZ5.out.bl).mono ?_; rintro e w6 ⟨⟨A3, c3, rfl, hK⟩, hB6⟩; have HK6 := Lib.hid hK; have HZ6 := Lib.hid (HZ5.out.below hB6); have HB6 := Lib.hid hB6; clear hK hB6; have v4 := HZ6.out.y 4 _ rfl; have v5 := HZ6.out.y 5 _ rfl; have vz := HZ6.out.yz))
  all_goals
    have hlo : w.heap.size + 2 ≤ w5.heap.size := HZ5.out.sz
    have HZ7 := Lib.hid ((HZ6.out.set5 A5 c5).set4 A3 c3)
    have HK7 := Lib.hid ((HK6.out.set (b := w.heap.size) (i := 5) (by omega) (fun q hq => by have := HRR.out q hq; omega) (.slice A5 x.shares.length c5)).set (b := w.heap.size) (i := 4) (by omega) (fun q hq => by have := HRR.out q hq; omega) (.slice A3 x.kids.length c3))
    have HS7 : Hid (Sh w w5.heap.size ((w6.setCell ⟨w.heap.size, 5, none⟩ (.slice A5 x.shares.length c5)).setCell ⟨w.heap.size, 4, none⟩ (.slice A3 x.kids.length c3)) A5 x.shares) := Lib.hid (by
      have h1 : Sh w w5.heap.size w5 A5 x.shares := Sh.own HO5.out (by have := HWd.out.sz; omega) (Nat.le_refl _) LS
      have h2 := h1.fr (S := fun _ => False) (Fr.of_below HB6.out) (fun _ h => h.elim)
      have f1 : Fr (fun b => b = w.heap.size) w6 (w6.setCell ⟨w.heap.size, 5, none⟩ (.slice A5 x.shares.length c5)) := (Fr.refl (fun b => b = w.heap.size) w6).set (p := ⟨w.heap.size, 5, none⟩) (fun _ => rfl) _
      have f2 := f1.set (p := ⟨w.heap.size, 4, none⟩) (fun _ => rfl) (.slice A3 x.kids.length c3)
      have h3 : Sh w w5.heap.size w6 A5 x.shares := h2
      obtain ⟨q1, q2⟩ := h3
      refine ⟨L.C_fr (R := fun b => w.heap.size + 2 ≤ b) q1 (fun hp => ?_) f2 (fun b hb e => by omega), fun hp => ?_⟩
      · obtain ⟨b, e, h1, h2⟩ := L.own_blk HO5.out hp
        exact ⟨b, 0, e, Nat.le_trans HWd.out.sz h1⟩
      · obtain ⟨b, e, h4, h5, h6, h7⟩ := q2 hp
        obtain ⟨b', e', h8, -⟩ := L.own_blk HO5.out hp
        rw [e] at e'
        cases e'
        exact ⟨b, e, h4, h5, Nat.lt_of_lt_of_le h6 f2.size, h7.fr f2 h6 (by have := HWd.out.sz; omega)⟩)
    have HLO := Lib.hid hlo
    generalize w5.heap.size = lo at *
    clear hlo u4 v4 v5 vz y4 y5 HK6 HZ6 HB6 HZ5 HO5 HWd HZ
    generalize (w6.setCell ⟨w.heap.size, 5, none⟩ (.slice A5 x.shares.length c5)).setCell ⟨w.heap.size, 4, none⟩ (.slice A3 x.kids.length c3) = W7 at *
    have w4 := HZ7.out.y 4 _ rfl
    go_simp
    go_wp2
    go_loopw [16] (fun s14 wr => ∃ i : Nat, s14 = .int .i64 i ∧ i ≤ x.kids.length ∧ Hid (Bz w wr x A3 A5 c3 c5) ∧ Hid (Kp R lo wr A3 c3 x.kids) ∧ Hid (Sh w lo wr A5 x.shares)) (fun s _ => x.kids.length - (intOf s).toNat)
    case atStart => exact ⟨0, rfl, by omega, HZ7, HK7, HS7⟩
    case round =>
      obtain ⟨i, rfl, hi, HZ1, HK1, HS1⟩ := hrel
      by_cases hlt : i < x.kids.length
      · obtain ⟨g, rfl, hg1, hg2, huf⟩ := HK1.out.blk (by omega)
        obtain ⟨A', As', d, d', hc, hat⟩ := HK1.out.at i hlt
        have HST : Hid (x.kids.set i x.kids[i] = x.kids) := Lib.hid (List.set_getElem_self hlt)
        have HG := Lib.hid (And.intro hg1 hg2)
        have HUF := Lib.hid huf
        have HC := Lib.hid hc
        have f0 := hc 0 _ rfl
        have f1 := hc 1 _ rfl
        have f2 := hc 2 _ rfl
        have f3 := hc 3 _ rfl
        have f4 := hc 4 _ rfl
        have f5 := hc 5 _ rfl
        simp only [Nat.add_zero] at f0
        have hk1 : (i : Int) < x.kids.length := by omega
        have y4 := HZ1.out.y 4 _ rfl
        have HCC := Lib.hid (fun (W : World) (hb : Below wr.heap.size wr W) => HIH.out (RB R lo wr (.slice (some ⟨g, 0, none⟩) x.kids.length c3)) x.kids[i] (List.getElem_mem hlt) A' As' d d' W (hat.below hb) (fun b hb2 => by
          have := hb.size
          have := HZ1.out.bl.size
          rcases hb2 with h | h
          · have := HRR.out b h; omega
          · omega))
        generalize x.kids[i] = k at *
        have HB1 := Lib.hid ((Below.refl wr.heap.size wr).alloc (Nat.le_refl _) (.cells #[.int .i64 k.kind, .string k.item, .int .i64 k.long, .int .i64 k.many, .slice A' k.kids.length d, .slice As' k.shares.length d'] 25))
        have HBD := Lib.hid (B.below_drew HB1.out 1)
        have HBE := Lib.hid (B.below_drew (Below.refl (wr.alloc (.cells #[.int .i64 k.kind, .string k.item, .int .i64 k.long, .int .i64 k.many, .slice A' k.kids.length d, .slice As' k.shares.length d'] 25)).heap.size (wr.alloc (.cells #[.int .i64 k.kind, .string k.item, .int .i64 k.long, .int .i64 k.many, .slice A' k.kids.length d, .slice As' k.shares.length d'] 25))) 1)
        have t4 := B.cell_below HB1.out y4
        have t4d := B.cell_below HBD.out y4
        have HT := Lib.hid (fun (W : World) => @L.boxed k A' As' d d' wr W 25)
        clear hc hat hg1 hg2 huf
        go_wp2
        go_region_law (first
          | (go_simp; go_at_call 21; refine (HCC.out _ HBD.out).mono ?_; rintro e w2 ⟨⟨A9, As9, d9, d9', rfl, hL9⟩, hB9⟩; have HB9 := Lib.hid hB9; have HL9 := Lib.hid hL9; have n4 := B.cell_below hB9 t4d; have HN := Lib.hid (HT.out w2 (B.below_trans HBE.out hB9)); obtain ⟨n0, n1, n2, n3, n5, n6⟩ := HN.out; have HB2 := Lib.hid (B.below_trans HBD.out hB9); have r0 := B.cell_below HB2.out (HC.out 0 _ rfl); have r1 := B.cell_below HB2.out (HC.out 1 _ rfl); have r2 := B.cell_below HB2.out (HC.out 2 _ rfl); have r3 := B.cell_below HB2.out (HC.out 3 _ rfl); have r4 := B.cell_below HB2.out (HC.out 4 _ rfl); have r5 := B.cell_below HB2.out (HC.out 5 _ rfl); simp only [Nat.add_zero] at r0; have hfz : ∀ q, w2.frozen? ⟨g, q, none⟩ = false := HUF.out.below HB2.out HG.out.2; clear hB9 hL9))
        all_goals
          have HKP := Lib.hid (HK1.out.put (fun b hb => by have := HRR.out b hb; have := HLO.out; omega) HB2.out d9 d9' HBD.out.size HL9.out i hlt)
          rw [HST.out] at HKP
          have HZ9 := Lib.hid ((HZ1.out.below HB2.out).fr (put_fr w2 g i k A9 As9 d9 d9') (fun b hb => by rw [hb]; have := HG.out.1; have := HLO.out; omega))
          have HS9 := Lib.hid ((HS1.out.fr (S := fun _ => False) (Fr.of_below HB2.out) (fun _ h => h.elim)).fr (put_fr w2 g i k A9 As9 d9 d9') (fun b hb => by rw [hb]; exact .inr HG.out.1))
          unfold put6 at HKP HZ9 HS9
          generalize ((((((w2.setCell ⟨g, i * 6, none⟩ (.int .i64 k.kind)).setCell ⟨g, i * 6 + 1, none⟩ (.string k.item)).setCell ⟨g, i * 6 + 2, none⟩ (.int .i64 k.long)).setCell ⟨g, i * 6 + 3, none⟩ (.int .i64 k.many)).setCell ⟨g, i * 6 + 4, none⟩ (.slice A9 k.kids.length d9)).setCell ⟨g, i * 6 + 5, none⟩ (.slice As9 k.shares.length d9')) = W9 at *
          clear n0 n1 n2 n3 n4 n5 n6 r0 r1 r2 r3 r4 r5 hfz f0 f1 f2 f3 f4 f5 t4 t4d y4
          go_wp2
          go_roundw
          case rel => exact ⟨i + 1, by go_num, by omega, HZ9, HKP, HS9⟩
          case measure => simp [intOf]; omega
      · obtain rfl : i = x.kids.length := by omega
        have hsr := HK1.out.end (lo' := w.heap.size + 2) HLO.out LK
        have HLY : Hid (LR (RN R (w.heap.size + 2) wr) wr x A3 A5) := Lib.hid (LR.mk HH.out.ok HS1.out.1 (fun hp => by obtain ⟨b1, e1, h1, -, h2, h3⟩ := HS1.out.2 hp; exact ⟨b1, 0, e1, .inr ⟨h1, h2, h3⟩⟩) (hsr.weak (fun b hb => hb.elim .inl fun h => .inr ⟨by omega, h.2⟩)))
        have by0 := HZ1.out.y 0 _ rfl
        have by1 := HZ1.out.y 1 _ rfl
        have by2 := HZ1.out.y 2 _ rfl
        have by3 := HZ1.out.y 3 _ rfl
        have by4 := HZ1.out.y 4 _ rfl
        have by5 := HZ1.out.y 5 _ rfl
        have bq0 := HZ1.out.q 0 _ rfl
        have bq1 := HZ1.out.q 1 _ rfl
        have bq2 := HZ1.out.q 2 _ rfl
        have bq3 := HZ1.out.q 3 _ rfl
        have bq4 := HZ1.out.q 4 _ rfl
        have bq5 := HZ1.out.q 5 _ rfl
        have bqz := HZ1.out.qz
        go_wp2
        go_simp
        have hrow : ((((((wr.setCell ⟨w.heap.size + 1, 0, none⟩ (.int .i64 x.kind)).setCell ⟨w.heap.size + 1, 1, none⟩ (.string x.item)).setCell ⟨w.heap.size + 1, 2, none⟩ (.int .i64 x.long)).setCell ⟨w.heap.size + 1, 3, none⟩ (.int .i64 x.many)).setCell ⟨w.heap.size + 1, 4, none⟩ (.slice A3 x.kids.length c3)).setCell ⟨w.heap.size + 1, 5, none⟩ (.slice A5 x.shares.length c5)).heap[w.heap.size + 1]? = some (.cells #[.int .i64 x.kind, .string x.item, .int .i64 x.long, .int .i64 x.many, .slice A3 x.kids.length c3, .slice A5 x.shares.length c5] 25 (0, 0)) := L.set6 (a := .int .i64 0) (b := .string ⟨#[]⟩) (c := .int .i64 0) (d := .int .i64 0) (e := .slice none 0 0) (f := .slice none 0 0) HZ1.out.rw
        have hbd : Below w.heap.size w ((((((wr.setCell ⟨w.heap.size + 1, 0, none⟩ (.int .i64 x.kind)).setCell ⟨w.heap.size + 1, 1, none⟩ (.string x.item)).setCell ⟨w.heap.size + 1, 2, none⟩ (.int .i64 x.long)).setCell ⟨w.heap.size + 1, 3, none⟩ (.int .i64 x.many)).setCell ⟨w.heap.size + 1, 4, none⟩ (.slice A3 x.kids.length c3)).setCell ⟨w.heap.size + 1, 5, none⟩ (.slice A5 x.shares.length c5)) := below6 HZ1.out.bl (by omega) _ _ _ _ _ _
        have hff : Fr (fun b => b = w.heap.size + 1) wr ((((((wr.setCell ⟨w.heap.size + 1, 0, none⟩ (.int .i64 x.kind)).setCell ⟨w.heap.size + 1, 1, none⟩ (.string x.item)).setCell ⟨w.heap.size + 1, 2, none⟩ (.int .i64 x.long)).setCell ⟨w.heap.size + 1, 3, none⟩ (.int .i64 x.many)).setCell ⟨w.heap.size + 1, 4, none⟩ (.slice A3 x.kids.length c3)).setCell ⟨w.heap.size + 1, 5, none⟩ (.slice A5 x.shares.length c5)) := fr6 _ _ _ _ _ _ _ _
        generalize ((((((wr.setCell ⟨w.heap.size + 1, 0, none⟩ (.int .i64 x.kind)).setCell ⟨w.heap.size + 1, 1, none⟩ (.string x.item)).setCell ⟨w.heap.size + 1, 2, none⟩ (.int .i64 x.long)).setCell ⟨w.heap.size + 1, 3, none⟩ (.int .i64 x.many)).setCell ⟨w.heap.size + 1, 4, none⟩ (.slice A3 x.kids.length c3)).setCell ⟨w.heap.size + 1, 5, none⟩ (.slice A5 x.shares.length c5)) = WF at hrow hbd hff ⊢
        refine bodyPost_ret (results_cell1_row rfl _ _ (w.heap.size + 1) 25 #[.int .i64 x.kind, .string x.item, .int .i64 x.long, .int .i64 x.many, .slice A3 x.kids.length c3, .slice A5 x.shares.length c5] (0, 0) _ rfl hrow Tryd.underlying25 rfl (by kernel_rfl)) rfl ?_
        refine ⟨⟨A3, A5, c3, c5, rfl, HLY.out.fr hff (fun b hb e => ?_) (fun b hb => rn_fr hff (by omega) (fun b hb e => by omega) b hb)⟩, hbd⟩
        rcases hb with hb | hb
        · have := HRR.out b hb; omega
        · omega
end Go.Proofs.YtlfobpjefklccaaDoor.H
