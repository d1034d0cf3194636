/- Rows of loops that grow; the program's many. -/
import Derived.Test.YtlfobpjefklccaaDoorCounted
namespace Go.Proofs.YtlfobpjefklccaaDoor.H
open Go.RowKit
open L (Lp row row1 At AtR lv kdL kid_at rowR)
open F (Fr Cl)

/-- A block that can be written. -/
def UF (w : World) (b : Nat) : Prop := ∀ i, w.frozen? ⟨b, i, none⟩ = false
theorem UF.fr {S : Nat → Prop} {w w' : World} {b : Nat} (h : UF w b) (hf : Fr S w w') (hl : b < w.heap.size) (hs : ¬ S b) : UF w' b := fun i => (hf.frozen (a := ⟨b, i, none⟩) hl hs).trans (h i)
theorem UF.below {lo : Nat} {w w' : World} {b : Nat} (h : UF w b) (hf : Below lo w w') (hl : b < lo) : UF w' b := fun i => (World.frozen?_of_block (hf.block b hl)).trans (h i)
theorem UF.new (w : World) (cs : Array Value) (e : TypeId) : UF (w.alloc (.cells cs e)) w.heap.size := fun i => by simp only [World.frozen?, heap_alloc_new]; simp
theorem UF.of {w : World} {b : Nat} {cs : Array Value} {e : TypeId} (h : w.heap[b]? = some (.cells cs e (0, 0))) : UF w b := fun i => by simp only [World.frozen?, h]; simp
theorem UF.own {w : World} {base : Nat} {e : TypeId} {k n : Nat} {v : Value} {xs : List Value} (h : w.ownsRow base e k v n xs) {g : Nat} (hg : v.ownBlock = some g) : UF w g := by
  rcases h.2 with ⟨rfl, -⟩ | ⟨g', cap, cur, rfl, -, hb, -⟩
  · cases hg
  · cases hg
    exact .of hb
/-- Old blocks, and new ones but the row's own. -/
def RB (R : Nat → Prop) (lo : Nat) (wr : World) (v : Value) (b : Nat) : Prop := R b ∨ (lo ≤ b ∧ b < wr.heap.size ∧ v.ownBlock ≠ some b ∧ UF wr b)
def RN (R : Nat → Prop) (lo : Nat) (wr : World) (b : Nat) : Prop := R b ∨ (lo ≤ b ∧ b < wr.heap.size ∧ UF wr b)
theorem push_all {R : Nat → Prop} {lo : Nat} {wr W W' w1 : World} {v v1 : Value} {l ys : List Lp} {rs rs' : List (B.Rw 6)} (hR : ∀ b, R b → b < lo) (hlo : lo ≤ wr.heap.size) (HV : ∀ g, v.ownBlock = some g → lo ≤ g ∧ g < wr.heap.size) (HR : RowsL (RB R lo wr v) wr l rs) (hB : Below wr.heap.size wr W)
    (hy : RowsL (RN R wr.heap.size W) W ys rs') (hW : Below W.heap.size W W') (HG : W'.grownBy w1 v.ownBlock) (HOB : v1.ownBlock = v.ownBlock ∨ ∀ g, v1.ownBlock = some g → W.heap.size ≤ g) : RowsL (RB R lo w1 v1) w1 (l ++ ys) (rs ++ rs') := by
  have hs1 := hB.size
  have hs2 := hW.size
  have hs3 := HG.size
  have hF : Fr (fun b => v.ownBlock = some b) W w1 := (Fr.of_below hW).grown HG (fun g e _ => e)
  refine RowsL.app (HR.fr ((Fr.of_below (S := fun b => v.ownBlock = some b) hB).trans hF (fun _ _ h => h)) (fun b hb e => ?_) (fun b hb => ?_)) (hy.fr hF (fun b hb e => ?_) (fun b hb => ?_))
  · rcases hb with hb | hb
    · have := hR b hb; have := (HV b e).1; omega
    · exact hb.2.2.1 e
  · rcases hb with hb | hb
    · exact .inl hb
    · refine .inr ⟨hb.1, by omega, fun e => ?_, hb.2.2.2.fr ((Fr.of_below (S := fun b => v.ownBlock = some b) hB).trans hF (fun _ _ h => h)) hb.2.1 hb.2.2.1⟩
      rcases HOB with h | h
      · exact hb.2.2.1 (h ▸ e)
      · have := h b e; omega
  · rcases hb with hb | hb
    · have := hR b hb; have := (HV b e).1; omega
    · have := (HV b e).2; omega
  · rcases hb with hb | hb
    · exact .inl hb
    · refine .inr ⟨by omega, by omega, fun e => ?_, hb.2.2.fr hF hb.2.1 (fun e => by have := (HV b e).2; omega)⟩
      rcases HOB with h | h
      · have := (HV b (h ▸ e)).2; omega
      · have := h b e; omega
theorem rp_ok {it : Lp} {m : Int} (h1 : 0 ≤ m) (h2 : m ≤ 100) : (rp it m).ok := ⟨⟨by unfold O.okI; simp [rp, Lp.kind], by unfold O.okI; simp [rp, Lp.long], by unfold O.okI; simp [rp, Lp.many]; omega⟩, by simp [rp, Lp.item, ByteArray.size], by simp [rp, Lp.kids], by simp [rp, Lp.shares], fun n hn => by simp [rp, Lp.shares] at hn⟩
/-- A repeat of an item, just made. -/
theorem lr_rp {R : Nat → Prop} {wr : World} {it : Lp} {A As : Option Addr} {c c' : Nat} {m : Int} (h : LR R wr it A As) (h1 : 0 ≤ m) (h2 : m ≤ 100) (e : TypeId) :
    LR (RN R wr.heap.size (wr.alloc (.cells #[.int .i64 it.kind, .string it.item, .int .i64 it.long, .int .i64 it.many, .slice A it.kids.length c, .slice As it.shares.length c'] e))) (wr.alloc (.cells #[.int .i64 it.kind, .string it.item, .int .i64 it.long, .int .i64 it.many, .slice A it.kids.length c, .slice As it.shares.length c'] e)) (rp it m) (some ⟨wr.heap.size, 0, none⟩) none := by
  refine LR.mk (rp_ok h1 h2) (B.Kd.C_nil _ _ _) (fun h => absurd h (by simp [rp, Lp.shares])) ⟨by simp [rp, Lp.kids], fun _ => ⟨wr.heap.size, 0, rfl, .inr ⟨Nat.le_refl _, by simp, UF.new _ _ _⟩, fun j hj => ?_⟩⟩
  have hj0 : j = 0 := by have : j < 1 := hj; omega
  subst hj0
  refine ⟨A, As, c, c', fun i u hu => ?_, (h.below ((Below.refl _ wr).alloc (Nat.le_refl _) _)).weak (fun b hb => .inl hb)⟩
  have hu' : (row it A As c c')[i]? = some u := hu
  have hi : i < 6 := (List.getElem?_eq_some_iff.1 hu').1
  rw [World.cell?_alloc_new]
  rcases (by omega : i = 0 ∨ i = 1 ∨ i = 2 ∨ i = 3 ∨ i = 4 ∨ i = 5) with rfl | rfl | rfl | rfl | rfl | rfl <;> exact hu'
theorem reps_eq (it : Lp) (k r : Nat) (h : r < 100) : reps it (r + 100 * k) = List.replicate k (rp it 100) ++ (if r = 0 then [] else if r = 1 then [it] else [rp it (r : Nat)]) := by
  unfold reps
  rw [show (r + 100 * k) / 100 = k by omega, show (r + 100 * k) % 100 = r by omega]
theorem own_end {R : Nat → Prop} {lo lo' : Nat} {w1 : World} {v : Value} {l : List Lp} {rs : List (B.Rw 6)} (ho : B.Own w1 lo 25 6 Subtype.val v rs) (h : RowsL (RB R lo w1 v) w1 l rs) (hlo : lo' ≤ lo) (hl : l.length ≤ 1048576) : ∃ A d, v = .slice A l.length d ∧ SR (RN R lo' w1) w1 A l := by
  obtain ⟨A, d, e⟩ := Copy.shape ho
  subst e
  rw [h.1] at ho ⊢
  refine ⟨A, d, rfl, rows_SR (ho) (h.fr (S := fun _ => False) (Fr.refl _ w1) (fun _ _ h => h) (fun b hb => ?_)) (fun g e => ?_) hl⟩
  · rcases hb with hb | hb
    · exact .inl hb
    · exact .inr ⟨Nat.le_trans hlo hb.1, hb.2.1, hb.2.2.2⟩
  · have := World.ownsRow.lt ho g e
    exact .inr ⟨Nat.le_trans hlo this.1, this.2, UF.own ho e⟩
theorem rowsL_one {R : Nat → Prop} {w : World} {x : Lp} {A As : Option Addr} (c c' : Nat) (h : LR R w x A As) : RowsL R w [x] [rowR x A As c c'] := RowsL.one c c' h
/-- A row of loops, in old blocks and new ones. -/
def SlRes (R : Nat → Prop) (lo : Nat) (l : List Lp) (e : Ending) (w' : World) : Prop := ∃ A d, e = .returned (.slice A l.length d) ∧ SR (RN R lo w') w' A l
set_option maxHeartbeats 8000000 in
set_option maxRecDepth 100000 in
theorem many_any {R : Nat → Prop} (it : Lp) (N : Nat) (A As : Option Addr) (c c' : Nat) (w : World) (h : LR R w it A As) (hR : ∀ b, R b → b < w.heap.size) (hN : N ≤ 1000000) :
    Calls Tryd.prog 80 #[lv it A As c c', .int .i64 N] w fun e w' => SlRes R w.heap.size (reps it N) e w' ∧ Below w.heap.size w w' := by
  have HH := Lib.hid h
  have HRR := Lib.hid hR
  have HBX := Lib.hid ((Below.refl _ w).alloc (Nat.le_refl _) (.cells #[.int .i64 it.kind, .string it.item, .int .i64 it.long, .int .i64 it.many, .slice A it.kids.length c, .slice As it.shares.length c'] 25))
  have HXC := Lib.hid (fun (W : World) => @L.boxed it A As c c' w W 25)
  have HSZ : Hid ((w.alloc (.cells #[.int .i64 it.kind, .string it.item, .int .i64 it.long, .int .i64 it.many, .slice A it.kids.length c, .slice As it.shares.length c'] 25)).heap.size = w.heap.size + 1) := Lib.hid (by simp)
  clear h hR
  unfold lv
  go_enter Tryd.func80, Tryd.ntmps80
  go_wp2
  generalize w.alloc (.cells #[.int .i64 it.kind, .string it.item, .int .i64 it.long, .int .i64 it.many, .slice A it.kids.length c, .slice As it.shares.length c'] 25) = W1 at *
  go_loopw [1, 5] (fun s1 s5 wr => ∃ (k r : Nat) (rs : List (B.Rw 6)), s1 = .int .i64 r ∧ Hid (r + 100 * k = N) ∧ r ≤ 1000000 ∧ Hid (B.Own wr (w.heap.size + 1) 25 6 Subtype.val s5 rs) ∧ Hid (RowsL (RB R (w.heap.size + 1) wr s5) wr (List.replicate k (rp it 100)) rs) ∧ Hid (Below W1.heap.size W1 wr)) (fun s _ _ => (intOf s).toNat)
  case atStart => exact ⟨0, N, [], rfl, Lib.hid (by omega), hN, Lib.hid (B.Own.nil _ _ _ _ _), Lib.hid (RowsL.nil _ _), Lib.hid (Below.refl _ _)⟩
  case round =>
    obtain ⟨k, r, rs, rfl, HK, hr, HO, HRL, HB⟩ := hrel
    obtain ⟨y0, y1, y2, y3, y4, y5⟩ := HXC.out wr HB.out
    have HLV : Hid (∀ g, u5.ownBlock = some g → w.heap.size + 1 ≤ g ∧ g < wr.heap.size) := Lib.hid (fun g e => World.ownsRow.lt HO.out g e)
    have HSW : Hid (w.heap.size + 1 ≤ wr.heap.size) := Lib.hid (by have := HB.out.size; have := HSZ.out; omega)
    have HLR : Hid (LR R wr it A As) := Lib.hid ((HH.out.below HBX.out).below HB.out)
    have HR1 : Hid (∀ b, R b → b < w.heap.size + 1) := Lib.hid (fun b hb => by have := HRR.out b hb; omega)
    by_cases hge : 100 ≤ r
    · have hg1 : (100 : Int) ≤ r := by omega
      obtain ⟨q, hqr⟩ : ∃ q, r = q + 100 := ⟨r - 100, by omega⟩
      have HQR := Lib.hid hqr
      have HLN : Hid (rs.length = k ∧ k ≤ 10000) := Lib.hid (by have := HRL.out.1; have := HK.out; rw [List.length_replicate] at *; omega)
      have HBA := Lib.hid ((Below.refl _ wr).alloc (Nat.le_refl _) (.cells #[.int .i64 it.kind, .string it.item, .int .i64 it.long, .int .i64 it.many, .slice A it.kids.length c, .slice As it.shares.length c'] 25))
      have HOW := Lib.hid (HO.out.below HBA.out)
      have hq : (r : Int) - 100 = q := by omega
      clear hqr
      go_wp2_with (at_builtin; (refine Copy.wpl_append_s (W := (wr.alloc (.cells #[.int .i64 it.kind, .string it.item, .int .i64 it.long, .int .i64 it.many, .slice A it.kids.length c, .slice As it.shares.length c'] 25))) (w.heap.size + 1) rfl _ _ 22 25 (.agg #[.int .i64 0, .string ⟨#[]⟩, .int .i64 0, .int .i64 0, .slice none 0 0, .slice none 0 0]) 6 88 rfl Tryd.underlying22 L.info_loop rfl (by decide) (by decide) Subtype.val (fun y => y.2.1) (fun y => y.2.2) _ rs (rowR (rp it 100) (some ⟨wr.heap.size, 0, none⟩) none 1 0) _ rfl HOW.out rfl (wr.heap.size + 1) (by simp) rfl (by have := HSW.out; simp; omega) (by have := HLN.out; omega) ?_); intro v1 w1 hO1 hOB1 hG1; have HO1 := Lib.hid hO1; have HOB1 := Lib.hid hOB1; have HG1 := Lib.hid hG1; clear hO1 hOB1 hG1)
      have HPU := Lib.hid (push_all (lo := w.heap.size + 1) HR1.out HSW.out HLV.out HRL.out HBA.out (RowsL.one 1 0 (lr_rp (m := 100) HLR.out (by omega) (by omega) 25)) ((Below.refl _ _).alloc (Nat.le_refl _) _) HG1.out HOB1.out)
      have HBN : Hid (Below W1.heap.size W1 w1) := Lib.hid (HB.out.trans (((Fr.of_below (S := fun b => u5.ownBlock = some b) (HBA.out.trans (((Below.refl _ _).alloc (Nat.le_refl _) _).mono HBA.out.size))).grown HG1.out (fun g e _ => e)).below HB.out.size (fun g e => by have := (HLV.out g e).1; rw [HSZ.out]; omega)))
      go_roundw
      case rel => exact ⟨k + 1, q, rs ++ [rowR (rp it 100) (some ⟨wr.heap.size, 0, none⟩) none 1 0], rfl, Lib.hid (by have := HK.out; have := HQR.out; omega), by have := HQR.out; omega, HO1, Lib.hid (by rw [List.replicate_succ']; exact HPU.out), HBN⟩
      case measure => simp [intOf]; have := HQR.out; omega
    · have hge2 : ¬ (100 : Int) ≤ r := by omega
      have HLN : Hid (rs.length = k ∧ k ≤ 10000) := Lib.hid (by have := HRL.out.1; have := HK.out; rw [List.length_replicate] at *; omega)
      have hlt : r < 100 := by omega
      have HRE : Hid (reps it N = List.replicate k (rp it 100) ++ (if r = 0 then [] else if r = 1 then [it] else [rp it (r : Nat)])) := Lib.hid (by rw [← HK.out]; exact reps_eq it k r hlt)
      have HBA := Lib.hid ((Below.refl _ wr).alloc (Nat.le_refl _) (.cells #[.int .i64 it.kind, .string it.item, .int .i64 it.long, .int .i64 it.many, .slice A it.kids.length c, .slice As it.shares.length c'] 25))
      by_cases h1 : r = 1
      · have hb1 : ((r : Int) == 1) = true := by subst h1; rfl
        have HE : Hid (reps it N = List.replicate k (rp it 100) ++ [it]) := Lib.hid (by rw [HRE.out, if_neg (by omega), if_pos h1])
        clear h1 hge hlt
        have HOW := Lib.hid (HO.out)
        go_wp2_with (at_builtin; (refine Copy.wpl_append_s (W := wr) (w.heap.size + 1) rfl _ _ 22 25 (.agg #[.int .i64 0, .string ⟨#[]⟩, .int .i64 0, .int .i64 0, .slice none 0 0, .slice none 0 0]) 6 88 rfl Tryd.underlying22 L.info_loop rfl (by decide) (by decide) Subtype.val (fun y => y.2.1) (fun y => y.2.2) _ rs (rowR it A As c c') _ rfl HOW.out rfl _ rfl rfl (by have := HSW.out; simp; try omega) (by have := HLN.out; omega) ?_); intro v1 w1 hO1 hOB1 hG1; have HO1 := Lib.hid hO1; have HOB1 := Lib.hid hOB1; have HG1 := Lib.hid hG1; clear hO1 hOB1 hG1)
        have HPU := Lib.hid (push_all (lo := w.heap.size + 1) HR1.out HSW.out HLV.out HRL.out (Below.refl _ _) (RowsL.one c c' (HLR.out.weak (fun b hb => .inl hb))) ((Below.refl _ _).alloc (Nat.le_refl _) _) HG1.out HOB1.out)
        go_ret
        obtain ⟨A9, d9, e9, hS9⟩ := own_end (lo' := w.heap.size) HO1.out HPU.out (by omega) (by rw [List.length_append, List.length_replicate]; have := HLN.out; simp; omega)
        refine ⟨⟨A9, d9, ?_, ?_⟩, ?_⟩
        · rw [HE.out, ← e9]; rfl
        · rw [HE.out]; exact hS9
        · exact HBX.out.trans (((HB.out.trans (((Fr.of_below (S := fun b => u5.ownBlock = some b) ((Below.refl _ _).alloc (Nat.le_refl _) _)).grown HG1.out (fun g e _ => e)).below HB.out.size (fun g e => by have := (HLV.out g e).1; rw [HSZ.out]; omega)))).mono (by rw [HSZ.out]; omega))
      · have hb1 : ((r : Int) == 1) = false := by rw [beq_eq_false_iff_ne]; omega
        by_cases h0 : r = 0
        · have hb2 : decide ((1 : Int) < r) = false := decide_eq_false (by omega)
          have HE : Hid (reps it N = List.replicate k (rp it 100) ++ []) := Lib.hid (by rw [HRE.out, if_pos h0])
          clear h1 h0 hge hlt
          go_wp2
          go_ret
          obtain ⟨A9, d9, e9, hS9⟩ := own_end (lo' := w.heap.size) HO.out HRL.out (by omega) (by rw [List.length_replicate]; have := HLN.out; omega)
          rw [List.append_nil] at HE
          refine ⟨⟨A9, d9, ?_, ?_⟩, ?_⟩
          · rw [HE.out, ← e9]; rfl
          · rw [HE.out]; exact hS9
          · exact HBX.out.trans (HB.out.mono (by rw [HSZ.out]; omega))
        · have hb2 : decide ((1 : Int) < r) = true := decide_eq_true (by omega)
          have HE : Hid (reps it N = List.replicate k (rp it 100) ++ [rp it (r : Nat)]) := Lib.hid (by rw [HRE.out, if_neg h0, if_neg h1])
          have HRB : Hid (r < 100) := Lib.hid hlt
          clear h1 h0 hge hlt
          have HOW := Lib.hid (HO.out.below HBA.out)
          go_wp2_with (at_builtin; (refine Copy.wpl_append_s (W := (wr.alloc (.cells #[.int .i64 it.kind, .string it.item, .int .i64 it.long, .int .i64 it.many, .slice A it.kids.length c, .slice As it.shares.length c'] 25))) (w.heap.size + 1) rfl _ _ 22 25 (.agg #[.int .i64 0, .string ⟨#[]⟩, .int .i64 0, .int .i64 0, .slice none 0 0, .slice none 0 0]) 6 88 rfl Tryd.underlying22 L.info_loop rfl (by decide) (by decide) Subtype.val (fun y => y.2.1) (fun y => y.2.2) _ rs (rowR (rp it r) (some ⟨wr.heap.size, 0, none⟩) none 1 0) _ rfl HOW.out rfl (wr.heap.size + 1) (by simp) rfl (by have := HSW.out; simp; try omega) (by have := HLN.out; omega) ?_); intro v1 w1 hO1 hOB1 hG1; have HO1 := Lib.hid hO1; have HOB1 := Lib.hid hOB1; have HG1 := Lib.hid hG1; clear hO1 hOB1 hG1)
          have HPU := Lib.hid (push_all (lo := w.heap.size + 1) HR1.out HSW.out HLV.out HRL.out HBA.out (RowsL.one 1 0 (lr_rp (m := (r : Int)) HLR.out (by omega) (by have := HRB.out; omega) 25)) ((Below.refl _ _).alloc (Nat.le_refl _) _) HG1.out HOB1.out)
          go_ret
          obtain ⟨A9, d9, e9, hS9⟩ := own_end (lo' := w.heap.size) HO1.out HPU.out (by omega) (by rw [List.length_append, List.length_replicate]; have := HLN.out; simp; omega)
          refine ⟨⟨A9, d9, ?_, ?_⟩, ?_⟩
          · rw [HE.out, ← e9]; rfl
          · rw [HE.out]; exact hS9
          · exact HBX.out.trans (((HB.out.trans (((Fr.of_below (S := fun b => u5.ownBlock = some b) (HBA.out.trans (((Below.refl _ _).alloc (Nat.le_refl _) _).mono HBA.out.size))).grown HG1.out (fun g e _ => e)).below HB.out.size (fun g e => by have := (HLV.out g e).1; rw [HSZ.out]; omega)))).mono (by rw [HSZ.out]; omega))
end Go.Proofs.YtlfobpjefklccaaDoor.H
