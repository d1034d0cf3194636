/- LoopsShrink answers true. Printed by wip/gen/slawgen.py. -/
import Derived.Test.YtlfobpjefklccaaDoorLoopsShrink
import Derived.RegionTactic
import Derived.Test.YtlfobpjefklccaaDoorChR
import Derived.Test.YtlfobpjefklccaaDoorLpStay

/- The reference's CopyLoop, with the blocks in which the copy lies. -/
namespace Go.Proofs.YtlfobpjefklccaaDoor.H
open Go.RowKit
open L (Lp row row1 At AtR lv kdL kid_at rowR)
open F (Fr Cl)

/-- The old blocks ahead of lo, and the blocks of this call. -/
def Ql (lo : Nat) (w w' : World) (b : Nat) : Prop := b < lo ∨ (w.heap.size ≤ b ∧ b < w'.heap.size)
def CyRes (lo : Nat) (w : World) (x : Lp) (e : Ending) (w' : World) : Prop := ∃ A' As' d d', e = .returned (.agg #[.int .i64 x.kind, .string x.item, .int .i64 x.long, .int .i64 x.many, .slice A' x.kids.length d, .slice As' x.shares.length d']) ∧ LR (Ql lo w w') w' x A' As'
set_option maxHeartbeats 4000000 in
set_option maxRecDepth 100000 in
theorem copyLoopR (n lo : Nat) (x : Lp) (A As : Option Addr) (c c' : Nat) (w : World) (h : At n w x A As) (hL : LR (fun b => b < lo) w x A As) (hlo : lo ≤ w.heap.size) :
    Calls Tryd.prog 4 #[lv x A As c c'] w fun e w' => CyRes lo w x e w' ∧ Below w.heap.size w w' := by
  have cf := Lib.hid (fun W (hb : Below w.heap.size w W) => L.refLoop n x A As c c' W (h.mono hb))
  have cc := Lib.hid (fun W (hb : Below w.heap.size w W) => L.copied n x A As c c' W (h.mono hb))
  have HL := Lib.hid hL
  have HLO := Lib.hid hlo
  clear h hL hlo
  unfold lv at cf cc ⊢
  by_cases hq : L.lf (n + 1) x = 0
  · rw [hq] at cf
    clear hq
    go_enter Tryd.func4, Tryd.ntmps4
    go_wp2_with (first
      | (go_at_call 7; have HZ := Lib.hid (@Bz.new w x A As c c'); refine (cf.out _ HZ.out.bl).mono ?_; rintro e w2 ⟨rfl, hB2⟩; have HZ2 := Lib.hid (HZ.out.below hB2); clear hB2; have y0 := HZ2.out.y 0 _ rfl; have y1 := HZ2.out.y 1 _ rfl; have y2 := HZ2.out.y 2 _ rfl; have y3 := HZ2.out.y 3 _ rfl; have y4 := HZ2.out.y 4 _ rfl; have y5 := HZ2.out.y 5 _ rfl)
      | (go_at_call 8; refine (cc.out w2 HZ2.out.bl).mono ?_; rintro e w3 ⟨A3, As3, c3, c4, rfl, hat, hB3⟩; have HAT := Lib.hid hat; have HZ3 := Lib.hid (HZ2.out.below hB3); clear hat hB3; have q0 := HZ3.out.q 0 _ rfl; have q1 := HZ3.out.q 1 _ rfl; have q2 := HZ3.out.q 2 _ rfl; have q3 := HZ3.out.q 3 _ rfl; have q4 := HZ3.out.q 4 _ rfl; have q5 := HZ3.out.q 5 _ rfl; have qz := HZ3.out.qz))
    go_simp
    have hrow : ((((((w3.setCell ⟨w.heap.size + 1, 0, none⟩ (.int .i64 x.kind)).setCell ⟨w.heap.size + 1, 1, none⟩ (.string x.item)).setCell ⟨w.heap.size + 1, 2, none⟩ (.int .i64 x.long)).setCell ⟨w.heap.size + 1, 3, none⟩ (.int .i64 x.many)).setCell ⟨w.heap.size + 1, 4, none⟩ (.slice A3 x.kids.length c3)).setCell ⟨w.heap.size + 1, 5, none⟩ (.slice As3 x.shares.length c4)).heap[w.heap.size + 1]? = some (.cells #[.int .i64 x.kind, .string x.item, .int .i64 x.long, .int .i64 x.many, .slice A3 x.kids.length c3, .slice As3 x.shares.length c4] 25 (0, 0)) := L.set6 (a := .int .i64 0) (b := .string ⟨#[]⟩) (c := .int .i64 0) (d := .int .i64 0) (e := .slice none 0 0) (f := .slice none 0 0) HZ3.out.rw
    have hbd : Below w.heap.size w ((((((w3.setCell ⟨w.heap.size + 1, 0, none⟩ (.int .i64 x.kind)).setCell ⟨w.heap.size + 1, 1, none⟩ (.string x.item)).setCell ⟨w.heap.size + 1, 2, none⟩ (.int .i64 x.long)).setCell ⟨w.heap.size + 1, 3, none⟩ (.int .i64 x.many)).setCell ⟨w.heap.size + 1, 4, none⟩ (.slice A3 x.kids.length c3)).setCell ⟨w.heap.size + 1, 5, none⟩ (.slice As3 x.shares.length c4)) := below6 HZ3.out.bl (by omega) _ _ _ _ _ _
    have hff : Fr (fun b => b = w.heap.size + 1) w3 ((((((w3.setCell ⟨w.heap.size + 1, 0, none⟩ (.int .i64 x.kind)).setCell ⟨w.heap.size + 1, 1, none⟩ (.string x.item)).setCell ⟨w.heap.size + 1, 2, none⟩ (.int .i64 x.long)).setCell ⟨w.heap.size + 1, 3, none⟩ (.int .i64 x.many)).setCell ⟨w.heap.size + 1, 4, none⟩ (.slice A3 x.kids.length c3)).setCell ⟨w.heap.size + 1, 5, none⟩ (.slice As3 x.shares.length c4)) := fr6 _ _ _ _ _ _ _ _
    generalize ((((((w3.setCell ⟨w.heap.size + 1, 0, none⟩ (.int .i64 x.kind)).setCell ⟨w.heap.size + 1, 1, none⟩ (.string x.item)).setCell ⟨w.heap.size + 1, 2, none⟩ (.int .i64 x.long)).setCell ⟨w.heap.size + 1, 3, none⟩ (.int .i64 x.many)).setCell ⟨w.heap.size + 1, 4, none⟩ (.slice A3 x.kids.length c3)).setCell ⟨w.heap.size + 1, 5, none⟩ (.slice As3 x.shares.length c4)) = WF at hrow hbd hff ⊢
    refine bodyPost_ret (results_cell1_row rfl _ _ (w.heap.size + 1) 25 #[.int .i64 x.kind, .string x.item, .int .i64 x.long, .int .i64 x.many, .slice A3 x.kids.length c3, .slice As3 x.shares.length c4] (0, 0) _ rfl hrow Tryd.underlying25 rfl (by kernel_rfl)) rfl ?_
    have s2 := HZ2.out.sz
    have s3 := hff.size
    have hL : LR (fun b => w2.heap.size ≤ b ∧ b < w3.heap.size) w3 x A3 As3 := ⟨n, HAT.out⟩
    exact ⟨⟨A3, As3, c3, c4, rfl, hL.fr hff (fun b hb e => by omega) (fun b hb => .inr ⟨by omega, by omega⟩)⟩, hbd⟩
  · have hq1 : (L.lf (n + 1) x != 0) = true := bne_iff_ne.2 hq
    generalize L.lf (n + 1) x = q at *
    clear hq cc
    go_enter Tryd.func4, Tryd.ntmps4
    go_wp2_with (go_at_call 7; have HZ := Lib.hid (@Bz.new w x A As c c'); refine (cf.out _ HZ.out.bl).mono ?_; rintro e w2 ⟨rfl, hB2⟩; have HZ2 := Lib.hid (HZ.out.below hB2); clear hB2; have y0 := HZ2.out.y 0 _ rfl; have y1 := HZ2.out.y 1 _ rfl; have y2 := HZ2.out.y 2 _ rfl; have y3 := HZ2.out.y 3 _ rfl; have y4 := HZ2.out.y 4 _ rfl; have y5 := HZ2.out.y 5 _ rfl; have q0 := HZ2.out.q 0 _ rfl; have q1 := HZ2.out.q 1 _ rfl; have q2 := HZ2.out.q 2 _ rfl; have q3 := HZ2.out.q 3 _ rfl; have q4 := HZ2.out.q 4 _ rfl; have q5 := HZ2.out.q 5 _ rfl; have qz := HZ2.out.qz)
    go_simp
    have hrow : ((((((w2.setCell ⟨w.heap.size + 1, 0, none⟩ (.int .i64 x.kind)).setCell ⟨w.heap.size + 1, 1, none⟩ (.string x.item)).setCell ⟨w.heap.size + 1, 2, none⟩ (.int .i64 x.long)).setCell ⟨w.heap.size + 1, 3, none⟩ (.int .i64 x.many)).setCell ⟨w.heap.size + 1, 4, none⟩ (.slice A x.kids.length c)).setCell ⟨w.heap.size + 1, 5, none⟩ (.slice As x.shares.length c')).heap[w.heap.size + 1]? = some (.cells #[.int .i64 x.kind, .string x.item, .int .i64 x.long, .int .i64 x.many, .slice A x.kids.length c, .slice As x.shares.length c'] 25 (0, 0)) := L.set6 (a := .int .i64 0) (b := .string ⟨#[]⟩) (c := .int .i64 0) (d := .int .i64 0) (e := .slice none 0 0) (f := .slice none 0 0) HZ2.out.rw
    have hbd : Below w.heap.size w ((((((w2.setCell ⟨w.heap.size + 1, 0, none⟩ (.int .i64 x.kind)).setCell ⟨w.heap.size + 1, 1, none⟩ (.string x.item)).setCell ⟨w.heap.size + 1, 2, none⟩ (.int .i64 x.long)).setCell ⟨w.heap.size + 1, 3, none⟩ (.int .i64 x.many)).setCell ⟨w.heap.size + 1, 4, none⟩ (.slice A x.kids.length c)).setCell ⟨w.heap.size + 1, 5, none⟩ (.slice As x.shares.length c')) := below6 HZ2.out.bl (by omega) _ _ _ _ _ _
    have hff : Fr (fun b => b = w.heap.size + 1) w2 ((((((w2.setCell ⟨w.heap.size + 1, 0, none⟩ (.int .i64 x.kind)).setCell ⟨w.heap.size + 1, 1, none⟩ (.string x.item)).setCell ⟨w.heap.size + 1, 2, none⟩ (.int .i64 x.long)).setCell ⟨w.heap.size + 1, 3, none⟩ (.int .i64 x.many)).setCell ⟨w.heap.size + 1, 4, none⟩ (.slice A x.kids.length c)).setCell ⟨w.heap.size + 1, 5, none⟩ (.slice As x.shares.length c')) := fr6 _ _ _ _ _ _ _ _
    generalize ((((((w2.setCell ⟨w.heap.size + 1, 0, none⟩ (.int .i64 x.kind)).setCell ⟨w.heap.size + 1, 1, none⟩ (.string x.item)).setCell ⟨w.heap.size + 1, 2, none⟩ (.int .i64 x.long)).setCell ⟨w.heap.size + 1, 3, none⟩ (.int .i64 x.many)).setCell ⟨w.heap.size + 1, 4, none⟩ (.slice A x.kids.length c)).setCell ⟨w.heap.size + 1, 5, none⟩ (.slice As x.shares.length c')) = WF at hrow hbd hff ⊢
    refine bodyPost_ret (results_cell1_row rfl _ _ (w.heap.size + 1) 25 #[.int .i64 x.kind, .string x.item, .int .i64 x.long, .int .i64 x.many, .slice A x.kids.length c, .slice As x.shares.length c'] (0, 0) _ rfl hrow Tryd.underlying25 rfl (by kernel_rfl)) rfl ?_
    have hlo := HLO.out
    exact ⟨⟨A, As, c, c', rfl, (HL.out.below HZ2.out.bl).fr hff (fun b hb e => by omega) (fun b hb => .inl hb)⟩, hbd⟩
end Go.Proofs.YtlfobpjefklccaaDoor.H

namespace Go.Proofs.YtlfobpjefklccaaDoor.H
open Go.RowKit
open L (Lp row row1 At AtR lv kdL kid_at)
open F (Fr Cl)

/-- A region that draws its order: what is kept by each operation that may come up holds at its end. -/
theorem region_inv {P : Program} {md : Region.Mode} {ops : Array Oper} {Q : Exit → Act → World → Prop} (I : Nat → Array Bool → Act → World → Prop)
    (hs : ∀ n L a W, I (n + 1) L a W → (∀ L' a' W', I n L' a' W' → wpAny P md ops Q n L' a' W') → ∀ i ∈ Region.ready md ops L, wpOp P ops Q i (wpAny P md ops Q n (L.setIfInBounds i true)) a W)
    (h0 : ∀ L a W, I 0 L a W → Region.ready md ops L = [])
    (hd : ∀ n L a W, I n L a W → Region.ready md ops L = [] → Q .normal a W) : ∀ n L a W, I n L a W → wpAny P md ops Q n L a W := by
  intro n
  induction n with
  | zero => intro L a W h; exact ⟨h0 L a W h, hd 0 L a W h (h0 L a W h)⟩
  | succ n ih => intro L a W h; exact ⟨hd (n + 1) L a W h, hs n L a W h ih⟩
def left (b : Bool) : Nat := if b = true then 0 else 1
/-- A copy of a loop; it lies apart from the two new variables. -/
def Lq (lo hi : Nat) (W : World) (x : Lp) (t p q : Value) : Prop := ∃ (Q : Nat → Prop) (A1 B1 : Option Addr) (k1 k2 : Nat), t = .agg #[.int .i64 x.kind, .string x.item, .int .i64 x.long, .int .i64 x.many, .slice A1 x.kids.length k1, .slice B1 x.shares.length k2] ∧ LR Q W x A1 B1 ∧ ∀ g, Q g → (g < lo ∨ hi ≤ g) ∧ g < W.heap.size ∧ p ≠ .pointer (some ⟨g, 0, none⟩) ∧ q ≠ .pointer (some ⟨g, 0, none⟩)
/-- A new variable of six cells. -/
def Pq (hi : Nat) (W : World) (t : Value) (s : Bool) (v : Value) : Prop := ∃ (p : Nat) (a b c d e f : Value), t = .pointer (some ⟨p, 0, none⟩) ∧ hi ≤ p ∧ p < W.heap.size ∧ (∀ i u, [a, b, c, d, e, f][i]? = some u → W.cell? ⟨p, i, none⟩ = some u) ∧ UF W p ∧ (s = true → v = .agg #[a, b, c, d, e, f])
structure Iv (w W0 : World) (x y : Lp) (rx ry : Value) (b0 b1 b2 b3 b4 b5 b6 b7 : Bool) (t5 t6 t7 t8 t9 t10 : Value) (W : World) : Prop where
  bl : Below W0.heap.size W0 W
  h0 : b0 = true → t7 = rx
  h2 : b2 = true → t9 = ry
  h4 : b4 = true → Pq W0.heap.size W t5 b6 t8
  h5 : b5 = true → Pq W0.heap.size W t6 b7 t10
  h1 : b1 = true → Lq w.heap.size W0.heap.size W x t8 t5 t6
  h3 : b3 = true → Lq w.heap.size W0.heap.size W y t10 t5 t6
  u4 : b4 = false → t5 = undef
  u5 : b5 = false → t6 = undef
  ne : b4 = true → b5 = true → t5 ≠ t6
theorem Lq.below {lo hi : Nat} {W W' : World} {x : Lp} {t p q : Value} (h : Lq lo hi W x t p q) (hb : Below W.heap.size W W') : Lq lo hi W' x t p q := by
  obtain ⟨Q, A1, B1, k1, k2, e, hL, hQ⟩ := h
  exact ⟨Q, A1, B1, k1, k2, e, hL.below hb, fun g hg => ⟨(hQ g hg).1, Nat.lt_of_lt_of_le (hQ g hg).2.1 hb.size, (hQ g hg).2.2⟩⟩
theorem Pq.below {hi : Nat} {W W' : World} {t v : Value} {s : Bool} (h : Pq hi W t s v) (hb : Below W.heap.size W W') : Pq hi W' t s v := by
  obtain ⟨p, a, b, c, d, e, f, h1, h2, h3, h4, h5, h6⟩ := h
  exact ⟨p, a, b, c, d, e, f, h1, h2, Nat.lt_of_lt_of_le h3 hb.size, fun i u hu => B.cell_below hb (h4 i u hu), h5.below hb h3, h6⟩
/-- The new variable of a copy comes after it. -/
theorem Lq.new5 {lo hi : Nat} {W : World} {x : Lp} {t q : Value} {p : Nat} (h : Lq lo hi W x t undef q) (o : Obj) (hp : p = W.heap.size) : Lq lo hi (W.alloc o) x t (.pointer (some ⟨p, 0, none⟩)) q := by
  obtain ⟨Q, A1, B1, k1, k2, e, hL, hQ⟩ := h.below ((Below.refl W.heap.size W).alloc (Nat.le_refl _) o)
  obtain ⟨Q2, A2, B2, j1, j2, e2, hL2, hQ2⟩ := h
  refine ⟨Q2, A2, B2, j1, j2, e2, hL2.below ((Below.refl W.heap.size W).alloc (Nat.le_refl _) o), fun g hg => ⟨(hQ2 g hg).1, by have := (hQ2 g hg).2.1; simp; omega, fun e => ?_, (hQ2 g hg).2.2.2⟩⟩
  have h1 := (hQ2 g hg).2.1
  have h2 : p = g := by injection e with e; injection e with e; injection e
  omega
theorem Lq.new6 {lo hi : Nat} {W : World} {x : Lp} {t q : Value} {p : Nat} (h : Lq lo hi W x t q undef) (o : Obj) (hp : p = W.heap.size) : Lq lo hi (W.alloc o) x t q (.pointer (some ⟨p, 0, none⟩)) := by
  obtain ⟨Q2, A2, B2, j1, j2, e2, hL2, hQ2⟩ := h
  refine ⟨Q2, A2, B2, j1, j2, e2, hL2.below ((Below.refl W.heap.size W).alloc (Nat.le_refl _) o), fun g hg => ⟨(hQ2 g hg).1, by have := (hQ2 g hg).2.1; simp; omega, (hQ2 g hg).2.2.1, fun e => ?_⟩⟩
  have h1 := (hQ2 g hg).2.1
  have h2 : p = g := by injection e with e; injection e with e; injection e
  omega
theorem Pq.new (hi : Nat) (W : World) (v : Value) (h : hi ≤ W.heap.size) (a b c d e f : Value) (o : TypeId) : Pq hi (W.alloc (.cells #[a, b, c, d, e, f] o)) (.pointer (some ⟨W.heap.size, 0, none⟩)) false v :=
  ⟨W.heap.size, a, b, c, d, e, f, rfl, h, by simp, fun i u hu => by rw [World.cell?_alloc_new, ← hu]; simp, UF.new _ _ _, fun h => by cases h⟩
/-- A copy that was just made. -/
theorem Lq.make {lo hi : Nat} {W0 W W' : World} {x : Lp} {t5 t6 : Value} {A1 B1 : Option Addr} {k1 k2 : Nat} (hL : LR (Ql lo W W') W' x A1 B1) (hlo : lo ≤ W0.heap.size) (hW : W0.heap.size ≤ W.heap.size) (hhi : hi = W0.heap.size) (hs : W.heap.size ≤ W'.heap.size) (h5 : t5 = undef ∨ ∃ p, t5 = .pointer (some ⟨p, 0, none⟩) ∧ W0.heap.size ≤ p ∧ p < W.heap.size) (h6 : t6 = undef ∨ ∃ p, t6 = .pointer (some ⟨p, 0, none⟩) ∧ W0.heap.size ≤ p ∧ p < W.heap.size) :
    Lq lo hi W' x (.agg #[.int .i64 x.kind, .string x.item, .int .i64 x.long, .int .i64 x.many, .slice A1 x.kids.length k1, .slice B1 x.shares.length k2]) t5 t6 := by
  subst hhi
  have key : ∀ t : Value, (t = undef ∨ ∃ p, t = .pointer (some ⟨p, 0, none⟩) ∧ W0.heap.size ≤ p ∧ p < W.heap.size) → ∀ g, Ql lo W W' g → t ≠ .pointer (some ⟨g, 0, none⟩) := by
    intro t ht g hg e
    rcases ht with ht | ⟨p, ht, h1, h2⟩
    · rw [ht] at e; cases e
    · rw [ht] at e
      have : p = g := by simpa using e
      rcases hg with hg | hg <;> omega
  exact ⟨Ql lo W W', A1, B1, k1, k2, rfl, hL, fun g hg => ⟨by rcases hg with hg | hg; exact .inl hg; exact .inr (by omega), by rcases hg with hg | hg; omega; exact hg.2, key t5 h5 g hg, key t6 h6 g hg⟩⟩
/-- A store into one of the two new variables. -/
theorem Lq.fr {lo hi g : Nat} {W W' : World} {x : Lp} {t p q : Value} (h : Lq lo hi W x t p q) (hf : Fr (fun b => b = g) W W') (hg : p = .pointer (some ⟨g, 0, none⟩) ∨ q = .pointer (some ⟨g, 0, none⟩)) : Lq lo hi W' x t p q := by
  obtain ⟨Q, A1, B1, k1, k2, e, hL, hQ⟩ := h
  refine ⟨Q, A1, B1, k1, k2, e, hL.fr hf (fun b hb e => ?_) (fun _ h => h), fun b hb => ⟨(hQ b hb).1, Nat.lt_of_lt_of_le (hQ b hb).2.1 hf.size, (hQ b hb).2.2⟩⟩
  subst e
  rcases hg with hg | hg
  · exact (hQ b hb).2.2.1 hg
  · exact (hQ b hb).2.2.2 hg
theorem Pq.fr {hi g : Nat} {W W' : World} {t v : Value} {s : Bool} (h : Pq hi W t s v) (hf : Fr (fun b => b = g) W W') (hg : t ≠ .pointer (some ⟨g, 0, none⟩)) : Pq hi W' t s v := by
  obtain ⟨p, a, b, c, d, e, f, h1, h2, h3, h4, h5, h6⟩ := h
  have hne : ¬ p = g := fun e => hg (by rw [h1, e])
  exact ⟨p, a, b, c, d, e, f, h1, h2, Nat.lt_of_lt_of_le h3 hf.size, fun i u hu => hf.cell hne (h4 i u hu), h5.fr hf h3 hne, h6⟩
theorem Pq.val {hi : Nat} {W : World} {t v : Value} (h : Pq hi W t false v) (v' : Value) : Pq hi W t false v' := by
  obtain ⟨p, a, b, c, d, e, f, h1, h2, h3, h4, h5, h6⟩ := h
  exact ⟨p, a, b, c, d, e, f, h1, h2, h3, h4, h5, fun h => by cases h⟩
theorem off {b c : Bool} (h : b = true → c = true) (hc : c = false) : b = false := by
  cases b with
  | false => rfl
  | true => rw [h rfl] at hc; cases hc
theorem Iv.p5 {w W0 : World} {x y : Lp} {rx ry : Value} {b0 b1 b2 b3 b4 b5 b6 b7 : Bool} {t5 t6 t7 t8 t9 t10 : Value} {W : World} (h : Iv w W0 x y rx ry b0 b1 b2 b3 b4 b5 b6 b7 t5 t6 t7 t8 t9 t10 W) : t5 = undef ∨ ∃ p, t5 = .pointer (some ⟨p, 0, none⟩) ∧ W0.heap.size ≤ p ∧ p < W.heap.size := by
  cases hb : b4 with
  | false => exact .inl (h.u4 hb)
  | true => obtain ⟨p, _, _, _, _, _, _, h1, h2, h3, -⟩ := h.h4 hb; exact .inr ⟨p, h1, h2, h3⟩
theorem Iv.p6 {w W0 : World} {x y : Lp} {rx ry : Value} {b0 b1 b2 b3 b4 b5 b6 b7 : Bool} {t5 t6 t7 t8 t9 t10 : Value} {W : World} (h : Iv w W0 x y rx ry b0 b1 b2 b3 b4 b5 b6 b7 t5 t6 t7 t8 t9 t10 W) : t6 = undef ∨ ∃ p, t6 = .pointer (some ⟨p, 0, none⟩) ∧ W0.heap.size ≤ p ∧ p < W.heap.size := by
  cases hb : b5 with
  | false => exact .inl (h.u5 hb)
  | true => obtain ⟨p, _, _, _, _, _, _, h1, h2, h3, -⟩ := h.h5 hb; exact .inr ⟨p, h1, h2, h3⟩
theorem undef_ne (p : Nat) : (undef : Value) ≠ .pointer (some ⟨p, 0, none⟩) := by intro e; cases e
theorem uf6 {W : World} {g b : Nat} {x1 x2 x3 x4 x5 x6 : Value} (h : UF W b) : UF ((((((W.setCell ⟨g, 0, none⟩ x1).setCell ⟨g, 1, none⟩ x2).setCell ⟨g, 2, none⟩ x3).setCell ⟨g, 3, none⟩ x4).setCell ⟨g, 4, none⟩ x5).setCell ⟨g, 5, none⟩ x6) b := fun i => by simp only [World.frozen?_setCell]; exact h i
set_option maxHeartbeats 8000000 in
set_option maxRecDepth 100000 in
theorem loopsShrink (n m : Nat) (x y : Lp) (A As A' As' : Option Addr) (c c' d d' : Nat) (w : World) (h : At n w x A As) (h' : At m w y A' As') :
    Calls Tryd.prog 3 #[lv x A As c c', lv y A' As' d d'] w fun e w' => e = .returned (.bool true) ∧ Below w.heap.size w w' := by
  have HT := Lib.hid (fun (W : World) => @T.two_boxes x y A As A' As' c c' d d' w W 25 25)
  have C1 := Lib.hid (fun W (hb : Below w.heap.size w W) => copyLoopR n w.heap.size x A As c c' W (h.mono hb) ((at_LR h).below hb) hb.size)
  have C2 := Lib.hid (fun W (hb : Below w.heap.size w W) => copyLoopR m w.heap.size y A' As' d d' W (h'.mono hb) ((at_LR h').below hb) hb.size)
  have HAT := Lib.hid h
  have HAT' := Lib.hid h'
  have K1 := Lib.hid (fun W (hb : Below w.heap.size w W) => (by
    by_cases hq : L.lf (n + 1) x = 0
    · by_cases hE : T.sE (L.lf (n + 1) x) (L.lf (m + 1) y) (T.roundM n x) (T.roundM m y) = 0
      · exact shrink_good n m x y A As A' As' c c' d d' W (h.mono hb) (h'.mono hb) hq hE
      · exact shrink_late n m x y A As A' As' c c' d d' W (h.mono hb) (h'.mono hb) hq hE
    · exact shrink_bad n m x y A As A' As' c c' d d' W (h.mono hb) (h'.mono hb) hq : Calls Tryd.prog 5 #[lv x A As c c', lv y A' As' d d'] W fun e w' => e = .returned (.bool true) ∧ Below W.heap.size W w'))
  obtain ⟨W0, hW0⟩ : ∃ W0, W0 = (w.alloc (.cells #[.int .i64 x.kind, .string x.item, .int .i64 x.long, .int .i64 x.many, .slice A x.kids.length c, .slice As x.shares.length c'] 25)).alloc (.cells #[.int .i64 y.kind, .string y.item, .int .i64 y.long, .int .i64 y.many, .slice A' y.kids.length d, .slice As' y.shares.length d'] 25) := ⟨_, rfl⟩
  have HB0 : Hid (Below w.heap.size w W0) := Lib.hid (by rw [hW0]; exact ((Below.refl _ w).alloc (Nat.le_refl _) _).alloc (by simp) _)
  have HS0 : Hid (w.heap.size + 2 = W0.heap.size) := Lib.hid (by rw [hW0]; simp)
  have HN := Lib.hid (fun (W : World) (hb : Below W0.heap.size W0 W) => HT.out W (by rw [← hW0]; exact hb))
  have HI0 : Hid (Iv w W0 x y (.agg #[.int .i64 x.kind, .string x.item, .int .i64 x.long, .int .i64 x.many, .slice A x.kids.length c, .slice As x.shares.length c']) (.agg #[.int .i64 y.kind, .string y.item, .int .i64 y.long, .int .i64 y.many, .slice A' y.kids.length d, .slice As' y.shares.length d']) false false false false false false false false undef undef undef undef undef undef ((w.alloc (.cells #[.int .i64 x.kind, .string x.item, .int .i64 x.long, .int .i64 x.many, .slice A x.kids.length c, .slice As x.shares.length c'] 25)).alloc (.cells #[.int .i64 y.kind, .string y.item, .int .i64 y.long, .int .i64 y.many, .slice A' y.kids.length d, .slice As' y.shares.length d'] 25)).drew) := Lib.hid ⟨by rw [← hW0]; exact B.below_drew (Below.refl _ _) 1, nofun, nofun, nofun, nofun, nofun, nofun, fun _ => rfl, fun _ => rfl, nofun⟩
  clear h h' HT
  unfold lv at C1 C2 K1 ⊢
  go_enter Tryd.func3, Tryd.ntmps3
  go_wp2
  clear hW0
  refine wp_region_any (by kernel_rfl) ?_
  refine region_inv (fun n L a W => ∃ (b0 b1 b2 b3 b4 b5 b6 b7 : Bool) (t5 t6 t7 t8 t9 t10 : Value), L = #[b0, b1, b2, b3, b4, b5, b6, b7] ∧ n = left b0 + left b1 + left b2 + left b3 + left b4 + left b5 + left b6 + left b7 ∧
    a = ({ tmps := #[.agg #[.int .i64 x.kind, .string x.item, .int .i64 x.long, .int .i64 x.many, .slice A x.kids.length c, .slice As x.shares.length c'], .agg #[.int .i64 y.kind, .string y.item, .int .i64 y.long, .int .i64 y.many, .slice A' y.kids.length d, .slice As' y.shares.length d'], .pointer (some ⟨w.heap.size, 0, none⟩), .pointer (some ⟨w.heap.size + 1, 0, none⟩), .bool false, t5, t6, t7, t8, t9, t10, undef, undef, undef, undef, undef, undef, undef, undef, undef, undef, undef, undef, undef], defers := [] } : Act) ∧
    (b6 = true → b0 = true ∧ b1 = true ∧ b2 = true ∧ b3 = true ∧ b4 = true ∧ b5 = true) ∧ (b7 = true → b6 = true) ∧ (b3 = true → b1 = true ∧ b2 = true) ∧ (b1 = true → b0 = true) ∧
    Iv w W0 x y (.agg #[.int .i64 x.kind, .string x.item, .int .i64 x.long, .int .i64 x.many, .slice A x.kids.length c, .slice As x.shares.length c']) (.agg #[.int .i64 y.kind, .string y.item, .int .i64 y.long, .int .i64 y.many, .slice A' y.kids.length d, .slice As' y.shares.length d']) b0 b1 b2 b3 b4 b5 b6 b7 t5 t6 t7 t8 t9 t10 W) ?hs ?h0 ?hd _ _ _ _ ⟨false, false, false, false, false, false, false, false, undef, undef, undef, undef, undef, undef, by kernel_rfl, by kernel_rfl, rfl, nofun, nofun, nofun, nofun, HI0.out⟩
  case h0 =>
    rintro L a W ⟨b0, b1, b2, b3, b4, b5, b6, b7, -, -, -, -, -, -, rfl, hn, -⟩
    have HL : ∀ b, left b = 0 → b = true := by decide
    have e0 := HL b0 (by omega)
    have e1 := HL b1 (by omega)
    have e2 := HL b2 (by omega)
    have e3 := HL b3 (by omega)
    have e4 := HL b4 (by omega)
    have e5 := HL b5 (by omega)
    have e6 := HL b6 (by omega)
    have e7 := HL b7 (by omega)
    subst e0 e1 e2 e3 e4 e5 e6 e7
    show Region.ready .any _ _ = []
    kernel_rfl
  case hd =>
    rintro n L a W ⟨b0, b1, b2, b3, b4, b5, b6, b7, t5, t6, t7, t8, t9, t10, rfl, hn, rfl, h6, h7, h3, h1, hI⟩ hr
    unfold Region.ready at hr
    rw [List.filter_eq_nil_iff] at hr
    have e0 : b0 = true := by
      have := hr 0 (by simp)
      simpa [Region.binds] using this
    subst e0
    have e2 : b2 = true := by
      have := hr 2 (by simp)
      simpa [Region.binds] using this
    subst e2
    have e4 : b4 = true := by
      have := hr 4 (by simp)
      simpa [Region.binds] using this
    subst e4
    have e5 : b5 = true := by
      have := hr 5 (by simp)
      simpa [Region.binds] using this
    subst e5
    have e1 : b1 = true := by
      have := hr 1 (by simp)
      simpa [Region.binds] using this
    subst e1
    have e3 : b3 = true := by
      have := hr 3 (by simp)
      simpa [Region.binds] using this
    subst e3
    have e6 : b6 = true := by
      have := hr 6 (by simp)
      simpa [Region.binds] using this
    subst e6
    have e7 : b7 = true := by
      have := hr 7 (by simp)
      simpa [Region.binds] using this
    subst e7
    clear hr
    obtain ⟨p, v0, v1, v2, v3, v4, v5, rfl, hp1, hp2, hpc, -, hpv⟩ := hI.h4 rfl
    obtain ⟨q, x0, x1, x2, x3, x4, x5, rfl, hq1, hq2, hqc, -, hqv⟩ := hI.h5 rfl
    obtain ⟨Q1, A1, B1, k1, k2, rfl, hL1, -⟩ := hI.h1 rfl
    obtain ⟨Q2, A2, B2, j1, j2, rfl, hL2, -⟩ := hI.h3 rfl
    have e1 := hpv rfl
    have e2 := hqv rfl
    simp only [Value.agg.injEq, Array.mk.injEq, List.cons.injEq, and_true] at e1 e2
    obtain ⟨rfl, rfl, rfl, rfl, rfl, rfl⟩ := e1
    obtain ⟨rfl, rfl, rfl, rfl, rfl, rfl⟩ := e2
    have B0 := hI.bl
    have BW := HB0.out.trans (B0.mono HB0.out.size)
    obtain ⟨n1, hx, hx1⟩ := two_at ((at_LR HAT.out).below BW) hL1
    obtain ⟨n2, hy, hy1⟩ := two_at ((at_LR HAT'.out).below BW) hL2
    have SX := Lib.hid (fun W2 (hb : Below W.heap.size W W2) => L.staysLoop n1 x A As A1 B1 c c' k1 k2 W2 (hx.mono hb) (hx1.mono hb))
    have SY := Lib.hid (fun W2 (hb : Below W.heap.size W W2) => L.staysLoop n2 y A' As' A2 B2 d d' j1 j2 W2 (hy.mono hb) (hy1.mono hb))
    have HPC := Lib.hid hpc
    have HQC := Lib.hid hqc
    have HBW := Lib.hid BW
    have HB0W := Lib.hid B0
    obtain ⟨gx, gy⟩ := HN.out _ B0
    have gx0 := gx 0 _ rfl
    have gx1 := gx 1 _ rfl
    have gx2 := gx 2 _ rfl
    have gx3 := gx 3 _ rfl
    have gx4 := gx 4 _ rfl
    have gx5 := gx 5 _ rfl
    have gy0 := gy 0 _ rfl
    have gy1 := gy 1 _ rfl
    have gy2 := gy 2 _ rfl
    have gy3 := gy 3 _ rfl
    have gy4 := gy 4 _ rfl
    have gy5 := gy 5 _ rfl
    have k9 := K1.out W BW
    clear hI h1 h3 h6 h7 hn HI0 hpv hqv hpc hqc hL1 hL2 hx hx1 hy hy1 gx gy C1 C2 B0 BW hp1 hp2 hq1 hq2
    unfold lv at SX SY
    go_simp
    go_wp2_with (first
      | (go_at_call 5; refine k9.mono ?_; rintro e w5 ⟨rfl, hB5⟩; have HB5 := Lib.hid hB5; have s1 := SX.out w5 hB5; have H5 := Lib.hid (HN.out _ (B.below_trans HB0W.out hB5)); have r0 := H5.out.1 0 _ rfl; have r1 := H5.out.1 1 _ rfl; have r2 := H5.out.1 2 _ rfl; have r3 := H5.out.1 3 _ rfl; have r4 := H5.out.1 4 _ rfl; have r5 := H5.out.1 5 _ rfl; have o0 := B.cell_below hB5 (HPC.out 0 _ rfl); have o1 := B.cell_below hB5 (HPC.out 1 _ rfl); have o2 := B.cell_below hB5 (HPC.out 2 _ rfl); have o3 := B.cell_below hB5 (HPC.out 3 _ rfl); have o4 := B.cell_below hB5 (HPC.out 4 _ rfl); have o5 := B.cell_below hB5 (HPC.out 5 _ rfl); clear hB5)
      | (go_at_call 6; refine s1.mono ?_; rintro e w6 ⟨rfl, hB6⟩; have HB6 := Lib.hid (B.below_trans HB5.out hB6); have s2 := SY.out w6 (B.below_trans HB5.out hB6); have H6 := Lib.hid (HN.out _ (B.below_trans HB0W.out (B.below_trans HB5.out hB6))); have rr0 := H6.out.2 0 _ rfl; have rr1 := H6.out.2 1 _ rfl; have rr2 := H6.out.2 2 _ rfl; have rr3 := H6.out.2 3 _ rfl; have rr4 := H6.out.2 4 _ rfl; have rr5 := H6.out.2 5 _ rfl; have oo0 := B.cell_below HB6.out (HQC.out 0 _ rfl); have oo1 := B.cell_below HB6.out (HQC.out 1 _ rfl); have oo2 := B.cell_below HB6.out (HQC.out 2 _ rfl); have oo3 := B.cell_below HB6.out (HQC.out 3 _ rfl); have oo4 := B.cell_below HB6.out (HQC.out 4 _ rfl); have oo5 := B.cell_below HB6.out (HQC.out 5 _ rfl); clear hB6 s1)
      | (go_at_call 6; refine s2.mono ?_; rintro e w7 ⟨rfl, hB7⟩; have HB7 := Lib.hid (B.below_trans HB6.out hB7); clear hB7))
    go_ret
    exact ⟨rfl, B.below_trans HBW.out HB7.out⟩
  case hs =>
    rintro n L a W ⟨b0, b1, b2, b3, b4, b5, b6, b7, t5, t6, t7, t8, t9, t10, rfl, hn, rfl, h6, h7, h3, h1, hI⟩ ih i hi
    have hlt : left true = 0 := rfl
    have hlf : left false = 1 := rfl
    unfold Region.ready at hi
    rw [List.mem_filter] at hi
    obtain ⟨hr, hc⟩ := hi
    have hr8 : i < 8 := by simpa using hr
    have B0 := hI.bl
    have BW := HB0.out.trans (B0.mono HB0.out.size)
    obtain ⟨gx, gy⟩ := HN.out _ B0
    have gx0 := gx 0 _ rfl
    have gx1 := gx 1 _ rfl
    have gx2 := gx 2 _ rfl
    have gx3 := gx 3 _ rfl
    have gx4 := gx 4 _ rfl
    have gx5 := gx 5 _ rfl
    have gy0 := gy 0 _ rfl
    have gy1 := gy 1 _ rfl
    have gy2 := gy 2 _ rfl
    have gy3 := gy 3 _ rfl
    have gy4 := gy 4 _ rfl
    have gy5 := gy 5 _ rfl
    clear hr
    obtain rfl | rfl | rfl | rfl | rfl | rfl | rfl | rfl : i = 0 ∨ i = 1 ∨ i = 2 ∨ i = 3 ∨ i = 4 ∨ i = 5 ∨ i = 6 ∨ i = 7 := by omega
    · simp [Region.binds] at hc
      have e0 : b0 = false := by simp [hc]
      have e1 := off h1 e0
      have e3 := off (fun h => (h3 h).1) e1
      have e6 := off (fun h => (h6 h).1) e0
      have e7 := off h7 e6
      clear hc
      subst e0 e1 e3 e6 e7
      refine wpOp_step rfl (fun K hK => ?_)
      go_simp
      exact hK _ _ (ih _ _ _ ⟨true, false, b2, false, b4, b5, false, false, t5, t6, _, t8, t9, t10, rfl, by omega, rfl, nofun, nofun, nofun, nofun, { hI with h0 := fun _ => rfl }⟩)
    · simp [Region.binds] at hc
      have e1 : b1 = false := by simp [hc]
      have e0 : b0 = true := by simp [hc]
      have e3 := off (fun h => (h3 h).1) e1
      have e6 := off (fun h => (h6 h).2.1) e1
      have e7 := off h7 e6
      clear hc
      subst e0 e1 e3 e6 e7
      obtain rfl := hI.h0 rfl
      refine wpOp_step rfl (fun K hK => ?_)
      go_simp
      go_at_call 4
      refine (C1.out _ BW).mono ?_
      rintro e W' ⟨⟨A1, B1, k1, k2, rfl, hL⟩, hb⟩
      go_simp
      exact hK _ _ (ih _ _ _ ⟨true, true, b2, false, b4, b5, false, false, t5, t6, _, _, t9, t10, rfl, by omega, rfl, nofun, nofun, nofun, fun _ => rfl,
        ⟨B.below_trans B0 hb, fun _ => rfl, hI.h2, fun h => ((hI.h4 h).below hb).val _, fun h => (hI.h5 h).below hb, fun _ => Lq.make (W0 := W0) hL (by have := HS0.out; omega) B0.size rfl hb.size hI.p5 hI.p6, nofun, hI.u4, hI.u5, hI.ne⟩⟩)
    · simp [Region.binds] at hc
      have e2 : b2 = false := by simp [hc]
      have e3 := off (fun h => (h3 h).2) e2
      have e6 := off (fun h => (h6 h).2.2.1) e2
      have e7 := off h7 e6
      clear hc
      subst e2 e3 e6 e7
      refine wpOp_step rfl (fun K hK => ?_)
      go_simp
      exact hK _ _ (ih _ _ _ ⟨b0, b1, true, false, b4, b5, false, false, t5, t6, t7, t8, _, t10, rfl, by omega, rfl, nofun, nofun, nofun, h1, { hI with h2 := fun _ => rfl }⟩)
    · simp [Region.binds] at hc
      have e3 : b3 = false := by simp [hc]
      have e2 : b2 = true := by simp [hc]
      have e1 : b1 = true := by simp [hc]
      have e6 := off (fun h => (h6 h).2.2.2.1) e3
      have e7 := off h7 e6
      have e0 := h1 e1
      clear hc
      subst e0 e1 e2 e3 e6 e7
      obtain rfl := hI.h2 rfl
      refine wpOp_step rfl (fun K hK => ?_)
      go_simp
      go_at_call 4
      refine (C2.out _ BW).mono ?_
      rintro e W' ⟨⟨A1, B1, k1, k2, rfl, hL⟩, hb⟩
      go_simp
      exact hK _ _ (ih _ _ _ ⟨true, true, true, true, b4, b5, false, false, t5, t6, t7, t8, _, _, rfl, by omega, rfl, nofun, nofun, fun _ => ⟨rfl, rfl⟩, fun _ => rfl,
        ⟨B.below_trans B0 hb, hI.h0, fun _ => rfl, fun h => (hI.h4 h).below hb, fun h => ((hI.h5 h).below hb).val _, fun h => (hI.h1 h).below hb, fun _ => Lq.make (W0 := W0) hL (by have := HS0.out; omega) B0.size rfl hb.size hI.p5 hI.p6, hI.u4, hI.u5, hI.ne⟩⟩)
    · simp [Region.binds] at hc
      have e4 : b4 = false := by simp [hc]
      have e6 := off (fun h => (h6 h).2.2.2.2.1) e4
      have e7 := off h7 e6
      clear hc
      subst e4 e6 e7
      obtain rfl := hI.u4 rfl
      refine wpOp_step rfl (fun K hK => ?_)
      go_simp
      have hal := fun o => (Below.refl W.heap.size W).alloc (Nat.le_refl _) o
      exact hK _ _ (ih _ _ _ ⟨b0, b1, b2, b3, true, b5, false, false, _, t6, t7, t8, t9, t10, rfl, by omega, rfl, nofun, nofun, h3, h1,
        ⟨B.below_trans B0 (hal _), hI.h0, hI.h2, fun _ => Pq.new _ _ _ B0.size _ _ _ _ _ _ _, fun h => (hI.h5 h).below (hal _), fun h => (hI.h1 h).new5 _ rfl, fun h => (hI.h3 h).new5 _ rfl, nofun, hI.u5, fun _ h5 e => by
          obtain ⟨p, _, _, _, _, _, _, q1, q2, q3, -⟩ := hI.h5 h5
          rw [q1] at e
          have e2 : W.heap.size = p := by injection e with e; injection e with e; injection e
          omega⟩⟩)
    · simp [Region.binds] at hc
      have e5 : b5 = false := by simp [hc]
      have e6 := off (fun h => (h6 h).2.2.2.2.2) e5
      have e7 := off h7 e6
      clear hc
      subst e5 e6 e7
      obtain rfl := hI.u5 rfl
      refine wpOp_step rfl (fun K hK => ?_)
      go_simp
      have hal := fun o => (Below.refl W.heap.size W).alloc (Nat.le_refl _) o
      exact hK _ _ (ih _ _ _ ⟨b0, b1, b2, b3, b4, true, false, false, t5, _, t7, t8, t9, t10, rfl, by omega, rfl, nofun, nofun, h3, h1,
        ⟨B.below_trans B0 (hal _), hI.h0, hI.h2, fun h => (hI.h4 h).below (hal _), fun _ => Pq.new _ _ _ B0.size _ _ _ _ _ _ _, fun h => (hI.h1 h).new6 _ rfl, fun h => (hI.h3 h).new6 _ rfl, hI.u4, nofun, fun h4 _ e => by
          obtain ⟨p, _, _, _, _, _, _, q1, q2, q3, -⟩ := hI.h4 h4
          rw [q1] at e
          have e2 : p = W.heap.size := by injection e with e; injection e with e; injection e
          omega⟩⟩)
    · simp [Region.binds] at hc
      have e6 : b6 = false := by simp [hc]
      have e0 : b0 = true := by simp [hc]
      have e1 : b1 = true := by simp [hc]
      have e3 : b3 = true := by simp [hc]
      have e4 : b4 = true := by simp [hc]
      have e5 : b5 = true := by simp [hc]
      have e2 := (h3 e3).2
      have e7 := off h7 e6
      clear hc
      subst e0 e1 e2 e3 e4 e5 e6 e7
      obtain ⟨p, v0, v1, v2, v3, v4, v5, rfl, hp1, hp2, hpc, hpu, -⟩ := hI.h4 rfl
      obtain ⟨Q, A1, B1, k1, k2, rfl, hL, hQ⟩ := hI.h1 rfl
      have hne := hI.ne rfl rfl
      have p0 := hpc 0 _ rfl
      have p1 := hpc 1 _ rfl
      have p2 := hpc 2 _ rfl
      have p3 := hpc 3 _ rfl
      have p4 := hpc 4 _ rfl
      have p5 := hpc 5 _ rfl
      have pz : ∀ i, W.frozen? ⟨p, i, none⟩ = false := hpu
      refine wpOp_step rfl (fun K hK => ?_)
      go_simp
      exact hK _ _ (ih _ _ _ ⟨true, true, true, true, true, true, true, false, _, t6, t7, _, t9, t10, rfl, by omega, rfl, fun _ => ⟨rfl, rfl, rfl, rfl, rfl, rfl⟩, nofun, fun _ => ⟨rfl, rfl⟩, fun _ => rfl,
        ⟨below6 B0 hp1 _ _ _ _ _ _, hI.h0, hI.h2, fun _ => ⟨p, _, _, _, _, _, _, rfl, hp1, Nat.lt_of_lt_of_le hp2 (fr6 W p _ _ _ _ _ _).size, cells6 hpc, uf6 hpu, fun _ => rfl⟩, fun h => (hI.h5 h).fr (fr6 W p _ _ _ _ _ _) (fun e => hne e.symm), fun h => (hI.h1 h).fr (fr6 W p _ _ _ _ _ _) (.inl rfl), fun h => (hI.h3 h).fr (fr6 W p _ _ _ _ _ _) (.inl rfl), nofun, nofun, fun _ _ => hne⟩⟩)
    · simp [Region.binds] at hc
      have e7 : b7 = false := by simp [hc]
      have e6 : b6 = true := by simp [hc]
      obtain ⟨e0, e1, e2, e3, e4, e5⟩ := h6 e6
      clear hc
      subst e0 e1 e2 e3 e4 e5 e6 e7
      obtain ⟨p, v0, v1, v2, v3, v4, v5, rfl, hp1, hp2, hpc, hpu, -⟩ := hI.h5 rfl
      obtain ⟨Q, A1, B1, k1, k2, rfl, hL, hQ⟩ := hI.h3 rfl
      have hne := hI.ne rfl rfl
      have p0 := hpc 0 _ rfl
      have p1 := hpc 1 _ rfl
      have p2 := hpc 2 _ rfl
      have p3 := hpc 3 _ rfl
      have p4 := hpc 4 _ rfl
      have p5 := hpc 5 _ rfl
      have pz : ∀ i, W.frozen? ⟨p, i, none⟩ = false := hpu
      refine wpOp_step rfl (fun K hK => ?_)
      go_simp
      exact hK _ _ (ih _ _ _ ⟨true, true, true, true, true, true, true, true, t5, _, t7, t8, t9, _, rfl, by omega, rfl, fun _ => ⟨rfl, rfl, rfl, rfl, rfl, rfl⟩, fun _ => rfl, fun _ => ⟨rfl, rfl⟩, fun _ => rfl,
        ⟨below6 B0 hp1 _ _ _ _ _ _, hI.h0, hI.h2, fun h => (hI.h4 h).fr (fr6 W p _ _ _ _ _ _) hne, fun _ => ⟨p, _, _, _, _, _, _, rfl, hp1, Nat.lt_of_lt_of_le hp2 (fr6 W p _ _ _ _ _ _).size, cells6 hpc, uf6 hpu, fun _ => rfl⟩, fun h => (hI.h1 h).fr (fr6 W p _ _ _ _ _ _) (.inr rfl), fun h => (hI.h3 h).fr (fr6 W p _ _ _ _ _ _) (.inr rfl), nofun, nofun, fun _ _ => hne⟩⟩)
end Go.Proofs.YtlfobpjefklccaaDoor.H
