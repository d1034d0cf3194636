/- One change of a loop: the program's changed. Printed by wip/gen/chgen.py. -/
import Derived.Test.YtlfobpjefklccaaDoorDiv
import Derived.Test.YtlfobpjefklccaaDoorChClos
import Derived.Deep.QuietTactic
import Derived.BigQuiet
import Derived.Deep.RegionLaw
namespace Go.Proofs.YtlfobpjefklccaaDoor.H
open Go.RowKit
open L (Lp row row1 At AtR lv kdL kid_at rowR set6)
open F (Fr Cl)

/-- What the program's changed answers. -/
def ChRes (R : Nat → Prop) (lo : Nat) (x : Lp) (e : Ending) (w' : World) : Prop := ∃ y A' As' d d', e = .returned (.tuple #[lv y A' As' d d', .bool (ch x).isSome]) ∧ LR (RN R lo w') w' y A' As' ∧ ∀ z, ch x = some z → y = z
theorem ch_item {x : Lp} (h : x.kind = 1) : ch x = none := by unfold ch; rw [if_pos h]
theorem ch_rep {x k : Lp} {ks : List Lp} (h : x.kind = 5) (hks : x.kids = k :: ks) (hm : ¬ (k.kind = 5 ∧ x.many * k.many ≤ 100)) : ch x = if x.many = 1 then some k else none := by
  unfold ch; rw [if_neg (by omega), hks]; simp only; rw [if_pos h, if_neg hm]
theorem ch_mul {x k : Lp} {ks : List Lp} (h : x.kind = 5) (hks : x.kids = k :: ks) (hm : k.kind = 5 ∧ x.many * k.many ≤ 100) : ch x = some (.mk 5 ⟨#[]⟩ 0 (x.many * k.many) k.kids []) := by
  unfold ch; rw [if_neg (by omega), hks]; simp only; rw [if_pos h, if_pos hm]
theorem lr_mul {R : Nat → Prop} {w : World} {k : Lp} {A' As' : Option Addr} {m : Int} (h : LR R w k A' As') (h1 : 0 ≤ m) (h2 : m ≤ 100) : LR R w (.mk 5 ⟨#[]⟩ 0 m k.kids []) A' none := LR.mk ⟨⟨by unfold O.okI; simp [Lp.kind], by unfold O.okI; simp [Lp.long], by unfold O.okI; simp [Lp.many]; omega⟩, by simp [Lp.item, ByteArray.size], h.ok.2.2.1, by simp [Lp.shares], fun n hn => by simp [Lp.shares] at hn⟩ (B.Kd.C_nil _ _ _) (fun h => absurd h (by simp [Lp.shares])) h.kids
theorem lr_row {R : Nat → Prop} {w : World} {ks : List Lp} {A : Option Addr} (h : SR R w A ks) : LR R w (rowL ks) A none := LR.mk ⟨⟨by unfold O.okI; simp [rowL, Lp.kind], by unfold O.okI; simp [rowL, Lp.long], by unfold O.okI; simp [rowL, Lp.many]⟩, by simp [rowL, Lp.item, ByteArray.size], h.1, by simp [rowL, Lp.shares], fun n hn => by simp [rowL, Lp.shares] at hn⟩ (B.Kd.C_nil _ _ _) (fun h => absurd h (by simp [rowL, Lp.shares])) h
theorem fr6 (W : World) (g : Nat) (a b c d e f : Value) : Fr (fun b => b = g) W ((((((W.setCell ⟨g, 0, none⟩ a).setCell ⟨g, 1, none⟩ b).setCell ⟨g, 2, none⟩ c).setCell ⟨g, 3, none⟩ d).setCell ⟨g, 4, none⟩ e).setCell ⟨g, 5, none⟩ f) := by
  have h0 := (Fr.refl (fun b => b = g) W).set (p := ⟨g, 0, none⟩) (fun _ => rfl) a
  have h1 := h0.set (p := ⟨g, 1, none⟩) (fun _ => rfl) b
  have h2 := h1.set (p := ⟨g, 2, none⟩) (fun _ => rfl) c
  have h3 := h2.set (p := ⟨g, 3, none⟩) (fun _ => rfl) d
  have h4 := h3.set (p := ⟨g, 4, none⟩) (fun _ => rfl) e
  exact h4.set (p := ⟨g, 5, none⟩) (fun _ => rfl) f
theorem rn_fr {R S : Nat → Prop} {lo lo' : Nat} {w w' : World} (hf : Fr S w w') (hl : lo' ≤ lo) (hS : ∀ b, lo ≤ b → ¬ S b) : ∀ b, RN R lo w b → RN R lo' w' b := fun b hb => hb.elim .inl fun h => .inr ⟨Nat.le_trans hl h.1, Nat.lt_of_lt_of_le h.2.1 hf.size, h.2.2.fr hf h.2.1 (hS b h.1)⟩
theorem ch_row {x : Lp} (h : x.kind = 2) (hl : 1 < x.kids.length) : ch x = if gath x.kids = x.kids then none else some (rowL (gath x.kids)) := by
  unfold ch; rw [if_neg (by omega)]
  cases hks : x.kids with
  | nil => rw [hks] at hl; simp at hl
  | cons k ks =>
    simp only
    rw [if_neg (by omega), if_neg (by rintro rfl; rw [hks] at hl; simp at hl), if_pos h]
theorem ch_one {x k : Lp} (h : x.kind ≠ 1) (h5 : x.kind ≠ 5) (hks : x.kids = [k]) : ch x = some k := by
  unfold ch; rw [if_neg h, hks]; simp only; rw [if_neg h5, if_pos trivial]
/-- A box with a loop in it, and a loop that is nought behind it, both of this call. -/
structure Bz (w W : World) (x : Lp) (A As : Option Addr) (c c' : Nat) : Prop where
  bl : Below w.heap.size w W
  sz : w.heap.size + 2 ≤ W.heap.size
  y : ∀ i u, (row x A As c c')[i]? = some u → W.cell? ⟨w.heap.size, i, none⟩ = some u
  q : ∀ i u, [Value.int .i64 0, .string ⟨#[]⟩, .int .i64 0, .int .i64 0, .slice none 0 0, .slice none 0 0][i]? = some u → W.cell? ⟨w.heap.size + 1, i, none⟩ = some u
  yz : ∀ i, W.frozen? ⟨w.heap.size, i, none⟩ = false
  qz : ∀ i, W.frozen? ⟨w.heap.size + 1, i, none⟩ = false
  rw : W.heap[w.heap.size + 1]? = some (.cells #[.int .i64 0, .string ⟨#[]⟩, .int .i64 0, .int .i64 0, .slice none 0 0, .slice none 0 0] 25 (0, 0))
theorem Bz.fr {S : Nat → Prop} {w W W2 : World} {x : Lp} {A As : Option Addr} {c c' : Nat} (h : Bz w W x A As c c') (hf : Fr S W W2) (hs : ∀ b, S b → w.heap.size + 2 ≤ b) : Bz w W2 x A As c c' := by
  have h0 : ¬ S w.heap.size := fun e => by have := hs _ e; omega
  have h1 : ¬ S (w.heap.size + 1) := fun e => by have := hs _ e; omega
  have s := h.sz
  exact ⟨h.bl.trans (hf.below (by omega) (fun k hk => by have := hs k hk; omega)), Nat.le_trans s hf.size, fun i u hu => hf.cell h0 (h.y i u hu), fun i u hu => hf.cell h1 (h.q i u hu), fun i => (hf.frozen (by show w.heap.size < _; omega) h0).trans (h.yz i), fun i => (hf.frozen (by show w.heap.size + 1 < _; omega) h1).trans (h.qz i), (hf.block _ (by omega) h1).trans h.rw⟩
theorem Bz.below {w W W2 : World} {x : Lp} {A As : Option Addr} {c c' : Nat} (h : Bz w W x A As c c') (hb : Below W.heap.size W W2) : Bz w W2 x A As c c' := h.fr (S := fun _ => False) (Fr.of_below hb) (fun _ h => h.elim)
theorem Bz.set5 {w W : World} {x : Lp} {A As : Option Addr} {c c' : Nat} (h : Bz w W x A As c c') (As2 : Option Addr) (c2 : Nat) : Bz w (W.setCell ⟨w.heap.size, 5, none⟩ (.slice As2 x.shares.length c2)) x A As2 c c2 := by
  have hf : Fr (fun b => b = w.heap.size) W (W.setCell ⟨w.heap.size, 5, none⟩ (.slice As2 x.shares.length c2)) := (Fr.refl (fun b => b = w.heap.size) W).set (p := ⟨w.heap.size, 5, none⟩) (fun _ => rfl) _
  have h1 : ¬ (w.heap.size + 1 = w.heap.size) := by omega
  have s := h.sz
  refine ⟨h.bl.trans (hf.below (by omega) (fun k hk => by omega)), Nat.le_trans s hf.size, fun i u hu => ?_, fun i u hu => hf.cell h1 (h.q i u hu), fun i => by rw [World.frozen?_setCell]; exact h.yz i, fun i => by rw [World.frozen?_setCell]; exact h.qz i, (hf.block _ (by omega) h1).trans h.rw⟩
  have hi : i < 6 := (List.getElem?_eq_some_iff.1 hu).1
  by_cases e : i = 5
  · subst e
    cases hu
    exact World.cell?_setCell_same _ _ _ (h.y 5 _ rfl)
  · rw [World.cell?_setCell_other _ _ _ _ (by intro e2; have e3 : 5 = i := congrArg Addr.off e2; omega)]
    refine h.y i u ?_
    rcases (by omega : i = 0 ∨ i = 1 ∨ i = 2 ∨ i = 3 ∨ i = 4) with rfl | rfl | rfl | rfl | rfl <;> exact hu
theorem Bz.new {w : World} {x : Lp} {A As : Option Addr} {c c' : Nat} : Bz w ((w.alloc (.cells #[.int .i64 x.kind, .string x.item, .int .i64 x.long, .int .i64 x.many, .slice A x.kids.length c, .slice As x.shares.length c'] 25)).alloc (.cells #[.int .i64 0, .string ⟨#[]⟩, .int .i64 0, .int .i64 0, .slice none 0 0, .slice none 0 0] 25)) x A As c c' := by
  have t := Copy.two (w := w) (a := #[.int .i64 x.kind, .string x.item, .int .i64 x.long, .int .i64 x.many, .slice A x.kids.length c, .slice As x.shares.length c']) (b := #[.int .i64 0, .string ⟨#[]⟩, .int .i64 0, .int .i64 0, .slice none 0 0, .slice none 0 0]) (s := 25) (t := 25) (Below.refl _ _)
  have u := box_two w #[.int .i64 x.kind, .string x.item, .int .i64 x.long, .int .i64 x.many, .slice A x.kids.length c, .slice As x.shares.length c'] 25
  exact ⟨u.1, Nat.le_of_eq u.2.2.symm, fun i v hu => t.1 i v (by rw [← hu]; simp [row]), fun i v hu => t.2.1 i v (by rw [← hu]; simp), t.2.2.1, t.2.2.2, u.2.1⟩
set_option maxHeartbeats 4000000 in
set_option maxRecDepth 100000 in
theorem chg_item {R : Nat → Prop} (x : Lp) (A As : Option Addr) (c c' : Nat) (w : World) (h : LR R w x A As) (h1 : x.kind = 1) :
    Calls Tryd.prog 36 #[lv x A As c c'] w fun e w' => (ChRes R w.heap.size x e w') ∧ Below w.heap.size w w' := by
  have HH := Lib.hid h
  have hb1 : (x.kind == 1) = true := by rw [h1]; rfl
  have HC := Lib.hid (ch_item h1)
  clear h h1
  unfold lv
  go_enter Tryd.func36, Tryd.ntmps36
  go_wp2
  have HB2 := Lib.hid (@Bz.new w x A As c c').bl
  refine bodyPost_ret (T.results_cell_tmp_row rfl _ _ (w.heap.size + 1) 25 #[.int .i64 x.kind, .string x.item, .int .i64 x.long, .int .i64 x.many, .slice A x.kids.length c, .slice As x.shares.length c'] (0, 0) _ rfl (heap_alloc2_new w _ _) Tryd.underlying25 rfl (by kernel_rfl)) rfl ?_
  have hb : Below w.heap.size w ((w.alloc (.cells #[.int .i64 x.kind, .string x.item, .int .i64 x.long, .int .i64 x.many, .slice A x.kids.length c, .slice As x.shares.length c'] 25)).alloc (.cells #[.int .i64 x.kind, .string x.item, .int .i64 x.long, .int .i64 x.many, .slice A x.kids.length c, .slice As x.shares.length c'] 25)) := ((Below.refl _ _).alloc (Nat.le_refl _) _).alloc (by simp) _
  exact ⟨⟨x, A, As, c, c', by rw [HC.out]; rfl, (HH.out.below hb).weak (fun b hb => .inl hb), fun z hz => by rw [HC.out] at hz; cases hz⟩, hb⟩
set_option maxHeartbeats 4000000 in
set_option maxRecDepth 100000 in
theorem chg_rep5 {R : Nat → Prop} (x : Lp) (A As : Option Addr) (c c' : Nat) (w : World) (h : LR R w x A As) (hv : Vd x) (h5 : x.kind = 5) (k : Lp) (ks : List Lp) (hks : x.kids = k :: ks) (h6 : k.kind = 5) (hp1 : 100 < x.many * k.many) :
    Calls Tryd.prog 36 #[lv x A As c c'] w fun e w' => (ChRes R w.heap.size x e w') ∧ Below w.heap.size w w' := by
  have HH := Lib.hid h
  have HC := Lib.hid (ch_rep h5 hks (fun h => by have := h.2; omega))
  have hv5 := (T.own_ok hv.own).2.2.2.1 h5
  have hvk : k.kind = 5 → 1 ≤ k.many ∧ k.many ≤ 100 := fun e => ((T.own_ok (hv.kid (show k ∈ x.kids from by rw [hks]; exact List.mem_cons_self)).own).2.2.2.1 e).2
  have hb1 : (x.kind == 1) = false := by rw [h5]; rfl
  have hb5 : (x.kind == 5) = true := by rw [h5]; rfl
  have hk0 : 0 < x.kids.length := by rw [hks]; simp
  have hki : x.kids[0] = k := by simp [hks]
  obtain ⟨b, off, A', As', d, d', rfl, -, e1, hat⟩ := h.kids.at 0 hk0
  rw [hki] at e1 hat
  have HAT := Lib.hid hat
  have HK : Hid (∀ i u, (row k A' As' d d')[i]? = some u → w.cell? ⟨b, off + i, none⟩ = some u) := Lib.hid (fun i u hu => by have := e1 i u hu; simpa using this)
  have hkl : (0 : Int) < x.kids.length := by omega
  have hnz : ¬ x.kids = [] := fun e => by rw [e] at hk0; simp at hk0
  have HM1 : Hid ((x.many == 1) = (ch x).isSome) := Lib.hid (by rw [HC.out]; by_cases e : x.many = 1 <;> simp [e])
  have HM2 : Hid (∀ z, ch x = some z → k = z) := Lib.hid (fun z hz => by rw [HC.out] at hz; split at hz <;> cases hz; rfl)
  have hb6 : (k.kind == 5) = true := by rw [h6]; rfl
  have hv6 := hvk h6
  have hp2 : x.many * k.many ≤ 10000 := by
    have := Int.mul_le_mul hv5.2.2 hv6.2 (by omega) (by omega)
    omega
  have hw : IntKind.i64.wrap (x.many * k.many) = x.many * k.many := by rw [IntKind.wrap_i64]; omega
  have hd2 : decide (x.many * k.many ≤ 100) = false := decide_eq_false (by omega)
  clear h hv hki hks hat e1 h5 hvk h6 hv5 hv6 HC
  unfold lv
  go_enter Tryd.func36, Tryd.ntmps36
  go_wp2
  have HZ := Lib.hid (@Bz.new w x (some ⟨b, off, none⟩) As c c')
  generalize (w.alloc (.cells #[.int .i64 x.kind, .string x.item, .int .i64 x.long, .int .i64 x.many, .slice (some ⟨b, off, none⟩) x.kids.length c, .slice As x.shares.length c'] 25)).alloc (.cells #[.int .i64 0, .string ⟨#[]⟩, .int .i64 0, .int .i64 0, .slice none 0 0, .slice none 0 0] 25) = W at *
  have y0 := HZ.out.y 0 _ rfl
  have y1 := HZ.out.y 1 _ rfl
  have y2 := HZ.out.y 2 _ rfl
  have y3 := HZ.out.y 3 _ rfl
  have y4 := HZ.out.y 4 _ rfl
  have y5 := HZ.out.y 5 _ rfl
  have q0 := HZ.out.q 0 _ rfl
  have q1 := HZ.out.q 1 _ rfl
  have q2 := HZ.out.q 2 _ rfl
  have q3 := HZ.out.q 3 _ rfl
  have q4 := HZ.out.q 4 _ rfl
  have q5 := HZ.out.q 5 _ rfl
  have yz := HZ.out.yz
  have qz := HZ.out.qz
  have k0 := B.cell_below HZ.out.bl (HK.out 0 _ rfl)
  have k1 := B.cell_below HZ.out.bl (HK.out 1 _ rfl)
  have k2 := B.cell_below HZ.out.bl (HK.out 2 _ rfl)
  have k3 := B.cell_below HZ.out.bl (HK.out 3 _ rfl)
  have k4 := B.cell_below HZ.out.bl (HK.out 4 _ rfl)
  have k5 := B.cell_below HZ.out.bl (HK.out 5 _ rfl)
  simp only [Nat.add_zero] at k0
  go_quiet (fail)
  have HZ2 := Lib.hid (HZ.out.below (B.below_drew (Below.refl W.heap.size W) nq))
  clear y0 y1 y2 y3 y4 y5 q0 q1 q2 q3 q4 q5 yz qz k0 k1 k2 k3 k4 k5
  generalize W.drewN nq = W2 at *
  clear HZ
  have y0 := HZ2.out.y 0 _ rfl
  have y1 := HZ2.out.y 1 _ rfl
  have y2 := HZ2.out.y 2 _ rfl
  have y3 := HZ2.out.y 3 _ rfl
  have y4 := HZ2.out.y 4 _ rfl
  have y5 := HZ2.out.y 5 _ rfl
  have q0 := HZ2.out.q 0 _ rfl
  have q1 := HZ2.out.q 1 _ rfl
  have q2 := HZ2.out.q 2 _ rfl
  have q3 := HZ2.out.q 3 _ rfl
  have q4 := HZ2.out.q 4 _ rfl
  have q5 := HZ2.out.q 5 _ rfl
  have yz := HZ2.out.yz
  have qz := HZ2.out.qz
  have k0 := B.cell_below HZ2.out.bl (HK.out 0 _ rfl)
  have k1 := B.cell_below HZ2.out.bl (HK.out 1 _ rfl)
  have k2 := B.cell_below HZ2.out.bl (HK.out 2 _ rfl)
  have k3 := B.cell_below HZ2.out.bl (HK.out 3 _ rfl)
  have k4 := B.cell_below HZ2.out.bl (HK.out 4 _ rfl)
  have k5 := B.cell_below HZ2.out.bl (HK.out 5 _ rfl)
  simp only [Nat.add_zero] at k0
  go_wp2
  go_region_law (fail)
  all_goals
    go_wp2
    go_simp
    have hrow : ((((((W2.setCell ⟨w.heap.size + 1, 0, none⟩ (.int .i64 k.kind)).setCell ⟨w.heap.size + 1, 1, none⟩ (.string k.item)).setCell ⟨w.heap.size + 1, 2, none⟩ (.int .i64 k.long)).setCell ⟨w.heap.size + 1, 3, none⟩ (.int .i64 k.many)).setCell ⟨w.heap.size + 1, 4, none⟩ (.slice A' k.kids.length d)).setCell ⟨w.heap.size + 1, 5, none⟩ (.slice As' k.shares.length d')).heap[w.heap.size + 1]? = some (.cells #[.int .i64 k.kind, .string k.item, .int .i64 k.long, .int .i64 k.many, .slice A' k.kids.length d, .slice As' k.shares.length d'] 25 (0, 0)) := set6 (a := .int .i64 0) (b := .string ⟨#[]⟩) (c := .int .i64 0) (d := .int .i64 0) (e := .slice none 0 0) (f := .slice none 0 0) (HZ2.out.rw)
    have hbf : Below w.heap.size w ((((((W2.setCell ⟨w.heap.size + 1, 0, none⟩ (.int .i64 k.kind)).setCell ⟨w.heap.size + 1, 1, none⟩ (.string k.item)).setCell ⟨w.heap.size + 1, 2, none⟩ (.int .i64 k.long)).setCell ⟨w.heap.size + 1, 3, none⟩ (.int .i64 k.many)).setCell ⟨w.heap.size + 1, 4, none⟩ (.slice A' k.kids.length d)).setCell ⟨w.heap.size + 1, 5, none⟩ (.slice As' k.shares.length d')) := below6 (HZ2.out.bl) (by omega) _ _ _ _ _ _
    have hff : Fr (fun b => b = w.heap.size + 1) W2 ((((((W2.setCell ⟨w.heap.size + 1, 0, none⟩ (.int .i64 k.kind)).setCell ⟨w.heap.size + 1, 1, none⟩ (.string k.item)).setCell ⟨w.heap.size + 1, 2, none⟩ (.int .i64 k.long)).setCell ⟨w.heap.size + 1, 3, none⟩ (.int .i64 k.many)).setCell ⟨w.heap.size + 1, 4, none⟩ (.slice A' k.kids.length d)).setCell ⟨w.heap.size + 1, 5, none⟩ (.slice As' k.shares.length d')) := fr6 _ _ _ _ _ _ _ _
    generalize ((((((W2.setCell ⟨w.heap.size + 1, 0, none⟩ (.int .i64 k.kind)).setCell ⟨w.heap.size + 1, 1, none⟩ (.string k.item)).setCell ⟨w.heap.size + 1, 2, none⟩ (.int .i64 k.long)).setCell ⟨w.heap.size + 1, 3, none⟩ (.int .i64 k.many)).setCell ⟨w.heap.size + 1, 4, none⟩ (.slice A' k.kids.length d)).setCell ⟨w.heap.size + 1, 5, none⟩ (.slice As' k.shares.length d')) = WF at hrow hbf hff ⊢
    have hbd : Below w.heap.size w WF.drew := B.below_drew hbf 1
    refine bodyPost_ret (T.results_cell_tmp_row rfl _ _ (w.heap.size + 1) 25 #[.int .i64 k.kind, .string k.item, .int .i64 k.long, .int .i64 k.many, .slice A' k.kids.length d, .slice As' k.shares.length d'] (0, 0) _ rfl hrow Tryd.underlying25 rfl (by kernel_rfl)) rfl ?_
    refine ⟨⟨k, A', As', d, d', by rw [← HM1.out]; rfl, LR.weak (R := R) (HAT.out.below hbd) (fun b hb => .inl hb), HM2.out⟩, hbd⟩
set_option maxHeartbeats 4000000 in
set_option maxRecDepth 100000 in
theorem chg_repo {R : Nat → Prop} (x : Lp) (A As : Option Addr) (c c' : Nat) (w : World) (h : LR R w x A As) (hv : Vd x) (h5 : x.kind = 5) (k : Lp) (ks : List Lp) (hks : x.kids = k :: ks) (h6 : k.kind ≠ 5) :
    Calls Tryd.prog 36 #[lv x A As c c'] w fun e w' => (ChRes R w.heap.size x e w') ∧ Below w.heap.size w w' := by
  have HH := Lib.hid h
  have HC := Lib.hid (ch_rep h5 hks (fun h => h6 h.1))
  have hv5 := (T.own_ok hv.own).2.2.2.1 h5
  have hvk : k.kind = 5 → 1 ≤ k.many ∧ k.many ≤ 100 := fun e => ((T.own_ok (hv.kid (show k ∈ x.kids from by rw [hks]; exact List.mem_cons_self)).own).2.2.2.1 e).2
  have hb1 : (x.kind == 1) = false := by rw [h5]; rfl
  have hb5 : (x.kind == 5) = true := by rw [h5]; rfl
  have hk0 : 0 < x.kids.length := by rw [hks]; simp
  have hki : x.kids[0] = k := by simp [hks]
  obtain ⟨b, off, A', As', d, d', rfl, -, e1, hat⟩ := h.kids.at 0 hk0
  rw [hki] at e1 hat
  have HAT := Lib.hid hat
  have HK : Hid (∀ i u, (row k A' As' d d')[i]? = some u → w.cell? ⟨b, off + i, none⟩ = some u) := Lib.hid (fun i u hu => by have := e1 i u hu; simpa using this)
  have hkl : (0 : Int) < x.kids.length := by omega
  have hnz : ¬ x.kids = [] := fun e => by rw [e] at hk0; simp at hk0
  have HM1 : Hid ((x.many == 1) = (ch x).isSome) := Lib.hid (by rw [HC.out]; by_cases e : x.many = 1 <;> simp [e])
  have HM2 : Hid (∀ z, ch x = some z → k = z) := Lib.hid (fun z hz => by rw [HC.out] at hz; split at hz <;> cases hz; rfl)
  have hb6 : (k.kind == 5) = false := by rw [beq_eq_false_iff_ne]; exact h6
  clear h hv hki hks hat e1 h5 hvk h6 hv5 HC
  unfold lv
  go_enter Tryd.func36, Tryd.ntmps36
  go_wp2
  have HZ := Lib.hid (@Bz.new w x (some ⟨b, off, none⟩) As c c')
  generalize (w.alloc (.cells #[.int .i64 x.kind, .string x.item, .int .i64 x.long, .int .i64 x.many, .slice (some ⟨b, off, none⟩) x.kids.length c, .slice As x.shares.length c'] 25)).alloc (.cells #[.int .i64 0, .string ⟨#[]⟩, .int .i64 0, .int .i64 0, .slice none 0 0, .slice none 0 0] 25) = W at *
  have y0 := HZ.out.y 0 _ rfl
  have y1 := HZ.out.y 1 _ rfl
  have y2 := HZ.out.y 2 _ rfl
  have y3 := HZ.out.y 3 _ rfl
  have y4 := HZ.out.y 4 _ rfl
  have y5 := HZ.out.y 5 _ rfl
  have q0 := HZ.out.q 0 _ rfl
  have q1 := HZ.out.q 1 _ rfl
  have q2 := HZ.out.q 2 _ rfl
  have q3 := HZ.out.q 3 _ rfl
  have q4 := HZ.out.q 4 _ rfl
  have q5 := HZ.out.q 5 _ rfl
  have yz := HZ.out.yz
  have qz := HZ.out.qz
  have k0 := B.cell_below HZ.out.bl (HK.out 0 _ rfl)
  have k1 := B.cell_below HZ.out.bl (HK.out 1 _ rfl)
  have k2 := B.cell_below HZ.out.bl (HK.out 2 _ rfl)
  have k3 := B.cell_below HZ.out.bl (HK.out 3 _ rfl)
  have k4 := B.cell_below HZ.out.bl (HK.out 4 _ rfl)
  have k5 := B.cell_below HZ.out.bl (HK.out 5 _ rfl)
  simp only [Nat.add_zero] at k0
  go_quiet (fail)
  have HZ2 := Lib.hid (HZ.out.below (B.below_drew (Below.refl W.heap.size W) nq))
  clear y0 y1 y2 y3 y4 y5 q0 q1 q2 q3 q4 q5 yz qz k0 k1 k2 k3 k4 k5
  generalize W.drewN nq = W2 at *
  clear HZ
  have y0 := HZ2.out.y 0 _ rfl
  have y1 := HZ2.out.y 1 _ rfl
  have y2 := HZ2.out.y 2 _ rfl
  have y3 := HZ2.out.y 3 _ rfl
  have y4 := HZ2.out.y 4 _ rfl
  have y5 := HZ2.out.y 5 _ rfl
  have q0 := HZ2.out.q 0 _ rfl
  have q1 := HZ2.out.q 1 _ rfl
  have q2 := HZ2.out.q 2 _ rfl
  have q3 := HZ2.out.q 3 _ rfl
  have q4 := HZ2.out.q 4 _ rfl
  have q5 := HZ2.out.q 5 _ rfl
  have yz := HZ2.out.yz
  have qz := HZ2.out.qz
  have k0 := B.cell_below HZ2.out.bl (HK.out 0 _ rfl)
  have k1 := B.cell_below HZ2.out.bl (HK.out 1 _ rfl)
  have k2 := B.cell_below HZ2.out.bl (HK.out 2 _ rfl)
  have k3 := B.cell_below HZ2.out.bl (HK.out 3 _ rfl)
  have k4 := B.cell_below HZ2.out.bl (HK.out 4 _ rfl)
  have k5 := B.cell_below HZ2.out.bl (HK.out 5 _ rfl)
  simp only [Nat.add_zero] at k0
  go_wp2
  go_region_law (fail)
  all_goals
    go_wp2
    go_simp
    have hrow : ((((((W2.setCell ⟨w.heap.size + 1, 0, none⟩ (.int .i64 k.kind)).setCell ⟨w.heap.size + 1, 1, none⟩ (.string k.item)).setCell ⟨w.heap.size + 1, 2, none⟩ (.int .i64 k.long)).setCell ⟨w.heap.size + 1, 3, none⟩ (.int .i64 k.many)).setCell ⟨w.heap.size + 1, 4, none⟩ (.slice A' k.kids.length d)).setCell ⟨w.heap.size + 1, 5, none⟩ (.slice As' k.shares.length d')).heap[w.heap.size + 1]? = some (.cells #[.int .i64 k.kind, .string k.item, .int .i64 k.long, .int .i64 k.many, .slice A' k.kids.length d, .slice As' k.shares.length d'] 25 (0, 0)) := set6 (a := .int .i64 0) (b := .string ⟨#[]⟩) (c := .int .i64 0) (d := .int .i64 0) (e := .slice none 0 0) (f := .slice none 0 0) (HZ2.out.rw)
    have hbf : Below w.heap.size w ((((((W2.setCell ⟨w.heap.size + 1, 0, none⟩ (.int .i64 k.kind)).setCell ⟨w.heap.size + 1, 1, none⟩ (.string k.item)).setCell ⟨w.heap.size + 1, 2, none⟩ (.int .i64 k.long)).setCell ⟨w.heap.size + 1, 3, none⟩ (.int .i64 k.many)).setCell ⟨w.heap.size + 1, 4, none⟩ (.slice A' k.kids.length d)).setCell ⟨w.heap.size + 1, 5, none⟩ (.slice As' k.shares.length d')) := below6 (HZ2.out.bl) (by omega) _ _ _ _ _ _
    have hff : Fr (fun b => b = w.heap.size + 1) W2 ((((((W2.setCell ⟨w.heap.size + 1, 0, none⟩ (.int .i64 k.kind)).setCell ⟨w.heap.size + 1, 1, none⟩ (.string k.item)).setCell ⟨w.heap.size + 1, 2, none⟩ (.int .i64 k.long)).setCell ⟨w.heap.size + 1, 3, none⟩ (.int .i64 k.many)).setCell ⟨w.heap.size + 1, 4, none⟩ (.slice A' k.kids.length d)).setCell ⟨w.heap.size + 1, 5, none⟩ (.slice As' k.shares.length d')) := fr6 _ _ _ _ _ _ _ _
    generalize ((((((W2.setCell ⟨w.heap.size + 1, 0, none⟩ (.int .i64 k.kind)).setCell ⟨w.heap.size + 1, 1, none⟩ (.string k.item)).setCell ⟨w.heap.size + 1, 2, none⟩ (.int .i64 k.long)).setCell ⟨w.heap.size + 1, 3, none⟩ (.int .i64 k.many)).setCell ⟨w.heap.size + 1, 4, none⟩ (.slice A' k.kids.length d)).setCell ⟨w.heap.size + 1, 5, none⟩ (.slice As' k.shares.length d')) = WF at hrow hbf hff ⊢
    have hbd : Below w.heap.size w WF.drew := B.below_drew hbf 1
    refine bodyPost_ret (T.results_cell_tmp_row rfl _ _ (w.heap.size + 1) 25 #[.int .i64 k.kind, .string k.item, .int .i64 k.long, .int .i64 k.many, .slice A' k.kids.length d, .slice As' k.shares.length d'] (0, 0) _ rfl hrow Tryd.underlying25 rfl (by kernel_rfl)) rfl ?_
    refine ⟨⟨k, A', As', d, d', by rw [← HM1.out]; rfl, LR.weak (R := R) (HAT.out.below hbd) (fun b hb => .inl hb), HM2.out⟩, hbd⟩
set_option maxHeartbeats 4000000 in
set_option maxRecDepth 100000 in
theorem chg_mul {R : Nat → Prop} (x : Lp) (A As : Option Addr) (c c' : Nat) (w : World) (h : LR R w x A As) (hv : Vd x) (h5 : x.kind = 5) (k : Lp) (ks : List Lp) (hks : x.kids = k :: ks) (h6 : k.kind = 5) (hm : x.many * k.many ≤ 100) :
    Calls Tryd.prog 36 #[lv x A As c c'] w fun e w' => (ChRes R w.heap.size x e w') ∧ Below w.heap.size w w' := by
  have HH := Lib.hid h
  have HC := Lib.hid (ch_mul h5 hks ⟨h6, hm⟩)
  have hv5 := (T.own_ok hv.own).2.2.2.1 h5
  have hv6 := ((T.own_ok (hv.kid (show k ∈ x.kids from by rw [hks]; exact List.mem_cons_self)).own).2.2.2.1 h6).2
  have hb1 : (x.kind == 1) = false := by rw [h5]; rfl
  have hb5 : (x.kind == 5) = true := by rw [h5]; rfl
  have hb6 : (k.kind == 5) = true := by rw [h6]; rfl
  have hk0 : 0 < x.kids.length := by rw [hks]; simp
  have hki : x.kids[0] = k := by simp [hks]
  obtain ⟨b, off, A', As', d, d', rfl, -, e1, hat⟩ := h.kids.at 0 hk0
  rw [hki] at e1 hat
  have HAT := Lib.hid hat
  have HK : Hid (∀ i u, (row k A' As' d d')[i]? = some u → w.cell? ⟨b, off + i, none⟩ = some u) := Lib.hid (fun i u hu => by have := e1 i u hu; simpa using this)
  have hkl : (0 : Int) < x.kids.length := by omega
  have hnz : ¬ x.kids = [] := fun e => by rw [e] at hk0; simp at hk0
  have hp1 : 0 ≤ x.many * k.many := Int.mul_nonneg (by omega) (by omega)
  have hw : IntKind.i64.wrap (x.many * k.many) = x.many * k.many := by rw [IntKind.wrap_i64]; omega
  have hd2 : decide (x.many * k.many ≤ 100) = true := decide_eq_true hm
  have HML := Lib.hid (fun W (hb : Below w.heap.size w W) => lr_mul (hat.below hb) hp1 hm)
  clear h hv hki hks hat e1 h5 h6 hv5 hv6 hm hp1
  unfold lv
  go_enter Tryd.func36, Tryd.ntmps36
  go_wp2
  have HZ := Lib.hid (@Bz.new w x (some ⟨b, off, none⟩) As c c')
  generalize (w.alloc (.cells #[.int .i64 x.kind, .string x.item, .int .i64 x.long, .int .i64 x.many, .slice (some ⟨b, off, none⟩) x.kids.length c, .slice As x.shares.length c'] 25)).alloc (.cells #[.int .i64 0, .string ⟨#[]⟩, .int .i64 0, .int .i64 0, .slice none 0 0, .slice none 0 0] 25) = W at *
  have y0 := HZ.out.y 0 _ rfl
  have y1 := HZ.out.y 1 _ rfl
  have y2 := HZ.out.y 2 _ rfl
  have y3 := HZ.out.y 3 _ rfl
  have y4 := HZ.out.y 4 _ rfl
  have y5 := HZ.out.y 5 _ rfl
  have q0 := HZ.out.q 0 _ rfl
  have q1 := HZ.out.q 1 _ rfl
  have q2 := HZ.out.q 2 _ rfl
  have q3 := HZ.out.q 3 _ rfl
  have q4 := HZ.out.q 4 _ rfl
  have q5 := HZ.out.q 5 _ rfl
  have yz := HZ.out.yz
  have qz := HZ.out.qz
  have k0 := B.cell_below HZ.out.bl (HK.out 0 _ rfl)
  have k1 := B.cell_below HZ.out.bl (HK.out 1 _ rfl)
  have k2 := B.cell_below HZ.out.bl (HK.out 2 _ rfl)
  have k3 := B.cell_below HZ.out.bl (HK.out 3 _ rfl)
  have k4 := B.cell_below HZ.out.bl (HK.out 4 _ rfl)
  have k5 := B.cell_below HZ.out.bl (HK.out 5 _ rfl)
  simp only [Nat.add_zero] at k0
  go_quiet (fail)
  have HZ2 := Lib.hid (HZ.out.below (B.below_drew (Below.refl W.heap.size W) nq))
  clear y0 y1 y2 y3 y4 y5 q0 q1 q2 q3 q4 q5 yz qz k0 k1 k2 k3 k4 k5
  generalize W.drewN nq = W2 at *
  clear HZ
  have y0 := HZ2.out.y 0 _ rfl
  have y1 := HZ2.out.y 1 _ rfl
  have y2 := HZ2.out.y 2 _ rfl
  have y3 := HZ2.out.y 3 _ rfl
  have y4 := HZ2.out.y 4 _ rfl
  have y5 := HZ2.out.y 5 _ rfl
  have q0 := HZ2.out.q 0 _ rfl
  have q1 := HZ2.out.q 1 _ rfl
  have q2 := HZ2.out.q 2 _ rfl
  have q3 := HZ2.out.q 3 _ rfl
  have q4 := HZ2.out.q 4 _ rfl
  have q5 := HZ2.out.q 5 _ rfl
  have yz := HZ2.out.yz
  have qz := HZ2.out.qz
  have k0 := B.cell_below HZ2.out.bl (HK.out 0 _ rfl)
  have k1 := B.cell_below HZ2.out.bl (HK.out 1 _ rfl)
  have k2 := B.cell_below HZ2.out.bl (HK.out 2 _ rfl)
  have k3 := B.cell_below HZ2.out.bl (HK.out 3 _ rfl)
  have k4 := B.cell_below HZ2.out.bl (HK.out 4 _ rfl)
  have k5 := B.cell_below HZ2.out.bl (HK.out 5 _ rfl)
  simp only [Nat.add_zero] at k0
  go_wp2
  go_region_law (fail)
  all_goals
    go_wp2
    go_simp
    have hrow : ((((((W2.setCell ⟨w.heap.size + 1, 0, none⟩ (.int .i64 5)).setCell ⟨w.heap.size + 1, 1, none⟩ (.string ⟨#[]⟩)).setCell ⟨w.heap.size + 1, 2, none⟩ (.int .i64 0)).setCell ⟨w.heap.size + 1, 3, none⟩ (.int .i64 (x.many * k.many))).setCell ⟨w.heap.size + 1, 4, none⟩ (.slice A' k.kids.length d)).setCell ⟨w.heap.size + 1, 5, none⟩ (.slice none 0 0)).heap[w.heap.size + 1]? = some (.cells #[.int .i64 5, .string ⟨#[]⟩, .int .i64 0, .int .i64 (x.many * k.many), .slice A' k.kids.length d, .slice none 0 0] 25 (0, 0)) := set6 (a := .int .i64 0) (b := .string ⟨#[]⟩) (c := .int .i64 0) (d := .int .i64 0) (e := .slice none 0 0) (f := .slice none 0 0) (HZ2.out.rw)
    have hbf : Below w.heap.size w ((((((W2.setCell ⟨w.heap.size + 1, 0, none⟩ (.int .i64 5)).setCell ⟨w.heap.size + 1, 1, none⟩ (.string ⟨#[]⟩)).setCell ⟨w.heap.size + 1, 2, none⟩ (.int .i64 0)).setCell ⟨w.heap.size + 1, 3, none⟩ (.int .i64 (x.many * k.many))).setCell ⟨w.heap.size + 1, 4, none⟩ (.slice A' k.kids.length d)).setCell ⟨w.heap.size + 1, 5, none⟩ (.slice none 0 0)) := below6 (HZ2.out.bl) (by omega) _ _ _ _ _ _
    have hff : Fr (fun b => b = w.heap.size + 1) W2 ((((((W2.setCell ⟨w.heap.size + 1, 0, none⟩ (.int .i64 5)).setCell ⟨w.heap.size + 1, 1, none⟩ (.string ⟨#[]⟩)).setCell ⟨w.heap.size + 1, 2, none⟩ (.int .i64 0)).setCell ⟨w.heap.size + 1, 3, none⟩ (.int .i64 (x.many * k.many))).setCell ⟨w.heap.size + 1, 4, none⟩ (.slice A' k.kids.length d)).setCell ⟨w.heap.size + 1, 5, none⟩ (.slice none 0 0)) := fr6 _ _ _ _ _ _ _ _
    generalize ((((((W2.setCell ⟨w.heap.size + 1, 0, none⟩ (.int .i64 5)).setCell ⟨w.heap.size + 1, 1, none⟩ (.string ⟨#[]⟩)).setCell ⟨w.heap.size + 1, 2, none⟩ (.int .i64 0)).setCell ⟨w.heap.size + 1, 3, none⟩ (.int .i64 (x.many * k.many))).setCell ⟨w.heap.size + 1, 4, none⟩ (.slice A' k.kids.length d)).setCell ⟨w.heap.size + 1, 5, none⟩ (.slice none 0 0)) = WF at hrow hbf hff ⊢
    have hbd : Below w.heap.size w WF.drew := B.below_drew hbf 1
    refine bodyPost_ret (T.results_cell_tmp_row rfl _ _ (w.heap.size + 1) 25 #[.int .i64 5, .string ⟨#[]⟩, .int .i64 0, .int .i64 (x.many * k.many), .slice A' k.kids.length d, .slice none 0 0] (0, 0) _ rfl hrow Tryd.underlying25 rfl (by kernel_rfl)) rfl ?_
    refine ⟨⟨_, A', none, d, 0, by rw [HC.out]; rfl, LR.weak (R := R) (HML.out _ hbd) (fun b hb => .inl hb), fun z hz => by rw [HC.out] at hz; cases hz; rfl⟩, hbd⟩
set_option maxHeartbeats 4000000 in
set_option maxRecDepth 100000 in
theorem chg_one {R : Nat → Prop} (x : Lp) (A As : Option Addr) (c c' : Nat) (w : World) (h : LR R w x A As) (h1 : x.kind ≠ 1) (h5 : x.kind ≠ 5) (k : Lp) (hks : x.kids = [k]) :
    Calls Tryd.prog 36 #[lv x A As c c'] w fun e w' => (ChRes R w.heap.size x e w') ∧ Below w.heap.size w w' := by
  have HH := Lib.hid h
  have HC := Lib.hid (ch_one h1 h5 hks)
  have hb1 : (x.kind == 1) = false := by rw [beq_eq_false_iff_ne]; exact h1
  have hb5 : (x.kind == 5) = false := by rw [beq_eq_false_iff_ne]; exact h5
  have hlen : ((x.kids.length : Int) == 1) = true := by rw [hks]; rfl
  have hk0 : 0 < x.kids.length := by rw [hks]; simp
  have hki : x.kids[0] = k := by simp [hks]
  obtain ⟨b, off, A', As', d, d', rfl, -, e1, hat⟩ := h.kids.at 0 hk0
  rw [hki] at e1 hat
  have HAT := Lib.hid hat
  have HK : Hid (∀ i u, (row k A' As' d d')[i]? = some u → w.cell? ⟨b, off + i, none⟩ = some u) := Lib.hid (fun i u hu => by have := e1 i u hu; simpa using this)
  have hkl : (0 : Int) < x.kids.length := by omega
  have hnz : ¬ x.kids = [] := fun e => by rw [e] at hk0; simp at hk0
  clear h hki hks hat e1 h1 h5
  unfold lv
  go_enter Tryd.func36, Tryd.ntmps36
  go_wp2
  have HZ := Lib.hid (@Bz.new w x (some ⟨b, off, none⟩) As c c')
  generalize (w.alloc (.cells #[.int .i64 x.kind, .string x.item, .int .i64 x.long, .int .i64 x.many, .slice (some ⟨b, off, none⟩) x.kids.length c, .slice As x.shares.length c'] 25)).alloc (.cells #[.int .i64 0, .string ⟨#[]⟩, .int .i64 0, .int .i64 0, .slice none 0 0, .slice none 0 0] 25) = W at *
  have y0 := HZ.out.y 0 _ rfl
  have y1 := HZ.out.y 1 _ rfl
  have y2 := HZ.out.y 2 _ rfl
  have y3 := HZ.out.y 3 _ rfl
  have y4 := HZ.out.y 4 _ rfl
  have y5 := HZ.out.y 5 _ rfl
  have q0 := HZ.out.q 0 _ rfl
  have q1 := HZ.out.q 1 _ rfl
  have q2 := HZ.out.q 2 _ rfl
  have q3 := HZ.out.q 3 _ rfl
  have q4 := HZ.out.q 4 _ rfl
  have q5 := HZ.out.q 5 _ rfl
  have yz := HZ.out.yz
  have qz := HZ.out.qz
  have k0 := B.cell_below HZ.out.bl (HK.out 0 _ rfl)
  have k1 := B.cell_below HZ.out.bl (HK.out 1 _ rfl)
  have k2 := B.cell_below HZ.out.bl (HK.out 2 _ rfl)
  have k3 := B.cell_below HZ.out.bl (HK.out 3 _ rfl)
  have k4 := B.cell_below HZ.out.bl (HK.out 4 _ rfl)
  have k5 := B.cell_below HZ.out.bl (HK.out 5 _ rfl)
  simp only [Nat.add_zero] at k0
  go_quiet (fail)
  have HZ2 := Lib.hid (HZ.out.below (B.below_drew (Below.refl W.heap.size W) nq))
  clear y0 y1 y2 y3 y4 y5 q0 q1 q2 q3 q4 q5 yz qz k0 k1 k2 k3 k4 k5
  generalize W.drewN nq = W2 at *
  clear HZ
  have y0 := HZ2.out.y 0 _ rfl
  have y1 := HZ2.out.y 1 _ rfl
  have y2 := HZ2.out.y 2 _ rfl
  have y3 := HZ2.out.y 3 _ rfl
  have y4 := HZ2.out.y 4 _ rfl
  have y5 := HZ2.out.y 5 _ rfl
  have q0 := HZ2.out.q 0 _ rfl
  have q1 := HZ2.out.q 1 _ rfl
  have q2 := HZ2.out.q 2 _ rfl
  have q3 := HZ2.out.q 3 _ rfl
  have q4 := HZ2.out.q 4 _ rfl
  have q5 := HZ2.out.q 5 _ rfl
  have yz := HZ2.out.yz
  have qz := HZ2.out.qz
  have k0 := B.cell_below HZ2.out.bl (HK.out 0 _ rfl)
  have k1 := B.cell_below HZ2.out.bl (HK.out 1 _ rfl)
  have k2 := B.cell_below HZ2.out.bl (HK.out 2 _ rfl)
  have k3 := B.cell_below HZ2.out.bl (HK.out 3 _ rfl)
  have k4 := B.cell_below HZ2.out.bl (HK.out 4 _ rfl)
  have k5 := B.cell_below HZ2.out.bl (HK.out 5 _ rfl)
  simp only [Nat.add_zero] at k0
  go_wp2
  go_simp
  have hrow : ((((((W2.setCell ⟨w.heap.size + 1, 0, none⟩ (.int .i64 k.kind)).setCell ⟨w.heap.size + 1, 1, none⟩ (.string k.item)).setCell ⟨w.heap.size + 1, 2, none⟩ (.int .i64 k.long)).setCell ⟨w.heap.size + 1, 3, none⟩ (.int .i64 k.many)).setCell ⟨w.heap.size + 1, 4, none⟩ (.slice A' k.kids.length d)).setCell ⟨w.heap.size + 1, 5, none⟩ (.slice As' k.shares.length d')).heap[w.heap.size + 1]? = some (.cells #[.int .i64 k.kind, .string k.item, .int .i64 k.long, .int .i64 k.many, .slice A' k.kids.length d, .slice As' k.shares.length d'] 25 (0, 0)) := set6 (a := .int .i64 0) (b := .string ⟨#[]⟩) (c := .int .i64 0) (d := .int .i64 0) (e := .slice none 0 0) (f := .slice none 0 0) (HZ2.out.rw)
  have hbf : Below w.heap.size w ((((((W2.setCell ⟨w.heap.size + 1, 0, none⟩ (.int .i64 k.kind)).setCell ⟨w.heap.size + 1, 1, none⟩ (.string k.item)).setCell ⟨w.heap.size + 1, 2, none⟩ (.int .i64 k.long)).setCell ⟨w.heap.size + 1, 3, none⟩ (.int .i64 k.many)).setCell ⟨w.heap.size + 1, 4, none⟩ (.slice A' k.kids.length d)).setCell ⟨w.heap.size + 1, 5, none⟩ (.slice As' k.shares.length d')) := below6 (HZ2.out.bl) (by omega) _ _ _ _ _ _
  have hff : Fr (fun b => b = w.heap.size + 1) W2 ((((((W2.setCell ⟨w.heap.size + 1, 0, none⟩ (.int .i64 k.kind)).setCell ⟨w.heap.size + 1, 1, none⟩ (.string k.item)).setCell ⟨w.heap.size + 1, 2, none⟩ (.int .i64 k.long)).setCell ⟨w.heap.size + 1, 3, none⟩ (.int .i64 k.many)).setCell ⟨w.heap.size + 1, 4, none⟩ (.slice A' k.kids.length d)).setCell ⟨w.heap.size + 1, 5, none⟩ (.slice As' k.shares.length d')) := fr6 _ _ _ _ _ _ _ _
  generalize ((((((W2.setCell ⟨w.heap.size + 1, 0, none⟩ (.int .i64 k.kind)).setCell ⟨w.heap.size + 1, 1, none⟩ (.string k.item)).setCell ⟨w.heap.size + 1, 2, none⟩ (.int .i64 k.long)).setCell ⟨w.heap.size + 1, 3, none⟩ (.int .i64 k.many)).setCell ⟨w.heap.size + 1, 4, none⟩ (.slice A' k.kids.length d)).setCell ⟨w.heap.size + 1, 5, none⟩ (.slice As' k.shares.length d')) = WF at hrow hbf hff ⊢
  have hbd : Below w.heap.size w WF := hbf
  refine bodyPost_ret (T.results_cell_tmp_row rfl _ _ (w.heap.size + 1) 25 #[.int .i64 k.kind, .string k.item, .int .i64 k.long, .int .i64 k.many, .slice A' k.kids.length d, .slice As' k.shares.length d'] (0, 0) _ rfl hrow Tryd.underlying25 rfl (by kernel_rfl)) rfl ?_
  refine ⟨⟨k, A', As', d, d', by rw [HC.out]; rfl, LR.weak (R := R) (HAT.out.below hbd) (fun b hb => .inl hb), fun z hz => by rw [HC.out] at hz; cases hz; rfl⟩, hbd⟩
set_option maxHeartbeats 4000000 in
set_option maxRecDepth 100000 in
theorem chg_row {R : Nat → Prop} (x : Lp) (A As : Option Addr) (c c' : Nat) (w : World) (h : LR R w x A As) (hv : Vd x) (h2 : x.kind = 2) (hl : 1 < x.kids.length) (hR : ∀ b, R b → b < w.heap.size) (hp : partsL x.kids ≤ 200) :
    Calls Tryd.prog 36 #[lv x A As c c'] w fun e w' => (ChRes R w.heap.size x e w') ∧ Below w.heap.size w w' := by
  have HH := Lib.hid h
  have HC := Lib.hid (ch_row h2 hl)
  have HRR := Lib.hid hR
  have hb1 : (x.kind == 1) = false := by rw [h2]; rfl
  have hb2 : (x.kind == 2) = true := by rw [h2]; rfl
  have hb5 : (x.kind == 5) = false := by rw [h2]; rfl
  have hlen : ((x.kids.length : Int) == 1) = false := by rw [beq_eq_false_iff_ne]; omega
  have HF := Lib.hid (fun (W : World) (hb : Below w.heap.size w W) => gathered_any (R := R) x.kids A c W (h.kids.below hb) (fun b hb2 => by have := hR b hb2; have := hb.size; omega) (fun y hy => hv.kid hy) hp)
  have HE := Lib.hid (fun (W : World) (A3 : Option Addr) (d3 : Nat) (R' : Nat → Prop) (hb : Below w.heap.size w W) (hS : SR R' W A3 (gath x.kids)) => eqAll (gath x.kids) x.kids A3 A d3 c W hS (h.kids.below hb))
  have HD : Hid ((!decide (gath x.kids = x.kids)) = (ch x).isSome ∧ ∀ z, ch x = some z → rowL (gath x.kids) = z) := Lib.hid (by rw [HC.out]; by_cases e : gath x.kids = x.kids <;> simp [e])
  generalize hgg : gath x.kids = GG at *
  have HGG := Lib.hid hgg
  clear h hv h2 hl hR hp hgg
  unfold lv
  go_enter Tryd.func36, Tryd.ntmps36
  go_wp2
  have HZ := Lib.hid (@Bz.new w x A As c c')
  generalize (w.alloc (.cells #[.int .i64 x.kind, .string x.item, .int .i64 x.long, .int .i64 x.many, .slice A x.kids.length c, .slice As x.shares.length c'] 25)).alloc (.cells #[.int .i64 0, .string ⟨#[]⟩, .int .i64 0, .int .i64 0, .slice none 0 0, .slice none 0 0] 25) = W at *
  have y0 := HZ.out.y 0 _ rfl
  have y1 := HZ.out.y 1 _ rfl
  have y2 := HZ.out.y 2 _ rfl
  have y3 := HZ.out.y 3 _ rfl
  have y4 := HZ.out.y 4 _ rfl
  have y5 := HZ.out.y 5 _ rfl
  have q0 := HZ.out.q 0 _ rfl
  have q1 := HZ.out.q 1 _ rfl
  have q2 := HZ.out.q 2 _ rfl
  have q3 := HZ.out.q 3 _ rfl
  have q4 := HZ.out.q 4 _ rfl
  have q5 := HZ.out.q 5 _ rfl
  have yz := HZ.out.yz
  have qz := HZ.out.qz
  go_quiet (fail)
  have HZ2 := Lib.hid (HZ.out.below (B.below_drew (Below.refl W.heap.size W) nq))
  clear y0 y1 y2 y3 y4 y5 q0 q1 q2 q3 q4 q5 yz qz
  generalize W.drewN nq = W2 at *
  clear HZ
  have y0 := HZ2.out.y 0 _ rfl
  have y1 := HZ2.out.y 1 _ rfl
  have y2 := HZ2.out.y 2 _ rfl
  have y3 := HZ2.out.y 3 _ rfl
  have y4 := HZ2.out.y 4 _ rfl
  have y5 := HZ2.out.y 5 _ rfl
  have q0 := HZ2.out.q 0 _ rfl
  have q1 := HZ2.out.q 1 _ rfl
  have q2 := HZ2.out.q 2 _ rfl
  have q3 := HZ2.out.q 3 _ rfl
  have q4 := HZ2.out.q 4 _ rfl
  have q5 := HZ2.out.q 5 _ rfl
  have yz := HZ2.out.yz
  have qz := HZ2.out.qz
  have cg := HF.out W2 HZ2.out.bl
  have hs2 := HZ2.out.sz
  go_wp2_with (first
    | (go_at_call 57; refine cg.mono ?_; rintro e w5 ⟨⟨A3, d3, rfl, hS5⟩, hB5⟩; have HS5 := Lib.hid hS5; have HB5 := Lib.hid hB5; have HZ5 := Lib.hid (HZ2.out.below hB5); clear hS5 hB5; have u4 := HZ5.out.y 4 _ rfl; have ce := HE.out w5 A3 d3 _ HZ5.out.bl HS5.out)
    | (go_at_call 24; refine ce.mono ?_; rintro e w6 ⟨rfl, hB6⟩; have HB6 := Lib.hid hB6; have HZ6 := Lib.hid (HZ5.out.below hB6); clear hB6; have v0 := HZ6.out.q 0 _ rfl; have v1 := HZ6.out.q 1 _ rfl; have v2 := HZ6.out.q 2 _ rfl; have v3 := HZ6.out.q 3 _ rfl; have v4 := HZ6.out.q 4 _ rfl; have v5 := HZ6.out.q 5 _ rfl; have vz := HZ6.out.qz))
  go_simp
  have hrow : ((((((w6.setCell ⟨w.heap.size + 1, 0, none⟩ (.int .i64 2)).setCell ⟨w.heap.size + 1, 1, none⟩ (.string ⟨#[]⟩)).setCell ⟨w.heap.size + 1, 2, none⟩ (.int .i64 0)).setCell ⟨w.heap.size + 1, 3, none⟩ (.int .i64 0)).setCell ⟨w.heap.size + 1, 4, none⟩ (.slice A3 GG.length d3)).setCell ⟨w.heap.size + 1, 5, none⟩ (.slice none 0 0)).heap[w.heap.size + 1]? = some (.cells #[.int .i64 2, .string ⟨#[]⟩, .int .i64 0, .int .i64 0, .slice A3 GG.length d3, .slice none 0 0] 25 (0, 0)) := set6 (a := .int .i64 0) (b := .string ⟨#[]⟩) (c := .int .i64 0) (d := .int .i64 0) (e := .slice none 0 0) (f := .slice none 0 0) (HZ6.out.rw)
  have hbf : Below w.heap.size w ((((((w6.setCell ⟨w.heap.size + 1, 0, none⟩ (.int .i64 2)).setCell ⟨w.heap.size + 1, 1, none⟩ (.string ⟨#[]⟩)).setCell ⟨w.heap.size + 1, 2, none⟩ (.int .i64 0)).setCell ⟨w.heap.size + 1, 3, none⟩ (.int .i64 0)).setCell ⟨w.heap.size + 1, 4, none⟩ (.slice A3 GG.length d3)).setCell ⟨w.heap.size + 1, 5, none⟩ (.slice none 0 0)) := below6 (HZ6.out.bl) (by omega) _ _ _ _ _ _
  have hff : Fr (fun b => b = w.heap.size + 1) w6 ((((((w6.setCell ⟨w.heap.size + 1, 0, none⟩ (.int .i64 2)).setCell ⟨w.heap.size + 1, 1, none⟩ (.string ⟨#[]⟩)).setCell ⟨w.heap.size + 1, 2, none⟩ (.int .i64 0)).setCell ⟨w.heap.size + 1, 3, none⟩ (.int .i64 0)).setCell ⟨w.heap.size + 1, 4, none⟩ (.slice A3 GG.length d3)).setCell ⟨w.heap.size + 1, 5, none⟩ (.slice none 0 0)) := fr6 _ _ _ _ _ _ _ _
  generalize ((((((w6.setCell ⟨w.heap.size + 1, 0, none⟩ (.int .i64 2)).setCell ⟨w.heap.size + 1, 1, none⟩ (.string ⟨#[]⟩)).setCell ⟨w.heap.size + 1, 2, none⟩ (.int .i64 0)).setCell ⟨w.heap.size + 1, 3, none⟩ (.int .i64 0)).setCell ⟨w.heap.size + 1, 4, none⟩ (.slice A3 GG.length d3)).setCell ⟨w.heap.size + 1, 5, none⟩ (.slice none 0 0)) = WF at hrow hbf hff ⊢
  have hbd : Below w.heap.size w WF := hbf
  refine bodyPost_ret (T.results_cell_tmp_row rfl _ _ (w.heap.size + 1) 25 #[.int .i64 2, .string ⟨#[]⟩, .int .i64 0, .int .i64 0, .slice A3 GG.length d3, .slice none 0 0] (0, 0) _ rfl hrow Tryd.underlying25 rfl (by kernel_rfl)) rfl ?_
  refine ⟨⟨rowL GG, A3, none, d3, 0, by rw [← HD.out.1]; rfl, lr_row ((HS5.out.below HB6.out).fr hff (fun b hb e => ?_) (fun b hb => rn_fr ((Fr.of_below (S := fun b => b = w.heap.size + 1) HB6.out).trans hff (fun _ _ h => h)) (by omega) (fun b hb e => by omega) b hb)), HD.out.2⟩, hbd⟩
  rcases hb with hb | hb
  · have := HRR.out b hb; omega
  · omega
set_option maxHeartbeats 4000000 in
set_option maxRecDepth 100000 in
theorem chg_turn {R : Nat → Prop} (x : Lp) (A As : Option Addr) (c c' : Nat) (w : World) (h : LR R w x A As) (h3 : x.kind = 3) (hl : 1 < x.kids.length) (k : Lp) (ks : List Lp) (hks : x.kids = k :: ks) :
    Calls Tryd.prog 36 #[lv x A As c c'] w fun e w' => (ChRes R w.heap.size x e w') ∧ Below w.heap.size w w' := by
  have HH := Lib.hid h
  have HC := Lib.hid (ch_turn h3 hks hl)
  have hb1 : (x.kind == 1) = false := by rw [h3]; rfl
  have hb2 : (x.kind == 2) = false := by rw [h3]; rfl
  have hb4 : (x.kind == 4) = false := by rw [h3]; rfl
  have hb5 : (x.kind == 5) = false := by rw [h3]; rfl
  have hlen : ((x.kids.length : Int) == 1) = false := by rw [beq_eq_false_iff_ne]; omega
  have hk0 : 0 < x.kids.length := by rw [hks]; simp
  have hki : x.kids[0] = k := by simp [hks]
  obtain ⟨b, off, A', As', d, d', rfl, -, e1, hat⟩ := h.kids.at 0 hk0
  rw [hki] at e1 hat
  have HAT := Lib.hid hat
  have HK : Hid (∀ i u, (row k A' As' d d')[i]? = some u → w.cell? ⟨b, off + i, none⟩ = some u) := Lib.hid (fun i u hu => by have := e1 i u hu; simpa using this)
  have hkl : (0 : Int) < x.kids.length := by omega
  have hnz : ¬ x.kids = [] := fun e => by rw [e] at hk0; simp at hk0
  have HD : Hid ((x.kids.all fun y => decide (y = k) && plain y) = (ch x).isSome ∧ ∀ z, ch x = some z → k = z) := Lib.hid (by
    rw [HC.out, hks, all_same]
    by_cases e : (∀ y ∈ k :: ks, y = k) ∧ plain k = true
    · rw [if_pos e, decide_eq_true e]; exact ⟨rfl, fun z hz => by cases hz; rfl⟩
    · rw [if_neg e, decide_eq_false e]; exact ⟨rfl, fun z hz => by cases hz⟩)
  have HY := Lib.hid (fun (W : World) (hb : Below w.heap.size w W) (h4 : W.cell? ⟨w.heap.size, 4, none⟩ = some (.slice (some ⟨b, off, none⟩) x.kids.length c)) => chanyP x.kids k (some ⟨b, off, none⟩) A' As' c d d' w.heap.size b off x.kids.length c W (h.kids.below hb) (hat.below hb) h4 hk0 (fun i u hu => B.cell_below hb (HK.out i u hu)))
  generalize (x.kids.all fun y => decide (y = k) && plain y) = p at HY HD
  clear h hki hks hat e1 h3
  unfold lv
  go_enter Tryd.func36, Tryd.ntmps36
  go_wp2
  have HZ := Lib.hid (@Bz.new w x (some ⟨b, off, none⟩) As c c')
  generalize (w.alloc (.cells #[.int .i64 x.kind, .string x.item, .int .i64 x.long, .int .i64 x.many, .slice (some ⟨b, off, none⟩) x.kids.length c, .slice As x.shares.length c'] 25)).alloc (.cells #[.int .i64 0, .string ⟨#[]⟩, .int .i64 0, .int .i64 0, .slice none 0 0, .slice none 0 0] 25) = W at *
  have y0 := HZ.out.y 0 _ rfl
  have y1 := HZ.out.y 1 _ rfl
  have y2 := HZ.out.y 2 _ rfl
  have y3 := HZ.out.y 3 _ rfl
  have y4 := HZ.out.y 4 _ rfl
  have y5 := HZ.out.y 5 _ rfl
  have q0 := HZ.out.q 0 _ rfl
  have q1 := HZ.out.q 1 _ rfl
  have q2 := HZ.out.q 2 _ rfl
  have q3 := HZ.out.q 3 _ rfl
  have q4 := HZ.out.q 4 _ rfl
  have q5 := HZ.out.q 5 _ rfl
  have yz := HZ.out.yz
  have qz := HZ.out.qz
  have k0 := B.cell_below HZ.out.bl (HK.out 0 _ rfl)
  have k1 := B.cell_below HZ.out.bl (HK.out 1 _ rfl)
  have k2 := B.cell_below HZ.out.bl (HK.out 2 _ rfl)
  have k3 := B.cell_below HZ.out.bl (HK.out 3 _ rfl)
  have k4 := B.cell_below HZ.out.bl (HK.out 4 _ rfl)
  have k5 := B.cell_below HZ.out.bl (HK.out 5 _ rfl)
  simp only [Nat.add_zero] at k0
  go_quiet (fail)
  have HZ2 := Lib.hid (HZ.out.below (B.below_drew (Below.refl W.heap.size W) nq))
  clear y0 y1 y2 y3 y4 y5 q0 q1 q2 q3 q4 q5 yz qz k0 k1 k2 k3 k4 k5
  generalize W.drewN nq = W2 at *
  clear HZ
  have y0 := HZ2.out.y 0 _ rfl
  have y1 := HZ2.out.y 1 _ rfl
  have y2 := HZ2.out.y 2 _ rfl
  have y3 := HZ2.out.y 3 _ rfl
  have y4 := HZ2.out.y 4 _ rfl
  have y5 := HZ2.out.y 5 _ rfl
  have q0 := HZ2.out.q 0 _ rfl
  have q1 := HZ2.out.q 1 _ rfl
  have q2 := HZ2.out.q 2 _ rfl
  have q3 := HZ2.out.q 3 _ rfl
  have q4 := HZ2.out.q 4 _ rfl
  have q5 := HZ2.out.q 5 _ rfl
  have yz := HZ2.out.yz
  have qz := HZ2.out.qz
  have k0 := B.cell_below HZ2.out.bl (HK.out 0 _ rfl)
  have k1 := B.cell_below HZ2.out.bl (HK.out 1 _ rfl)
  have k2 := B.cell_below HZ2.out.bl (HK.out 2 _ rfl)
  have k3 := B.cell_below HZ2.out.bl (HK.out 3 _ rfl)
  have k4 := B.cell_below HZ2.out.bl (HK.out 4 _ rfl)
  have k5 := B.cell_below HZ2.out.bl (HK.out 5 _ rfl)
  simp only [Nat.add_zero] at k0
  have cy := HY.out W2 HZ2.out.bl y4
  go_wp2_with (go_at_call 38; refine cy.mono ?_; rintro e w5 ⟨rfl, hB5⟩; have HZ5 := Lib.hid (HZ2.out.below hB5); clear hB5; have v0 := HZ5.out.q 0 _ rfl; have v1 := HZ5.out.q 1 _ rfl; have v2 := HZ5.out.q 2 _ rfl; have v3 := HZ5.out.q 3 _ rfl; have v4 := HZ5.out.q 4 _ rfl; have v5 := HZ5.out.q 5 _ rfl; have u4 := HZ5.out.y 4 _ rfl; have vz := HZ5.out.qz; have j0 := B.cell_below HZ5.out.bl (HK.out 0 _ rfl); have j1 := B.cell_below HZ5.out.bl (HK.out 1 _ rfl); have j2 := B.cell_below HZ5.out.bl (HK.out 2 _ rfl); have j3 := B.cell_below HZ5.out.bl (HK.out 3 _ rfl); have j4 := B.cell_below HZ5.out.bl (HK.out 4 _ rfl); have j5 := B.cell_below HZ5.out.bl (HK.out 5 _ rfl); simp only [Nat.add_zero] at j0)
  go_simp
  have hrow : ((((((w5.setCell ⟨w.heap.size + 1, 0, none⟩ (.int .i64 k.kind)).setCell ⟨w.heap.size + 1, 1, none⟩ (.string k.item)).setCell ⟨w.heap.size + 1, 2, none⟩ (.int .i64 k.long)).setCell ⟨w.heap.size + 1, 3, none⟩ (.int .i64 k.many)).setCell ⟨w.heap.size + 1, 4, none⟩ (.slice A' k.kids.length d)).setCell ⟨w.heap.size + 1, 5, none⟩ (.slice As' k.shares.length d')).heap[w.heap.size + 1]? = some (.cells #[.int .i64 k.kind, .string k.item, .int .i64 k.long, .int .i64 k.many, .slice A' k.kids.length d, .slice As' k.shares.length d'] 25 (0, 0)) := set6 (a := .int .i64 0) (b := .string ⟨#[]⟩) (c := .int .i64 0) (d := .int .i64 0) (e := .slice none 0 0) (f := .slice none 0 0) (HZ5.out.rw)
  have hbf : Below w.heap.size w ((((((w5.setCell ⟨w.heap.size + 1, 0, none⟩ (.int .i64 k.kind)).setCell ⟨w.heap.size + 1, 1, none⟩ (.string k.item)).setCell ⟨w.heap.size + 1, 2, none⟩ (.int .i64 k.long)).setCell ⟨w.heap.size + 1, 3, none⟩ (.int .i64 k.many)).setCell ⟨w.heap.size + 1, 4, none⟩ (.slice A' k.kids.length d)).setCell ⟨w.heap.size + 1, 5, none⟩ (.slice As' k.shares.length d')) := below6 (HZ5.out.bl) (by omega) _ _ _ _ _ _
  have hff : Fr (fun b => b = w.heap.size + 1) w5 ((((((w5.setCell ⟨w.heap.size + 1, 0, none⟩ (.int .i64 k.kind)).setCell ⟨w.heap.size + 1, 1, none⟩ (.string k.item)).setCell ⟨w.heap.size + 1, 2, none⟩ (.int .i64 k.long)).setCell ⟨w.heap.size + 1, 3, none⟩ (.int .i64 k.many)).setCell ⟨w.heap.size + 1, 4, none⟩ (.slice A' k.kids.length d)).setCell ⟨w.heap.size + 1, 5, none⟩ (.slice As' k.shares.length d')) := fr6 _ _ _ _ _ _ _ _
  generalize ((((((w5.setCell ⟨w.heap.size + 1, 0, none⟩ (.int .i64 k.kind)).setCell ⟨w.heap.size + 1, 1, none⟩ (.string k.item)).setCell ⟨w.heap.size + 1, 2, none⟩ (.int .i64 k.long)).setCell ⟨w.heap.size + 1, 3, none⟩ (.int .i64 k.many)).setCell ⟨w.heap.size + 1, 4, none⟩ (.slice A' k.kids.length d)).setCell ⟨w.heap.size + 1, 5, none⟩ (.slice As' k.shares.length d')) = WF at hrow hbf hff ⊢
  have hbd : Below w.heap.size w WF := hbf
  refine bodyPost_ret (T.results_cell_tmp_row rfl _ _ (w.heap.size + 1) 25 #[.int .i64 k.kind, .string k.item, .int .i64 k.long, .int .i64 k.many, .slice A' k.kids.length d, .slice As' k.shares.length d'] (0, 0) _ rfl hrow Tryd.underlying25 rfl (by kernel_rfl)) rfl ?_
  refine ⟨⟨k, A', As', d, d', by rw [← HD.out.1]; simp; rfl, LR.weak (R := R) (HAT.out.below hbd) (fun b hb => .inl hb), HD.out.2⟩, hbd⟩
set_option maxHeartbeats 4000000 in
set_option maxRecDepth 100000 in
theorem chg_share {R : Nat → Prop} (x : Lp) (A As : Option Addr) (c c' : Nat) (w : World) (h : LR R w x A As) (hv : Vd x) (h4 : x.kind = 4) (hl : 1 < x.kids.length) (hR : ∀ b, R b → b < w.heap.size) :
    Calls Tryd.prog 36 #[lv x A As c c'] w fun e w' => (ChRes R w.heap.size x e w') ∧ Below w.heap.size w w' := by
  have HH := Lib.hid h
  have HRR := Lib.hid hR
  have HC := Lib.hid (ch_share h4 hl)
  have HV := Lib.hid (dvd_ok hv h4)
  have ho := T.own_ok hv.own
  have hsl : x.shares.length = x.kids.length := ho.2.2.2.2.1 h4
  have hb1 : (x.kind == 1) = false := by rw [h4]; rfl
  have hb2 : (x.kind == 2) = false := by rw [h4]; rfl
  have hb4 : (x.kind == 4) = true := by rw [h4]; rfl
  have hb5 : (x.kind == 5) = false := by rw [h4]; rfl
  have hlen : ((x.kids.length : Int) == 1) = false := by rw [beq_eq_false_iff_ne]; omega
  have HSP : Hid (0 < x.shares.length ∧ x.shares.length ≤ 1048576) := Lib.hid ⟨by omega, h.ok.2.2.2.1⟩
  have HF := Lib.hid (fun (W : World) (hb : Below w.heap.size w W) => T.divisor_any As c' x.shares w W h.sh hb ho.2.2.2.2.2.1)
  have HE := Lib.hid (fun (W : World) (hb : Below w.heap.size w W) => L.cloneInt As c' x.shares W (h.sh.mono hb) h.ok.2.2.2.1)
  have HIB : Hid (∀ s ∈ x.shares, 1 ≤ s ∧ s ≤ 1000) := Lib.hid ho.2.2.2.2.2.1
  have HD : Hid (decide (1 < (T.gcdL x.shares 0 : Int)) = (ch x).isSome ∧ ∀ z, ch x = some z → dvd x = z) := Lib.hid (by
    rw [HC.out]
    by_cases e : 1 < T.gcdL x.shares 0
    · rw [if_pos e]; exact ⟨by simp; omega, fun z hz => by cases hz; rfl⟩
    · rw [if_neg e]; exact ⟨by simp; omega, fun z hz => by cases hz⟩)
  have HDV : Hid (dvd x = shr x (x.shares.map fun n => n.tdiv (T.gcdL x.shares 0))) := Lib.hid rfl
  generalize hgg : T.gcdL x.shares 0 = G at *
  clear h hv h4 hl hgg ho hsl hR
  unfold lv
  go_enter Tryd.func36, Tryd.ntmps36
  go_wp2
  have HZ := Lib.hid (@Bz.new w x A As c c')
  generalize (w.alloc (.cells #[.int .i64 x.kind, .string x.item, .int .i64 x.long, .int .i64 x.many, .slice A x.kids.length c, .slice As x.shares.length c'] 25)).alloc (.cells #[.int .i64 0, .string ⟨#[]⟩, .int .i64 0, .int .i64 0, .slice none 0 0, .slice none 0 0] 25) = W at *
  have y0 := HZ.out.y 0 _ rfl
  have y1 := HZ.out.y 1 _ rfl
  have y2 := HZ.out.y 2 _ rfl
  have y3 := HZ.out.y 3 _ rfl
  have y4 := HZ.out.y 4 _ rfl
  have y5 := HZ.out.y 5 _ rfl
  have q0 := HZ.out.q 0 _ rfl
  have q1 := HZ.out.q 1 _ rfl
  have q2 := HZ.out.q 2 _ rfl
  have q3 := HZ.out.q 3 _ rfl
  have q4 := HZ.out.q 4 _ rfl
  have q5 := HZ.out.q 5 _ rfl
  have yz := HZ.out.yz
  have qz := HZ.out.qz
  go_quiet (fail)
  have HZ2 := Lib.hid (HZ.out.below (B.below_drew (Below.refl W.heap.size W) nq))
  clear y0 y1 y2 y3 y4 y5 q0 q1 q2 q3 q4 q5 yz qz
  generalize W.drewN nq = W2 at *
  clear HZ
  have y0 := HZ2.out.y 0 _ rfl
  have y1 := HZ2.out.y 1 _ rfl
  have y2 := HZ2.out.y 2 _ rfl
  have y3 := HZ2.out.y 3 _ rfl
  have y4 := HZ2.out.y 4 _ rfl
  have y5 := HZ2.out.y 5 _ rfl
  have q0 := HZ2.out.q 0 _ rfl
  have q1 := HZ2.out.q 1 _ rfl
  have q2 := HZ2.out.q 2 _ rfl
  have q3 := HZ2.out.q 3 _ rfl
  have q4 := HZ2.out.q 4 _ rfl
  have q5 := HZ2.out.q 5 _ rfl
  have yz := HZ2.out.yz
  have qz := HZ2.out.qz
  have cg := HF.out W2 HZ2.out.bl
  have hs2 := HZ2.out.sz
  have hg1 := HV.out.1
  go_wp2_with (first
    | (go_at_call 59; refine cg.mono ?_; rintro e w5 ⟨rfl, hB5⟩; have hw5 : Below W2.heap.size W2 w5 := (by obtain ⟨q, e⟩ := hB5; rw [e]; exact B.below_drew (Below.refl _ _) q); have HZ5 := Lib.hid (HZ2.out.below hw5); clear hB5 hw5; have u5 := HZ5.out.y 5 _ rfl; have ce := HE.out w5 HZ5.out.bl)
    | (go_at_call 19; refine ce.mono ?_; rintro e w6 ⟨A5, c5, rfl, hO6, hB6⟩; have HB6 := Lib.hid hB6; have HO6 := Lib.hid hO6; have HZ6 := Lib.hid (HZ5.out.below hB6); clear hB6 hO6; have v5 := HZ6.out.y 5 _ rfl; have vz := HZ6.out.yz))
  obtain ⟨g5, rfl, hg5, hob⟩ := L.own_blk HO6.out HSP.out.1
  have HZ7 := Lib.hid (HZ6.out.set5 (some ⟨g5, 0, none⟩) c5)
  have HG5 : Hid (w.heap.size + 2 ≤ g5 ∧ g5 < w6.heap.size) := Lib.hid ⟨Nat.le_trans HZ5.out.sz hg5, (World.ownsRow.lt HO6.out g5 hob).2⟩
  have HD7 : Hid (Dv (w6.setCell ⟨w.heap.size, 5, none⟩ (.slice (some ⟨g5, 0, none⟩) x.shares.length c5)) (w6.setCell ⟨w.heap.size, 5, none⟩ (.slice (some ⟨g5, 0, none⟩) x.shares.length c5)) g5 0 x.shares G 0) := Lib.hid (by
    have ho7 := B.Own.setCell HO6.out (p := ⟨w.heap.size, 5, none⟩) (by show w.heap.size < w5.heap.size; have := HZ5.out.sz; omega) (.slice (some ⟨g5, 0, none⟩) x.shares.length c5)
    obtain ⟨A8, c8, e8, hC8⟩ := B.own_int ho7 (by have := HSP.out.2; omega)
    cases e8
    exact Dv.start G hC8 (UF.own ho7 hob))
  clear u5 v5 vz hg5 hob ce cg y0 y1 y2 y3 y4 y5 q0 q1 q2 q3 q4 q5 yz qz
  have W7S : Hid (w6.heap.size ≤ (w6.setCell ⟨w.heap.size, 5, none⟩ (.slice (some ⟨g5, 0, none⟩) x.shares.length c5)).heap.size) := Lib.hid (by simp)
  generalize w6.setCell ⟨w.heap.size, 5, none⟩ (.slice (some ⟨g5, 0, none⟩) x.shares.length c5) = W7 at *
  have u5 := HZ7.out.y 5 _ rfl
  have LS : x.shares.length ≤ 1048576 := HSP.out.2
  go_wp2
  go_loopw [7, 100] (fun s7 s100 wr => ∃ i : Nat, s100 = .int .i64 i ∧ i ≤ x.shares.length ∧ Hid (Dv W7 wr g5 0 x.shares G i)) (fun _ s _ => x.shares.length - (intOf s).toNat)
  case atStart => exact ⟨0, rfl, by omega, HD7⟩
  case round =>
    obtain ⟨i, rfl, hi, HD8⟩ := hrel
    have HZ8 := Lib.hid (HZ7.out.fr HD8.out.fr (fun b hb => by rw [hb.1]; exact HG5.out.1))
    have t5 := HZ8.out.y 5 _ rfl
    by_cases hlt : i < x.shares.length
    · have hc := HD8.out.row i hlt
      have hfz := HD8.out.uf i
      rw [if_neg (Nat.lt_irrefl i), Nat.zero_add] at hc
      have hi1 : (i : Int) < x.shares.length := by omega
      have HN := Lib.hid (HD8.out.next hlt)
      have hs := HIB.out x.shares[i] (List.getElem_mem hlt)
      rw [Nat.zero_add] at HN
      generalize x.shares[i] = m at *
      have HN2 := HN.out
      rw [Int.tdiv_eq_ediv_of_nonneg (by omega)] at HN2
      have HN3 := Lib.hid HN2
      clear HN2 HN
      go_wp2
      go_roundw
      case rel => exact ⟨i + 1, by go_num, by omega, HN3⟩
      case measure => simp [intOf]; omega
    · obtain rfl : i = x.shares.length := by omega
      have HCE := Lib.hid (HD8.out.done HSP.out.2)
      have HUF := Lib.hid HD8.out.uf
      have HG8 : Hid (g5 < wr.heap.size) := Lib.hid (by have := HD8.out.fr.size; have := HG5.out.2; have := W7S.out; omega)
      have HB8 := Lib.hid HZ8.out.bl
      have y0 := HZ8.out.y 0 _ rfl
      have y1 := HZ8.out.y 1 _ rfl
      have y2 := HZ8.out.y 2 _ rfl
      have y3 := HZ8.out.y 3 _ rfl
      have y4 := HZ8.out.y 4 _ rfl
      have y5 := HZ8.out.y 5 _ rfl
      have q0 := HZ8.out.q 0 _ rfl
      have q1 := HZ8.out.q 1 _ rfl
      have q2 := HZ8.out.q 2 _ rfl
      have q3 := HZ8.out.q 3 _ rfl
      have q4 := HZ8.out.q 4 _ rfl
      have q5 := HZ8.out.q 5 _ rfl
      have yz := HZ8.out.yz
      have qz := HZ8.out.qz
      go_wp2
      go_simp
      have hrow : ((((((wr.setCell ⟨w.heap.size + 1, 0, none⟩ (.int .i64 x.kind)).setCell ⟨w.heap.size + 1, 1, none⟩ (.string x.item)).setCell ⟨w.heap.size + 1, 2, none⟩ (.int .i64 x.long)).setCell ⟨w.heap.size + 1, 3, none⟩ (.int .i64 x.many)).setCell ⟨w.heap.size + 1, 4, none⟩ (.slice A x.kids.length c)).setCell ⟨w.heap.size + 1, 5, none⟩ (.slice (some ⟨g5, 0, none⟩) x.shares.length c5)).heap[w.heap.size + 1]? = some (.cells #[.int .i64 x.kind, .string x.item, .int .i64 x.long, .int .i64 x.many, .slice A x.kids.length c, .slice (some ⟨g5, 0, none⟩) x.shares.length c5] 25 (0, 0)) := set6 (a := .int .i64 0) (b := .string ⟨#[]⟩) (c := .int .i64 0) (d := .int .i64 0) (e := .slice none 0 0) (f := .slice none 0 0) (HZ8.out.rw)
      have hbf : Below w.heap.size w ((((((wr.setCell ⟨w.heap.size + 1, 0, none⟩ (.int .i64 x.kind)).setCell ⟨w.heap.size + 1, 1, none⟩ (.string x.item)).setCell ⟨w.heap.size + 1, 2, none⟩ (.int .i64 x.long)).setCell ⟨w.heap.size + 1, 3, none⟩ (.int .i64 x.many)).setCell ⟨w.heap.size + 1, 4, none⟩ (.slice A x.kids.length c)).setCell ⟨w.heap.size + 1, 5, none⟩ (.slice (some ⟨g5, 0, none⟩) x.shares.length c5)) := below6 (HZ8.out.bl) (by omega) _ _ _ _ _ _
      have hff : Fr (fun b => b = w.heap.size + 1) wr ((((((wr.setCell ⟨w.heap.size + 1, 0, none⟩ (.int .i64 x.kind)).setCell ⟨w.heap.size + 1, 1, none⟩ (.string x.item)).setCell ⟨w.heap.size + 1, 2, none⟩ (.int .i64 x.long)).setCell ⟨w.heap.size + 1, 3, none⟩ (.int .i64 x.many)).setCell ⟨w.heap.size + 1, 4, none⟩ (.slice A x.kids.length c)).setCell ⟨w.heap.size + 1, 5, none⟩ (.slice (some ⟨g5, 0, none⟩) x.shares.length c5)) := fr6 _ _ _ _ _ _ _ _
      generalize ((((((wr.setCell ⟨w.heap.size + 1, 0, none⟩ (.int .i64 x.kind)).setCell ⟨w.heap.size + 1, 1, none⟩ (.string x.item)).setCell ⟨w.heap.size + 1, 2, none⟩ (.int .i64 x.long)).setCell ⟨w.heap.size + 1, 3, none⟩ (.int .i64 x.many)).setCell ⟨w.heap.size + 1, 4, none⟩ (.slice A x.kids.length c)).setCell ⟨w.heap.size + 1, 5, none⟩ (.slice (some ⟨g5, 0, none⟩) x.shares.length c5)) = WF at hrow hbf hff ⊢
      have hbd : Below w.heap.size w WF := hbf
      refine bodyPost_ret (T.results_cell_tmp_row rfl _ _ (w.heap.size + 1) 25 #[.int .i64 x.kind, .string x.item, .int .i64 x.long, .int .i64 x.many, .slice A x.kids.length c, .slice (some ⟨g5, 0, none⟩) x.shares.length c5] (0, 0) _ rfl hrow Tryd.underlying25 rfl (by kernel_rfl)) rfl ?_
      have hL : LR (RN R (w.heap.size + 2) wr) wr (dvd x) A (some ⟨g5, 0, none⟩) := by
        rw [HDV.out]
        exact lr_shr HH.out.ok ((HH.out.kids.below HB8.out).weak (fun b hb => .inl hb)) HV.out.2.1 (by rw [List.length_map]; exact HSP.out.2) HCE.out (fun _ => ⟨g5, 0, rfl, .inr ⟨HG5.out.1, HG8.out, HUF.out⟩⟩)
      refine ⟨⟨dvd x, A, some ⟨g5, 0, none⟩, c, c5, by rw [← HD.out.1, HDV.out]; simp [lv, shr, Lp.shares, Lp.kids, Lp.kind, Lp.item, Lp.long, Lp.many], hL.fr hff (fun b hb e => ?_) (fun b hb => rn_fr hff (by omega) (fun b hb e => by omega) b hb), HD.out.2⟩, hbd⟩
      rcases hb with hb | hb
      · have := HRR.out b hb; omega
      · omega

/-- The program's changed. -/
theorem changed_any {R : Nat → Prop} (x : Lp) (A As : Option Addr) (c c' : Nat) (w : World) (h : LR R w x A As) (hv : Vd x) (hR : ∀ b, R b → b < w.heap.size) (hp : parts x ≤ 200) :
    Calls Tryd.prog 36 #[lv x A As c c'] w fun e w' => ChRes R w.heap.size x e w' ∧ Below w.heap.size w w' := by
  have ho := T.own_ok hv.own
  by_cases h1 : x.kind = 1
  · exact chg_item x A As c c' w h h1
  · have hk := ho.2.2.1 h1
    obtain ⟨k, ks, hks⟩ : ∃ k ks, x.kids = k :: ks := by
      cases hks : x.kids with
      | nil => rw [hks] at hk; simp at hk
      | cons k ks => exact ⟨k, ks, rfl⟩
    by_cases h5 : x.kind = 5
    · by_cases h6 : k.kind = 5
      · by_cases hm : x.many * k.many ≤ 100
        · exact chg_mul x A As c c' w h hv h5 k ks hks h6 hm
        · exact chg_rep5 x A As c c' w h hv h5 k ks hks h6 (by omega)
      · exact chg_repo x A As c c' w h hv h5 k ks hks h6
    · by_cases hl : 1 < x.kids.length
      · by_cases h2 : x.kind = 2
        · exact chg_row x A As c c' w h hv h2 hl hR (by rw [parts_eq] at hp; omega)
        · by_cases h4 : x.kind = 4
          · exact chg_share x A As c c' w h hv h4 hl hR
          · exact chg_turn x A As c c' w h (by omega) hl k ks hks
      · have : ks = [] := by rw [hks] at hl; cases ks with
          | nil => rfl
          | cons a b => simp at hl
        subst this
        exact chg_one x A As c c' w h h1 h5 k hks
end Go.Proofs.YtlfobpjefklccaaDoor.H
