/- One change of a loop: the reference's changed. Printed by wip/gen/chrgen.py. -/
import Derived.Test.YtlfobpjefklccaaDoorChg
namespace Go.Proofs.YtlfobpjefklccaaDoor.H
open Go.RowKit
open L (Lp row row1 At AtR lv kdL kid_at rowR set6)
open F (Fr Cl)

theorem results_cell1_row {P : Program} {fn : Func} {p : Tmp} {ty : TypeId} (h : fn.results = #[.cell p ty]) (tmps : Array Value) (w : World) (g : Nat) (t : TypeId) (cs : Array Value) (fr : Nat × Nat) (d : TypeDesc)
    (hp : tmps.getD p undef = .pointer (some ⟨g, 0, none⟩)) (hg : w.heap[g]? = some (.cells cs t fr)) (hu : P.underlying ty = some d) (hd : (match d with | .struct _ | .array _ _ => true | _ => false) = true) (hi : (P.info? ty).map (·.size) = some cs.size) :
    (results fn tmps).run P w = .ok (.agg cs) w := by
  have hp' : tmps[p]?.getD undef = .pointer (some ⟨g, 0, none⟩) := by simpa using hp
  simp [results, h, hp', asAddr, run_loadVar_row w g t ty cs fr d hg hu hd hi]
theorem nil_bytes : (⟨#[]⟩ : ByteArray).toList = [] := by simp [ByteArray.toList_eq]
theorem heap_mid (w : World) (a b c : Obj) : (((w.alloc a).alloc b).alloc c).heap[w.heap.size + 1]? = some b := by
  have e : (w.alloc a).heap.size = w.heap.size + 1 := by simp
  have h1 : ((w.alloc a).alloc b).heap[(w.alloc a).heap.size]? = some b := heap_alloc_new _ _
  rw [e] at h1
  exact (((Below.refl _ ((w.alloc a).alloc b)).alloc (Nat.le_refl _) c).block _ (by simp)).trans h1
theorem below_three (w : World) (a b c : Obj) : Below w.heap.size w (((w.alloc a).alloc b).alloc c) := (((Below.refl _ _).alloc (Nat.le_refl _) _).alloc (by simp) _).alloc (by simp; omega) _
/-- What a loop becomes by one change, or it itself. -/
def x1 (x : Lp) : Lp := (ch x).getD x
def CrRes (R : Nat → Prop) (lo : Nat) (y : Lp) (e : Ending) (w' : World) : Prop := ∃ A' As' d d', e = .returned (lv y A' As' d d') ∧ LR (RN R lo w') w' y A' As'
/-- A box with a loop in it, a loop that is nought behind it, and a box with its first kid. -/
structure Cz (w W : World) (x k : Lp) (A As : Option Addr) (c c' : Nat) (A' As' : Option Addr) (d d' : Nat) : Prop extends Bz w W x A As c c' where
  sz3 : w.heap.size + 3 ≤ W.heap.size
  f : ∀ i u, (row k A' As' d d')[i]? = some u → W.cell? ⟨w.heap.size + 2, i, none⟩ = some u
theorem Cz.fr {S : Nat → Prop} {w W W2 : World} {x k : Lp} {A As : Option Addr} {c c' : Nat} {A' As' : Option Addr} {d d' : Nat} (h : Cz w W x k A As c c' A' As' d d') (hf : Fr S W W2) (hs : ∀ b, S b → b < w.heap.size ∨ w.heap.size + 3 ≤ b) (hb : Below w.heap.size w W2) : Cz w W2 x k A As c c' A' As' d d' := by
  have h0 : ¬ S w.heap.size := fun e => by have := hs _ e; omega
  have h1 : ¬ S (w.heap.size + 1) := fun e => by have := hs _ e; omega
  have h2 : ¬ S (w.heap.size + 2) := fun e => by have := hs _ e; omega
  have s := h.sz
  have s3 := h.sz3
  exact ⟨⟨hb, Nat.le_trans s hf.size, fun i u hu => hf.cell h0 (h.y i u hu), fun i u hu => hf.cell h1 (h.q i u hu), fun i => (hf.frozen (by show w.heap.size < _; omega) h0).trans (h.yz i), fun i => (hf.frozen (by show w.heap.size + 1 < _; omega) h1).trans (h.qz i), (hf.block _ (by omega) h1).trans h.rw⟩, Nat.le_trans s3 hf.size, fun i u hu => hf.cell h2 (h.f i u hu)⟩
theorem Cz.below {w W W2 : World} {x k : Lp} {A As : Option Addr} {c c' : Nat} {A' As' : Option Addr} {d d' : Nat} (h : Cz w W x k A As c c' A' As' d d') (hb : Below W.heap.size W W2) : Cz w W2 x k A As c c' A' As' d d' := h.fr (S := fun _ => False) (Fr.of_below hb) (fun _ h => h.elim) (h.bl.trans (hb.mono (by have := h.sz; omega)))
theorem Cz.new {w : World} {x k : Lp} {A As : Option Addr} {c c' : Nat} {A' As' : Option Addr} {d d' : Nat} : Cz w (((w.alloc (.cells #[.int .i64 x.kind, .string x.item, .int .i64 x.long, .int .i64 x.many, .slice A x.kids.length c, .slice As x.shares.length c'] 25)).alloc (.cells #[.int .i64 0, .string ⟨#[]⟩, .int .i64 0, .int .i64 0, .slice none 0 0, .slice none 0 0] 25)).alloc (.cells #[.int .i64 k.kind, .string k.item, .int .i64 k.long, .int .i64 k.many, .slice A' k.kids.length d, .slice As' k.shares.length d'] 25)) x k A As c c' A' As' d d' := by
  have t := @Bz.new w x A As c c'
  have e : ((w.alloc (.cells #[.int .i64 x.kind, .string x.item, .int .i64 x.long, .int .i64 x.many, .slice A x.kids.length c, .slice As x.shares.length c'] 25)).alloc (.cells #[.int .i64 0, .string ⟨#[]⟩, .int .i64 0, .int .i64 0, .slice none 0 0, .slice none 0 0] 25)).heap.size = w.heap.size + 2 := by simp
  refine ⟨t.below ((Below.refl _ _).alloc (Nat.le_refl _) _), by simp, fun i u hu => ?_⟩
  rw [← e, World.cell?_alloc_new, ← hu]
  simp [row]
theorem x1_some {x y : Lp} (h : ch x = some y) : x1 x = y := by unfold x1; rw [h]; rfl
theorem x1_row {x : Lp} (hv : Vd x) (h2 : x.kind = 2) (hl : 1 < x.kids.length) : x1 x = upd x (gath x.kids) := by
  have hk := T.own_ok hv.own
  have i1 := (hk.2.2.2.2.2.2.2.2.1 (by omega)).1
  have i2 := (hk.2.2.2.2.2.2.2.2.1 (by omega)).2
  have i3 := hk.2.2.2.2.2.2.2.1 (by omega)
  have i4 := hk.2.2.2.2.2.2.2.2.2 (by omega)
  by_cases e : gath x.kids = x.kids
  · rw [e]
    unfold x1
    rw [ch_row h2 hl, if_pos e]
    cases x; rfl
  · unfold x1
    rw [ch_row h2 hl, if_neg e]
    exact lp_ext h2.symm (bytes_eq (by rw [show (upd x (gath x.kids)).item = x.item from rfl, List.isEmpty_iff.1 i1]; exact nil_bytes)) i2.symm i4.symm rfl (List.eq_nil_of_length_eq_zero i3).symm
theorem lr_upd {R : Nat → Prop} {W : World} {x : Lp} {A As : Option Addr} {ks : List Lp} (hok : x.ok) (hC : B.Kd.int.C W As x.shares) (hsr : 0 < x.shares.length → ∃ b off, As = some ⟨b, off, none⟩ ∧ R b) (hk : SR R W A ks) : LR R W (upd x ks) A As :=
  LR.mk ⟨hok.1, hok.2.1, hk.1, hok.2.2.2.1, hok.2.2.2.2⟩ hC hsr hk
theorem x1_rep1 {x k : Lp} (hv : Vd x) (h5 : x.kind = 5) (hm1 : x.many = 1) (hks : x.kids = [k]) : x1 x = k := by
  by_cases h : k.kind = 5 ∧ x.many * k.many ≤ 100
  · rw [x1_some (ch_mul h5 hks h), hm1, Int.one_mul]
    have hk := T.own_ok (hv.kid (show k ∈ x.kids from by rw [hks]; exact List.mem_cons_self)).own
    have i1 := (hk.2.2.2.2.2.2.2.2.1 (by omega)).1
    have i2 := (hk.2.2.2.2.2.2.2.2.1 (by omega)).2
    have i3 := hk.2.2.2.2.2.2.2.1 (by omega)
    refine lp_ext h.1.symm (?_ : (⟨#[]⟩ : ByteArray) = k.item) i2.symm rfl rfl (List.eq_nil_of_length_eq_zero i3).symm
    exact bytes_eq (by rw [List.isEmpty_iff.1 i1]; exact nil_bytes)
  · exact x1_some ((ch_rep h5 hks h).trans (if_pos hm1))
theorem x1_none {x : Lp} (h : ch x = none) : x1 x = x := by unfold x1; rw [h]; rfl
set_option maxHeartbeats 4000000 in
set_option maxRecDepth 100000 in
theorem chr_item {R : Nat → Prop} (x : Lp) (A As : Option Addr) (c c' : Nat) (w : World) (h : LR R w x A As) (h1 : x.kind = 1) :
    Calls Tryd.prog 25 #[lv x A As c c'] w fun e w' => (CrRes R w.heap.size (x1 x) e w') ∧ Below w.heap.size w w' := by
  have HH := Lib.hid h
  have hb1 : (x.kind == 1) = true := by rw [h1]; rfl
  have HC := Lib.hid (x1_none (ch_item h1))
  clear h h1
  unfold lv
  go_enter Tryd.func25, Tryd.ntmps25
  go_wp2
  refine bodyPost_ret (results_cell1_row rfl _ _ (w.heap.size + 1) 25 #[.int .i64 x.kind, .string x.item, .int .i64 x.long, .int .i64 x.many, .slice A x.kids.length c, .slice As x.shares.length c'] (0, 0) _ rfl (heap_alloc2_new w _ _) Tryd.underlying25 rfl (by kernel_rfl)) rfl ?_
  have hb : Below w.heap.size w ((w.alloc (.cells #[.int .i64 x.kind, .string x.item, .int .i64 x.long, .int .i64 x.many, .slice A x.kids.length c, .slice As x.shares.length c'] 25)).alloc (.cells #[.int .i64 x.kind, .string x.item, .int .i64 x.long, .int .i64 x.many, .slice A x.kids.length c, .slice As x.shares.length c'] 25)) := ((Below.refl _ _).alloc (Nat.le_refl _) _).alloc (by simp) _
  rw [HC.out]
  exact ⟨⟨A, As, c, c', rfl, (HH.out.below hb).weak (fun b hb => .inl hb)⟩, hb⟩
set_option maxHeartbeats 4000000 in
set_option maxRecDepth 100000 in
theorem chr_rep1 {R : Nat → Prop} (x : Lp) (A As : Option Addr) (c c' : Nat) (w : World) (h : LR R w x A As) (hv : Vd x) (h5 : x.kind = 5) (hm1 : x.many = 1) (k : Lp) (hks : x.kids = [k]) :
    Calls Tryd.prog 25 #[lv x A As c c'] w fun e w' => (CrRes R w.heap.size (x1 x) e w') ∧ Below w.heap.size w w' := by
  have HH := Lib.hid h
  have HC := Lib.hid (x1_rep1 hv h5 hm1 hks)
  have hb1 : (x.kind == 1) = false := by rw [h5]; rfl
  have hb2 : (x.kind == 2) = false := by rw [h5]; rfl
  have hb3 : (x.kind == 3) = false := by rw [h5]; rfl
  have hb4 : (x.kind == 4) = false := by rw [h5]; rfl
  have hb5 : (x.kind == 5) = true := by rw [h5]; rfl
  have hn5 : (x.kind != 5) = false := by rw [h5]; rfl
  have hbm : (x.many == 1) = true := by rw [hm1]; rfl
  have hk0 : 0 < x.kids.length := by rw [hks]; simp
  have hki : x.kids[0] = k := by simp [hks]
  obtain ⟨b, off, A', As', d, d', rfl, -, e1, hat⟩ := h.kids.at 0 hk0
  rw [hki] at e1 hat
  have HAT := Lib.hid hat
  have HK : Hid (∀ i u, (row k A' As' d d')[i]? = some u → w.cell? ⟨b, off + i, none⟩ = some u) := Lib.hid (fun i u hu => by have := e1 i u hu; simpa using this)
  have hkl : (0 : Int) < x.kids.length := by omega
  have hnz : ¬ x.kids = [] := fun e => by rw [e] at hk0; simp at hk0
  have HKB := Lib.hid (fun (W : World) (hb : Below w.heap.size w W) => (⟨B.cell_below hb (HK.out 0 _ rfl), B.cell_below hb (HK.out 1 _ rfl), B.cell_below hb (HK.out 2 _ rfl), B.cell_below hb (HK.out 3 _ rfl), B.cell_below hb (HK.out 4 _ rfl), B.cell_below hb (HK.out 5 _ rfl)⟩ : _ ∧ _ ∧ _ ∧ _ ∧ _ ∧ _))
  have HB2 := fun (a1 a2 : Array Value) (e1 e2 : TypeId) => ((Below.refl w.heap.size w).alloc (Nat.le_refl _) (.cells a1 e1)).alloc (by simp) (.cells a2 e2)
  obtain ⟨k0, k1, k2, k3, k4, k5⟩ := HKB.out _ (HB2 #[.int .i64 x.kind, .string x.item, .int .i64 x.long, .int .i64 x.many, .slice (some ⟨b, off, none⟩) x.kids.length c, .slice As x.shares.length c'] #[.int .i64 0, .string ⟨#[]⟩, .int .i64 0, .int .i64 0, .slice none 0 0, .slice none 0 0] 25 25)
  simp only [Nat.add_zero] at k0
  clear h hv hki hks hat e1 h5 hm1 HKB HB2 HK
  unfold lv
  go_enter Tryd.func25, Tryd.ntmps25
  go_wp2
  have hbd := below_three w (.cells #[.int .i64 x.kind, .string x.item, .int .i64 x.long, .int .i64 x.many, .slice (some ⟨b, off, none⟩) x.kids.length c, .slice As x.shares.length c'] 25) (.cells #[.int .i64 k.kind, .string k.item, .int .i64 k.long, .int .i64 k.many, .slice A' k.kids.length d, .slice As' k.shares.length d'] 25) (.cells #[.int .i64 k.kind, .string k.item, .int .i64 k.long, .int .i64 k.many, .slice A' k.kids.length d, .slice As' k.shares.length d'] 25)
  refine bodyPost_ret (results_cell1_row rfl _ _ (w.heap.size + 1) 25 #[.int .i64 k.kind, .string k.item, .int .i64 k.long, .int .i64 k.many, .slice A' k.kids.length d, .slice As' k.shares.length d'] (0, 0) _ rfl (heap_mid w _ _ _) Tryd.underlying25 rfl (by kernel_rfl)) rfl ?_
  rw [HC.out]
  exact ⟨⟨A', As', d, d', rfl, LR.weak (R := R) (HAT.out.below hbd) (fun b hb => .inl hb)⟩, hbd⟩
set_option maxHeartbeats 4000000 in
set_option maxRecDepth 100000 in
theorem chr_mul {R : Nat → Prop} (x : Lp) (A As : Option Addr) (c c' : Nat) (w : World) (h : LR R w x A As) (hv : Vd x) (h5 : x.kind = 5) (hm1 : x.many ≠ 1) (k : Lp) (ks : List Lp) (hks : x.kids = k :: ks) (h6 : k.kind = 5) (hm : x.many * k.many ≤ 100) :
    Calls Tryd.prog 25 #[lv x A As c c'] w fun e w' => (CrRes R w.heap.size (x1 x) e w') ∧ Below w.heap.size w w' := by
  have HH := Lib.hid h
  have HC := Lib.hid (x1_some (ch_mul h5 hks ⟨h6, hm⟩))
  have hv5 := (T.own_ok hv.own).2.2.2.1 h5
  have hv6 := ((T.own_ok (hv.kid (show k ∈ x.kids from by rw [hks]; exact List.mem_cons_self)).own).2.2.2.1 h6).2
  have hb1 : (x.kind == 1) = false := by rw [h5]; rfl
  have hb2 : (x.kind == 2) = false := by rw [h5]; rfl
  have hb3 : (x.kind == 3) = false := by rw [h5]; rfl
  have hb4 : (x.kind == 4) = false := by rw [h5]; rfl
  have hb5 : (x.kind == 5) = true := by rw [h5]; rfl
  have hn5 : (x.kind != 5) = false := by rw [h5]; rfl
  have hbm : (x.many == 1) = false := by rw [beq_eq_false_iff_ne]; exact hm1
  have hb6 : (k.kind == 5) = true := by rw [h6]; rfl
  have hk0 : 0 < x.kids.length := by rw [hks]; simp
  have hki : x.kids[0] = k := by simp [hks]
  obtain ⟨b, off, A', As', d, d', rfl, -, e1, hat⟩ := h.kids.at 0 hk0
  rw [hki] at e1 hat
  have HAT := Lib.hid hat
  have HK : Hid (∀ i u, (row k A' As' d d')[i]? = some u → w.cell? ⟨b, off + i, none⟩ = some u) := Lib.hid (fun i u hu => by have := e1 i u hu; simpa using this)
  have hkl : (0 : Int) < x.kids.length := by omega
  have hnz : ¬ x.kids = [] := fun e => by rw [e] at hk0; simp at hk0
  have HKB := Lib.hid (fun (W : World) (hb : Below w.heap.size w W) => (⟨B.cell_below hb (HK.out 0 _ rfl), B.cell_below hb (HK.out 1 _ rfl), B.cell_below hb (HK.out 2 _ rfl), B.cell_below hb (HK.out 3 _ rfl), B.cell_below hb (HK.out 4 _ rfl), B.cell_below hb (HK.out 5 _ rfl)⟩ : _ ∧ _ ∧ _ ∧ _ ∧ _ ∧ _))
  have HB2 := fun (a1 a2 : Array Value) (e1 e2 : TypeId) => ((Below.refl w.heap.size w).alloc (Nat.le_refl _) (.cells a1 e1)).alloc (by simp) (.cells a2 e2)
  obtain ⟨k0, k1, k2, k3, k4, k5⟩ := HKB.out _ (HB2 #[.int .i64 x.kind, .string x.item, .int .i64 x.long, .int .i64 x.many, .slice (some ⟨b, off, none⟩) x.kids.length c, .slice As x.shares.length c'] #[.int .i64 0, .string ⟨#[]⟩, .int .i64 0, .int .i64 0, .slice none 0 0, .slice none 0 0] 25 25)
  simp only [Nat.add_zero] at k0
  have hp1 : 0 ≤ x.many * k.many := Int.mul_nonneg (by omega) (by omega)
  have hw : IntKind.i64.wrap (x.many * k.many) = x.many * k.many := by rw [IntKind.wrap_i64]; omega
  have hd2 : decide (x.many * k.many ≤ 100) = true := decide_eq_true hm
  have HML := Lib.hid (fun W (hb : Below w.heap.size w W) => lr_mul (hat.below hb) hp1 hm)
  clear h hv hki hks hat e1 h5 h6 hv5 hv6 hm hp1 HKB HB2 HK
  unfold lv
  go_enter Tryd.func25, Tryd.ntmps25
  go_wp2
  have hbd := below_three w (.cells #[.int .i64 x.kind, .string x.item, .int .i64 x.long, .int .i64 x.many, .slice (some ⟨b, off, none⟩) x.kids.length c, .slice As x.shares.length c'] 25) (.cells #[.int .i64 5, .string ⟨#[]⟩, .int .i64 0, .int .i64 (x.many * k.many), .slice A' k.kids.length d, .slice none 0 0] 25) (.cells #[.int .i64 k.kind, .string k.item, .int .i64 k.long, .int .i64 k.many, .slice A' k.kids.length d, .slice As' k.shares.length d'] 25)
  refine bodyPost_ret (results_cell1_row rfl _ _ (w.heap.size + 1) 25 #[.int .i64 5, .string ⟨#[]⟩, .int .i64 0, .int .i64 (x.many * k.many), .slice A' k.kids.length d, .slice none 0 0] (0, 0) _ rfl (heap_mid w _ _ _) Tryd.underlying25 rfl (by kernel_rfl)) rfl ?_
  rw [HC.out]
  exact ⟨⟨A', none, d, 0, rfl, LR.weak (R := R) (HML.out _ hbd) (fun b hb => .inl hb)⟩, hbd⟩
set_option maxHeartbeats 4000000 in
set_option maxRecDepth 100000 in
theorem chr_big {R : Nat → Prop} (x : Lp) (A As : Option Addr) (c c' : Nat) (w : World) (h : LR R w x A As) (hv : Vd x) (h5 : x.kind = 5) (hm1 : x.many ≠ 1) (k : Lp) (ks : List Lp) (hks : x.kids = k :: ks) (h6 : k.kind = 5) (hp0 : 100 < x.many * k.many) :
    Calls Tryd.prog 25 #[lv x A As c c'] w fun e w' => (CrRes R w.heap.size (x1 x) e w') ∧ Below w.heap.size w w' := by
  have HH := Lib.hid h
  have HC := Lib.hid (x1_none ((ch_rep h5 hks (fun h => by have := h.2; omega)).trans (if_neg hm1)))
  have hb1 : (x.kind == 1) = false := by rw [h5]; rfl
  have hb2 : (x.kind == 2) = false := by rw [h5]; rfl
  have hb3 : (x.kind == 3) = false := by rw [h5]; rfl
  have hb4 : (x.kind == 4) = false := by rw [h5]; rfl
  have hb5 : (x.kind == 5) = true := by rw [h5]; rfl
  have hn5 : (x.kind != 5) = false := by rw [h5]; rfl
  have hbm : (x.many == 1) = false := by rw [beq_eq_false_iff_ne]; exact hm1
  have hb6 : (k.kind == 5) = true := by rw [h6]; rfl
  have hv5 := (T.own_ok hv.own).2.2.2.1 h5
  have hv6 := ((T.own_ok (hv.kid (show k ∈ x.kids from by rw [hks]; exact List.mem_cons_self)).own).2.2.2.1 h6).2
  have hp2 : x.many * k.many ≤ 10000 := by
    have := Int.mul_le_mul hv5.2.2 hv6.2 (by omega) (by omega)
    omega
  have hw : IntKind.i64.wrap (x.many * k.many) = x.many * k.many := by rw [IntKind.wrap_i64]; omega
  have hd2 : decide (x.many * k.many ≤ 100) = false := decide_eq_false (by omega)
  clear hv5 hv6 hp2 hp0
  have hk0 : 0 < x.kids.length := by rw [hks]; simp
  have hki : x.kids[0] = k := by simp [hks]
  obtain ⟨b, off, A', As', d, d', rfl, -, e1, hat⟩ := h.kids.at 0 hk0
  rw [hki] at e1 hat
  have HAT := Lib.hid hat
  have HK : Hid (∀ i u, (row k A' As' d d')[i]? = some u → w.cell? ⟨b, off + i, none⟩ = some u) := Lib.hid (fun i u hu => by have := e1 i u hu; simpa using this)
  have hkl : (0 : Int) < x.kids.length := by omega
  have hnz : ¬ x.kids = [] := fun e => by rw [e] at hk0; simp at hk0
  have HKB := Lib.hid (fun (W : World) (hb : Below w.heap.size w W) => (⟨B.cell_below hb (HK.out 0 _ rfl), B.cell_below hb (HK.out 1 _ rfl), B.cell_below hb (HK.out 2 _ rfl), B.cell_below hb (HK.out 3 _ rfl), B.cell_below hb (HK.out 4 _ rfl), B.cell_below hb (HK.out 5 _ rfl)⟩ : _ ∧ _ ∧ _ ∧ _ ∧ _ ∧ _))
  have HB2 := fun (a1 a2 : Array Value) (e1 e2 : TypeId) => ((Below.refl w.heap.size w).alloc (Nat.le_refl _) (.cells a1 e1)).alloc (by simp) (.cells a2 e2)
  obtain ⟨k0, k1, k2, k3, k4, k5⟩ := HKB.out _ (HB2 #[.int .i64 x.kind, .string x.item, .int .i64 x.long, .int .i64 x.many, .slice (some ⟨b, off, none⟩) x.kids.length c, .slice As x.shares.length c'] #[.int .i64 0, .string ⟨#[]⟩, .int .i64 0, .int .i64 0, .slice none 0 0, .slice none 0 0] 25 25)
  simp only [Nat.add_zero] at k0
  clear h hv hki hks hat e1 h5 h6 HKB HB2 HK
  unfold lv
  go_enter Tryd.func25, Tryd.ntmps25
  go_wp2
  have hbd := below_three w (.cells #[.int .i64 x.kind, .string x.item, .int .i64 x.long, .int .i64 x.many, .slice (some ⟨b, off, none⟩) x.kids.length c, .slice As x.shares.length c'] 25) (.cells #[.int .i64 x.kind, .string x.item, .int .i64 x.long, .int .i64 x.many, .slice (some ⟨b, off, none⟩) x.kids.length c, .slice As x.shares.length c'] 25) (.cells #[.int .i64 k.kind, .string k.item, .int .i64 k.long, .int .i64 k.many, .slice A' k.kids.length d, .slice As' k.shares.length d'] 25)
  refine bodyPost_ret (results_cell1_row rfl _ _ (w.heap.size + 1) 25 #[.int .i64 x.kind, .string x.item, .int .i64 x.long, .int .i64 x.many, .slice (some ⟨b, off, none⟩) x.kids.length c, .slice As x.shares.length c'] (0, 0) _ rfl (heap_mid w _ _ _) Tryd.underlying25 rfl (by kernel_rfl)) rfl ?_
  rw [HC.out]
  exact ⟨⟨some ⟨b, off, none⟩, As, c, c', rfl, LR.weak (R := R) (HH.out.below hbd) (fun b hb => .inl hb)⟩, hbd⟩
set_option maxHeartbeats 4000000 in
set_option maxRecDepth 100000 in
theorem chr_rest {R : Nat → Prop} (x : Lp) (A As : Option Addr) (c c' : Nat) (w : World) (h : LR R w x A As) (hv : Vd x) (h5 : x.kind = 5) (hm1 : x.many ≠ 1) (k : Lp) (ks : List Lp) (hks : x.kids = k :: ks) (h6 : k.kind ≠ 5) :
    Calls Tryd.prog 25 #[lv x A As c c'] w fun e w' => (CrRes R w.heap.size (x1 x) e w') ∧ Below w.heap.size w w' := by
  have HH := Lib.hid h
  have HC := Lib.hid (x1_none ((ch_rep h5 hks (fun h => h6 h.1)).trans (if_neg hm1)))
  have hb1 : (x.kind == 1) = false := by rw [h5]; rfl
  have hb2 : (x.kind == 2) = false := by rw [h5]; rfl
  have hb3 : (x.kind == 3) = false := by rw [h5]; rfl
  have hb4 : (x.kind == 4) = false := by rw [h5]; rfl
  have hb5 : (x.kind == 5) = true := by rw [h5]; rfl
  have hn5 : (x.kind != 5) = false := by rw [h5]; rfl
  have hbm : (x.many == 1) = false := by rw [beq_eq_false_iff_ne]; exact hm1
  have hb6 : (k.kind == 5) = false := by rw [beq_eq_false_iff_ne]; exact h6
  have hk0 : 0 < x.kids.length := by rw [hks]; simp
  have hki : x.kids[0] = k := by simp [hks]
  obtain ⟨b, off, A', As', d, d', rfl, -, e1, hat⟩ := h.kids.at 0 hk0
  rw [hki] at e1 hat
  have HAT := Lib.hid hat
  have HK : Hid (∀ i u, (row k A' As' d d')[i]? = some u → w.cell? ⟨b, off + i, none⟩ = some u) := Lib.hid (fun i u hu => by have := e1 i u hu; simpa using this)
  have hkl : (0 : Int) < x.kids.length := by omega
  have hnz : ¬ x.kids = [] := fun e => by rw [e] at hk0; simp at hk0
  have HKB := Lib.hid (fun (W : World) (hb : Below w.heap.size w W) => (⟨B.cell_below hb (HK.out 0 _ rfl), B.cell_below hb (HK.out 1 _ rfl), B.cell_below hb (HK.out 2 _ rfl), B.cell_below hb (HK.out 3 _ rfl), B.cell_below hb (HK.out 4 _ rfl), B.cell_below hb (HK.out 5 _ rfl)⟩ : _ ∧ _ ∧ _ ∧ _ ∧ _ ∧ _))
  have HB2 := fun (a1 a2 : Array Value) (e1 e2 : TypeId) => ((Below.refl w.heap.size w).alloc (Nat.le_refl _) (.cells a1 e1)).alloc (by simp) (.cells a2 e2)
  obtain ⟨k0, k1, k2, k3, k4, k5⟩ := HKB.out _ (HB2 #[.int .i64 x.kind, .string x.item, .int .i64 x.long, .int .i64 x.many, .slice (some ⟨b, off, none⟩) x.kids.length c, .slice As x.shares.length c'] #[.int .i64 0, .string ⟨#[]⟩, .int .i64 0, .int .i64 0, .slice none 0 0, .slice none 0 0] 25 25)
  simp only [Nat.add_zero] at k0
  clear h hv hki hks hat e1 h5 h6 HKB HB2 HK
  unfold lv
  go_enter Tryd.func25, Tryd.ntmps25
  go_wp2
  have hbd := below_three w (.cells #[.int .i64 x.kind, .string x.item, .int .i64 x.long, .int .i64 x.many, .slice (some ⟨b, off, none⟩) x.kids.length c, .slice As x.shares.length c'] 25) (.cells #[.int .i64 x.kind, .string x.item, .int .i64 x.long, .int .i64 x.many, .slice (some ⟨b, off, none⟩) x.kids.length c, .slice As x.shares.length c'] 25) (.cells #[.int .i64 k.kind, .string k.item, .int .i64 k.long, .int .i64 k.many, .slice A' k.kids.length d, .slice As' k.shares.length d'] 25)
  refine bodyPost_ret (results_cell1_row rfl _ _ (w.heap.size + 1) 25 #[.int .i64 x.kind, .string x.item, .int .i64 x.long, .int .i64 x.many, .slice (some ⟨b, off, none⟩) x.kids.length c, .slice As x.shares.length c'] (0, 0) _ rfl (heap_mid w _ _ _) Tryd.underlying25 rfl (by kernel_rfl)) rfl ?_
  rw [HC.out]
  exact ⟨⟨some ⟨b, off, none⟩, As, c, c', rfl, LR.weak (R := R) (HH.out.below hbd) (fun b hb => .inl hb)⟩, hbd⟩
set_option maxHeartbeats 4000000 in
set_option maxRecDepth 100000 in
theorem chr_one {R : Nat → Prop} (x : Lp) (A As : Option Addr) (c c' : Nat) (w : World) (h : LR R w x A As) (h1 : x.kind ≠ 1) (h5 : x.kind ≠ 5) (k : Lp) (hks : x.kids = [k]) :
    Calls Tryd.prog 25 #[lv x A As c c'] w fun e w' => (CrRes R w.heap.size (x1 x) e w') ∧ Below w.heap.size w w' := by
  have HH := Lib.hid h
  have HC := Lib.hid (x1_some (ch_one h1 h5 hks))
  have hb1 : (x.kind == 1) = false := by rw [beq_eq_false_iff_ne]; exact h1
  have hb5 : (x.kind == 5) = false := by rw [beq_eq_false_iff_ne]; exact h5
  have hn5 : (x.kind != 5) = true := bne_iff_ne.2 h5
  have hlen : ((x.kids.length : Int) == 1) = true := by rw [hks]; rfl
  have hk0 : 0 < x.kids.length := by rw [hks]; simp
  have hki : x.kids[0] = k := by simp [hks]
  obtain ⟨b, off, A', As', d, d', rfl, -, e1, hat⟩ := h.kids.at 0 hk0
  rw [hki] at e1 hat
  have HAT := Lib.hid hat
  have HK : Hid (∀ i u, (row k A' As' d d')[i]? = some u → w.cell? ⟨b, off + i, none⟩ = some u) := Lib.hid (fun i u hu => by have := e1 i u hu; simpa using this)
  have hkl : (0 : Int) < x.kids.length := by omega
  have hnz : ¬ x.kids = [] := fun e => by rw [e] at hk0; simp at hk0
  have HKB := Lib.hid (fun (W : World) (hb : Below w.heap.size w W) => (⟨B.cell_below hb (HK.out 0 _ rfl), B.cell_below hb (HK.out 1 _ rfl), B.cell_below hb (HK.out 2 _ rfl), B.cell_below hb (HK.out 3 _ rfl), B.cell_below hb (HK.out 4 _ rfl), B.cell_below hb (HK.out 5 _ rfl)⟩ : _ ∧ _ ∧ _ ∧ _ ∧ _ ∧ _))
  have HB2 := fun (a1 a2 : Array Value) (e1 e2 : TypeId) => ((Below.refl w.heap.size w).alloc (Nat.le_refl _) (.cells a1 e1)).alloc (by simp) (.cells a2 e2)
  obtain ⟨k0, k1, k2, k3, k4, k5⟩ := HKB.out _ (HB2 #[.int .i64 x.kind, .string x.item, .int .i64 x.long, .int .i64 x.many, .slice (some ⟨b, off, none⟩) x.kids.length c, .slice As x.shares.length c'] #[.int .i64 0, .string ⟨#[]⟩, .int .i64 0, .int .i64 0, .slice none 0 0, .slice none 0 0] 25 25)
  simp only [Nat.add_zero] at k0
  clear h hki hks hat e1 h1 h5 HKB HB2 HK
  unfold lv
  go_enter Tryd.func25, Tryd.ntmps25
  go_wp2
  have hbd := below_three w (.cells #[.int .i64 x.kind, .string x.item, .int .i64 x.long, .int .i64 x.many, .slice (some ⟨b, off, none⟩) x.kids.length c, .slice As x.shares.length c'] 25) (.cells #[.int .i64 k.kind, .string k.item, .int .i64 k.long, .int .i64 k.many, .slice A' k.kids.length d, .slice As' k.shares.length d'] 25) (.cells #[.int .i64 k.kind, .string k.item, .int .i64 k.long, .int .i64 k.many, .slice A' k.kids.length d, .slice As' k.shares.length d'] 25)
  refine bodyPost_ret (results_cell1_row rfl _ _ (w.heap.size + 1) 25 #[.int .i64 k.kind, .string k.item, .int .i64 k.long, .int .i64 k.many, .slice A' k.kids.length d, .slice As' k.shares.length d'] (0, 0) _ rfl (heap_mid w _ _ _) Tryd.underlying25 rfl (by kernel_rfl)) rfl ?_
  rw [HC.out]
  exact ⟨⟨A', As', d, d', rfl, LR.weak (R := R) (HAT.out.below hbd) (fun b hb => .inl hb)⟩, hbd⟩
set_option maxHeartbeats 4000000 in
set_option maxRecDepth 100000 in
theorem chr_row {R : Nat → Prop} (x : Lp) (A As : Option Addr) (c c' : Nat) (w : World) (h : LR R w x A As) (hv : Vd x) (h2 : x.kind = 2) (hl : 1 < x.kids.length) (k : Lp) (ks : List Lp) (hks : x.kids = k :: ks) (hR : ∀ b, R b → b < w.heap.size) (hp : partsL x.kids ≤ 200) :
    Calls Tryd.prog 25 #[lv x A As c c'] w fun e w' => (CrRes R w.heap.size (x1 x) e w') ∧ Below w.heap.size w w' := by
  have HH := Lib.hid h
  have HC := Lib.hid (x1_row hv h2 hl)
  have HRR := Lib.hid hR
  have hb1 : (x.kind == 1) = false := by rw [h2]; rfl
  have hb2 : (x.kind == 2) = true := by rw [h2]; rfl
  have hb3 : (x.kind == 3) = false := by rw [h2]; rfl
  have hb4 : (x.kind == 4) = false := by rw [h2]; rfl
  have hb5 : (x.kind == 5) = false := by rw [h2]; rfl
  have hn5 : (x.kind != 5) = true := by rw [h2]; rfl
  have hlen : ((x.kids.length : Int) == 1) = false := by rw [beq_eq_false_iff_ne]; omega
  have hk0 : 0 < x.kids.length := by rw [hks]; simp
  have hki : x.kids[0] = k := by simp [hks]
  obtain ⟨b, off, A', As', d, d', rfl, -, e1, hat⟩ := h.kids.at 0 hk0
  rw [hki] at e1 hat
  have HAT := Lib.hid hat
  have HK : Hid (∀ i u, (row k A' As' d d')[i]? = some u → w.cell? ⟨b, off + i, none⟩ = some u) := Lib.hid (fun i u hu => by have := e1 i u hu; simpa using this)
  have hkl : (0 : Int) < x.kids.length := by omega
  have hnz : ¬ x.kids = [] := fun e => by rw [e] at hk0; simp at hk0
  have HKB := Lib.hid (fun (W : World) (hb : Below w.heap.size w W) => (⟨B.cell_below hb (HK.out 0 _ rfl), B.cell_below hb (HK.out 1 _ rfl), B.cell_below hb (HK.out 2 _ rfl), B.cell_below hb (HK.out 3 _ rfl), B.cell_below hb (HK.out 4 _ rfl), B.cell_below hb (HK.out 5 _ rfl)⟩ : _ ∧ _ ∧ _ ∧ _ ∧ _ ∧ _))
  have HB2 := fun (a1 a2 : Array Value) (e1 e2 : TypeId) => ((Below.refl w.heap.size w).alloc (Nat.le_refl _) (.cells a1 e1)).alloc (by simp) (.cells a2 e2)
  obtain ⟨k0, k1, k2, k3, k4, k5⟩ := HKB.out _ (HB2 #[.int .i64 x.kind, .string x.item, .int .i64 x.long, .int .i64 x.many, .slice (some ⟨b, off, none⟩) x.kids.length c, .slice As x.shares.length c'] #[.int .i64 0, .string ⟨#[]⟩, .int .i64 0, .int .i64 0, .slice none 0 0, .slice none 0 0] 25 25)
  simp only [Nat.add_zero] at k0
  have HF := Lib.hid (fun (W : World) (hb : Below w.heap.size w W) => gatheredR_any (R := R) x.kids (some ⟨b, off, none⟩) c W (h.kids.below hb) (fun b hb2 => by have := hR b hb2; have := hb.size; omega) (fun y hy => hv.kid hy) hp)
  generalize hgg : gath x.kids = GG at *
  have HGG := Lib.hid hgg
  clear h hv hki hks hat e1 h2 HKB HB2 HK hR hp hgg
  unfold lv
  go_enter Tryd.func25, Tryd.ntmps25
  go_wp2_with (go_at_call 41; have HZ := Lib.hid (@Cz.new w x k (some ⟨b, off, none⟩) As c c' A' As' d d'); refine (HF.out _ HZ.out.bl).mono ?_; rintro e w5 ⟨⟨A3, d3, rfl, hS5⟩, hB5⟩; have HS5 := Lib.hid hS5; have HB5 := Lib.hid hB5; have HZ5 := Lib.hid (HZ.out.below hB5); clear hS5 hB5; have u0 := HZ5.out.y 0 _ rfl; have u1 := HZ5.out.y 1 _ rfl; have u2 := HZ5.out.y 2 _ rfl; have u3 := HZ5.out.y 3 _ rfl; have u4 := HZ5.out.y 4 _ rfl; have u5 := HZ5.out.y 5 _ rfl; have v0 := HZ5.out.q 0 _ rfl; have v1 := HZ5.out.q 1 _ rfl; have v2 := HZ5.out.q 2 _ rfl; have v3 := HZ5.out.q 3 _ rfl; have v4 := HZ5.out.q 4 _ rfl; have v5 := HZ5.out.q 5 _ rfl; have uz := HZ5.out.yz; have vz := HZ5.out.qz)
  have HW : Fr (fun b => b = w.heap.size) w5 (w5.setCell ⟨w.heap.size, 4, none⟩ (.slice A3 GG.length d3)) := (Fr.refl (fun b => b = w.heap.size) w5).set (p := ⟨w.heap.size, 4, none⟩) (fun _ => rfl) _
  have hrw := (HW.block (w.heap.size + 1) (by have := HZ5.out.sz; omega) (by omega)).trans HZ5.out.rw
  have hbl : Below w.heap.size w (w5.setCell ⟨w.heap.size, 4, none⟩ (.slice A3 GG.length d3)) := HZ5.out.bl.setCell (Nat.le_refl _) _
  have hrow : (((((((w5.setCell ⟨w.heap.size, 4, none⟩ (.slice A3 GG.length d3)).setCell ⟨w.heap.size + 1, 0, none⟩ (.int .i64 x.kind)).setCell ⟨w.heap.size + 1, 1, none⟩ (.string x.item)).setCell ⟨w.heap.size + 1, 2, none⟩ (.int .i64 x.long)).setCell ⟨w.heap.size + 1, 3, none⟩ (.int .i64 x.many)).setCell ⟨w.heap.size + 1, 4, none⟩ (.slice A3 GG.length d3)).setCell ⟨w.heap.size + 1, 5, none⟩ (.slice As x.shares.length c')).heap[w.heap.size + 1]? = some (.cells #[.int .i64 x.kind, .string x.item, .int .i64 x.long, .int .i64 x.many, .slice A3 GG.length d3, .slice As x.shares.length c'] 25 (0, 0)) := set6 (a := .int .i64 0) (b := .string ⟨#[]⟩) (c := .int .i64 0) (d := .int .i64 0) (e := .slice none 0 0) (f := .slice none 0 0) hrw
  have hbd : Below w.heap.size w (((((((w5.setCell ⟨w.heap.size, 4, none⟩ (.slice A3 GG.length d3)).setCell ⟨w.heap.size + 1, 0, none⟩ (.int .i64 x.kind)).setCell ⟨w.heap.size + 1, 1, none⟩ (.string x.item)).setCell ⟨w.heap.size + 1, 2, none⟩ (.int .i64 x.long)).setCell ⟨w.heap.size + 1, 3, none⟩ (.int .i64 x.many)).setCell ⟨w.heap.size + 1, 4, none⟩ (.slice A3 GG.length d3)).setCell ⟨w.heap.size + 1, 5, none⟩ (.slice As x.shares.length c')) := below6 hbl (by omega) _ _ _ _ _ _
  have hff : Fr (fun b => b = w.heap.size + 1) (w5.setCell ⟨w.heap.size, 4, none⟩ (.slice A3 GG.length d3)) (((((((w5.setCell ⟨w.heap.size, 4, none⟩ (.slice A3 GG.length d3)).setCell ⟨w.heap.size + 1, 0, none⟩ (.int .i64 x.kind)).setCell ⟨w.heap.size + 1, 1, none⟩ (.string x.item)).setCell ⟨w.heap.size + 1, 2, none⟩ (.int .i64 x.long)).setCell ⟨w.heap.size + 1, 3, none⟩ (.int .i64 x.many)).setCell ⟨w.heap.size + 1, 4, none⟩ (.slice A3 GG.length d3)).setCell ⟨w.heap.size + 1, 5, none⟩ (.slice As x.shares.length c')) := fr6 _ _ _ _ _ _ _ _
  generalize (((((((w5.setCell ⟨w.heap.size, 4, none⟩ (.slice A3 GG.length d3)).setCell ⟨w.heap.size + 1, 0, none⟩ (.int .i64 x.kind)).setCell ⟨w.heap.size + 1, 1, none⟩ (.string x.item)).setCell ⟨w.heap.size + 1, 2, none⟩ (.int .i64 x.long)).setCell ⟨w.heap.size + 1, 3, none⟩ (.int .i64 x.many)).setCell ⟨w.heap.size + 1, 4, none⟩ (.slice A3 GG.length d3)).setCell ⟨w.heap.size + 1, 5, none⟩ (.slice As x.shares.length c')) = WF at hrow hbd hff ⊢
  refine bodyPost_ret (results_cell1_row rfl _ _ (w.heap.size + 1) 25 #[.int .i64 x.kind, .string x.item, .int .i64 x.long, .int .i64 x.many, .slice A3 GG.length d3, .slice As x.shares.length c'] (0, 0) _ rfl hrow Tryd.underlying25 rfl (by kernel_rfl)) rfl ?_
  have hF : Fr (fun b => b = w.heap.size ∨ b = w.heap.size + 1) w5 WF := (HW.weak (T := fun b => b = w.heap.size ∨ b = w.heap.size + 1) (fun _ _ h => .inl h)).trans hff (fun _ _ h => .inr h)
  rw [HC.out]
  refine ⟨⟨A3, As, d3, c', rfl, lr_upd HH.out.ok (HH.out.sh.mono hbd) (fun hp => ?_) (HS5.out.fr hF (fun b hb e => ?_) (fun b hb => rn_fr hF (by simp; omega) (fun b hb e => by simp at hb; omega) b hb))⟩, hbd⟩
  · obtain ⟨b1, o1, e1, h1⟩ := HH.out.shR hp
    exact ⟨b1, o1, e1, .inl h1⟩
  · rcases hb with hb | hb
    · have := HRR.out b hb; omega
    · have h1 := hb.1
      simp at h1
      omega

set_option maxHeartbeats 4000000 in
set_option maxRecDepth 100000 in
theorem chr_turn0 {R : Nat → Prop} (x : Lp) (A As : Option Addr) (c c' : Nat) (w : World) (h : LR R w x A As) (h3 : x.kind = 3) (hl : 1 < x.kids.length) (k : Lp) (ks : List Lp) (hks : x.kids = k :: ks) (hpl : plain k = false) :
    Calls Tryd.prog 25 #[lv x A As c c'] w fun e w' => (CrRes R w.heap.size (x1 x) e w') ∧ Below w.heap.size w w' := by
  have HH := Lib.hid h
  have HC := Lib.hid (x1_none ((ch_turn h3 hks hl).trans (if_neg (fun e => by rw [hpl] at e; cases e.2))))
  have hb1 : (x.kind == 1) = false := by rw [h3]; rfl
  have hb2 : (x.kind == 2) = false := by rw [h3]; rfl
  have hb3 : (x.kind == 3) = true := by rw [h3]; rfl
  have hb4 : (x.kind == 4) = false := by rw [h3]; rfl
  have hb5 : (x.kind == 5) = false := by rw [h3]; rfl
  have hn5 : (x.kind != 5) = true := by rw [h3]; rfl
  have hlen : ((x.kids.length : Int) == 1) = false := by rw [beq_eq_false_iff_ne]; omega
  have hk0 : 0 < x.kids.length := by rw [hks]; simp
  have hki : x.kids[0] = k := by simp [hks]
  obtain ⟨b, off, A', As', d, d', rfl, -, e1, hat⟩ := h.kids.at 0 hk0
  rw [hki] at e1 hat
  have HAT := Lib.hid hat
  have HK : Hid (∀ i u, (row k A' As' d d')[i]? = some u → w.cell? ⟨b, off + i, none⟩ = some u) := Lib.hid (fun i u hu => by have := e1 i u hu; simpa using this)
  have hkl : (0 : Int) < x.kids.length := by omega
  have hnz : ¬ x.kids = [] := fun e => by rw [e] at hk0; simp at hk0
  have HKB := Lib.hid (fun (W : World) (hb : Below w.heap.size w W) => (⟨B.cell_below hb (HK.out 0 _ rfl), B.cell_below hb (HK.out 1 _ rfl), B.cell_below hb (HK.out 2 _ rfl), B.cell_below hb (HK.out 3 _ rfl), B.cell_below hb (HK.out 4 _ rfl), B.cell_below hb (HK.out 5 _ rfl)⟩ : _ ∧ _ ∧ _ ∧ _ ∧ _ ∧ _))
  have HB2 := fun (a1 a2 : Array Value) (e1 e2 : TypeId) => ((Below.refl w.heap.size w).alloc (Nat.le_refl _) (.cells a1 e1)).alloc (by simp) (.cells a2 e2)
  obtain ⟨k0, k1, k2, k3, k4, k5⟩ := HKB.out _ (HB2 #[.int .i64 x.kind, .string x.item, .int .i64 x.long, .int .i64 x.many, .slice (some ⟨b, off, none⟩) x.kids.length c, .slice As x.shares.length c'] #[.int .i64 0, .string ⟨#[]⟩, .int .i64 0, .int .i64 0, .slice none 0 0, .slice none 0 0] 25 25)
  simp only [Nat.add_zero] at k0
  have HS := Lib.hid (fun (W : World) (hb : Below w.heap.size w W) => still _ k (Nat.le_refl _) R A' As' d d' W (hat.below hb))
  rw [hpl] at HS
  clear h hki hks hat e1 h3 HKB HB2 HK hpl
  unfold lv at HS ⊢
  go_enter Tryd.func25, Tryd.ntmps25
  go_wp2_with (go_at_call 37; have HZ := Lib.hid (@Cz.new w x k (some ⟨b, off, none⟩) As c c' A' As' d d'); refine (HS.out _ HZ.out.bl).mono ?_; rintro e w5 ⟨rfl, hB5⟩; have HZ5 := Lib.hid (HZ.out.below hB5); clear hB5; have u0 := HZ5.out.y 0 _ rfl; have u1 := HZ5.out.y 1 _ rfl; have u2 := HZ5.out.y 2 _ rfl; have u3 := HZ5.out.y 3 _ rfl; have u4 := HZ5.out.y 4 _ rfl; have u5 := HZ5.out.y 5 _ rfl; have v0 := HZ5.out.q 0 _ rfl; have v1 := HZ5.out.q 1 _ rfl; have v2 := HZ5.out.q 2 _ rfl; have v3 := HZ5.out.q 3 _ rfl; have v4 := HZ5.out.q 4 _ rfl; have v5 := HZ5.out.q 5 _ rfl; have n0 := HZ5.out.f 0 _ rfl; have n1 := HZ5.out.f 1 _ rfl; have n2 := HZ5.out.f 2 _ rfl; have n3 := HZ5.out.f 3 _ rfl; have n4 := HZ5.out.f 4 _ rfl; have n5 := HZ5.out.f 5 _ rfl; have vz := HZ5.out.qz)
  go_simp
  have hrow : ((((((w5.setCell ⟨w.heap.size + 1, 0, none⟩ (.int .i64 x.kind)).setCell ⟨w.heap.size + 1, 1, none⟩ (.string x.item)).setCell ⟨w.heap.size + 1, 2, none⟩ (.int .i64 x.long)).setCell ⟨w.heap.size + 1, 3, none⟩ (.int .i64 x.many)).setCell ⟨w.heap.size + 1, 4, none⟩ (.slice (some ⟨b, off, none⟩) x.kids.length c)).setCell ⟨w.heap.size + 1, 5, none⟩ (.slice As x.shares.length c')).heap[w.heap.size + 1]? = some (.cells #[.int .i64 x.kind, .string x.item, .int .i64 x.long, .int .i64 x.many, .slice (some ⟨b, off, none⟩) x.kids.length c, .slice As x.shares.length c'] 25 (0, 0)) := set6 (a := .int .i64 0) (b := .string ⟨#[]⟩) (c := .int .i64 0) (d := .int .i64 0) (e := .slice none 0 0) (f := .slice none 0 0) HZ5.out.rw
  have hbd : Below w.heap.size w ((((((w5.setCell ⟨w.heap.size + 1, 0, none⟩ (.int .i64 x.kind)).setCell ⟨w.heap.size + 1, 1, none⟩ (.string x.item)).setCell ⟨w.heap.size + 1, 2, none⟩ (.int .i64 x.long)).setCell ⟨w.heap.size + 1, 3, none⟩ (.int .i64 x.many)).setCell ⟨w.heap.size + 1, 4, none⟩ (.slice (some ⟨b, off, none⟩) x.kids.length c)).setCell ⟨w.heap.size + 1, 5, none⟩ (.slice As x.shares.length c')) := below6 HZ5.out.bl (by omega) _ _ _ _ _ _
  have hff : Fr (fun b => b = w.heap.size + 1) w5 ((((((w5.setCell ⟨w.heap.size + 1, 0, none⟩ (.int .i64 x.kind)).setCell ⟨w.heap.size + 1, 1, none⟩ (.string x.item)).setCell ⟨w.heap.size + 1, 2, none⟩ (.int .i64 x.long)).setCell ⟨w.heap.size + 1, 3, none⟩ (.int .i64 x.many)).setCell ⟨w.heap.size + 1, 4, none⟩ (.slice (some ⟨b, off, none⟩) x.kids.length c)).setCell ⟨w.heap.size + 1, 5, none⟩ (.slice As x.shares.length c')) := fr6 _ _ _ _ _ _ _ _
  generalize ((((((w5.setCell ⟨w.heap.size + 1, 0, none⟩ (.int .i64 x.kind)).setCell ⟨w.heap.size + 1, 1, none⟩ (.string x.item)).setCell ⟨w.heap.size + 1, 2, none⟩ (.int .i64 x.long)).setCell ⟨w.heap.size + 1, 3, none⟩ (.int .i64 x.many)).setCell ⟨w.heap.size + 1, 4, none⟩ (.slice (some ⟨b, off, none⟩) x.kids.length c)).setCell ⟨w.heap.size + 1, 5, none⟩ (.slice As x.shares.length c')) = WF at hrow hbd hff ⊢
  refine bodyPost_ret (results_cell1_row rfl _ _ (w.heap.size + 1) 25 #[.int .i64 x.kind, .string x.item, .int .i64 x.long, .int .i64 x.many, .slice (some ⟨b, off, none⟩) x.kids.length c, .slice As x.shares.length c'] (0, 0) _ rfl hrow Tryd.underlying25 rfl (by kernel_rfl)) rfl ?_
  rw [HC.out]
  exact ⟨⟨some ⟨b, off, none⟩, As, c, c', rfl, LR.weak (R := R) (HH.out.below hbd) (fun b hb => .inl hb)⟩, hbd⟩
set_option maxHeartbeats 4000000 in
set_option maxRecDepth 100000 in
theorem chr_turn1 {R : Nat → Prop} (x : Lp) (A As : Option Addr) (c c' : Nat) (w : World) (h : LR R w x A As) (h3 : x.kind = 3) (hl : 1 < x.kids.length) (k : Lp) (ks : List Lp) (hks : x.kids = k :: ks) (hpl : plain k = true) (hsm : ∀ y ∈ x.kids, y = k) :
    Calls Tryd.prog 25 #[lv x A As c c'] w fun e w' => (CrRes R w.heap.size (x1 x) e w') ∧ Below w.heap.size w w' := by
  have HH := Lib.hid h
  have HC := Lib.hid (x1_some ((ch_turn h3 hks hl).trans (if_pos ⟨hsm, hpl⟩)))
  have hb1 : (x.kind == 1) = false := by rw [h3]; rfl
  have hb2 : (x.kind == 2) = false := by rw [h3]; rfl
  have hb3 : (x.kind == 3) = true := by rw [h3]; rfl
  have hb4 : (x.kind == 4) = false := by rw [h3]; rfl
  have hb5 : (x.kind == 5) = false := by rw [h3]; rfl
  have hn5 : (x.kind != 5) = true := by rw [h3]; rfl
  have hlen : ((x.kids.length : Int) == 1) = false := by rw [beq_eq_false_iff_ne]; omega
  have hk0 : 0 < x.kids.length := by rw [hks]; simp
  have hki : x.kids[0] = k := by simp [hks]
  obtain ⟨b, off, A', As', d, d', rfl, -, e1, hat⟩ := h.kids.at 0 hk0
  rw [hki] at e1 hat
  have HAT := Lib.hid hat
  have HK : Hid (∀ i u, (row k A' As' d d')[i]? = some u → w.cell? ⟨b, off + i, none⟩ = some u) := Lib.hid (fun i u hu => by have := e1 i u hu; simpa using this)
  have hkl : (0 : Int) < x.kids.length := by omega
  have hnz : ¬ x.kids = [] := fun e => by rw [e] at hk0; simp at hk0
  have HKB := Lib.hid (fun (W : World) (hb : Below w.heap.size w W) => (⟨B.cell_below hb (HK.out 0 _ rfl), B.cell_below hb (HK.out 1 _ rfl), B.cell_below hb (HK.out 2 _ rfl), B.cell_below hb (HK.out 3 _ rfl), B.cell_below hb (HK.out 4 _ rfl), B.cell_below hb (HK.out 5 _ rfl)⟩ : _ ∧ _ ∧ _ ∧ _ ∧ _ ∧ _))
  have HB2 := fun (a1 a2 : Array Value) (e1 e2 : TypeId) => ((Below.refl w.heap.size w).alloc (Nat.le_refl _) (.cells a1 e1)).alloc (by simp) (.cells a2 e2)
  obtain ⟨k0, k1, k2, k3, k4, k5⟩ := HKB.out _ (HB2 #[.int .i64 x.kind, .string x.item, .int .i64 x.long, .int .i64 x.many, .slice (some ⟨b, off, none⟩) x.kids.length c, .slice As x.shares.length c'] #[.int .i64 0, .string ⟨#[]⟩, .int .i64 0, .int .i64 0, .slice none 0 0, .slice none 0 0] 25 25)
  simp only [Nat.add_zero] at k0
  have HS := Lib.hid (fun (W : World) (hb : Below w.heap.size w W) => still _ k (Nat.le_refl _) R A' As' d d' W (hat.below hb))
  have HY := Lib.hid (fun (W : World) (hb : Below w.heap.size w W) (hf : ∀ i u, (row k A' As' d d')[i]? = some u → W.cell? ⟨w.heap.size + 2, i, none⟩ = some u) => chanyR x.kids k (some ⟨b, off, none⟩) A' As' c d d' (w.heap.size + 2) W (h.kids.below hb) (hat.below hb) hf)
  have ha : (x.kids.all fun y => decide (y = k)) = true := by rw [hks, all_same', ← hks]; first | exact decide_eq_true hsm | exact decide_eq_false hsm
  rw [hpl] at HS
  rw [ha] at HY
  clear h hki hks hat e1 h3 HKB HB2 HK hpl ha hsm
  unfold lv at HS ⊢
  go_enter Tryd.func25, Tryd.ntmps25
  go_wp2_with (first | (go_at_call 37; have HZ := Lib.hid (@Cz.new w x k (some ⟨b, off, none⟩) As c c' A' As' d d'); refine (HS.out _ HZ.out.bl).mono ?_; rintro e w5 ⟨rfl, hB5⟩; have HZ5 := Lib.hid (HZ.out.below hB5); clear hB5; have u0 := HZ5.out.y 0 _ rfl; have u1 := HZ5.out.y 1 _ rfl; have u2 := HZ5.out.y 2 _ rfl; have u3 := HZ5.out.y 3 _ rfl; have u4 := HZ5.out.y 4 _ rfl; have u5 := HZ5.out.y 5 _ rfl; have v0 := HZ5.out.q 0 _ rfl; have v1 := HZ5.out.q 1 _ rfl; have v2 := HZ5.out.q 2 _ rfl; have v3 := HZ5.out.q 3 _ rfl; have v4 := HZ5.out.q 4 _ rfl; have v5 := HZ5.out.q 5 _ rfl; have n0 := HZ5.out.f 0 _ rfl; have n1 := HZ5.out.f 1 _ rfl; have n2 := HZ5.out.f 2 _ rfl; have n3 := HZ5.out.f 3 _ rfl; have n4 := HZ5.out.f 4 _ rfl; have n5 := HZ5.out.f 5 _ rfl; have vz := HZ5.out.qz) | (go_at_call 38; refine (HY.out w5 HZ5.out.bl (fun i u hu => HZ5.out.f i u hu)).mono ?_; rintro e w6 ⟨rfl, hB6⟩; have HZ6 := Lib.hid (HZ5.out.below hB6); clear hB6; have i0 := HZ6.out.y 0 _ rfl; have i1 := HZ6.out.y 1 _ rfl; have i2 := HZ6.out.y 2 _ rfl; have i3 := HZ6.out.y 3 _ rfl; have i4 := HZ6.out.y 4 _ rfl; have i5 := HZ6.out.y 5 _ rfl; have j0 := HZ6.out.q 0 _ rfl; have j1 := HZ6.out.q 1 _ rfl; have j2 := HZ6.out.q 2 _ rfl; have j3 := HZ6.out.q 3 _ rfl; have j4 := HZ6.out.q 4 _ rfl; have j5 := HZ6.out.q 5 _ rfl; have m0 := HZ6.out.f 0 _ rfl; have m1 := HZ6.out.f 1 _ rfl; have m2 := HZ6.out.f 2 _ rfl; have m3 := HZ6.out.f 3 _ rfl; have m4 := HZ6.out.f 4 _ rfl; have m5 := HZ6.out.f 5 _ rfl; have jz := HZ6.out.qz))
  go_simp
  have hrow : ((((((w6.setCell ⟨w.heap.size + 1, 0, none⟩ (.int .i64 k.kind)).setCell ⟨w.heap.size + 1, 1, none⟩ (.string k.item)).setCell ⟨w.heap.size + 1, 2, none⟩ (.int .i64 k.long)).setCell ⟨w.heap.size + 1, 3, none⟩ (.int .i64 k.many)).setCell ⟨w.heap.size + 1, 4, none⟩ (.slice A' k.kids.length d)).setCell ⟨w.heap.size + 1, 5, none⟩ (.slice As' k.shares.length d')).heap[w.heap.size + 1]? = some (.cells #[.int .i64 k.kind, .string k.item, .int .i64 k.long, .int .i64 k.many, .slice A' k.kids.length d, .slice As' k.shares.length d'] 25 (0, 0)) := set6 (a := .int .i64 0) (b := .string ⟨#[]⟩) (c := .int .i64 0) (d := .int .i64 0) (e := .slice none 0 0) (f := .slice none 0 0) HZ6.out.rw
  have hbd : Below w.heap.size w ((((((w6.setCell ⟨w.heap.size + 1, 0, none⟩ (.int .i64 k.kind)).setCell ⟨w.heap.size + 1, 1, none⟩ (.string k.item)).setCell ⟨w.heap.size + 1, 2, none⟩ (.int .i64 k.long)).setCell ⟨w.heap.size + 1, 3, none⟩ (.int .i64 k.many)).setCell ⟨w.heap.size + 1, 4, none⟩ (.slice A' k.kids.length d)).setCell ⟨w.heap.size + 1, 5, none⟩ (.slice As' k.shares.length d')) := below6 HZ6.out.bl (by omega) _ _ _ _ _ _
  have hff : Fr (fun b => b = w.heap.size + 1) w6 ((((((w6.setCell ⟨w.heap.size + 1, 0, none⟩ (.int .i64 k.kind)).setCell ⟨w.heap.size + 1, 1, none⟩ (.string k.item)).setCell ⟨w.heap.size + 1, 2, none⟩ (.int .i64 k.long)).setCell ⟨w.heap.size + 1, 3, none⟩ (.int .i64 k.many)).setCell ⟨w.heap.size + 1, 4, none⟩ (.slice A' k.kids.length d)).setCell ⟨w.heap.size + 1, 5, none⟩ (.slice As' k.shares.length d')) := fr6 _ _ _ _ _ _ _ _
  generalize ((((((w6.setCell ⟨w.heap.size + 1, 0, none⟩ (.int .i64 k.kind)).setCell ⟨w.heap.size + 1, 1, none⟩ (.string k.item)).setCell ⟨w.heap.size + 1, 2, none⟩ (.int .i64 k.long)).setCell ⟨w.heap.size + 1, 3, none⟩ (.int .i64 k.many)).setCell ⟨w.heap.size + 1, 4, none⟩ (.slice A' k.kids.length d)).setCell ⟨w.heap.size + 1, 5, none⟩ (.slice As' k.shares.length d')) = WF at hrow hbd hff ⊢
  refine bodyPost_ret (results_cell1_row rfl _ _ (w.heap.size + 1) 25 #[.int .i64 k.kind, .string k.item, .int .i64 k.long, .int .i64 k.many, .slice A' k.kids.length d, .slice As' k.shares.length d'] (0, 0) _ rfl hrow Tryd.underlying25 rfl (by kernel_rfl)) rfl ?_
  rw [HC.out]
  exact ⟨⟨A', As', d, d', rfl, LR.weak (R := R) (HAT.out.below hbd) (fun b hb => .inl hb)⟩, hbd⟩
set_option maxHeartbeats 4000000 in
set_option maxRecDepth 100000 in
theorem chr_turn2 {R : Nat → Prop} (x : Lp) (A As : Option Addr) (c c' : Nat) (w : World) (h : LR R w x A As) (h3 : x.kind = 3) (hl : 1 < x.kids.length) (k : Lp) (ks : List Lp) (hks : x.kids = k :: ks) (hpl : plain k = true) (hsm : ¬ ∀ y ∈ x.kids, y = k) :
    Calls Tryd.prog 25 #[lv x A As c c'] w fun e w' => (CrRes R w.heap.size (x1 x) e w') ∧ Below w.heap.size w w' := by
  have HH := Lib.hid h
  have HC := Lib.hid (x1_none ((ch_turn h3 hks hl).trans (if_neg (fun e => hsm e.1))))
  have hb1 : (x.kind == 1) = false := by rw [h3]; rfl
  have hb2 : (x.kind == 2) = false := by rw [h3]; rfl
  have hb3 : (x.kind == 3) = true := by rw [h3]; rfl
  have hb4 : (x.kind == 4) = false := by rw [h3]; rfl
  have hb5 : (x.kind == 5) = false := by rw [h3]; rfl
  have hn5 : (x.kind != 5) = true := by rw [h3]; rfl
  have hlen : ((x.kids.length : Int) == 1) = false := by rw [beq_eq_false_iff_ne]; omega
  have hk0 : 0 < x.kids.length := by rw [hks]; simp
  have hki : x.kids[0] = k := by simp [hks]
  obtain ⟨b, off, A', As', d, d', rfl, -, e1, hat⟩ := h.kids.at 0 hk0
  rw [hki] at e1 hat
  have HAT := Lib.hid hat
  have HK : Hid (∀ i u, (row k A' As' d d')[i]? = some u → w.cell? ⟨b, off + i, none⟩ = some u) := Lib.hid (fun i u hu => by have := e1 i u hu; simpa using this)
  have hkl : (0 : Int) < x.kids.length := by omega
  have hnz : ¬ x.kids = [] := fun e => by rw [e] at hk0; simp at hk0
  have HKB := Lib.hid (fun (W : World) (hb : Below w.heap.size w W) => (⟨B.cell_below hb (HK.out 0 _ rfl), B.cell_below hb (HK.out 1 _ rfl), B.cell_below hb (HK.out 2 _ rfl), B.cell_below hb (HK.out 3 _ rfl), B.cell_below hb (HK.out 4 _ rfl), B.cell_below hb (HK.out 5 _ rfl)⟩ : _ ∧ _ ∧ _ ∧ _ ∧ _ ∧ _))
  have HB2 := fun (a1 a2 : Array Value) (e1 e2 : TypeId) => ((Below.refl w.heap.size w).alloc (Nat.le_refl _) (.cells a1 e1)).alloc (by simp) (.cells a2 e2)
  obtain ⟨k0, k1, k2, k3, k4, k5⟩ := HKB.out _ (HB2 #[.int .i64 x.kind, .string x.item, .int .i64 x.long, .int .i64 x.many, .slice (some ⟨b, off, none⟩) x.kids.length c, .slice As x.shares.length c'] #[.int .i64 0, .string ⟨#[]⟩, .int .i64 0, .int .i64 0, .slice none 0 0, .slice none 0 0] 25 25)
  simp only [Nat.add_zero] at k0
  have HS := Lib.hid (fun (W : World) (hb : Below w.heap.size w W) => still _ k (Nat.le_refl _) R A' As' d d' W (hat.below hb))
  have HY := Lib.hid (fun (W : World) (hb : Below w.heap.size w W) (hf : ∀ i u, (row k A' As' d d')[i]? = some u → W.cell? ⟨w.heap.size + 2, i, none⟩ = some u) => chanyR x.kids k (some ⟨b, off, none⟩) A' As' c d d' (w.heap.size + 2) W (h.kids.below hb) (hat.below hb) hf)
  have ha : (x.kids.all fun y => decide (y = k)) = false := by rw [hks, all_same', ← hks]; first | exact decide_eq_true hsm | exact decide_eq_false hsm
  rw [hpl] at HS
  rw [ha] at HY
  clear h hki hks hat e1 h3 HKB HB2 HK hpl ha hsm
  unfold lv at HS ⊢
  go_enter Tryd.func25, Tryd.ntmps25
  go_wp2_with (first | (go_at_call 37; have HZ := Lib.hid (@Cz.new w x k (some ⟨b, off, none⟩) As c c' A' As' d d'); refine (HS.out _ HZ.out.bl).mono ?_; rintro e w5 ⟨rfl, hB5⟩; have HZ5 := Lib.hid (HZ.out.below hB5); clear hB5; have u0 := HZ5.out.y 0 _ rfl; have u1 := HZ5.out.y 1 _ rfl; have u2 := HZ5.out.y 2 _ rfl; have u3 := HZ5.out.y 3 _ rfl; have u4 := HZ5.out.y 4 _ rfl; have u5 := HZ5.out.y 5 _ rfl; have v0 := HZ5.out.q 0 _ rfl; have v1 := HZ5.out.q 1 _ rfl; have v2 := HZ5.out.q 2 _ rfl; have v3 := HZ5.out.q 3 _ rfl; have v4 := HZ5.out.q 4 _ rfl; have v5 := HZ5.out.q 5 _ rfl; have n0 := HZ5.out.f 0 _ rfl; have n1 := HZ5.out.f 1 _ rfl; have n2 := HZ5.out.f 2 _ rfl; have n3 := HZ5.out.f 3 _ rfl; have n4 := HZ5.out.f 4 _ rfl; have n5 := HZ5.out.f 5 _ rfl; have vz := HZ5.out.qz) | (go_at_call 38; refine (HY.out w5 HZ5.out.bl (fun i u hu => HZ5.out.f i u hu)).mono ?_; rintro e w6 ⟨rfl, hB6⟩; have HZ6 := Lib.hid (HZ5.out.below hB6); clear hB6; have i0 := HZ6.out.y 0 _ rfl; have i1 := HZ6.out.y 1 _ rfl; have i2 := HZ6.out.y 2 _ rfl; have i3 := HZ6.out.y 3 _ rfl; have i4 := HZ6.out.y 4 _ rfl; have i5 := HZ6.out.y 5 _ rfl; have j0 := HZ6.out.q 0 _ rfl; have j1 := HZ6.out.q 1 _ rfl; have j2 := HZ6.out.q 2 _ rfl; have j3 := HZ6.out.q 3 _ rfl; have j4 := HZ6.out.q 4 _ rfl; have j5 := HZ6.out.q 5 _ rfl; have m0 := HZ6.out.f 0 _ rfl; have m1 := HZ6.out.f 1 _ rfl; have m2 := HZ6.out.f 2 _ rfl; have m3 := HZ6.out.f 3 _ rfl; have m4 := HZ6.out.f 4 _ rfl; have m5 := HZ6.out.f 5 _ rfl; have jz := HZ6.out.qz))
  go_simp
  have hrow : ((((((w6.setCell ⟨w.heap.size + 1, 0, none⟩ (.int .i64 x.kind)).setCell ⟨w.heap.size + 1, 1, none⟩ (.string x.item)).setCell ⟨w.heap.size + 1, 2, none⟩ (.int .i64 x.long)).setCell ⟨w.heap.size + 1, 3, none⟩ (.int .i64 x.many)).setCell ⟨w.heap.size + 1, 4, none⟩ (.slice (some ⟨b, off, none⟩) x.kids.length c)).setCell ⟨w.heap.size + 1, 5, none⟩ (.slice As x.shares.length c')).heap[w.heap.size + 1]? = some (.cells #[.int .i64 x.kind, .string x.item, .int .i64 x.long, .int .i64 x.many, .slice (some ⟨b, off, none⟩) x.kids.length c, .slice As x.shares.length c'] 25 (0, 0)) := set6 (a := .int .i64 0) (b := .string ⟨#[]⟩) (c := .int .i64 0) (d := .int .i64 0) (e := .slice none 0 0) (f := .slice none 0 0) HZ6.out.rw
  have hbd : Below w.heap.size w ((((((w6.setCell ⟨w.heap.size + 1, 0, none⟩ (.int .i64 x.kind)).setCell ⟨w.heap.size + 1, 1, none⟩ (.string x.item)).setCell ⟨w.heap.size + 1, 2, none⟩ (.int .i64 x.long)).setCell ⟨w.heap.size + 1, 3, none⟩ (.int .i64 x.many)).setCell ⟨w.heap.size + 1, 4, none⟩ (.slice (some ⟨b, off, none⟩) x.kids.length c)).setCell ⟨w.heap.size + 1, 5, none⟩ (.slice As x.shares.length c')) := below6 HZ6.out.bl (by omega) _ _ _ _ _ _
  have hff : Fr (fun b => b = w.heap.size + 1) w6 ((((((w6.setCell ⟨w.heap.size + 1, 0, none⟩ (.int .i64 x.kind)).setCell ⟨w.heap.size + 1, 1, none⟩ (.string x.item)).setCell ⟨w.heap.size + 1, 2, none⟩ (.int .i64 x.long)).setCell ⟨w.heap.size + 1, 3, none⟩ (.int .i64 x.many)).setCell ⟨w.heap.size + 1, 4, none⟩ (.slice (some ⟨b, off, none⟩) x.kids.length c)).setCell ⟨w.heap.size + 1, 5, none⟩ (.slice As x.shares.length c')) := fr6 _ _ _ _ _ _ _ _
  generalize ((((((w6.setCell ⟨w.heap.size + 1, 0, none⟩ (.int .i64 x.kind)).setCell ⟨w.heap.size + 1, 1, none⟩ (.string x.item)).setCell ⟨w.heap.size + 1, 2, none⟩ (.int .i64 x.long)).setCell ⟨w.heap.size + 1, 3, none⟩ (.int .i64 x.many)).setCell ⟨w.heap.size + 1, 4, none⟩ (.slice (some ⟨b, off, none⟩) x.kids.length c)).setCell ⟨w.heap.size + 1, 5, none⟩ (.slice As x.shares.length c')) = WF at hrow hbd hff ⊢
  refine bodyPost_ret (results_cell1_row rfl _ _ (w.heap.size + 1) 25 #[.int .i64 x.kind, .string x.item, .int .i64 x.long, .int .i64 x.many, .slice (some ⟨b, off, none⟩) x.kids.length c, .slice As x.shares.length c'] (0, 0) _ rfl hrow Tryd.underlying25 rfl (by kernel_rfl)) rfl ?_
  rw [HC.out]
  exact ⟨⟨some ⟨b, off, none⟩, As, c, c', rfl, LR.weak (R := R) (HH.out.below hbd) (fun b hb => .inl hb)⟩, hbd⟩
set_option maxHeartbeats 4000000 in
set_option maxRecDepth 100000 in
theorem chr_share {R : Nat → Prop} (x : Lp) (A : Option Addr) (gb so : Nat) (c c' : Nat) (w : World) (h : LR R w x A (some ⟨gb, so, none⟩)) (hv : Vd x) (h4 : x.kind = 4) (hl : 1 < x.kids.length) (k : Lp) (ks : List Lp) (hks : x.kids = k :: ks) (hu : UF w gb) :
    Calls Tryd.prog 25 #[lv x A (some ⟨gb, so, none⟩) c c'] w fun e w' => e = .returned (.agg #[.int .i64 x.kind, .string x.item, .int .i64 x.long, .int .i64 x.many, .slice A x.kids.length c, .slice (some ⟨gb, so, none⟩) x.shares.length c']) ∧ Fr (fun b => b = gb ∧ ((T.gcdL x.shares 0 : Nat) : Int) ≠ 1) w w' ∧ B.Kd.int.C w' (some ⟨gb, so, none⟩) (dvd x).shares ∧ UF w' gb := by
  have HH := Lib.hid h
  have HUF := Lib.hid hu
  have HV := Lib.hid (dvd_ok hv h4)
  have ho := T.own_ok hv.own
  have hsl : x.shares.length = x.kids.length := ho.2.2.2.2.1 h4
  have HSP : Hid (0 < x.shares.length ∧ x.shares.length ≤ 1048576) := Lib.hid ⟨by omega, h.ok.2.2.2.1⟩
  have HIB : Hid (∀ s ∈ x.shares, 1 ≤ s ∧ s ≤ 1000) := Lib.hid ho.2.2.2.2.2.1
  have HGB : Hid (gb < w.heap.size) := Lib.hid (by
    obtain ⟨b3, o3, e3, f3⟩ := T.share_at (w := w) h.sh (Below.refl _ _) 0 (by omega)
    cases e3
    exact World.block_lt_of_cell? w _ f3)
  have HDV : Hid ((dvd x).shares = x.shares.map fun n => n.tdiv (T.gcdL x.shares 0)) := Lib.hid rfl
  have HSH := Lib.hid (fun (W : World) (hb : Below w.heap.size w W) (j : Nat) (hj : j < x.shares.length) => T.share_at h.sh hb j hj)
  have hb1 : (x.kind == 1) = false := by rw [h4]; rfl
  have hb2 : (x.kind == 2) = false := by rw [h4]; rfl
  have hb3 : (x.kind == 3) = false := by rw [h4]; rfl
  have hb4 : (x.kind == 4) = true := by rw [h4]; rfl
  have hb5 : (x.kind == 5) = false := by rw [h4]; rfl
  have hn5 : (x.kind != 5) = true := by rw [h4]; rfl
  have hlen : ((x.kids.length : Int) == 1) = false := by rw [beq_eq_false_iff_ne]; omega
  have hk0 : 0 < x.kids.length := by rw [hks]; simp
  have hki : x.kids[0] = k := by simp [hks]
  obtain ⟨b, off, A', As', d, d', rfl, -, e1, hat⟩ := h.kids.at 0 hk0
  rw [hki] at e1 hat
  have HAT := Lib.hid hat
  have HK : Hid (∀ i u, (row k A' As' d d')[i]? = some u → w.cell? ⟨b, off + i, none⟩ = some u) := Lib.hid (fun i u hu => by have := e1 i u hu; simpa using this)
  have hkl : (0 : Int) < x.kids.length := by omega
  have hnz : ¬ x.kids = [] := fun e => by rw [e] at hk0; simp at hk0
  have HKB := Lib.hid (fun (W : World) (hb : Below w.heap.size w W) => (⟨B.cell_below hb (HK.out 0 _ rfl), B.cell_below hb (HK.out 1 _ rfl), B.cell_below hb (HK.out 2 _ rfl), B.cell_below hb (HK.out 3 _ rfl), B.cell_below hb (HK.out 4 _ rfl), B.cell_below hb (HK.out 5 _ rfl)⟩ : _ ∧ _ ∧ _ ∧ _ ∧ _ ∧ _))
  have HB2 := fun (a1 a2 : Array Value) (e1 e2 : TypeId) => ((Below.refl w.heap.size w).alloc (Nat.le_refl _) (.cells a1 e1)).alloc (by simp) (.cells a2 e2)
  obtain ⟨k0, k1, k2, k3, k4, k5⟩ := HKB.out _ (HB2 #[.int .i64 x.kind, .string x.item, .int .i64 x.long, .int .i64 x.many, .slice (some ⟨b, off, none⟩) x.kids.length c, .slice (some ⟨gb, so, none⟩) x.shares.length c'] #[.int .i64 0, .string ⟨#[]⟩, .int .i64 0, .int .i64 0, .slice none 0 0, .slice none 0 0] 25 25)
  simp only [Nat.add_zero] at k0
  have LS : x.shares.length ≤ 1048576 := HSP.out.2
  clear h hv hki hks hat e1 h4 HKB HB2 HK ho hsl
  unfold lv
  go_enter Tryd.func25, Tryd.ntmps25
  go_wp2
  clear k0 k1 k2 k3 k4 k5
  have HZ := Lib.hid (@Cz.new w x k (some ⟨b, off, none⟩) (some ⟨gb, so, none⟩) c c' A' As' d d')
  generalize ((w.alloc (.cells #[.int .i64 x.kind, .string x.item, .int .i64 x.long, .int .i64 x.many, .slice (some ⟨b, off, none⟩) x.kids.length c, .slice (some ⟨gb, so, none⟩) x.shares.length c'] 25)).alloc (.cells #[.int .i64 0, .string ⟨#[]⟩, .int .i64 0, .int .i64 0, .slice none 0 0, .slice none 0 0] 25)).alloc (.cells #[.int .i64 k.kind, .string k.item, .int .i64 k.long, .int .i64 k.many, .slice A' k.kids.length d, .slice As' k.shares.length d'] 25) = W at *
  go_loopw [4, 83] (fun s4 s83 wr => ∃ i g : Nat, s83 = .int .i64 i ∧ s4 = .int .i64 g ∧ i ≤ x.shares.length ∧ g ≤ 1000 ∧ Hid (T.gcdL (x.shares.drop i) g = T.gcdL x.shares 0) ∧ Hid (∃ q, wr = W.drewN q)) (fun _ s _ => x.shares.length - (intOf s).toNat)
  case atStart => exact ⟨0, 0, rfl, rfl, by omega, by omega, Lib.hid (by rw [List.drop_zero]), Lib.hid ⟨0, rfl⟩⟩
  case round =>
    obtain ⟨i, g, rfl, rfl, hi, hg, HG, HB⟩ := hrel
    have hbw : Below W.heap.size W wr := by obtain ⟨q, e⟩ := HB.out; rw [e]; exact B.below_drew (Below.refl _ _) q
    have HZ1 := Lib.hid (HZ.out.below hbw)
    by_cases hlt : i < x.shares.length
    · obtain ⟨b3, o3, e3, f0⟩ := HSH.out wr HZ1.out.bl i hlt
      cases e3
      have hs := HIB.out x.shares[i] (List.getElem_mem hlt)
      rw [T.getD_at hlt] at f0
      have HG2 := HG.out
      rw [T.gcdL_drop hlt] at HG2
      have HG3 := Lib.hid HG2
      have HLE := Lib.hid (T.gcd_le (g := g) hs.1 hs.2)
      generalize x.shares[i] = n at hs f0 HG3 HLE
      obtain ⟨m, rfl⟩ : ∃ m : Nat, n = m := ⟨n.toNat, by omega⟩
      rw [Int.toNat_natCast] at HG3 HLE
      have cg := T.rdiv_any g m (by omega) (by omega) wr
      have hk1 : (i : Int) < x.shares.length := by omega
      clear HG2 hs hbw
      go_wp2_with (go_at_call 40; refine cg.mono ?_; rintro e w2 ⟨rfl, hB2⟩; have HB2 := Lib.hid (T.drew3 HB.out hB2); clear hB2)
      go_roundw
      case rel => exact ⟨i + 1, Nat.gcd g m, by go_num, rfl, by omega, HLE.out.1, HG3, HB2⟩
      case measure => simp [intOf]; omega
    · obtain rfl : i = x.shares.length := by omega
      have HG2 := HG.out
      rw [List.drop_length, T.gcdL] at HG2
      subst HG2
      have hg1 := HV.out.1
      have HCC := Lib.hid (HH.out.sh.mono HZ1.out.bl)
      have HU1 := Lib.hid (HUF.out.below HZ1.out.bl HGB.out)
      have HS1 := Lib.hid HZ1.out.bl.size
      have HD1 := Lib.hid (Dv.start ((T.gcdL x.shares 0 : Nat) : Int) HCC.out HU1.out)
      generalize hgg : T.gcdL x.shares 0 = G at *
      have HGG := Lib.hid hgg
      clear HG hbw HB hi hlt hgg
      generalize hwm : wr = wm at *
      clear hwm
      have t5 := HZ1.out.y 5 _ rfl
      go_wp2
      go_loopw [7, 94] (fun s7 s94 wr => ∃ i : Nat, s94 = .int .i64 i ∧ i ≤ x.shares.length ∧ Hid (Dv wm wr gb so x.shares G i)) (fun _ s _ => x.shares.length - (intOf s).toNat)
      case atStart => exact ⟨0, rfl, by omega, HD1⟩
      case round =>
        obtain ⟨i, rfl, hi, HD8⟩ := hrel
        have u5 := HD8.out.fr.cell (a := ⟨w.heap.size, 5, none⟩) (fun e => by have := HGB.out; have e1 : w.heap.size = gb := e.1; omega) (HZ1.out.y 5 _ rfl)
        by_cases hlt : i < x.shares.length
        · have hc := HD8.out.row i hlt
          have hfz := HD8.out.uf (so + i)
          rw [if_neg (Nat.lt_irrefl i)] at hc
          have hi1 : (i : Int) < x.shares.length := by omega
          have hs := HIB.out x.shares[i] (List.getElem_mem hlt)
          have HN := HD8.out.next hlt
          rw [Int.tdiv_eq_ediv_of_nonneg (by omega)] at HN
          have HN3 := Lib.hid HN
          clear HN
          generalize x.shares[i] = m at *
          go_wp2
          go_roundw
          case rel => exact ⟨i + 1, by go_num, by omega, HN3⟩
          case measure => simp [intOf]; omega
        · obtain rfl : i = x.shares.length := by omega
          have HCE := Lib.hid (HD8.out.done LS)
          have HF8 := Lib.hid HD8.out.fr
          have HU8 := Lib.hid HD8.out.uf
          have z0 := HD8.out.fr.cell (a := ⟨w.heap.size, 0, none⟩) (fun e => by have := HGB.out; have e1 : w.heap.size = gb := e.1; omega) (HZ1.out.y 0 _ rfl)
          have z1 := HD8.out.fr.cell (a := ⟨w.heap.size, 1, none⟩) (fun e => by have := HGB.out; have e1 : w.heap.size = gb := e.1; omega) (HZ1.out.y 1 _ rfl)
          have z2 := HD8.out.fr.cell (a := ⟨w.heap.size, 2, none⟩) (fun e => by have := HGB.out; have e1 : w.heap.size = gb := e.1; omega) (HZ1.out.y 2 _ rfl)
          have z3 := HD8.out.fr.cell (a := ⟨w.heap.size, 3, none⟩) (fun e => by have := HGB.out; have e1 : w.heap.size = gb := e.1; omega) (HZ1.out.y 3 _ rfl)
          have z4 := HD8.out.fr.cell (a := ⟨w.heap.size, 4, none⟩) (fun e => by have := HGB.out; have e1 : w.heap.size = gb := e.1; omega) (HZ1.out.y 4 _ rfl)
          have v0 := HD8.out.fr.cell (a := ⟨w.heap.size + 1, 0, none⟩) (fun e => by have := HGB.out; have e1 : w.heap.size + 1 = gb := e.1; omega) (HZ1.out.q 0 _ rfl)
          have v1 := HD8.out.fr.cell (a := ⟨w.heap.size + 1, 1, none⟩) (fun e => by have := HGB.out; have e1 : w.heap.size + 1 = gb := e.1; omega) (HZ1.out.q 1 _ rfl)
          have v2 := HD8.out.fr.cell (a := ⟨w.heap.size + 1, 2, none⟩) (fun e => by have := HGB.out; have e1 : w.heap.size + 1 = gb := e.1; omega) (HZ1.out.q 2 _ rfl)
          have v3 := HD8.out.fr.cell (a := ⟨w.heap.size + 1, 3, none⟩) (fun e => by have := HGB.out; have e1 : w.heap.size + 1 = gb := e.1; omega) (HZ1.out.q 3 _ rfl)
          have v4 := HD8.out.fr.cell (a := ⟨w.heap.size + 1, 4, none⟩) (fun e => by have := HGB.out; have e1 : w.heap.size + 1 = gb := e.1; omega) (HZ1.out.q 4 _ rfl)
          have v5 := HD8.out.fr.cell (a := ⟨w.heap.size + 1, 5, none⟩) (fun e => by have := HGB.out; have e1 : w.heap.size + 1 = gb := e.1; omega) (HZ1.out.q 5 _ rfl)
          have vz : ∀ i, wr.frozen? ⟨w.heap.size + 1, i, none⟩ = false := fun i => (HD8.out.fr.frozen (a := ⟨w.heap.size + 1, i, none⟩) (by have := HZ1.out.sz; show w.heap.size + 1 < _; omega) (fun e => by have := HGB.out; have e1 : w.heap.size + 1 = gb := e.1; omega)).trans (HZ1.out.qz i)
          have hrw := (HD8.out.fr.block (w.heap.size + 1) (by have := HZ1.out.sz; omega) (fun e => by have := HGB.out; have e1 : w.heap.size + 1 = gb := e.1; omega)).trans HZ1.out.rw
          have HWW := Lib.hid HZ1.out.bl
          have HSZ := Lib.hid HZ1.out.sz
          go_wp2
          go_simp
          have hrow : ((((((wr.setCell ⟨w.heap.size + 1, 0, none⟩ (.int .i64 x.kind)).setCell ⟨w.heap.size + 1, 1, none⟩ (.string x.item)).setCell ⟨w.heap.size + 1, 2, none⟩ (.int .i64 x.long)).setCell ⟨w.heap.size + 1, 3, none⟩ (.int .i64 x.many)).setCell ⟨w.heap.size + 1, 4, none⟩ (.slice (some ⟨b, off, none⟩) x.kids.length c)).setCell ⟨w.heap.size + 1, 5, none⟩ (.slice (some ⟨gb, so, none⟩) x.shares.length c')).heap[w.heap.size + 1]? = some (.cells #[.int .i64 x.kind, .string x.item, .int .i64 x.long, .int .i64 x.many, .slice (some ⟨b, off, none⟩) x.kids.length c, .slice (some ⟨gb, so, none⟩) x.shares.length c'] 25 (0, 0)) := set6 (a := .int .i64 0) (b := .string ⟨#[]⟩) (c := .int .i64 0) (d := .int .i64 0) (e := .slice none 0 0) (f := .slice none 0 0) hrw
          have hff : Fr (fun b => b = w.heap.size + 1) wr ((((((wr.setCell ⟨w.heap.size + 1, 0, none⟩ (.int .i64 x.kind)).setCell ⟨w.heap.size + 1, 1, none⟩ (.string x.item)).setCell ⟨w.heap.size + 1, 2, none⟩ (.int .i64 x.long)).setCell ⟨w.heap.size + 1, 3, none⟩ (.int .i64 x.many)).setCell ⟨w.heap.size + 1, 4, none⟩ (.slice (some ⟨b, off, none⟩) x.kids.length c)).setCell ⟨w.heap.size + 1, 5, none⟩ (.slice (some ⟨gb, so, none⟩) x.shares.length c')) := fr6 _ _ _ _ _ _ _ _
          generalize ((((((wr.setCell ⟨w.heap.size + 1, 0, none⟩ (.int .i64 x.kind)).setCell ⟨w.heap.size + 1, 1, none⟩ (.string x.item)).setCell ⟨w.heap.size + 1, 2, none⟩ (.int .i64 x.long)).setCell ⟨w.heap.size + 1, 3, none⟩ (.int .i64 x.many)).setCell ⟨w.heap.size + 1, 4, none⟩ (.slice (some ⟨b, off, none⟩) x.kids.length c)).setCell ⟨w.heap.size + 1, 5, none⟩ (.slice (some ⟨gb, so, none⟩) x.shares.length c')) = WF at hrow hff ⊢
          refine bodyPost_ret (results_cell1_row rfl _ _ (w.heap.size + 1) 25 #[.int .i64 x.kind, .string x.item, .int .i64 x.long, .int .i64 x.many, .slice (some ⟨b, off, none⟩) x.kids.length c, .slice (some ⟨gb, so, none⟩) x.shares.length c'] (0, 0) _ rfl hrow Tryd.underlying25 rfl (by kernel_rfl)) rfl ?_
          refine ⟨rfl, ?_, ?_, HU8.out.fr hff (by have := HGB.out; have := HF8.out.size; have := HWW.out.size; omega) (by have := HGB.out; omega)⟩
          · rw [HGG.out]
            have h1 : Fr (fun b => b = gb ∧ (G : Int) ≠ 1) w wm := Fr.of_below HWW.out
            have h2 := h1.trans HF8.out (fun _ _ h => h)
            exact h2.trans hff (fun b hb e => by omega)
          · rw [HDV.out]
            exact L.C_fr (R := fun b => b = gb) HCE.out (fun _ => ⟨gb, so, rfl, rfl⟩) hff (fun b hb e => by have := HGB.out; omega)
/-- The reference's changed, but at a share of several kids. -/
theorem changedR_any {R : Nat → Prop} (x : Lp) (A As : Option Addr) (c c' : Nat) (w : World) (h : LR R w x A As) (hv : Vd x) (hR : ∀ b, R b → b < w.heap.size) (hp : parts x ≤ 200) (hn : x.kind = 4 → ¬ 1 < x.kids.length) :
    Calls Tryd.prog 25 #[lv x A As c c'] w fun e w' => CrRes R w.heap.size (x1 x) e w' ∧ Below w.heap.size w w' := by
  have ho := T.own_ok hv.own
  by_cases h1 : x.kind = 1
  · exact chr_item x A As c c' w h h1
  · have hk := ho.2.2.1 h1
    obtain ⟨k, ks, hks⟩ : ∃ k ks, x.kids = k :: ks := by
      cases hks : x.kids with
      | nil => rw [hks] at hk; simp at hk
      | cons k ks => exact ⟨k, ks, rfl⟩
    by_cases h5 : x.kind = 5
    · have hk1 := (ho.2.2.2.1 h5).1
      have hks1 : ks = [] := by rw [hks] at hk1; cases ks with
        | nil => rfl
        | cons a b => simp at hk1
      by_cases hm1 : x.many = 1
      · exact chr_rep1 x A As c c' w h hv h5 hm1 k (by rw [hks, hks1])
      · by_cases h6 : k.kind = 5
        · by_cases hm : x.many * k.many ≤ 100
          · exact chr_mul x A As c c' w h hv h5 hm1 k ks hks h6 hm
          · exact chr_big x A As c c' w h hv h5 hm1 k ks hks h6 (by omega)
        · exact chr_rest x A As c c' w h hv h5 hm1 k ks hks h6
    · by_cases hl : 1 < x.kids.length
      · by_cases h2 : x.kind = 2
        · exact chr_row x A As c c' w h hv h2 hl k ks hks hR (by rw [parts_eq] at hp; omega)
        · have h3 : x.kind = 3 := by have := fun e => hn e hl; omega
          cases hpl : plain k with
          | false => exact chr_turn0 x A As c c' w h h3 hl k ks hks hpl
          | true =>
            by_cases hsm : ∀ y ∈ x.kids, y = k
            · exact chr_turn1 x A As c c' w h h3 hl k ks hks hpl hsm
            · exact chr_turn2 x A As c c' w h h3 hl k ks hks hpl hsm
      · have : ks = [] := by rw [hks] at hl; cases ks with
          | nil => rfl
          | cons a b => simp at hl
        subst this
        exact chr_one x A As c c' w h h1 h5 k hks
end Go.Proofs.YtlfobpjefklccaaDoor.H
