/- The item that a part plays alone, and how often: counted, the program's and the reference's. Printed by wip/gen/countedgen.py. -/
import Derived.Test.YtlfobpjefklccaaDoorShPlain
import Derived.Deep.RegionLaw
namespace Go.Proofs.YtlfobpjefklccaaDoor.H
open Go.RowKit
open L (Lp row row1 At AtR lv kdL kid_at rowR set6)
open F (Fr Cl)

theorem results_cell_tmp2_row {P : Program} {fn : Func} {p u v : Tmp} {ty : TypeId} (h : fn.results = #[.cell p ty, .tmp u, .tmp v]) (tmps : Array Value) (w : World) (g : Nat) (t : TypeId) (cs : Array Value) (fr : Nat × Nat) (d : TypeDesc)
    (hp : tmps.getD p undef = .pointer (some ⟨g, 0, none⟩)) (hg : w.heap[g]? = some (.cells cs t fr)) (hu : P.underlying ty = some d) (hd : (match d with | .struct _ | .array _ _ => true | _ => false) = true) (hi : (P.info? ty).map (·.size) = some cs.size) :
    (results fn tmps).run P w = .ok (.tuple #[.agg cs, tmps.getD u undef, tmps.getD v undef]) w := by
  have hp' : tmps[p]?.getD undef = .pointer (some ⟨g, 0, none⟩) := by simpa using hp
  simp [results, h, hp', asAddr, run_loadVar_row w g t ty cs fr d hg hu hd hi]
/-- A loop, and more. -/
def LvRes (R : Nat → Prop) (y : Lp) (tl : List Value) (e : Ending) (w' : World) : Prop := ∃ A' As' d d', e = .returned (.tuple ⟨lv y A' As' d d' :: tl⟩) ∧ LR R w' y A' As'
/-- A box for a loop, and a loop that is nought, made in this order. -/
theorem box_two (w : World) (c : Array Value) (o : TypeId) : Below w.heap.size w ((w.alloc (.cells c o)).alloc (.cells #[.int .i64 0, .string ⟨#[]⟩, .int .i64 0, .int .i64 0, .slice none 0 0, .slice none 0 0] 25)) ∧ ((w.alloc (.cells c o)).alloc (.cells #[.int .i64 0, .string ⟨#[]⟩, .int .i64 0, .int .i64 0, .slice none 0 0, .slice none 0 0] 25)).heap[w.heap.size + 1]? = some (.cells #[.int .i64 0, .string ⟨#[]⟩, .int .i64 0, .int .i64 0, .slice none 0 0, .slice none 0 0] 25 (0, 0)) ∧ ((w.alloc (.cells c o)).alloc (.cells #[.int .i64 0, .string ⟨#[]⟩, .int .i64 0, .int .i64 0, .slice none 0 0, .slice none 0 0] 25)).heap.size = w.heap.size + 2 :=
  ⟨((Below.refl w.heap.size w).alloc (Nat.le_refl _) _).alloc (by simp) _, heap_alloc2_new w _ _, by simp⟩
theorem below6 {B : Nat} {w W : World} (h : Below B w W) {g : Nat} (hg : B ≤ g) (a b c d e f : Value) : Below B w ((((((W.setCell ⟨g, 0, none⟩ a).setCell ⟨g, 1, none⟩ b).setCell ⟨g, 2, none⟩ c).setCell ⟨g, 3, none⟩ d).setCell ⟨g, 4, none⟩ e).setCell ⟨g, 5, none⟩ f) := (((((h.setCell hg a).setCell hg b).setCell hg c).setCell hg d).setCell hg e).setCell hg f
set_option maxHeartbeats 2000000 in
set_option maxRecDepth 100000 in
theorem counted_some {R : Nat → Prop} (x it : Lp) (m : Nat) (A As : Option Addr) (c c' : Nat) (w : World) (h : LR R w x A As) (hv : Vd x) (hc : cnt x = some (it, m)) :
    Calls Tryd.prog 79 #[lv x A As c c'] w fun e w' => LvRes R it [.int .i64 m, .bool true] e w' ∧ Below w.heap.size w w' := by
  have HBX := Lib.hid (box_two w)
  have HH := Lib.hid h
  have HB2 := Lib.hid (fun (c d : Array Value) (e e' : TypeId) => (((Below.refl w.heap.size w).alloc (Nat.le_refl _) (.cells c e)).alloc (by simp) (.cells d e')))
  by_cases h1 : x.kind = 1
  · obtain ⟨rfl, rfl⟩ : x = it ∧ 1 = m := by unfold cnt at hc; rw [if_pos h1] at hc; cases hc; exact ⟨rfl, rfl⟩
    have hb1 : (x.kind == 1) = true := by rw [h1]; rfl
    clear h hv hc h1
    unfold lv
    go_enter Tryd.func79, Tryd.ntmps79
    go_wp2
    refine bodyPost_ret (results_cell_tmp2_row rfl _ _ (w.heap.size + 1) 25 #[.int .i64 x.kind, .string x.item, .int .i64 x.long, .int .i64 x.many, .slice A x.kids.length c, .slice As x.shares.length c'] (0, 0) _ rfl (heap_alloc2_new w _ _) Tryd.underlying25 rfl (by kernel_rfl)) rfl ?_
    exact ⟨⟨A, As, c, c', rfl, HH.out.below (HB2.out _ _ _ _)⟩, HB2.out _ _ _ _⟩
  · have h5 : x.kind = 5 := by
      unfold cnt at hc
      rw [if_neg h1] at hc
      by_cases h5 : x.kind = 5
      · exact h5
      · rw [if_neg h5] at hc; cases hc
    have ho := (T.own_ok hv.own).2.2.2.1 h5
    have hkk : ∃ k ks, x.kids = k :: ks ∧ k.kind = 1 ∧ it = k ∧ x.many = m := by
      unfold cnt at hc
      rw [if_neg h1, if_pos h5] at hc
      cases hks : x.kids with
      | nil => rw [hks] at ho; simp at ho
      | cons k ks =>
        simp only [hks] at hc
        split at hc
        · rename_i hk
          cases hc
          exact ⟨_, ks, rfl, hk, rfl, by omega⟩
        · cases hc
    obtain ⟨k, ks, hks, hk1, hik, hm⟩ := hkk
    subst hik
    have hk0 : 0 < x.kids.length := by rw [hks]; simp
    have hki : x.kids[0] = it := by simp [hks]
    obtain ⟨b, off, A', As', d, d', rfl, -, e1, hat⟩ := h.kids.at 0 hk0
    rw [hki] at e1 hat
    have HAT := Lib.hid hat
    have f0 := e1 0 _ rfl
    have f1 := e1 1 _ rfl
    have f2 := e1 2 _ rfl
    have f3 := e1 3 _ rfl
    have f4 := e1 4 _ rfl
    have f5 := e1 5 _ rfl
    simp only [Nat.zero_mul, Nat.add_zero] at f0 f1 f2 f3 f4 f5
    have HF := Lib.hid (fun c0 o (i : Nat) u (hc : w.cell? ⟨b, i, none⟩ = some u) => B.cell_below (HBX.out c0 o).1 hc)
    have g0 := fun c0 o => HF.out c0 o _ _ f0
    have hkl : (0 : Int) < x.kids.length := by omega
    have hb1 : (x.kind == 1) = false := by rw [beq_eq_false_iff_ne]; exact h1
    have hb5 : (x.kind == 5) = true := by rw [h5]; rfl
    have hbk : (it.kind == 1) = true := by rw [hk1]; rfl
    have hnz : ¬ x.kids = [] := fun e => by rw [e] at hk0; simp at hk0
    have HXC := Lib.hid (fun (o : TypeId) (W : World) => @L.boxed x (some ⟨b, off, none⟩) As c c' w W o)
    have HT := Lib.hid (fun (c0 : Array Value) (o : TypeId) (w2 : World) => @Copy.two w w2 c0 #[.int .i64 0, .string ⟨#[]⟩, .int .i64 0, .int .i64 0, .slice none 0 0, .slice none 0 0] o 25)
    have HM := Lib.hid hm
    clear h hv hc h1 hk1 ho e1 hat h5 hks hki hm
    unfold lv
    go_enter Tryd.func79, Tryd.ntmps79
    go_wp2
    have HB := Lib.hid (HBX.out #[.int .i64 x.kind, .string x.item, .int .i64 x.long, .int .i64 x.many, .slice (some ⟨b, off, none⟩) x.kids.length c, .slice As x.shares.length c'] 25)
    have k0 := HF.out #[.int .i64 x.kind, .string x.item, .int .i64 x.long, .int .i64 x.many, .slice (some ⟨b, off, none⟩) x.kids.length c, .slice As x.shares.length c'] 25 _ _ f0
    have k1 := HF.out #[.int .i64 x.kind, .string x.item, .int .i64 x.long, .int .i64 x.many, .slice (some ⟨b, off, none⟩) x.kids.length c, .slice As x.shares.length c'] 25 _ _ f1
    have k2 := HF.out #[.int .i64 x.kind, .string x.item, .int .i64 x.long, .int .i64 x.many, .slice (some ⟨b, off, none⟩) x.kids.length c, .slice As x.shares.length c'] 25 _ _ f2
    have k3 := HF.out #[.int .i64 x.kind, .string x.item, .int .i64 x.long, .int .i64 x.many, .slice (some ⟨b, off, none⟩) x.kids.length c, .slice As x.shares.length c'] 25 _ _ f3
    have k4 := HF.out #[.int .i64 x.kind, .string x.item, .int .i64 x.long, .int .i64 x.many, .slice (some ⟨b, off, none⟩) x.kids.length c, .slice As x.shares.length c'] 25 _ _ f4
    have k5 := HF.out #[.int .i64 x.kind, .string x.item, .int .i64 x.long, .int .i64 x.many, .slice (some ⟨b, off, none⟩) x.kids.length c, .slice As x.shares.length c'] 25 _ _ f5
    have hT := HT.out #[.int .i64 x.kind, .string x.item, .int .i64 x.long, .int .i64 x.many, .slice (some ⟨b, off, none⟩) x.kids.length c, .slice As x.shares.length c'] 25 _ (Below.refl _ _)
    have y3 := hT.1 3 _ rfl
    have y4 := hT.1 4 _ rfl
    have q0 := hT.2.1 0 _ rfl
    have q1 := hT.2.1 1 _ rfl
    have q2 := hT.2.1 2 _ rfl
    have q3 := hT.2.1 3 _ rfl
    have q4 := hT.2.1 4 _ rfl
    have q5 := hT.2.1 5 _ rfl
    have qz := hT.2.2.2
    clear hT HF g0
    generalize (w.alloc (.cells #[.int .i64 x.kind, .string x.item, .int .i64 x.long, .int .i64 x.many, .slice (some ⟨b, off, none⟩) x.kids.length c, .slice As x.shares.length c'] 25)).alloc (.cells #[.int .i64 0, .string ⟨#[]⟩, .int .i64 0, .int .i64 0, .slice none 0 0, .slice none 0 0] 25) = W at *
    go_region_law (fail)
    all_goals
      go_wp2
      go_simp
      have hrow : ((((((W.setCell ⟨w.heap.size + 1, 0, none⟩ (.int .i64 it.kind)).setCell ⟨w.heap.size + 1, 1, none⟩ (.string it.item)).setCell ⟨w.heap.size + 1, 2, none⟩ (.int .i64 it.long)).setCell ⟨w.heap.size + 1, 3, none⟩ (.int .i64 it.many)).setCell ⟨w.heap.size + 1, 4, none⟩ (.slice A' it.kids.length d)).setCell ⟨w.heap.size + 1, 5, none⟩ (.slice As' it.shares.length d')).heap[w.heap.size + 1]? = some (.cells #[.int .i64 it.kind, .string it.item, .int .i64 it.long, .int .i64 it.many, .slice A' it.kids.length d, .slice As' it.shares.length d'] 25 (0, 0)) := set6 (a := .int .i64 0) (b := .string ⟨#[]⟩) (c := .int .i64 0) (d := .int .i64 0) (e := .slice none 0 0) (f := .slice none 0 0) HB.out.2.1
      have hbf : Below w.heap.size w ((((((W.setCell ⟨w.heap.size + 1, 0, none⟩ (.int .i64 it.kind)).setCell ⟨w.heap.size + 1, 1, none⟩ (.string it.item)).setCell ⟨w.heap.size + 1, 2, none⟩ (.int .i64 it.long)).setCell ⟨w.heap.size + 1, 3, none⟩ (.int .i64 it.many)).setCell ⟨w.heap.size + 1, 4, none⟩ (.slice A' it.kids.length d)).setCell ⟨w.heap.size + 1, 5, none⟩ (.slice As' it.shares.length d')) := below6 HB.out.1 (by omega) _ _ _ _ _ _
      generalize ((((((W.setCell ⟨w.heap.size + 1, 0, none⟩ (.int .i64 it.kind)).setCell ⟨w.heap.size + 1, 1, none⟩ (.string it.item)).setCell ⟨w.heap.size + 1, 2, none⟩ (.int .i64 it.long)).setCell ⟨w.heap.size + 1, 3, none⟩ (.int .i64 it.many)).setCell ⟨w.heap.size + 1, 4, none⟩ (.slice A' it.kids.length d)).setCell ⟨w.heap.size + 1, 5, none⟩ (.slice As' it.shares.length d')) = WF at hrow hbf ⊢
      refine bodyPost_ret (results_cell_tmp2_row rfl _ _ (w.heap.size + 1) 25 #[.int .i64 it.kind, .string it.item, .int .i64 it.long, .int .i64 it.many, .slice A' it.kids.length d, .slice As' it.shares.length d'] (0, 0) _ rfl hrow Tryd.underlying25 rfl (by kernel_rfl)) rfl ?_
      refine ⟨⟨A', As', d, d', ?_, HAT.out.below (by first | exact hbf | exact B.below_trans hbf (B.below_drew (Below.refl _ _) 1))⟩, ?_⟩
      · show Ending.returned (.tuple #[.agg #[.int .i64 it.kind, .string it.item, .int .i64 it.long, .int .i64 it.many, .slice A' it.kids.length d, .slice As' it.shares.length d'], .int .i64 x.many, .bool true]) = _
        rw [HM.out]; rfl
      · first | exact hbf | exact B.below_trans hbf (B.below_drew (Below.refl _ _) 1)
set_option maxHeartbeats 2000000 in
set_option maxRecDepth 100000 in
theorem counted_none {R : Nat → Prop} (x : Lp) (A As : Option Addr) (c c' : Nat) (w : World) (h : LR R w x A As) (hv : Vd x) (hc : cnt x = none) :
    Calls Tryd.prog 79 #[lv x A As c c'] w fun e w' => e = .returned (.tuple #[.agg #[.int .i64 0, .string ⟨#[]⟩, .int .i64 0, .int .i64 0, .slice none 0 0, .slice none 0 0], .int .i64 0, .bool false]) ∧ Below w.heap.size w w' := by
  have HB2 := Lib.hid (fun (c d : Array Value) (e e' : TypeId) => (((Below.refl w.heap.size w).alloc (Nat.le_refl _) (.cells c e)).alloc (by simp) (.cells d e')))
  have h1 : ¬ x.kind = 1 := fun h1 => by unfold cnt at hc; rw [if_pos h1] at hc; cases hc
  have hb1 : (x.kind == 1) = false := by rw [beq_eq_false_iff_ne]; exact h1
  by_cases h5 : x.kind = 5
  · have hb5 : (x.kind == 5) = true := by rw [h5]; rfl
    have ho := (T.own_ok hv.own).2.2.2.1 h5
    obtain ⟨k, ks, hks, hkk⟩ : ∃ k ks, x.kids = k :: ks ∧ k.kind ≠ 1 := by
      unfold cnt at hc
      rw [if_neg h1, if_pos h5] at hc
      cases hks : x.kids with
      | nil => rw [hks] at ho; simp at ho
      | cons k ks =>
        simp only [hks] at hc
        split at hc
        · cases hc
        · rename_i hk; exact ⟨k, ks, rfl, hk⟩
    have hk0 : 0 < x.kids.length := by rw [hks]; simp
    have hki : x.kids[0] = k := by simp [hks]
    obtain ⟨b, off, A', As', d, d', rfl, -, e1, hat⟩ := h.kids.at 0 hk0
    rw [hki] at e1
    have f0 := e1 0 _ rfl
    simp only [Nat.zero_mul, Nat.add_zero] at f0
    have g0 := fun c0 d0 o o' => B.cell_below (HB2.out c0 d0 o o') f0
    have hnz : ¬ x.kids = [] := fun e => by rw [e] at hk0; simp at hk0
    have hkl : (0 : Int) < x.kids.length := by omega
    have hbk : (k.kind == 1) = false := by rw [beq_eq_false_iff_ne]; exact hkk
    clear h hv hc h1 hkk ho e1 hat h5 hks hki
    unfold lv
    go_enter Tryd.func79, Tryd.ntmps79
    go_wp2
    refine bodyPost_ret (results_cell_tmp2_row rfl _ _ (w.heap.size + 1) 25 #[.int .i64 0, .string ⟨#[]⟩, .int .i64 0, .int .i64 0, .slice none 0 0, .slice none 0 0] (0, 0) _ rfl (heap_alloc2_new w _ _) Tryd.underlying25 rfl (by kernel_rfl)) rfl ?_
    exact ⟨rfl, HB2.out _ _ _ _⟩
  · have hb5 : (x.kind == 5) = false := by rw [beq_eq_false_iff_ne]; exact h5
    clear h hv hc h1 h5
    unfold lv
    go_enter Tryd.func79, Tryd.ntmps79
    go_wp2
    refine bodyPost_ret (results_cell_tmp2_row rfl _ _ (w.heap.size + 1) 25 #[.int .i64 0, .string ⟨#[]⟩, .int .i64 0, .int .i64 0, .slice none 0 0, .slice none 0 0] (0, 0) _ rfl (heap_alloc2_new w _ _) Tryd.underlying25 rfl (by kernel_rfl)) rfl ?_
    exact ⟨rfl, HB2.out _ _ _ _⟩
set_option maxHeartbeats 2000000 in
set_option maxRecDepth 100000 in
theorem countedR_some {R : Nat → Prop} (x it : Lp) (m : Nat) (A As : Option Addr) (c c' : Nat) (w : World) (h : LR R w x A As) (hv : Vd x) (hc : cnt x = some (it, m)) :
    Calls Tryd.prog 64 #[lv x A As c c'] w fun e w' => LvRes R it [.int .i64 m] e w' ∧ Below w.heap.size w w' := by
  have HBX := Lib.hid (box_two w)
  have HH := Lib.hid h
  have HB2 := Lib.hid (fun (c d : Array Value) (e e' : TypeId) => (((Below.refl w.heap.size w).alloc (Nat.le_refl _) (.cells c e)).alloc (by simp) (.cells d e')))
  by_cases h1 : x.kind = 1
  · obtain ⟨rfl, rfl⟩ : x = it ∧ 1 = m := by unfold cnt at hc; rw [if_pos h1] at hc; cases hc; exact ⟨rfl, rfl⟩
    have hb1 : (x.kind == 1) = true := by rw [h1]; rfl
    clear h hv hc h1
    unfold lv
    go_enter Tryd.func64, Tryd.ntmps64
    go_wp2
    refine bodyPost_ret (T.results_cell_tmp_row rfl _ _ (w.heap.size + 1) 25 #[.int .i64 x.kind, .string x.item, .int .i64 x.long, .int .i64 x.many, .slice A x.kids.length c, .slice As x.shares.length c'] (0, 0) _ rfl (heap_alloc2_new w _ _) Tryd.underlying25 rfl (by kernel_rfl)) rfl ?_
    exact ⟨⟨A, As, c, c', rfl, HH.out.below (HB2.out _ _ _ _)⟩, HB2.out _ _ _ _⟩
  · have h5 : x.kind = 5 := by
      unfold cnt at hc
      rw [if_neg h1] at hc
      by_cases h5 : x.kind = 5
      · exact h5
      · rw [if_neg h5] at hc; cases hc
    have ho := (T.own_ok hv.own).2.2.2.1 h5
    have hkk : ∃ k ks, x.kids = k :: ks ∧ k.kind = 1 ∧ it = k ∧ x.many = m := by
      unfold cnt at hc
      rw [if_neg h1, if_pos h5] at hc
      cases hks : x.kids with
      | nil => rw [hks] at ho; simp at ho
      | cons k ks =>
        simp only [hks] at hc
        split at hc
        · rename_i hk
          cases hc
          exact ⟨_, ks, rfl, hk, rfl, by omega⟩
        · cases hc
    obtain ⟨k, ks, hks, hk1, hik, hm⟩ := hkk
    subst hik
    have hk0 : 0 < x.kids.length := by rw [hks]; simp
    have hki : x.kids[0] = it := by simp [hks]
    obtain ⟨b, off, A', As', d, d', rfl, -, e1, hat⟩ := h.kids.at 0 hk0
    rw [hki] at e1 hat
    have HAT := Lib.hid hat
    have f0 := e1 0 _ rfl
    have f1 := e1 1 _ rfl
    have f2 := e1 2 _ rfl
    have f3 := e1 3 _ rfl
    have f4 := e1 4 _ rfl
    have f5 := e1 5 _ rfl
    simp only [Nat.zero_mul, Nat.add_zero] at f0 f1 f2 f3 f4 f5
    have HF := Lib.hid (fun c0 o (i : Nat) u (hc : w.cell? ⟨b, i, none⟩ = some u) => B.cell_below (HBX.out c0 o).1 hc)
    have g0 := fun c0 o => HF.out c0 o _ _ f0
    have hkl : (0 : Int) < x.kids.length := by omega
    have hb1 : (x.kind == 1) = false := by rw [beq_eq_false_iff_ne]; exact h1
    have hb5 : (x.kind == 5) = true := by rw [h5]; rfl
    have hbk : (it.kind == 1) = true := by rw [hk1]; rfl
    have hnz : ¬ x.kids = [] := fun e => by rw [e] at hk0; simp at hk0
    have HXC := Lib.hid (fun (o : TypeId) (W : World) => @L.boxed x (some ⟨b, off, none⟩) As c c' w W o)
    have HT := Lib.hid (fun (c0 : Array Value) (o : TypeId) (w2 : World) => @Copy.two w w2 c0 #[.int .i64 0, .string ⟨#[]⟩, .int .i64 0, .int .i64 0, .slice none 0 0, .slice none 0 0] o 25)
    have HM := Lib.hid hm
    clear h hv hc h1 hk1 ho e1 hat h5 hks hki hm
    unfold lv
    go_enter Tryd.func64, Tryd.ntmps64
    go_wp2
    have HB := Lib.hid (HBX.out #[.int .i64 x.kind, .string x.item, .int .i64 x.long, .int .i64 x.many, .slice (some ⟨b, off, none⟩) x.kids.length c, .slice As x.shares.length c'] 25)
    have k0 := HF.out #[.int .i64 x.kind, .string x.item, .int .i64 x.long, .int .i64 x.many, .slice (some ⟨b, off, none⟩) x.kids.length c, .slice As x.shares.length c'] 25 _ _ f0
    have k1 := HF.out #[.int .i64 x.kind, .string x.item, .int .i64 x.long, .int .i64 x.many, .slice (some ⟨b, off, none⟩) x.kids.length c, .slice As x.shares.length c'] 25 _ _ f1
    have k2 := HF.out #[.int .i64 x.kind, .string x.item, .int .i64 x.long, .int .i64 x.many, .slice (some ⟨b, off, none⟩) x.kids.length c, .slice As x.shares.length c'] 25 _ _ f2
    have k3 := HF.out #[.int .i64 x.kind, .string x.item, .int .i64 x.long, .int .i64 x.many, .slice (some ⟨b, off, none⟩) x.kids.length c, .slice As x.shares.length c'] 25 _ _ f3
    have k4 := HF.out #[.int .i64 x.kind, .string x.item, .int .i64 x.long, .int .i64 x.many, .slice (some ⟨b, off, none⟩) x.kids.length c, .slice As x.shares.length c'] 25 _ _ f4
    have k5 := HF.out #[.int .i64 x.kind, .string x.item, .int .i64 x.long, .int .i64 x.many, .slice (some ⟨b, off, none⟩) x.kids.length c, .slice As x.shares.length c'] 25 _ _ f5
    have hT := HT.out #[.int .i64 x.kind, .string x.item, .int .i64 x.long, .int .i64 x.many, .slice (some ⟨b, off, none⟩) x.kids.length c, .slice As x.shares.length c'] 25 _ (Below.refl _ _)
    have y3 := hT.1 3 _ rfl
    have y4 := hT.1 4 _ rfl
    have q0 := hT.2.1 0 _ rfl
    have q1 := hT.2.1 1 _ rfl
    have q2 := hT.2.1 2 _ rfl
    have q3 := hT.2.1 3 _ rfl
    have q4 := hT.2.1 4 _ rfl
    have q5 := hT.2.1 5 _ rfl
    have qz := hT.2.2.2
    clear hT HF g0
    generalize (w.alloc (.cells #[.int .i64 x.kind, .string x.item, .int .i64 x.long, .int .i64 x.many, .slice (some ⟨b, off, none⟩) x.kids.length c, .slice As x.shares.length c'] 25)).alloc (.cells #[.int .i64 0, .string ⟨#[]⟩, .int .i64 0, .int .i64 0, .slice none 0 0, .slice none 0 0] 25) = W at *
    go_region_law (fail)
    all_goals
      go_wp2
      go_simp
      have hrow : ((((((W.setCell ⟨w.heap.size + 1, 0, none⟩ (.int .i64 it.kind)).setCell ⟨w.heap.size + 1, 1, none⟩ (.string it.item)).setCell ⟨w.heap.size + 1, 2, none⟩ (.int .i64 it.long)).setCell ⟨w.heap.size + 1, 3, none⟩ (.int .i64 it.many)).setCell ⟨w.heap.size + 1, 4, none⟩ (.slice A' it.kids.length d)).setCell ⟨w.heap.size + 1, 5, none⟩ (.slice As' it.shares.length d')).heap[w.heap.size + 1]? = some (.cells #[.int .i64 it.kind, .string it.item, .int .i64 it.long, .int .i64 it.many, .slice A' it.kids.length d, .slice As' it.shares.length d'] 25 (0, 0)) := set6 (a := .int .i64 0) (b := .string ⟨#[]⟩) (c := .int .i64 0) (d := .int .i64 0) (e := .slice none 0 0) (f := .slice none 0 0) HB.out.2.1
      have hbf : Below w.heap.size w ((((((W.setCell ⟨w.heap.size + 1, 0, none⟩ (.int .i64 it.kind)).setCell ⟨w.heap.size + 1, 1, none⟩ (.string it.item)).setCell ⟨w.heap.size + 1, 2, none⟩ (.int .i64 it.long)).setCell ⟨w.heap.size + 1, 3, none⟩ (.int .i64 it.many)).setCell ⟨w.heap.size + 1, 4, none⟩ (.slice A' it.kids.length d)).setCell ⟨w.heap.size + 1, 5, none⟩ (.slice As' it.shares.length d')) := below6 HB.out.1 (by omega) _ _ _ _ _ _
      generalize ((((((W.setCell ⟨w.heap.size + 1, 0, none⟩ (.int .i64 it.kind)).setCell ⟨w.heap.size + 1, 1, none⟩ (.string it.item)).setCell ⟨w.heap.size + 1, 2, none⟩ (.int .i64 it.long)).setCell ⟨w.heap.size + 1, 3, none⟩ (.int .i64 it.many)).setCell ⟨w.heap.size + 1, 4, none⟩ (.slice A' it.kids.length d)).setCell ⟨w.heap.size + 1, 5, none⟩ (.slice As' it.shares.length d')) = WF at hrow hbf ⊢
      refine bodyPost_ret (T.results_cell_tmp_row rfl _ _ (w.heap.size + 1) 25 #[.int .i64 it.kind, .string it.item, .int .i64 it.long, .int .i64 it.many, .slice A' it.kids.length d, .slice As' it.shares.length d'] (0, 0) _ rfl hrow Tryd.underlying25 rfl (by kernel_rfl)) rfl ?_
      refine ⟨⟨A', As', d, d', ?_, HAT.out.below (by first | exact hbf | exact B.below_trans hbf (B.below_drew (Below.refl _ _) 1))⟩, ?_⟩
      · show Ending.returned (.tuple #[.agg #[.int .i64 it.kind, .string it.item, .int .i64 it.long, .int .i64 it.many, .slice A' it.kids.length d, .slice As' it.shares.length d'], .int .i64 x.many]) = _
        rw [HM.out]; rfl
      · first | exact hbf | exact B.below_trans hbf (B.below_drew (Below.refl _ _) 1)
set_option maxHeartbeats 2000000 in
set_option maxRecDepth 100000 in
theorem countedR_none {R : Nat → Prop} (x : Lp) (A As : Option Addr) (c c' : Nat) (w : World) (h : LR R w x A As) (hv : Vd x) (hc : cnt x = none) :
    Calls Tryd.prog 64 #[lv x A As c c'] w fun e w' => e = .returned (.tuple #[.agg #[.int .i64 0, .string ⟨#[]⟩, .int .i64 0, .int .i64 0, .slice none 0 0, .slice none 0 0], .int .i64 0]) ∧ Below w.heap.size w w' := by
  have HB2 := Lib.hid (fun (c d : Array Value) (e e' : TypeId) => (((Below.refl w.heap.size w).alloc (Nat.le_refl _) (.cells c e)).alloc (by simp) (.cells d e')))
  have h1 : ¬ x.kind = 1 := fun h1 => by unfold cnt at hc; rw [if_pos h1] at hc; cases hc
  have hb1 : (x.kind == 1) = false := by rw [beq_eq_false_iff_ne]; exact h1
  by_cases h5 : x.kind = 5
  · have hb5 : (x.kind == 5) = true := by rw [h5]; rfl
    have ho := (T.own_ok hv.own).2.2.2.1 h5
    obtain ⟨k, ks, hks, hkk⟩ : ∃ k ks, x.kids = k :: ks ∧ k.kind ≠ 1 := by
      unfold cnt at hc
      rw [if_neg h1, if_pos h5] at hc
      cases hks : x.kids with
      | nil => rw [hks] at ho; simp at ho
      | cons k ks =>
        simp only [hks] at hc
        split at hc
        · cases hc
        · rename_i hk; exact ⟨k, ks, rfl, hk⟩
    have hk0 : 0 < x.kids.length := by rw [hks]; simp
    have hki : x.kids[0] = k := by simp [hks]
    obtain ⟨b, off, A', As', d, d', rfl, -, e1, hat⟩ := h.kids.at 0 hk0
    rw [hki] at e1
    have f0 := e1 0 _ rfl
    simp only [Nat.zero_mul, Nat.add_zero] at f0
    have g0 := fun c0 d0 o o' => B.cell_below (HB2.out c0 d0 o o') f0
    have hnz : ¬ x.kids = [] := fun e => by rw [e] at hk0; simp at hk0
    have hkl : (0 : Int) < x.kids.length := by omega
    have hbk : (k.kind == 1) = false := by rw [beq_eq_false_iff_ne]; exact hkk
    clear h hv hc h1 hkk ho e1 hat h5 hks hki
    unfold lv
    go_enter Tryd.func64, Tryd.ntmps64
    go_wp2
    refine bodyPost_ret (T.results_cell_tmp_row rfl _ _ (w.heap.size + 1) 25 #[.int .i64 0, .string ⟨#[]⟩, .int .i64 0, .int .i64 0, .slice none 0 0, .slice none 0 0] (0, 0) _ rfl (heap_alloc2_new w _ _) Tryd.underlying25 rfl (by kernel_rfl)) rfl ?_
    exact ⟨rfl, HB2.out _ _ _ _⟩
  · have hb5 : (x.kind == 5) = false := by rw [beq_eq_false_iff_ne]; exact h5
    clear h hv hc h1 h5
    unfold lv
    go_enter Tryd.func64, Tryd.ntmps64
    go_wp2
    refine bodyPost_ret (T.results_cell_tmp_row rfl _ _ (w.heap.size + 1) 25 #[.int .i64 0, .string ⟨#[]⟩, .int .i64 0, .int .i64 0, .slice none 0 0, .slice none 0 0] (0, 0) _ rfl (heap_alloc2_new w _ _) Tryd.underlying25 rfl (by kernel_rfl)) rfl ?_
    exact ⟨rfl, HB2.out _ _ _ _⟩
end Go.Proofs.YtlfobpjefklccaaDoor.H
