/- A row of loops that is written in place, loop by loop; slices.Clone at loops. -/
import Derived.Test.YtlfobpjefklccaaDoorGathR
import Derived.Laws.OwnMore
namespace Go.Proofs.YtlfobpjefklccaaDoor.H
open Go.RowKit
open L (Lp row row1 At AtR lv kdL kid_at rowR set6)
open F (Fr Cl)

theorem flat_set6 {a b c d e f : Value} {r : B.Rw 6} (hr : r.val = [a, b, c, d, e, f]) : ∀ (rs : List (B.Rw 6)) (i : Nat), i < rs.length →
    (rs.set i r).flatMap Subtype.val = ((((((rs.flatMap Subtype.val).set (i * 6) a).set (i * 6 + 1) b).set (i * 6 + 2) c).set (i * 6 + 3) d).set (i * 6 + 4) e).set (i * 6 + 5) f := by
  intro rs
  induction rs with
  | nil => intro i h; simp at h
  | cons y ys ih =>
    intro i h
    obtain ⟨y, hy1, hy2⟩ := y
    match y, hy1 with
    | [y0, y1, y2, y3, y4, y5], _ =>
      cases i with
      | zero => simp [List.flatMap_cons, hr]
      | succ i =>
        rw [List.set_cons_succ, List.flatMap_cons, ih i (by simpa using h), List.flatMap_cons]
        simp only [show (i + 1) * 6 = i * 6 + 6 from by omega, List.cons_append, List.nil_append]
        rfl
theorem grown_trans {a b c : World} {g : Nat} (h : a.grownBy b (some g)) (k : b.grownBy c (some g)) : a.grownBy c (some g) :=
  ⟨k.os.trans h.os, k.tape.trans h.tape, k.output.trans h.output, Nat.le_trans h.size k.size, fun i hi hne => (k.block i (Nat.lt_of_lt_of_le hi h.size) hne).trans (h.block i hi hne)⟩
theorem own_put {w : World} {base : Nat} {ty : TypeId} {g n cap : Nat} {rs : List (B.Rw 6)} (h : B.Own w base ty 6 Subtype.val (.slice (some ⟨g, 0, none⟩) n cap) rs) (i : Nat) (hi : i < rs.length) (r : B.Rw 6) {a b c d e f : Value} (hr : r.val = [a, b, c, d, e, f]) :
    B.Own ((((((w.setCell ⟨g, i * 6, none⟩ a).setCell ⟨g, i * 6 + 1, none⟩ b).setCell ⟨g, i * 6 + 2, none⟩ c).setCell ⟨g, i * 6 + 3, none⟩ d).setCell ⟨g, i * 6 + 4, none⟩ e).setCell ⟨g, i * 6 + 5, none⟩ f) base ty 6 Subtype.val (.slice (some ⟨g, 0, none⟩) n cap) (rs.set i r) ∧
    w.grownBy ((((((w.setCell ⟨g, i * 6, none⟩ a).setCell ⟨g, i * 6 + 1, none⟩ b).setCell ⟨g, i * 6 + 2, none⟩ c).setCell ⟨g, i * 6 + 3, none⟩ d).setCell ⟨g, i * 6 + 4, none⟩ e).setCell ⟨g, i * 6 + 5, none⟩ f) (some g) := by
  obtain ⟨A', c', e'⟩ := Copy.shape h
  cases e'
  have h0 : w.ownsRow base ty 6 (.slice (some ⟨g, 0, none⟩) rs.length cap) rs.length (rs.flatMap Subtype.val) := h
  obtain ⟨h1, g1⟩ := h0.stored (i * 6) a
  obtain ⟨h2, g2⟩ := h1.stored (i * 6 + 1) b
  obtain ⟨h3, g3⟩ := h2.stored (i * 6 + 2) c
  obtain ⟨h4, g4⟩ := h3.stored (i * 6 + 3) d
  obtain ⟨h5, g5⟩ := h4.stored (i * 6 + 4) e
  obtain ⟨h6, g6⟩ := h5.stored (i * 6 + 5) f
  refine ⟨?_, grown_trans (grown_trans (grown_trans (grown_trans (grown_trans g1 g2) g3) g4) g5) g6⟩
  unfold B.Own
  rw [List.length_set, flat_set6 hr rs i hi]
  exact h6
/-- A row of the call's own that holds these loops; they lie in old blocks and in new ones, not in the row itself. -/
def Kp (R : Nat → Prop) (lo : Nat) (wr : World) (A : Option Addr) (cap : Nat) (l : List Lp) : Prop :=
  ∃ rs, B.Own wr lo 25 6 Subtype.val (.slice A l.length cap) rs ∧ RowsL (RB R lo wr (.slice A l.length cap)) wr l rs
theorem Kp.blk {R : Nat → Prop} {lo : Nat} {wr : World} {A : Option Addr} {cap : Nat} {l : List Lp} (h : Kp R lo wr A cap l) (hp : 0 < l.length) : ∃ g, A = some ⟨g, 0, none⟩ ∧ lo ≤ g ∧ g < wr.heap.size ∧ UF wr g := by
  obtain ⟨rs, ho, hr⟩ := h
  have ho' := ho
  rw [← hr.1] at ho'
  obtain ⟨g, e, h1, h2⟩ := L.own_blk ho' (by rw [hr.1]; exact hp)
  have := World.ownsRow.lt ho' g h2
  exact ⟨g, e, h1, this.2, UF.own ho' h2⟩
theorem Kp.end {R : Nat → Prop} {lo lo' : Nat} {wr : World} {A : Option Addr} {cap : Nat} {l : List Lp} (h : Kp R lo wr A cap l) (hlo : lo' ≤ lo) (hl : l.length ≤ 1048576) : SR (RN R lo' wr) wr A l := by
  obtain ⟨rs, ho, hr⟩ := h
  obtain ⟨A', d', e, hs⟩ := own_end ho hr hlo hl
  cases e
  exact hs
theorem Kp.at {R : Nat → Prop} {lo : Nat} {wr : World} {g : Nat} {cap : Nat} {l : List Lp} (h : Kp R lo wr (some ⟨g, 0, none⟩) cap l) (j : Nat) (hj : j < l.length) :
    ∃ A' As' c c', (∀ i u, (row l[j] A' As' c c')[i]? = some u → wr.cell? ⟨g, j * 6 + i, none⟩ = some u) ∧ LR (RB R lo wr (.slice (some ⟨g, 0, none⟩) l.length cap)) wr l[j] A' As' := by
  obtain ⟨rs, ho, hr⟩ := h
  have hj' : j < rs.length := by rw [hr.1]; exact hj
  obtain ⟨A', As', c1, c2, e, h3⟩ := hr.2 j hj hj'
  refine ⟨A', As', c1, c2, fun i u hu => ?_, h3⟩
  rw [← hr.1] at ho
  have hu' : (rs[j].val)[i]? = some u := by rw [e]; exact hu
  obtain ⟨hi, rfl⟩ := List.getElem?_eq_some_iff.1 hu'
  have hc := World.ownsRow.cells (show wr.ownsRow lo 25 6 (.slice (some ⟨g, 0, none⟩) rs.length cap) rs.length (rs.flatMap Subtype.val) from ho) (g := g) rfl (j * 6 + i) (rs[j].val[i]) (B.flatMap_at (fun x : B.Rw 6 => x.2.1) j hj' i hi)
  rw [Lib.add_plain] at hc
  rw [← hc]
  simp
theorem Kp.below {R : Nat → Prop} {lo : Nat} {wr w2 : World} {A : Option Addr} {cap : Nat} {l : List Lp} (h : Kp R lo wr A cap l) (hb : Below wr.heap.size wr w2) : Kp R lo w2 A cap l := by
  obtain ⟨rs, ho, hr⟩ := h
  refine ⟨rs, ho.below hb, hr.fr (S := fun _ => False) (Fr.of_below hb) (fun _ _ h => h) (fun b hb' => ?_)⟩
  rcases hb' with h | h
  · exact .inl h
  · exact .inr ⟨h.1, Nat.lt_of_lt_of_le h.2.1 hb.size, h.2.2.1, h.2.2.2.below hb h.2.1⟩
/-- The six cells of a loop, written into a row. -/
def put6 (w : World) (g i : Nat) (y : Lp) (A' As' : Option Addr) (d d' : Nat) : World := (((((w.setCell ⟨g, i * 6, none⟩ (.int .i64 y.kind)).setCell ⟨g, i * 6 + 1, none⟩ (.string y.item)).setCell ⟨g, i * 6 + 2, none⟩ (.int .i64 y.long)).setCell ⟨g, i * 6 + 3, none⟩ (.int .i64 y.many)).setCell ⟨g, i * 6 + 4, none⟩ (.slice A' y.kids.length d)).setCell ⟨g, i * 6 + 5, none⟩ (.slice As' y.shares.length d')
theorem put_fr (w : World) (g i : Nat) (y : Lp) (A' As' : Option Addr) (d d' : Nat) : Fr (fun b => b = g) w (put6 w g i y A' As' d d') :=
  (((((Fr.refl (fun b => b = g) w).set (p := ⟨g, i * 6, none⟩) (fun _ => rfl) _).set (p := ⟨g, i * 6 + 1, none⟩) (fun _ => rfl) _).set (p := ⟨g, i * 6 + 2, none⟩) (fun _ => rfl) _).set (p := ⟨g, i * 6 + 3, none⟩) (fun _ => rfl) _ |>.set (p := ⟨g, i * 6 + 4, none⟩) (fun _ => rfl) _).set (p := ⟨g, i * 6 + 5, none⟩) (fun _ => rfl) _
theorem Kp.put {R : Nat → Prop} {lo : Nat} {wr w2 : World} {g : Nat} {cap : Nat} {l : List Lp} (h : Kp R lo wr (some ⟨g, 0, none⟩) cap l) (hR : ∀ b, R b → b < lo) (hB : Below wr.heap.size wr w2) {y : Lp} {A' As' : Option Addr} (d d' : Nat) {lo2 : Nat} (hlo2 : wr.heap.size ≤ lo2) (hy : LR (RN (RB R lo wr (.slice (some ⟨g, 0, none⟩) l.length cap)) lo2 w2) w2 y A' As') (i : Nat) (hi : i < l.length) :
    Kp R lo (put6 w2 g i y A' As' d d') (some ⟨g, 0, none⟩) cap (l.set i y) := by
  obtain ⟨g', e, hg1, hg2, -⟩ := h.blk (by omega)
  cases e
  obtain ⟨rs, ho, hr⟩ := h.below hB
  have hs := hB.size
  obtain ⟨ho2, -⟩ := own_put ho i (by rw [hr.1]; exact hi) (rowR y A' As' d d') rfl
  have hf := put_fr w2 g i y A' As' d d'
  have hrr : ∀ b, RB R lo w2 (.slice (some ⟨g, 0, none⟩) l.length cap) b → ¬ b = g := fun b hb e => by
    subst e
    rcases hb with h | h
    · have := hR _ h; omega
    · exact h.2.2.1 rfl
  have hup : ∀ b, RB R lo w2 (.slice (some ⟨g, 0, none⟩) l.length cap) b → RB R lo (put6 w2 g i y A' As' d d') (.slice (some ⟨g, 0, none⟩) l.length cap) b := fun b hb => by
    have hne := hrr b hb
    rcases hb with h | h
    · exact .inl h
    · exact .inr ⟨h.1, Nat.lt_of_lt_of_le h.2.1 hf.size, h.2.2.1, h.2.2.2.fr hf h.2.1 hne⟩
  have hny : ∀ b, RN (RB R lo wr (.slice (some ⟨g, 0, none⟩) l.length cap)) lo2 w2 b → RB R lo w2 (.slice (some ⟨g, 0, none⟩) l.length cap) b := fun b hb => by
    rcases hb with (h | h) | h
    · exact .inl h
    · exact .inr ⟨h.1, Nat.lt_of_lt_of_le h.2.1 hB.size, h.2.2.1, h.2.2.2.below hB h.2.1⟩
    · exact .inr ⟨by omega, h.2.1, fun e => by have e' : some g = some b := e; cases e'; omega, h.2.2⟩
  refine ⟨rs.set i (rowR y A' As' d d'), by rw [List.length_set]; exact ho2, by rw [List.length_set, List.length_set]; exact hr.1, fun j h1 h2 => ?_⟩
  by_cases hj : i = j
  · subst hj
    rw [List.getElem_set_self, List.getElem_set_self]
    refine ⟨A', As', d, d', rfl, ?_⟩
    rw [List.length_set]
    exact hy.fr hf (fun b hb => hrr b (hny b hb)) (fun b hb => hup b (hny b hb))
  · simp only [List.getElem_set_ne hj]
    rw [List.length_set] at h1 h2
    obtain ⟨A2, As2, c2, c2', e2, h3⟩ := hr.2 j h1 h2
    refine ⟨A2, As2, c2, c2', e2, ?_⟩
    rw [List.length_set]
    exact h3.fr hf hrr hup
/-- The first i are changed. -/
def mt (f : Lp → Lp) (ks : List Lp) (i : Nat) : List Lp := (ks.take i).map f ++ ks.drop i
theorem mt_zero (f : Lp → Lp) (ks : List Lp) : mt f ks 0 = ks := by simp [mt]
theorem mt_all (f : Lp → Lp) (ks : List Lp) : mt f ks ks.length = ks.map f := by simp [mt]
theorem mt_len (f : Lp → Lp) (ks : List Lp) (i : Nat) : (mt f ks i).length = ks.length := by simp [mt]; omega
theorem mt_at (f : Lp → Lp) (ks : List Lp) (i : Nat) (h : i < ks.length) (h' : i < (mt f ks i).length) : (mt f ks i)[i] = ks[i] := by
  have e : (mt f ks i)[i]? = some ks[i] := by
    unfold mt
    rw [List.getElem?_append_right (by simp; omega)]
    have hl : ((ks.take i).map f).length = i := by simp; omega
    rw [hl, Nat.sub_self, List.getElem?_drop, Nat.add_zero, List.getElem?_eq_getElem h]
  rw [List.getElem?_eq_getElem h'] at e
  exact Option.some.inj e
theorem mt_set (f : Lp → Lp) (ks : List Lp) (i : Nat) (h : i < ks.length) : (mt f ks i).set i (f ks[i]) = mt f ks (i + 1) := by
  unfold mt
  have hl : ((ks.take i).map f).length = i := by simp; omega
  rw [List.set_append_right _ _ (by omega), hl, Nat.sub_self, List.drop_eq_getElem_cons h, List.set_cons_zero, ← List.take_append_getElem h, List.map_append, List.append_assoc]
  rfl
set_option maxRecDepth 100000 in
/-- slices.Clone at loops. -/
theorem cloneLoop {R : Nat → Prop} (A1 : Option Addr) (cap : Nat) (xs : List Lp) (w : World) (h : SR R w A1 xs) (hR : ∀ b, R b → b < w.heap.size) :
    Calls Tryd.prog 35 #[.slice A1 xs.length cap] w fun e w' => (∃ A c, e = .returned (.slice A xs.length c) ∧ Kp R w.heap.size w' A c xs) ∧ Below w.heap.size w w' := by
  have HL := Lib.hid h.1
  obtain ⟨rs, hrs, hC⟩ := h.rows
  have HRS := Lib.hid hrs
  have HN : Hid (rs.length = xs.length) := Lib.hid hrs.1
  have HRR := Lib.hid hR
  clear hrs h hR
  cases A1 with
  | none =>
    obtain rfl : rs = [] := List.eq_nil_of_length_eq_zero (Nat.eq_zero_of_not_pos fun hp => by obtain ⟨_, _, e, _⟩ := hC.2 hp; cases e)
    obtain rfl : xs = [] := List.eq_nil_of_length_eq_zero HN.out.symm
    clear HL hC HN
    have hnil := fun w a n c => Lib.run_eql_slice_nil (P := Tryd.prog) w 22 25 a n c 0 0 Tryd.underlying22
    go_enter Tryd.func35, Tryd.ntmps35
    go_wp2
    go_ret
    exact ⟨⟨none, 0, rfl, [], B.Own.nil _ _ _ _ _, RowsL.nil _ _⟩, Below.refl _ _⟩
  | some A =>
    have HB := Lib.hid ((Below.refl _ w).alloc (Nat.le_refl _) (.cells #[] 25))
    have HC := Lib.hid (hC.mono HB.out)
    have HO := Lib.hid (Copy.lit_own w w.heap.size (Nat.le_refl _) 25 6 (Subtype.val (α := List Value) (p := fun l => l.length = 6 ∧ ∀ v ∈ l, v.oneCell' = true)))
    clear hC
    have hnil := fun w a n c => Lib.run_eql_slice_nil (P := Tryd.prog) w 22 25 a n c 0 0 Tryd.underlying22
    go_enter Tryd.func35, Tryd.ntmps35
    go_wp2_with (at_builtin; (refine B.wpl_append_all (w0 := w) w.heap.size rfl _ _ 22 25 (.agg #[.int .i64 0, .string ⟨#[]⟩, .int .i64 0, .int .i64 0, .slice none 0 0, .slice none 0 0]) 6 88 rfl Tryd.underlying22 L.info_loop rfl (by decide) (by decide) Subtype.val (fun y => y.2.1) (fun y => y.2.2) _ [] rs HO.out rfl A cap (by rw [HN.out]; rfl) HC.out HB.out (by simp) (by have := HL.out; have := HN.out; simp; omega) ?_); intro v1 w1 HO1 HB1 _; rw [List.nil_append] at HO1)
    go_ret
    obtain ⟨A', c', e⟩ := Copy.shape HO1
    subst e
    rw [HN.out] at HO1 ⊢
    refine ⟨⟨A', c', rfl, rs, HO1, HRS.out.fr (S := fun _ => False) (Fr.of_below HB1) (fun _ _ h => h) (fun b hb => .inl hb)⟩, HB1⟩
end Go.Proofs.YtlfobpjefklccaaDoor.H
