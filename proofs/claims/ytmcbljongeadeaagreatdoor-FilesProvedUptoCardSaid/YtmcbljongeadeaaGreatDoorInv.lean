/- FilesProved's first statement is drawn in many orders: what holds while it is evaluated, whatever the order. -/
import Derived.Test.YtmcbljongeadeaaGreatDoorFilesProved
import Derived.Test.YtmcbljongeadeaaGreatDoorCloneTwig
import Derived.RegionTactic
namespace Go.Proofs.YtmcbljongeadeaaGreatDoor.Pf
open Go.RowKit

/-- A region that draws its order: what is kept by each operation that may come up holds at its end. -/
theorem region_inv {P : Program} {md : Region.Mode} {ops : Array Oper} {Q : Exit → Act → World → Prop} (I : Nat → Array Bool → Act → World → Prop)
    (hs : ∀ n L a W, I (n + 1) L a W → (∀ L' a' W', I n L' a' W' → wpAny P md ops Q n L' a' W') → ∀ i ∈ Region.ready md ops L, wpOp P ops Q i (wpAny P md ops Q n (L.setIfInBounds i true)) a W)
    (h0 : ∀ L a W, I 0 L a W → Region.ready md ops L = [])
    (hd : ∀ n L a W, I n L a W → Region.ready md ops L = [] → Q .normal a W) : ∀ n L a W, I n L a W → wpAny P md ops Q n L a W := by
  intro n
  induction n with
  | zero => intro L a W h; exact ⟨h0 L a W h, hd 0 L a W h (h0 L a W h)⟩
  | succ n ih => intro L a W h; exact ⟨hd (n + 1) L a W h, hs n L a W h ih⟩
theorem sepT {α : Type} {w : World} {base g : Nat} {e t : TypeId} {k : Nat} {enc : α → List Value} {v : Value} {xs : List α} {cs : Array Value} {fr : Nat × Nat} (h : B.Own w base e k enc v xs) (hg : w.heap[g]? = some (.cells cs t fr)) (ht : t ≠ e) : v.ownBlock = none ∨ v.ownBlock ≠ some g := by
  rcases h.2 with ⟨rfl, _⟩ | ⟨g', cap, cur, rfl, _, hg', _⟩
  · exact Or.inl rfl
  · refine Or.inr fun e1 => ?_
    obtain rfl : g' = g := by simpa [Value.ownBlock] using e1
    rw [hg] at hg'
    simp only [Option.some.injEq, Obj.cells.injEq] at hg'
    exact ht hg'.2.1
theorem lt_of_heap {w : World} {g : Nat} {o : Obj} (h : w.heap[g]? = some o) : g < w.heap.size := (Array.getElem?_eq_some_iff.1 h).1
theorem _root_.Go.Proofs.YtmcbljongeadeaaGreatDoor.Copy.FileRows.below {w w' : World} {lo : Nat} {v : Value} {l : List Fl} (h : Copy.FileRows w lo v l) (hb : Below w.heap.size w w') : Copy.FileRows w' lo v l := by
  obtain ⟨rs, ho, hl, hk⟩ := h
  exact ⟨rs, ho.below hb, hl, fun j h1 h2 => by obtain ⟨A, c, e, h3⟩ := hk j h1 h2; exact ⟨A, c, e, h3.below hb⟩⟩
theorem _root_.Go.Proofs.YtmcbljongeadeaaGreatDoor.Copy.FileRows.mono {w : World} {lo lo' : Nat} {v : Value} {l : List Fl} (h : Copy.FileRows w lo v l) (hb : lo' ≤ lo) : Copy.FileRows w lo' v l := by
  obtain ⟨rs, ho, hl, hk⟩ := h
  exact ⟨rs, Copy.own_mono ho hb, hl, fun j h1 h2 => by obtain ⟨A, c, e, h3⟩ := hk j h1 h2; exact ⟨A, c, e, Copy.own_mono h3 hb⟩⟩
/-- A block that is none of the rows' is written. -/
theorem _root_.Go.Proofs.YtmcbljongeadeaaGreatDoor.Copy.FileRows.upd {w w' : World} {lo g : Nat} {t : TypeId} {cs : Array Value} {fr : Nat × Nat} {v : Value} {l : List Fl} (h : Copy.FileRows w lo v l) (hg : w.heap[g]? = some (.cells cs t fr)) (ht : t ≠ 40) (hne : v.ownBlock = none ∨ v.ownBlock ≠ some g) (hgr : w.grownBy w' (some g)) : Copy.FileRows w' lo v l := by
  obtain ⟨rs, ho, hl, hk⟩ := h
  exact ⟨rs, Copy.own_grown ho hgr hne, hl, fun j h1 h2 => by obtain ⟨A, c, e, h3⟩ := hk j h1 h2; exact ⟨A, c, e, Copy.own_grown h3 hgr (sepT h3 hg ht)⟩⟩
theorem _root_.Go.Proofs.YtmcbljongeadeaaGreatDoor.Copy.FileRows.sepF {w : World} {lo g : Nat} {t : TypeId} {cs : Array Value} {fr : Nat × Nat} {v : Value} {l : List Fl} (h : Copy.FileRows w lo v l) (hg : w.heap[g]? = some (.cells cs t fr)) (ht : t ≠ 27) : v.ownBlock = none ∨ v.ownBlock ≠ some g := by
  obtain ⟨rs, ho, hl, hk⟩ := h
  exact sepT ho hg ht
/-- Two cells of one block are written. -/
theorem set2_grown (w : World) (g : Nat) (x y : Value) : w.grownBy ((w.setCell ⟨g, 0, none⟩ x).setCell ⟨g, 1, none⟩ y) (some g) :=
  ⟨rfl, rfl, rfl, by simp, fun k _ hk => by
    have hk' : k ≠ g := fun e => hk (by rw [e])
    rw [Below.heap_setCell _ _ _ _ (fun e => hk' e), Below.heap_setCell _ _ _ _ (fun e => hk' e)]⟩
structure Inv (W0 : World) (no : Int) (l : List Fl) (f : Fl) (proof : List Tw) (mv fv pv : Value) (b0 b1 b2 b3 b4 b5 b6 b7 b8 b9 b10 b11 b12 : Bool) (t11 t12 t14 t15 t16 t17 t18 t19 t20 t21 t22 : Value) (W : World) : Prop where
  below : Below W0.heap.size W0 W
  h0 : b0 = true → t14 = mv
  h2 : b2 = true → t16 = fv
  h7 : b7 = true → t21 = pv
  h84 : b8 = true → b4 = true
  h9 : b9 = true → ∃ p x y, t11 = .pointer (some ⟨p, 0, none⟩) ∧ W0.heap.size ≤ p ∧ W.heap[p]? = some (.cells #[x, y] 24 (0, 0)) ∧ (b11 = true → Value.agg #[x, y] = t15)
  h10 : b10 = true → ∃ q x y, t12 = .pointer (some ⟨q, 0, none⟩) ∧ W0.heap.size ≤ q ∧ W.heap[q]? = some (.cells #[x, y] 27 (0, 0)) ∧ (b12 = true → Value.agg #[x, y] = t20) ∧ (b1 = true → ∀ v1, t15 = .agg #[.int .i64 no, v1] → v1.ownBlock = none ∨ v1.ownBlock ≠ some q)
  h3 : b3 = true → b4 = false → ∃ s, t17 = .slice (some ⟨s, 0, none⟩) 1 1 ∧ B.Kd.file.S W t17 [f]
  h1 : b1 = true → ∃ A1 c1, t15 = .agg #[.int .i64 no, .slice A1 l.length c1] ∧ Copy.FileRows W W0.heap.size (.slice A1 l.length c1) l
  h4 : b4 = true → b6 = false → ∃ g c2, t18 = .slice (some ⟨g, 0, none⟩) 1 c2 ∧ Copy.FileRows W W0.heap.size t18 [f] ∧ (b5 = true → t19 = .pointer (some ⟨g, 0, none⟩))
  h6 : b6 = true → ∃ Ax cx, t20 = .agg #[.string f.1, .slice Ax f.2.length cx] ∧ B.Own W W0.heap.size 40 2 Copy.ckE (.slice Ax f.2.length cx) f.2
  h8 : b8 = true → ∃ A3 c3, t22 = .slice A3 proof.length c3 ∧ B.Own W W0.heap.size 33 2 twE (.slice A3 proof.length c3) proof
section
variable {W0 : World} {no : Int} {l : List Fl} {f : Fl} {proof : List Tw} {mv fv pv : Value} {b0 b1 b2 b3 b4 b5 b6 b7 b8 b9 b10 b11 b12 : Bool} {t11 t12 t14 t15 t16 t17 t18 t19 t20 t21 t22 : Value} {W W' : World}
theorem Inv.step (h : Inv W0 no l f proof mv fv pv b0 b1 b2 b3 b4 b5 b6 b7 b8 b9 b10 b11 b12 t11 t12 t14 t15 t16 t17 t18 t19 t20 t21 t22 W) (hb : Below W.heap.size W W') :
    Inv W0 no l f proof mv fv pv b0 b1 b2 b3 b4 b5 b6 b7 b8 b9 b10 b11 b12 t11 t12 t14 t15 t16 t17 t18 t19 t20 t21 t22 W' where
  below := B.below_trans h.below hb
  h0 := h.h0
  h2 := h.h2
  h7 := h.h7
  h84 := h.h84
  h9 e := by obtain ⟨p, x, y, e1, e2, e3, e4⟩ := h.h9 e; exact ⟨p, x, y, e1, e2, (hb.block p (lt_of_heap e3)).trans e3, e4⟩
  h10 e := by obtain ⟨p, x, y, e1, e2, e3, e4⟩ := h.h10 e; exact ⟨p, x, y, e1, e2, (hb.block p (lt_of_heap e3)).trans e3, e4⟩
  h3 e e' := by obtain ⟨s, e1, e2⟩ := h.h3 e e'; exact ⟨s, e1, e2.mono hb⟩
  h1 e := by obtain ⟨A, c, e1, e2⟩ := h.h1 e; exact ⟨A, c, e1, e2.below hb⟩
  h4 e e' := by obtain ⟨A, c, e1, e2, e3⟩ := h.h4 e e'; exact ⟨A, c, e1, e2.below hb, e3⟩
  h6 e := by obtain ⟨A, c, e1, e2⟩ := h.h6 e; exact ⟨A, c, e1, e2.below hb⟩
  h8 e := by obtain ⟨A, c, e1, e2⟩ := h.h8 e; exact ⟨A, c, e1, e2.below hb⟩
theorem Inv.op0 (h : Inv W0 no l f proof mv fv pv false b1 b2 b3 b4 b5 b6 b7 b8 b9 b10 b11 b12 t11 t12 t14 t15 t16 t17 t18 t19 t20 t21 t22 W) :
    Inv W0 no l f proof mv fv pv true b1 b2 b3 b4 b5 b6 b7 b8 b9 b10 b11 b12 t11 t12 mv t15 t16 t17 t18 t19 t20 t21 t22 W := { h with h0 := fun _ => rfl }
theorem Inv.op2 (h : Inv W0 no l f proof mv fv pv b0 b1 false b3 b4 b5 b6 b7 b8 b9 b10 b11 b12 t11 t12 t14 t15 t16 t17 t18 t19 t20 t21 t22 W) :
    Inv W0 no l f proof mv fv pv b0 b1 true b3 b4 b5 b6 b7 b8 b9 b10 b11 b12 t11 t12 t14 t15 fv t17 t18 t19 t20 t21 t22 W := { h with h2 := fun _ => rfl }
theorem Inv.op7 (h : Inv W0 no l f proof mv fv pv b0 b1 b2 b3 b4 b5 b6 false b8 b9 b10 b11 b12 t11 t12 t14 t15 t16 t17 t18 t19 t20 t21 t22 W) :
    Inv W0 no l f proof mv fv pv b0 b1 b2 b3 b4 b5 b6 true b8 b9 b10 b11 b12 t11 t12 t14 t15 t16 t17 t18 t19 t20 pv t22 W := { h with h7 := fun _ => rfl }
theorem Inv.op9 (h : Inv W0 no l f proof mv fv pv b0 b1 b2 b3 b4 b5 b6 b7 b8 false b10 false b12 t11 t12 t14 t15 t16 t17 t18 t19 t20 t21 t22 W) (x y : Value) :
    Inv W0 no l f proof mv fv pv b0 b1 b2 b3 b4 b5 b6 b7 b8 true b10 false b12 (.pointer (some ⟨W.heap.size, 0, none⟩)) t12 t14 t15 t16 t17 t18 t19 t20 t21 t22 (W.alloc (.cells #[x, y] 24)) :=
  { h.step ((Below.refl _ W).alloc (Nat.le_refl _) (.cells #[x, y] 24)) with h9 := fun _ => ⟨W.heap.size, x, y, rfl, h.below.size, heap_alloc_new W _, fun e => (by cases e)⟩ }
theorem Inv.op10 (h : Inv W0 no l f proof mv fv pv b0 b1 b2 b3 b4 b5 b6 b7 b8 b9 false b11 false t11 t12 t14 t15 t16 t17 t18 t19 t20 t21 t22 W) (x y : Value) :
    Inv W0 no l f proof mv fv pv b0 b1 b2 b3 b4 b5 b6 b7 b8 b9 true b11 false t11 (.pointer (some ⟨W.heap.size, 0, none⟩)) t14 t15 t16 t17 t18 t19 t20 t21 t22 (W.alloc (.cells #[x, y] 27)) := by
  have key : b1 = true → ∀ v1, t15 = .agg #[.int .i64 no, v1] → v1.ownBlock = none ∨ v1.ownBlock ≠ some W.heap.size := by
    intro e v1 ev
    obtain ⟨A1, c1, e1, rs, ho, -, -⟩ := h.h1 e
    rw [e1] at ev
    obtain rfl : v1 = .slice A1 l.length c1 := by simpa using ev.symm
    cases hv : (Value.slice A1 l.length c1).ownBlock with
    | none => exact Or.inl rfl
    | some g => exact Or.inr (fun e => by have := (World.ownsRow.lt ho g hv).2; have := Option.some.inj e; omega)
  exact { h.step ((Below.refl _ W).alloc (Nat.le_refl _) (.cells #[x, y] 27)) with h10 := fun _ => ⟨W.heap.size, x, y, rfl, h.below.size, heap_alloc_new W _, fun e => (by cases e), key⟩ }
theorem Inv.op3 (h : Inv W0 no l f proof mv fv pv b0 b1 b2 false false b5 b6 b7 b8 b9 b10 b11 b12 t11 t12 t14 t15 t16 t17 t18 t19 t20 t21 t22 W) {o : Obj} (hS : B.Kd.file.S (W.alloc o) (.slice (some ⟨W.heap.size, 0, none⟩) 1 1) [f]) :
    Inv W0 no l f proof mv fv pv b0 b1 b2 true false b5 b6 b7 b8 b9 b10 b11 b12 t11 t12 t14 t15 t16 (.slice (some ⟨W.heap.size, 0, none⟩) 1 1) t18 t19 t20 t21 t22 (W.alloc o) :=
  { h.step ((Below.refl _ W).alloc (Nat.le_refl _) o) with h3 := fun _ _ => ⟨_, rfl, hS⟩ }
theorem Inv.op1 (h : Inv W0 no l f proof mv fv pv b0 false b2 b3 b4 b5 b6 b7 b8 b9 b10 false b12 t11 t12 t14 t15 t16 t17 t18 t19 t20 t21 t22 W) (hb : Below W.heap.size W W') {v : Value} (hF : Copy.FileRows W' (W.heap.size + 2) v l) :
    Inv W0 no l f proof mv fv pv b0 true b2 b3 b4 b5 b6 b7 b8 b9 b10 false b12 t11 t12 t14 (.agg #[.int .i64 no, v]) t16 t17 t18 t19 t20 t21 t22 W' := by
  have h' := h.step hb
  obtain ⟨A1, c1, rfl⟩ : ∃ A1 c1, v = .slice A1 l.length c1 := by obtain ⟨rs, ho, hr, -⟩ := hF; obtain ⟨A2, c2, e⟩ := Copy.shape ho; exact ⟨A2, c2, by rw [e, hr]⟩
  have k9 : b9 = true → ∃ p x y, t11 = .pointer (some ⟨p, 0, none⟩) ∧ W0.heap.size ≤ p ∧ W'.heap[p]? = some (.cells #[x, y] 24 (0, 0)) ∧ (false = true → Value.agg #[x, y] = .agg #[.int .i64 no, .slice A1 l.length c1]) := fun e => by
    obtain ⟨p, x, y, e1, e2, e3, _⟩ := h'.h9 e
    exact ⟨p, x, y, e1, e2, e3, fun e => (by cases e)⟩
  have k10 : b10 = true → ∃ q x y, t12 = .pointer (some ⟨q, 0, none⟩) ∧ W0.heap.size ≤ q ∧ W'.heap[q]? = some (.cells #[x, y] 27 (0, 0)) ∧ (b12 = true → Value.agg #[x, y] = t20) ∧ (true = true → ∀ v1, Value.agg #[.int .i64 no, .slice A1 l.length c1] = .agg #[.int .i64 no, v1] → v1.ownBlock = none ∨ v1.ownBlock ≠ some q) := fun e => by
    obtain ⟨q, x, y, e1, e2, e3, e4, _⟩ := h'.h10 e
    obtain ⟨q', x', y', e1', _, e3', _, _⟩ := h.h10 e
    refine ⟨q, x, y, e1, e2, e3, e4, fun _ v1 ev => ?_⟩
    obtain rfl : v1 = .slice A1 l.length c1 := by simpa using ev.symm
    have hqq : q = q' := by rw [e1] at e1'; simpa using e1'
    have hq := lt_of_heap e3'
    obtain ⟨rs, ho, -, -⟩ := hF
    cases hv : (Value.slice A1 l.length c1).ownBlock with
    | none => exact Or.inl rfl
    | some g => exact Or.inr (fun e => by have := (World.ownsRow.lt ho g hv).1; have := Option.some.inj e; omega)
  exact { h' with h9 := k9, h10 := k10, h1 := fun _ => ⟨A1, c1, rfl, hF.mono (by have := h.below.size; omega)⟩ }
theorem Inv.op4 (h : Inv W0 no l f proof mv fv pv b0 b1 b2 b3 false b5 false b7 b8 b9 b10 b11 b12 t11 t12 t14 t15 t16 t17 t18 t19 t20 t21 t22 W) (h5 : b5 = false) (hb : Below W.heap.size W W') {v : Value} (hF : Copy.FileRows W' W.heap.size v [f]) :
    ∃ g c2, v = .slice (some ⟨g, 0, none⟩) 1 c2 ∧ Inv W0 no l f proof mv fv pv b0 b1 b2 b3 true b5 false b7 b8 b9 b10 b11 b12 t11 t12 t14 t15 t16 t17 (.slice (some ⟨g, 0, none⟩) 1 c2) t19 t20 t21 t22 W' := by
  obtain ⟨g, c2, rfl⟩ : ∃ g c2, v = .slice (some ⟨g, 0, none⟩) 1 c2 := by
    obtain ⟨rs, ho, hr, -⟩ := hF
    have hr' : rs.length = 1 := hr
    rcases ho.2 with ⟨_, h0⟩ | ⟨g, cap, cur, e, _⟩
    · omega
    · exact ⟨g, cap, by rw [e, hr']⟩
  refine ⟨g, c2, rfl, { h.step hb with h84 := fun _ => rfl, h3 := fun _ e => (by cases e), h4 := fun _ _ => ⟨g, c2, rfl, hF.mono h.below.size, fun e => ?_⟩ }⟩
  rw [h5] at e
  cases e
theorem Inv.op5 (h : Inv W0 no l f proof mv fv pv b0 b1 b2 b3 true false b6 b7 b8 b9 b10 b11 b12 t11 t12 t14 t15 t16 t17 t18 t19 t20 t21 t22 W) {g' c2' : Nat} (e : t18 = .slice (some ⟨g', 0, none⟩) 1 c2') :
    Inv W0 no l f proof mv fv pv b0 b1 b2 b3 true true b6 b7 b8 b9 b10 b11 b12 t11 t12 t14 t15 t16 t17 t18 (.pointer (some ⟨g', 0, none⟩)) t20 t21 t22 W := by
  have k : true = true → b6 = false → ∃ g c2, t18 = .slice (some ⟨g, 0, none⟩) 1 c2 ∧ Copy.FileRows W W0.heap.size t18 [f] ∧ (true = true → Value.pointer (some ⟨g', 0, none⟩) = .pointer (some ⟨g, 0, none⟩)) := fun e1 e2 => by
    obtain ⟨g, c2, e3, e4, _⟩ := h.h4 e1 e2
    refine ⟨g, c2, e3, e4, fun _ => ?_⟩
    rw [e] at e3
    cases e3
    rfl
  exact { h with h4 := k }
theorem Inv.op8 (h : Inv W0 no l f proof mv fv pv b0 b1 b2 b3 true b5 b6 b7 false b9 b10 b11 b12 t11 t12 t14 t15 t16 t17 t18 t19 t20 t21 t22 W) (hb : Below W.heap.size W W') {v : Value} (hF : B.Own W' W.heap.size 33 2 twE v proof) :
    Inv W0 no l f proof mv fv pv b0 b1 b2 b3 true b5 b6 b7 true b9 b10 b11 b12 t11 t12 t14 t15 t16 t17 t18 t19 t20 t21 v W' := by
  obtain ⟨A3, c3, rfl⟩ := Copy.shape hF
  exact { h.step hb with h84 := fun _ => rfl, h8 := fun _ => ⟨A3, c3, rfl, Copy.own_mono hF h.below.size⟩ }
theorem Inv.at5 (h : Inv W0 no l f proof mv fv pv b0 b1 b2 b3 true b5 false b7 b8 b9 b10 b11 b12 t11 t12 t14 t15 t16 t17 t18 t19 t20 t21 t22 W) : ∃ g c2, t18 = .slice (some ⟨g, 0, none⟩) 1 c2 := by
  obtain ⟨g, c2, e, _⟩ := h.h4 rfl rfl
  exact ⟨g, c2, e⟩
theorem Inv.at6 (h : Inv W0 no l f proof mv fv pv b0 b1 b2 b3 true true false b7 b8 b9 b10 b11 b12 t11 t12 t14 t15 t16 t17 t18 t19 t20 t21 t22 W) (h12 : b12 = false) :
    ∃ g Ax cx, t19 = .pointer (some ⟨g, 0, none⟩) ∧ W.cell? ⟨g, 0, none⟩ = some (.string f.1) ∧ W.cell? ⟨g, 1, none⟩ = some (.slice Ax f.2.length cx) ∧
      Inv W0 no l f proof mv fv pv b0 b1 b2 b3 true true true b7 b8 b9 b10 b11 b12 t11 t12 t14 t15 t16 t17 t18 t19 (.agg #[.string f.1, .slice Ax f.2.length cx]) t21 t22 W := by
  subst h12
  obtain ⟨g, c2, e, hF, e5⟩ := h.h4 rfl rfl
  subst e
  obtain ⟨rs, ho, hr, hk⟩ := hF
  have hr' : rs.length = 1 := hr
  obtain ⟨r, rfl⟩ : ∃ r, rs = [r] := by
    rcases rs with _ | ⟨r, _ | ⟨s, t⟩⟩
    · simp at hr'
    · exact ⟨r, rfl⟩
    · simp at hr'
  obtain ⟨Ax, cx, e1, h3⟩ := hk 0 (by simp) (by simp)
  have e1' : r.val = [.string f.1, .slice Ax f.2.length cx] := e1
  have hfl : [r].flatMap Subtype.val = [.string f.1, .slice Ax f.2.length cx] := by simpa using e1'
  unfold B.Own at ho
  rw [hr', hfl] at ho
  have k10 : b10 = true → ∃ q x y, t12 = .pointer (some ⟨q, 0, none⟩) ∧ W0.heap.size ≤ q ∧ W.heap[q]? = some (.cells #[x, y] 27 (0, 0)) ∧ (false = true → Value.agg #[x, y] = .agg #[.string f.1, .slice Ax f.2.length cx]) ∧ (b1 = true → ∀ v1, t15 = .agg #[.int .i64 no, v1] → v1.ownBlock = none ∨ v1.ownBlock ≠ some q) := fun e => by
    obtain ⟨q, x, y, a1, a2, a3, _, a5⟩ := h.h10 e
    exact ⟨q, x, y, a1, a2, a3, fun e => (by cases e), a5⟩
  exact ⟨g, Ax, cx, e5 rfl, World.ownsRow.cellAt ho 0 (by decide), World.ownsRow.cellAt ho 1 (by decide), { h with h10 := k10, h4 := fun _ e => (by cases e), h6 := fun _ => ⟨Ax, cx, rfl, h3⟩ }⟩
theorem cells_of {w : World} {g : Nat} {x y : Value} {t : TypeId} (h : w.heap[g]? = some (.cells #[x, y] t (0, 0))) :
    w.cell? ⟨g, 0, none⟩ = some x ∧ w.cell? ⟨g, 1, none⟩ = some y ∧ w.frozen? ⟨g, 0, none⟩ = false ∧ w.frozen? ⟨g, 1, none⟩ = false := by
  refine ⟨?_, ?_, ?_, ?_⟩
  · rw [Lib.cell_of_heap h]; rfl
  · rw [Lib.cell_of_heap h]; rfl
  · exact Lib.frozen_of_heap h 0
  · exact Lib.frozen_of_heap h 1
theorem Inv.at11 (h : Inv W0 no l f proof mv fv pv b0 true b2 b3 b4 b5 b6 b7 true true true false false t11 t12 t14 t15 t16 t17 t18 t19 t20 t21 t22 W) :
    ∃ p x y A1 c1, t11 = .pointer (some ⟨p, 0, none⟩) ∧ W.heap[p]? = some (.cells #[x, y] 24 (0, 0)) ∧ t15 = .agg #[.int .i64 no, .slice A1 l.length c1] ∧
      Inv W0 no l f proof mv fv pv b0 true b2 b3 b4 b5 b6 b7 true true true true false t11 t12 t14 t15 t16 t17 t18 t19 t20 t21 t22 ((W.setCell ⟨p, 0, none⟩ (.int .i64 no)).setCell ⟨p, 1, none⟩ (.slice A1 l.length c1)) := by
  obtain ⟨p, x, y, e1, e2, e3, -⟩ := h.h9 rfl
  obtain ⟨A1, c1, e4, hF⟩ := h.h1 rfl
  have h4 := h.h84 rfl
  have hg := set2_grown W p (.int .i64 no) (.slice A1 l.length c1)
  refine ⟨p, x, y, A1, c1, e1, e3, e4, { h with
    below := (h.below.setCell (p := ⟨p, 0, none⟩) e2 _).setCell (p := ⟨p, 1, none⟩) e2 _
    h9 := fun _ => ⟨p, _, _, e1, e2, Copy.set2 e3, fun _ => e4.symm⟩
    h10 := ?_
    h3 := fun _ e => (by rw [h4] at e; cases e)
    h1 := fun _ => ⟨A1, c1, e4, hF.upd e3 (by decide) (hF.sepF e3 (by decide)) hg⟩
    h4 := ?_
    h6 := ?_
    h8 := ?_ }⟩
  · intro _
    obtain ⟨q, x', y', a1, a2, a3, a4, a5⟩ := h.h10 rfl
    refine ⟨q, x', y', a1, a2, ?_, a4, a5⟩
    rw [hg.block q (lt_of_heap a3) (fun e => by have e := Option.some.inj e; subst e; rw [a3] at e3; simp only [Option.some.injEq, Obj.cells.injEq] at e3; exact absurd e3.2.1 (by decide))]
    exact a3
  · intro e e'
    obtain ⟨g, c2, a1, a2, a3⟩ := h.h4 e e'
    exact ⟨g, c2, a1, a2.upd e3 (by decide) (a2.sepF e3 (by decide)) hg, a3⟩
  · intro e
    obtain ⟨Ax, cx, a1, a2⟩ := h.h6 e
    exact ⟨Ax, cx, a1, Copy.own_grown a2 hg (sepT a2 e3 (by decide))⟩
  · intro e
    obtain ⟨Ax, cx, a1, a2⟩ := h.h8 e
    exact ⟨Ax, cx, a1, Copy.own_grown a2 hg (sepT a2 e3 (by decide))⟩
theorem Inv.at12 (h : Inv W0 no l f proof mv fv pv b0 true b2 b3 b4 b5 true b7 true true true true false t11 t12 t14 t15 t16 t17 t18 t19 t20 t21 t22 W) :
    ∃ q x y Ax cx, t12 = .pointer (some ⟨q, 0, none⟩) ∧ W.heap[q]? = some (.cells #[x, y] 27 (0, 0)) ∧ t20 = .agg #[.string f.1, .slice Ax f.2.length cx] ∧
      Inv W0 no l f proof mv fv pv b0 true b2 b3 b4 b5 true b7 true true true true true t11 t12 t14 t15 t16 t17 t18 t19 t20 t21 t22 ((W.setCell ⟨q, 0, none⟩ (.string f.1)).setCell ⟨q, 1, none⟩ (.slice Ax f.2.length cx)) := by
  obtain ⟨q, x, y, e1, e2, e3, -, e5⟩ := h.h10 rfl
  obtain ⟨Ax, cx, e4, hX⟩ := h.h6 rfl
  have h4 := h.h84 rfl
  have hg := set2_grown W q (.string f.1) (.slice Ax f.2.length cx)
  refine ⟨q, x, y, Ax, cx, e1, e3, e4, { h with
    below := (h.below.setCell (p := ⟨q, 0, none⟩) e2 _).setCell (p := ⟨q, 1, none⟩) e2 _
    h9 := ?_
    h10 := fun _ => ⟨q, _, _, e1, e2, Copy.set2 e3, fun _ => e4.symm, e5⟩
    h3 := fun _ e => (by rw [h4] at e; cases e)
    h1 := ?_
    h4 := fun _ e => (by cases e)
    h6 := fun _ => ⟨Ax, cx, e4, Copy.own_grown hX hg (sepT hX e3 (by decide))⟩
    h8 := ?_ }⟩
  · intro _
    obtain ⟨p, x', y', a1, a2, a3, a4⟩ := h.h9 rfl
    refine ⟨p, x', y', a1, a2, ?_, a4⟩
    rw [hg.block p (lt_of_heap a3) (fun e => by have e := Option.some.inj e; subst e; rw [a3] at e3; simp only [Option.some.injEq, Obj.cells.injEq] at e3; exact absurd e3.2.1 (by decide))]
    exact a3
  · intro _
    obtain ⟨A1, c1, a1, a2⟩ := h.h1 rfl
    exact ⟨A1, c1, a1, a2.upd e3 (by decide) (e5 rfl _ a1) hg⟩
  · intro e
    obtain ⟨A3, c3, a1, a2⟩ := h.h8 e
    exact ⟨A3, c3, a1, Copy.own_grown a2 hg (sepT a2 e3 (by decide))⟩
end
end Go.Proofs.YtmcbljongeadeaaGreatDoor.Pf
