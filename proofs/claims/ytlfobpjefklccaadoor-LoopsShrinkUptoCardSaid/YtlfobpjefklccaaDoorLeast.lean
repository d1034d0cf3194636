/- A loop as small as can be: the program's least. Printed by wip/gen/leastgen.py. -/
import Derived.Test.YtlfobpjefklccaaDoorChR
import Derived.Test.YtlfobpjefklccaaDoorPut
import Derived.Deep.RegionLaw
import Derived.Deep.AppendLies
import Derived.Deep.LoopGhost
import Derived.Deep.Cut
namespace Go.Proofs.YtlfobpjefklccaaDoor.H
open Go.RowKit
open L (Lp row row1 At AtR lv kdL kid_at rowR set6)
open F (Fr Cl)

theorem Bz.set4 {w W : World} {x : Lp} {A As : Option Addr} {c c' : Nat} (h : Bz w W x A As c c') (A2 : Option Addr) (c2 : Nat) : Bz w (W.setCell ⟨w.heap.size, 4, none⟩ (.slice A2 x.kids.length c2)) x A2 As c2 c' := by
  have hf : Fr (fun b => b = w.heap.size) W (W.setCell ⟨w.heap.size, 4, none⟩ (.slice A2 x.kids.length c2)) := (Fr.refl (fun b => b = w.heap.size) W).set (p := ⟨w.heap.size, 4, none⟩) (fun _ => rfl) _
  have h1 : ¬ (w.heap.size + 1 = w.heap.size) := by omega
  have s := h.sz
  refine ⟨h.bl.trans (hf.below (by omega) (fun k hk => by omega)), Nat.le_trans s hf.size, fun i u hu => ?_, fun i u hu => hf.cell h1 (h.q i u hu), fun i => by rw [World.frozen?_setCell]; exact h.yz i, fun i => by rw [World.frozen?_setCell]; exact h.qz i, (hf.block _ (by omega) h1).trans h.rw⟩
  have hi : i < 6 := (List.getElem?_eq_some_iff.1 hu).1
  by_cases e : i = 4
  · subst e
    cases hu
    exact World.cell?_setCell_same _ _ _ (h.y 4 _ rfl)
  · rw [World.cell?_setCell_other _ _ _ _ (by intro e2; have e3 : 4 = i := congrArg Addr.off e2; omega)]
    refine h.y i u ?_
    rcases (by omega : i = 0 ∨ i = 1 ∨ i = 2 ∨ i = 3 ∨ i = 5) with rfl | rfl | rfl | rfl | rfl <;> exact hu
theorem Bz.cast {w W : World} {x : Lp} {A As : Option Addr} {c c' : Nat} (h : Bz w W x A As c c') (ks : List Lp) (hl : ks.length = x.kids.length) : Bz w W (upd x ks) A As c c' := by
  have e : row (upd x ks) A As c c' = row x A As c c' := by
    unfold row
    rw [show (upd x ks).kids = ks from rfl, hl]
    rfl
  exact ⟨h.bl, h.sz, by rw [e]; exact h.y, h.q, h.yz, h.qz, h.rw⟩
/-- The whole box written anew. -/
theorem cells6 {W : World} {g : Nat} {a b c d e f a' b' c' d' e' f' : Value} (h : ∀ i u, [a, b, c, d, e, f][i]? = some u → W.cell? ⟨g, i, none⟩ = some u) : ∀ i u, [a', b', c', d', e', f'][i]? = some u → ((((((W.setCell ⟨g, 0, none⟩ a').setCell ⟨g, 1, none⟩ b').setCell ⟨g, 2, none⟩ c').setCell ⟨g, 3, none⟩ d').setCell ⟨g, 4, none⟩ e').setCell ⟨g, 5, none⟩ f').cell? ⟨g, i, none⟩ = some u := by
  have ne : ∀ {i j : Nat}, i ≠ j → (⟨g, i, none⟩ : Addr) ≠ ⟨g, j, none⟩ := fun hn e => hn (congrArg Addr.off e)
  have c0 : (W.setCell ⟨g, 0, none⟩ a').cell? ⟨g, 0, none⟩ = some a' := World.cell?_setCell_same _ _ _ (h 0 _ rfl)
  have c1 : ((W.setCell ⟨g, 0, none⟩ a').setCell ⟨g, 1, none⟩ b').cell? ⟨g, 1, none⟩ = some b' := World.cell?_setCell_same _ _ _ (by rw [World.cell?_setCell_other _ _ _ _ (ne (by omega))]; exact h 1 _ rfl)
  have c2 : (((W.setCell ⟨g, 0, none⟩ a').setCell ⟨g, 1, none⟩ b').setCell ⟨g, 2, none⟩ c').cell? ⟨g, 2, none⟩ = some c' := World.cell?_setCell_same _ _ _ (by rw [World.cell?_setCell_other _ _ _ _ (ne (by omega)), World.cell?_setCell_other _ _ _ _ (ne (by omega))]; exact h 2 _ rfl)
  have c3 : ((((W.setCell ⟨g, 0, none⟩ a').setCell ⟨g, 1, none⟩ b').setCell ⟨g, 2, none⟩ c').setCell ⟨g, 3, none⟩ d').cell? ⟨g, 3, none⟩ = some d' := World.cell?_setCell_same _ _ _ (by rw [World.cell?_setCell_other _ _ _ _ (ne (by omega)), World.cell?_setCell_other _ _ _ _ (ne (by omega)), World.cell?_setCell_other _ _ _ _ (ne (by omega))]; exact h 3 _ rfl)
  have c4 : (((((W.setCell ⟨g, 0, none⟩ a').setCell ⟨g, 1, none⟩ b').setCell ⟨g, 2, none⟩ c').setCell ⟨g, 3, none⟩ d').setCell ⟨g, 4, none⟩ e').cell? ⟨g, 4, none⟩ = some e' := World.cell?_setCell_same _ _ _ (by rw [World.cell?_setCell_other _ _ _ _ (ne (by omega)), World.cell?_setCell_other _ _ _ _ (ne (by omega)), World.cell?_setCell_other _ _ _ _ (ne (by omega)), World.cell?_setCell_other _ _ _ _ (ne (by omega))]; exact h 4 _ rfl)
  have c5 : ((((((W.setCell ⟨g, 0, none⟩ a').setCell ⟨g, 1, none⟩ b').setCell ⟨g, 2, none⟩ c').setCell ⟨g, 3, none⟩ d').setCell ⟨g, 4, none⟩ e').setCell ⟨g, 5, none⟩ f').cell? ⟨g, 5, none⟩ = some f' := World.cell?_setCell_same _ _ _ (by rw [World.cell?_setCell_other _ _ _ _ (ne (by omega)), World.cell?_setCell_other _ _ _ _ (ne (by omega)), World.cell?_setCell_other _ _ _ _ (ne (by omega)), World.cell?_setCell_other _ _ _ _ (ne (by omega)), World.cell?_setCell_other _ _ _ _ (ne (by omega))]; exact h 5 _ rfl)
  intro i u hu
  have hi : i < 6 := (List.getElem?_eq_some_iff.1 hu).1
  rcases (by omega : i = 0 ∨ i = 1 ∨ i = 2 ∨ i = 3 ∨ i = 4 ∨ i = 5) with rfl | rfl | rfl | rfl | rfl | rfl <;> cases hu
  · rw [World.cell?_setCell_other _ _ _ _ (ne (by omega)), World.cell?_setCell_other _ _ _ _ (ne (by omega)), World.cell?_setCell_other _ _ _ _ (ne (by omega)), World.cell?_setCell_other _ _ _ _ (ne (by omega)), World.cell?_setCell_other _ _ _ _ (ne (by omega))]; exact c0
  · rw [World.cell?_setCell_other _ _ _ _ (ne (by omega)), World.cell?_setCell_other _ _ _ _ (ne (by omega)), World.cell?_setCell_other _ _ _ _ (ne (by omega)), World.cell?_setCell_other _ _ _ _ (ne (by omega))]; exact c1
  · rw [World.cell?_setCell_other _ _ _ _ (ne (by omega)), World.cell?_setCell_other _ _ _ _ (ne (by omega)), World.cell?_setCell_other _ _ _ _ (ne (by omega))]; exact c2
  · rw [World.cell?_setCell_other _ _ _ _ (ne (by omega)), World.cell?_setCell_other _ _ _ _ (ne (by omega))]; exact c3
  · rw [World.cell?_setCell_other _ _ _ _ (ne (by omega))]; exact c4
  · exact c5
def w6 (W : World) (g : Nat) (x : Lp) (A As : Option Addr) (c c' : Nat) : World := (((((W.setCell ⟨g, 0, none⟩ (.int .i64 x.kind)).setCell ⟨g, 1, none⟩ (.string x.item)).setCell ⟨g, 2, none⟩ (.int .i64 x.long)).setCell ⟨g, 3, none⟩ (.int .i64 x.many)).setCell ⟨g, 4, none⟩ (.slice A x.kids.length c)).setCell ⟨g, 5, none⟩ (.slice As x.shares.length c')
theorem w6_size (W : World) (g : Nat) (x : Lp) (A As : Option Addr) (c c' : Nat) : (w6 W g x A As c c').heap.size = W.heap.size := by unfold w6; simp
theorem w6_fr (W : World) (g : Nat) (x : Lp) (A As : Option Addr) (c c' : Nat) : Fr (fun b => b = g) W (w6 W g x A As c c') := fr6 _ _ _ _ _ _ _ _
theorem w6_uf {W : World} {g b : Nat} {x : Lp} {A As : Option Addr} {c c' : Nat} (h : UF W b) : UF (w6 W g x A As c c') b := fun i => by unfold w6; simp only [World.frozen?_setCell]; exact h i
theorem Bz.set6 {w W : World} {x : Lp} {A As : Option Addr} {c c' : Nat} (h : Bz w W x A As c c') (z : Lp) (A2 As2 : Option Addr) (c2 c2' : Nat) : Bz w (w6 W w.heap.size z A2 As2 c2 c2') z A2 As2 c2 c2' := by
  have hf := w6_fr W w.heap.size z A2 As2 c2 c2'
  have h1 : ¬ (w.heap.size + 1 = w.heap.size) := by omega
  have s := h.sz
  exact ⟨h.bl.trans (hf.below (by omega) (fun k hk => by omega)), Nat.le_trans s hf.size, fun i u hu => cells6 h.y i u hu, fun i u hu => hf.cell h1 (h.q i u hu), w6_uf h.yz, w6_uf h.qz, (hf.block _ (by omega) h1).trans h.rw⟩
/-- What lies where while least changes its loop: the loop y in its box, what came of it in block p. -/
structure Lz (R : Nat → Prop) (w wr : World) (F : Lp) (p : Nat) (Q : Nat → Prop) (y : Lp) (A As : Option Addr) (c c' : Nat) (z : Lp) (A' As' : Option Addr) (d d' : Nat) : Prop where
  bz : Bz w wr y A As c c'
  pz : w.heap.size + 2 ≤ p ∧ p < wr.heap.size
  pc : ∀ i u, (row z A' As' d d')[i]? = some u → wr.cell? ⟨p, i, none⟩ = some u
  pf : UF wr p
  q : ∀ b, Q b → RN R (w.heap.size + 2) wr b ∧ b ≠ p
  ly : LR Q wr y A As
  lz : LR Q wr z A' As'
  vy : Vd y
  py : parts y ≤ 200
  fy : fin y = F
  hz : ∀ z', ch y = some z' → z = z'
theorem Lz.start {R Q : Nat → Prop} {w W w3 : World} {F y z : Lp} {A As A' As' : Option Addr} {c c' d d' : Nat} (hR : ∀ b, R b → b < w.heap.size) (hb : Bz w W y A As c c') (hQ : ∀ b, Q b → RN R (w.heap.size + 2) W b) (hy : LR Q W y A As) (vy : Vd y) (py : parts y ≤ 200) (fy : fin y = F) (hB : Below W.heap.size W w3) (hz : LR (RN Q W.heap.size w3) w3 z A' As') (hc : ∀ z', ch y = some z' → z = z') :
    Lz R w (w3.alloc (.cells #[.int .i64 z.kind, .string z.item, .int .i64 z.long, .int .i64 z.many, .slice A' z.kids.length d, .slice As' z.shares.length d'] 25)) F w3.heap.size (RN Q W.heap.size w3) y A As c c' z A' As' d d' := by
  have hB2 := (Below.refl w3.heap.size w3).alloc (Nat.le_refl _) (.cells #[.int .i64 z.kind, .string z.item, .int .i64 z.long, .int .i64 z.many, .slice A' z.kids.length d, .slice As' z.shares.length d'] 25)
  have s1 := hB.size
  have s2 := hb.sz
  refine ⟨(hb.below hB).below hB2, ⟨by omega, by simp⟩, fun i u hu => by rw [World.cell?_alloc_new, ← hu]; simp [row], UF.new _ _ _, fun b h => ?_, ((hy.below hB).below hB2).weak (fun b h => .inl h), hz.below hB2, vy, py, fy, hc⟩
  rcases h with h | h
  · rcases hQ b h with h | h
    · exact ⟨.inl h, fun e => by have := hR b h; omega⟩
    · exact ⟨.inr ⟨h.1, by have := h.2.1; have := hB2.size; omega, (h.2.2.below hB h.2.1).below hB2 (by have := h.2.1; omega)⟩, by have := h.2.1; omega⟩
  · exact ⟨.inr ⟨by omega, by have := h.2.1; have := hB2.size; omega, h.2.2.below hB2 h.2.1⟩, by have := h.2.1; omega⟩
theorem Lz.ne {R Q : Nat → Prop} {w wr : World} {F y z : Lp} {p : Nat} {A As A' As' : Option Addr} {c c' d d' : Nat} (h : Lz R w wr F p Q y A As c c' z A' As' d d') (hR : ∀ b, R b → b < w.heap.size) : ∀ b, Q b → b ≠ w.heap.size ∧ b ≠ w.heap.size + 1 ∧ b ≠ p ∧ b < wr.heap.size := fun b hb => by
  obtain ⟨h1, h2⟩ := h.q b hb
  have := h.bz.sz
  rcases h1 with h1 | h1
  · have := hR b h1; omega
  · omega
/-- The box written anew, and a new box beside it. -/
theorem Lz.mid {R Q : Nat → Prop} {w wr : World} {F y z : Lp} {p : Nat} {A As A' As' : Option Addr} {c c' d d' : Nat} (h : Lz R w wr F p Q y A As c c' z A' As' d d') (hR : ∀ b, R b → b < w.heap.size) (hs : (ch y).isSome = true) (o : Obj) :
    Bz w ((w6 wr w.heap.size z A' As' d d').alloc o) z A' As' d d' ∧ LR Q ((w6 wr w.heap.size z A' As' d d').alloc o) z A' As' ∧ (∀ b, Q b → b < ((w6 wr w.heap.size z A' As' d d').alloc o).heap.size) ∧ Vd z ∧ parts z ≤ 200 ∧ fin z = F ∧ mu z < mu y := by
  have hf := w6_fr wr w.heap.size z A' As' d d'
  have hB := (Below.refl (w6 wr w.heap.size z A' As' d d').heap.size (w6 wr w.heap.size z A' As' d d')).alloc (Nat.le_refl _) o
  obtain ⟨z0, hc⟩ := Option.isSome_iff_exists.1 hs
  have e := h.hz z0 hc
  subst e
  obtain ⟨m1, m2, m3⟩ := ch_spec h.vy hc
  exact ⟨(h.bz.set6 z A' As' d d').below hB, (h.lz.fr hf (fun b hb => (h.ne hR b hb).1) (fun _ h => h)).below hB, fun b hb => by have := (h.ne hR b hb).2.2.2; have := hf.size; have := hB.size; omega, m1, Nat.le_trans m2 h.py, (fin_some h.vy hc).symm.trans h.fy, m3⟩
theorem Lz.next {R Q : Nat → Prop} {w wr w3 : World} {F y z z2 : Lp} {p : Nat} {A As A' As' A2 As2 : Option Addr} {c c' d d' e e' : Nat} (h : Lz R w wr F p Q y A As c c' z A' As' d d') (hR : ∀ b, R b → b < w.heap.size) (hs : (ch y).isSome = true) (hB : Below ((w6 wr w.heap.size z A' As' d d').alloc (.cells #[.int .i64 z.kind, .string z.item, .int .i64 z.long, .int .i64 z.many, .slice A' z.kids.length d, .slice As' z.shares.length d'] 25)).heap.size ((w6 wr w.heap.size z A' As' d d').alloc (.cells #[.int .i64 z.kind, .string z.item, .int .i64 z.long, .int .i64 z.many, .slice A' z.kids.length d, .slice As' z.shares.length d'] 25)) w3)
    (hz : LR (RN Q ((w6 wr w.heap.size z A' As' d d').alloc (.cells #[.int .i64 z.kind, .string z.item, .int .i64 z.long, .int .i64 z.many, .slice A' z.kids.length d, .slice As' z.shares.length d'] 25)).heap.size w3) w3 z2 A2 As2) (hc : ∀ z', ch z = some z' → z2 = z') :
    Lz R w (w6 w3 (w6 wr w.heap.size z A' As' d d').heap.size z2 A2 As2 e e') F (w6 wr w.heap.size z A' As' d d').heap.size (RN Q ((w6 wr w.heap.size z A' As' d d').alloc (.cells #[.int .i64 z.kind, .string z.item, .int .i64 z.long, .int .i64 z.many, .slice A' z.kids.length d, .slice As' z.shares.length d'] 25)).heap.size w3) z A' As' d d' z2 A2 As2 e e' := by
  obtain ⟨a1, a2, a3, a4, a5, a6, a7⟩ := h.mid hR hs (.cells #[.int .i64 z.kind, .string z.item, .int .i64 z.long, .int .i64 z.many, .slice A' z.kids.length d, .slice As' z.shares.length d'] 25)
  have hq := h.q
  have hne := h.ne hR
  have hs0 := h.bz.sz
  have hf := w6_fr wr w.heap.size z A' As' d d'
  have hB1 := (Below.refl (w6 wr w.heap.size z A' As' d d').heap.size (w6 wr w.heap.size z A' As' d d')).alloc (Nat.le_refl _) (.cells #[.int .i64 z.kind, .string z.item, .int .i64 z.long, .int .i64 z.many, .slice A' z.kids.length d, .slice As' z.shares.length d'] 25)
  have hn := UF.new (w6 wr w.heap.size z A' As' d d') #[.int .i64 z.kind, .string z.item, .int .i64 z.long, .int .i64 z.many, .slice A' z.kids.length d, .slice As' z.shares.length d'] 25
  have hcn : ∀ i u, (row z A' As' d d')[i]? = some u → ((w6 wr w.heap.size z A' As' d d').alloc (.cells #[.int .i64 z.kind, .string z.item, .int .i64 z.long, .int .i64 z.many, .slice A' z.kids.length d, .slice As' z.shares.length d'] 25)).cell? ⟨(w6 wr w.heap.size z A' As' d d').heap.size, i, none⟩ = some u := fun i u hu => by rw [World.cell?_alloc_new, ← hu]; simp [row]
  have hp1 : ((w6 wr w.heap.size z A' As' d d').alloc (.cells #[.int .i64 z.kind, .string z.item, .int .i64 z.long, .int .i64 z.many, .slice A' z.kids.length d, .slice As' z.shares.length d'] 25)).heap.size = (w6 wr w.heap.size z A' As' d d').heap.size + 1 := by simp
  have s1 := hf.size
  generalize (w6 wr w.heap.size z A' As' d d').alloc (.cells #[.int .i64 z.kind, .string z.item, .int .i64 z.long, .int .i64 z.many, .slice A' z.kids.length d, .slice As' z.shares.length d'] 25) = W2 at *
  generalize hW1 : w6 wr w.heap.size z A' As' d d' = W1 at *
  have hg := w6_fr w3 W1.heap.size z2 A2 As2 e e'
  have s2 := hB.size
  have s3 := hg.size
  have hQ : ∀ b, RN Q W2.heap.size w3 b → b ≠ W1.heap.size := fun b hb => by
    rcases hb with hb | hb
    · have := hne b hb; omega
    · omega
  refine ⟨(a1.below hB).fr hg (fun b hb => by omega), ⟨by omega, by omega⟩, fun i u hu => cells6 (fun i u hu => B.cell_below hB (hcn i u hu)) i u hu, w6_uf (hn.below hB (by omega)), fun b hb => ⟨?_, hQ b hb⟩, ((a2.below hB).weak (fun b hb => .inl hb)).fr hg hQ (fun _ h => h), hz.fr hg hQ (fun _ h => h), a4, a5, a6, hc⟩
  have hb1 := hQ b hb
  rcases hb with hb | hb
  · obtain ⟨h1, h2⟩ := hq b hb
    rcases h1 with h1 | h1
    · exact .inl h1
    · refine .inr ⟨h1.1, by omega, ?_⟩
      have u1 : UF W1 b := h1.2.2.fr hf h1.2.1 (hne b hb).1
      exact ((u1.below hB1 (by omega)).below hB (by omega)).fr hg (by omega) hb1
  · exact .inr ⟨by omega, by omega, hb.2.2.fr hg (by omega) hb1⟩
theorem Kp.set {R : Nat → Prop} {lo : Nat} {wr : World} {A : Option Addr} {cap : Nat} {l : List Lp} (h : Kp R lo wr A cap l) {b i : Nat} (hb : b < lo) (hR : ∀ q, R q → q ≠ b) (v : Value) : Kp R lo (wr.setCell ⟨b, i, none⟩ v) A cap l := by
  obtain ⟨rs, ho, hr⟩ := h
  have hf : Fr (fun q => q = b) wr (wr.setCell ⟨b, i, none⟩ v) := (Fr.refl (fun q => q = b) wr).set (p := ⟨b, i, none⟩) (fun _ => rfl) _
  have hne : ∀ q, RB R lo wr (.slice A l.length cap) q → ¬ q = b := fun q hq => by
    rcases hq with h | h
    · exact hR q h
    · omega
  refine ⟨rs, ho.setCell hb v, hr.fr hf hne (fun q hq => ?_)⟩
  have h1 := hne q hq
  rcases hq with h | h
  · exact .inl h
  · exact .inr ⟨h.1, Nat.lt_of_lt_of_le h.2.1 hf.size, h.2.2.1, h.2.2.2.fr hf h.2.1 h1⟩
theorem cr_open {R : Nat → Prop} {lo : Nat} {y : Lp} {e : Ending} {w' : World} (h : CrRes R lo y e w') : ∃ A' As' d d', e = .returned (.agg #[.int .i64 y.kind, .string y.item, .int .i64 y.long, .int .i64 y.many, .slice A' y.kids.length d, .slice As' y.shares.length d']) ∧ LR (RN R lo w') w' y A' As' := h
theorem ch_open {R : Nat → Prop} {lo : Nat} {x : Lp} {e : Ending} {w' : World} (h : ChRes R lo x e w') : ∃ y A' As' d d', e = .returned (.tuple #[.agg #[.int .i64 y.kind, .string y.item, .int .i64 y.long, .int .i64 y.many, .slice A' y.kids.length d, .slice As' y.shares.length d'], .bool (ch x).isSome]) ∧ LR (RN R lo w') w' y A' As' ∧ ∀ z, ch x = some z → y = z := h
set_option maxHeartbeats 8000000 in
set_option maxRecDepth 100000 in
theorem least_any : ∀ (n : Nat) {R : Nat → Prop} (x : Lp) (A As : Option Addr) (c c' : Nat) (w : World), parts x ≤ n → LR R w x A As → Vd x → (∀ b, R b → b < w.heap.size) → parts x ≤ 200 →
    Calls Tryd.prog 22 #[lv x A As c c'] w fun e w' => CrRes R w.heap.size (lst x) e w' ∧ Below w.heap.size w w' := by
  intro n
  induction n with
  | zero => intro R x _ _ _ _ _ h; rw [parts_eq] at h; omega
  | succ n ih =>
  intro R x A As c c' w hn h hv hR hp
  have HH := Lib.hid h
  have HV := Lib.hid hv
  have HRR := Lib.hid hR
  have HP := Lib.hid hp
  have HIH := Lib.hid (fun (R' : Nat → Prop) (k : Lp) (hk : k ∈ x.kids) (A' As' : Option Addr) (d d' : Nat) (W : World) (h' : LR R' W k A' As') (hR' : ∀ b, R' b → b < W.heap.size) => (ih (R := R') k A' As' d d' W (by have := partsL_mem hk; rw [parts_eq] at hn; omega) h' (hv.kid hk) hR' (by have := partsL_mem hk; rw [parts_eq] at hp; omega)).mono fun e w' he => (⟨cr_open he.1, he.2⟩ : _ ∧ _))
  have HCL := Lib.hid (fun (W : World) (hb : Below w.heap.size w W) => cloneLoop (R := R) A c x.kids W (h.kids.below hb) (fun b hb2 => by have := hR b hb2; have := hb.size; omega))
  have LK : x.kids.length ≤ 1048576 := h.ok.2.2.1
  clear ih hn h hv hR hp
  unfold lv at HIH ⊢
  go_enter Tryd.func22, Tryd.ntmps22
  go_wp2_with (go_at_call 35; have HZ := Lib.hid (@Bz.new w x A As c c'); refine (HCL.out _ HZ.out.bl).mono ?_; rintro e w5 ⟨⟨A3, c3, rfl, hK⟩, hB5⟩; have HK5 : Hid (Kp R (w.heap.size + 2) w5 A3 c3 x.kids) := Lib.hid (by simpa using hK); have HZ5 := Lib.hid (HZ.out.below hB5); clear hK hB5; have u4 := HZ5.out.y 4 _ rfl; have uz := HZ5.out.yz)
  have HZ6 := Lib.hid (HZ5.out.set4 A3 c3)
  have HK6 := Lib.hid (HK5.out.set (b := w.heap.size) (i := 4) (by omega) (fun q hq => by have := HRR.out q hq; omega) (.slice A3 x.kids.length c3))
  clear u4 uz HK5 HZ5 HZ
  generalize w5.setCell ⟨w.heap.size, 4, none⟩ (.slice A3 x.kids.length c3) = W6 at *
  go_loopw [14] (fun s14 wr => ∃ i : Nat, s14 = .int .i64 i ∧ i ≤ x.kids.length ∧ Hid (Bz w wr x A3 As c3 c') ∧ Hid (Kp R (w.heap.size + 2) wr A3 c3 (mt lst x.kids i))) (fun s _ => x.kids.length - (intOf s).toNat)
  case atStart => exact ⟨0, rfl, by omega, HZ6, Lib.hid (by rw [mt_zero]; exact HK6.out)⟩
  case round =>
    obtain ⟨i, rfl, hi, HZ1, HK1⟩ := hrel
    by_cases hlt : i < x.kids.length
    · have hlm : i < (mt lst x.kids i).length := by rw [mt_len]; exact hlt
      obtain ⟨g, rfl, hg1, hg2, huf⟩ := HK1.out.blk (by omega)
      obtain ⟨A', As', d, d', hc, hat⟩ := HK1.out.at i hlm
      rw [mt_at lst x.kids i hlt hlm] at hc hat
      have HST := Lib.hid (mt_set lst x.kids i hlt)
      have HML := Lib.hid (mt_len lst x.kids i)
      have HG := Lib.hid (And.intro hg1 hg2)
      have HUF := Lib.hid huf
      have HC := Lib.hid hc
      have f0 := hc 0 _ rfl
      have f1 := hc 1 _ rfl
      have f2 := hc 2 _ rfl
      have f3 := hc 3 _ rfl
      have f4 := hc 4 _ rfl
      have f5 := hc 5 _ rfl
      simp only [Nat.add_zero] at f0
      have hk1 : (i : Int) < x.kids.length := by omega
      have y4 := HZ1.out.y 4 _ rfl
      have HCC := Lib.hid (fun (W : World) (hb : Below wr.heap.size wr W) => HIH.out (RB R (w.heap.size + 2) wr (.slice (some ⟨g, 0, none⟩) (mt lst x.kids i).length c3)) x.kids[i] (List.getElem_mem hlt) A' As' d d' W (hat.below hb) (fun b hb2 => by
        have := hb.size
        have := HZ1.out.bl.size
        rcases hb2 with h | h
        · have := HRR.out b h; omega
        · omega))
      generalize x.kids[i] = k at *
      generalize lst k = y9 at *
      have HB1 := Lib.hid ((Below.refl wr.heap.size wr).alloc (Nat.le_refl _) (.cells #[.int .i64 k.kind, .string k.item, .int .i64 k.long, .int .i64 k.many, .slice A' k.kids.length d, .slice As' k.shares.length d'] 25))
      have HBD := Lib.hid (B.below_drew HB1.out 1)
      have HBE := Lib.hid (B.below_drew (Below.refl (wr.alloc (.cells #[.int .i64 k.kind, .string k.item, .int .i64 k.long, .int .i64 k.many, .slice A' k.kids.length d, .slice As' k.shares.length d'] 25)).heap.size (wr.alloc (.cells #[.int .i64 k.kind, .string k.item, .int .i64 k.long, .int .i64 k.many, .slice A' k.kids.length d, .slice As' k.shares.length d'] 25))) 1)
      have t4 := B.cell_below HB1.out y4
      have t4d := B.cell_below HBD.out y4
      have HT := Lib.hid (fun (W : World) => @L.boxed k A' As' d d' wr W 25)
      clear hc hat hg1 hg2 huf
      go_wp2
      go_region_law (first
        | (go_simp; go_at_call 22; refine (HCC.out _ HBD.out).mono ?_; rintro e w2 ⟨⟨A9, As9, d9, d9', rfl, hL9⟩, hB9⟩; have HB9 := Lib.hid hB9; have HL9 := Lib.hid hL9; have n4 := B.cell_below hB9 t4d; have HN := Lib.hid (HT.out w2 (B.below_trans HBE.out hB9)); obtain ⟨n0, n1, n2, n3, n5, n6⟩ := HN.out; have HB2 := Lib.hid (B.below_trans HBD.out hB9); have r0 := B.cell_below HB2.out (HC.out 0 _ rfl); have r1 := B.cell_below HB2.out (HC.out 1 _ rfl); have r2 := B.cell_below HB2.out (HC.out 2 _ rfl); have r3 := B.cell_below HB2.out (HC.out 3 _ rfl); have r4 := B.cell_below HB2.out (HC.out 4 _ rfl); have r5 := B.cell_below HB2.out (HC.out 5 _ rfl); simp only [Nat.add_zero] at r0; have hfz : ∀ q, w2.frozen? ⟨g, q, none⟩ = false := HUF.out.below HB2.out HG.out.2; clear hB9 hL9))
      all_goals
        have HKP := Lib.hid (HK1.out.put (fun b hb => by have := HRR.out b hb; omega) HB2.out d9 d9' HBD.out.size HL9.out i (by rw [HML.out]; exact hlt))
        rw [HST.out] at HKP
        have HZ9 := Lib.hid ((HZ1.out.below HB2.out).fr (put_fr w2 g i y9 A9 As9 d9 d9') (fun b hb => by rw [hb]; exact HG.out.1))
        unfold put6 at HKP HZ9
        generalize ((((((w2.setCell ⟨g, i * 6, none⟩ (.int .i64 y9.kind)).setCell ⟨g, i * 6 + 1, none⟩ (.string y9.item)).setCell ⟨g, i * 6 + 2, none⟩ (.int .i64 y9.long)).setCell ⟨g, i * 6 + 3, none⟩ (.int .i64 y9.many)).setCell ⟨g, i * 6 + 4, none⟩ (.slice A9 y9.kids.length d9)).setCell ⟨g, i * 6 + 5, none⟩ (.slice As9 y9.shares.length d9')) = W9 at *
        clear n0 n1 n2 n3 n4 n5 n6 r0 r1 r2 r3 r4 r5 hfz f0 f1 f2 f3 f4 f5 t4 t4d y4
        go_wp2
        go_roundw
        case rel => exact ⟨i + 1, by go_num, by omega, HZ9, HKP⟩
        case measure => simp [intOf]; omega
    · obtain rfl : i = x.kids.length := by omega
      have hk := HK1.out
      rw [mt_all] at hk
      have hZ7 := HZ1.out.cast (x.kids.map lst) (by rw [List.length_map])
      have hsr := hk.end (lo' := w.heap.size + 2) (Nat.le_refl _) (by rw [List.length_map]; exact LK)
      have hly : LR (RN R (w.heap.size + 2) wr) wr (upd x (x.kids.map lst)) A3 As := lr_upd HH.out.ok (HH.out.sh.mono HZ1.out.bl) (fun hp => by obtain ⟨b1, o1, e1, h1⟩ := HH.out.shR hp; exact ⟨b1, o1, e1, .inl h1⟩) hsr
      obtain ⟨hvl1, hvl2⟩ := lstL_vd x.kids (fun j hj => HV.out.kid hj)
      rw [lstL_map] at hvl1 hvl2
      have hvy : Vd (upd x (x.kids.map lst)) := vd_of (own_upd HV.out.own (by rw [List.length_map])) hvl1
      have hpy : parts (upd x (x.kids.map lst)) ≤ 200 := by
        have := HP.out
        rw [parts_eq] at this ⊢
        show 1 + partsL (x.kids.map lst) ≤ 200
        omega
      have HFY : Hid (fin (upd x (x.kids.map lst)) = lst x) := Lib.hid (lst_eq x).symm
      generalize hfl : lst x = FF at HFY
      have HFL := Lib.hid hfl
      clear hfl
      generalize upd x (x.kids.map lst) = y0 at *
      have HZ7 := Lib.hid hZ7
      have HLY := Lib.hid hly
      have HVY := Lib.hid hvy
      have HPY := Lib.hid hpy
      have HSZ : Hid (∀ b, RN R (w.heap.size + 2) wr b → b < wr.heap.size) := Lib.hid (fun b hb => by
        rcases hb with h | h
        · have := HRR.out b h; have := HZ1.out.bl.size; omega
        · exact h.2.1)
      have cc := (changed_any y0 A3 As c3 c' wr hly hvy HSZ.out hpy).mono fun e w' he => (⟨ch_open he.1, he.2⟩ : _ ∧ _)
      unfold lv at cc
      clear hk hZ7 hsr hly hvl1 hvl2 hvy hpy hlt hi HK1 HK6 HZ6 HCL HIH
      have u0 := HZ7.out.y 0 _ rfl
      have u1 := HZ7.out.y 1 _ rfl
      have u2 := HZ7.out.y 2 _ rfl
      have u3 := HZ7.out.y 3 _ rfl
      have u4 := HZ7.out.y 4 _ rfl
      have u5 := HZ7.out.y 5 _ rfl
      generalize hwo : wr = wo at *
      clear hwo
      go_wp2_with (go_at_call 36; refine cc.mono ?_; rintro e w7 ⟨⟨z, A5, As5, d5, d5', rfl, hL5, hz5⟩, hB7⟩; have HLZ := Lib.hid (Lz.start (d := d5) (d' := d5') HRR.out HZ7.out (fun b hb => hb) HLY.out HVY.out HPY.out HFY.out hB7 hL5 hz5); clear hL5 hz5 hB7)
      clear cc u0 u1 u2 u3 u4 u5
      generalize hsb : (ch y0).isSome = sb at *
      have HSB := Lib.hid hsb
      clear hsb
      generalize w7.alloc (.cells #[.int .i64 z.kind, .string z.item, .int .i64 z.long, .int .i64 z.many, .slice A5 z.kids.length d5, .slice As5 z.shares.length d5'] 25) = W8 at *
      go_loopg [5, 6] (mu y0) (fun k s5 s6 wr => ∃ (p : Nat) (Q : Nat → Prop) (y : Lp) (A As : Option Addr) (c c' : Nat) (z : Lp) (A' As' : Option Addr) (d d' : Nat), s5 = .pointer (some ⟨p, 0, none⟩) ∧ s6 = .bool (ch y).isSome ∧ mu y ≤ k ∧ Hid (Lz R w wr FF p Q y A As c c' z A' As' d d'))
      case atStart => exact ⟨w7.heap.size, _, y0, A3, As, c3, c', z, A5, As5, d5, d5', rfl, by rw [HSB.out], Nat.le_refl _, HLZ⟩
      case round =>
        obtain ⟨p, Q, y, Ay, Asy, cy, cy', z2, Az, Asz, dz, dz', rfl, rfl, hmu, HLW⟩ := hrel
        have hpn1 : ¬ w.heap.size = p := by have := HLW.out.pz.1; omega
        have hpn2 : ¬ p = w.heap.size := by have := HLW.out.pz.1; omega
        have by0 := HLW.out.bz.y 0 _ rfl
        have by1 := HLW.out.bz.y 1 _ rfl
        have by2 := HLW.out.bz.y 2 _ rfl
        have by3 := HLW.out.bz.y 3 _ rfl
        have by4 := HLW.out.bz.y 4 _ rfl
        have by5 := HLW.out.bz.y 5 _ rfl
        have bp0 := HLW.out.pc 0 _ rfl
        have bp1 := HLW.out.pc 1 _ rfl
        have bp2 := HLW.out.pc 2 _ rfl
        have bp3 := HLW.out.pc 3 _ rfl
        have bp4 := HLW.out.pc 4 _ rfl
        have bp5 := HLW.out.pc 5 _ rfl
        have byz := HLW.out.bz.yz
        cases hb : (ch y).isSome with
        | true =>
          have HNX := Lib.hid (fun o => HLW.out.mid HRR.out hb o)
          have HMU := Lib.hid (HNX.out (.cells #[] 3)).2.2.2.2.2.2
          have HCC := Lib.hid (fun o => (changed_any z2 Az Asz dz dz' _ (HNX.out o).2.1 (HNX.out o).2.2.2.1 (HNX.out o).2.2.1 (HNX.out o).2.2.2.2.1).mono fun e w' he => (⟨ch_open he.1, he.2⟩ : _ ∧ _))
          have HNEXT := Lib.hid (fun (w3 : World) (z3 : Lp) (A6 As6 : Option Addr) (d6 d6' : Nat) hB hL hz => HLW.out.next (w3 := w3) (z2 := z3) (A2 := A6) (As2 := As6) (e := d6) (e' := d6') HRR.out hb hB hL hz)
          have HBZ := Lib.hid (HLW.out.bz.set6 z2 Az Asz dz dz')
          have HPF : Hid (∀ i u, (row z2 Az Asz dz dz')[i]? = some u → (w6 wr w.heap.size z2 Az Asz dz dz').cell? ⟨p, i, none⟩ = some u) := Lib.hid (fun i u hu => (w6_fr wr w.heap.size z2 Az Asz dz dz').cell hpn2 (HLW.out.pc i u hu))
          go_upto_region 11 with fail
          change Code.wp _ _ _ _ (w6 wr w.heap.size z2 Az Asz dz dz')
          generalize w6 wr w.heap.size z2 Az Asz dz dz' = W1 at *
          clear by0 by1 by2 by3 by4 by5 bp0 bp1 bp2 bp3 bp4 bp5 byz
          have ey0 := fun o => (HNX.out o).1.y 0 _ rfl
          have ey1 := fun o => (HNX.out o).1.y 1 _ rfl
          have ey2 := fun o => (HNX.out o).1.y 2 _ rfl
          have ey3 := fun o => (HNX.out o).1.y 3 _ rfl
          have ey4 := fun o => (HNX.out o).1.y 4 _ rfl
          have ey5 := fun o => (HNX.out o).1.y 5 _ rfl
          have cp0 := HPF.out 0 _ rfl
          have cp1 := HPF.out 1 _ rfl
          have cp2 := HPF.out 2 _ rfl
          have cp3 := HPF.out 3 _ rfl
          have cp4 := HPF.out 4 _ rfl
          have cp5 := HPF.out 5 _ rfl
          have HBX := Lib.hid (fun (W3 : World) => @L.boxed z2 Az Asz dz dz' W1 W3 25)
          have HFZ := Lib.hid (fun (W3 : World) (hb : Below (W1.alloc (.cells #[.int .i64 z2.kind, .string z2.item, .int .i64 z2.long, .int .i64 z2.many, .slice Az z2.kids.length dz, .slice Asz z2.shares.length dz'] 25)).heap.size (W1.alloc (.cells #[.int .i64 z2.kind, .string z2.item, .int .i64 z2.long, .int .i64 z2.many, .slice Az z2.kids.length dz, .slice Asz z2.shares.length dz'] 25)) W3) => Copy.frozen_new hb)
          have cc := HCC.out (.cells #[.int .i64 z2.kind, .string z2.item, .int .i64 z2.long, .int .i64 z2.many, .slice Az z2.kids.length dz, .slice Asz z2.shares.length dz'] 25)
          unfold lv at cc
          go_wp2_with (go_at_call 36; refine cc.mono ?_; rintro e w3 ⟨⟨z3, A6, As6, d6, d6', rfl, hL6, hz6⟩, hB6⟩; have HLN := Lib.hid (HNEXT.out w3 z3 A6 As6 d6 d6' hB6 hL6 hz6); obtain ⟨x0, x1, x2, x3, x4, x5⟩ := HBX.out w3 hB6; have xz := HFZ.out w3 hB6; clear hL6 hz6 hB6)
          go_roundg (mu z2)
          case measure => have := HMU.out; omega
          case rel => exact ⟨W1.heap.size, _, z2, Az, Asz, dz, dz', z3, A6, As6, d6, d6', rfl, rfl, Nat.le_refl _, HLN⟩
        | false =>
          have hn : ch y = none := Option.isNone_iff_eq_none.1 (by simpa using hb)
          have HFIN : Hid (FF = y) := Lib.hid (HLW.out.fy.symm.trans (fin_none hn))
          have bq0 := HLW.out.bz.q 0 _ rfl
          have bq1 := HLW.out.bz.q 1 _ rfl
          have bq2 := HLW.out.bz.q 2 _ rfl
          have bq3 := HLW.out.bz.q 3 _ rfl
          have bq4 := HLW.out.bz.q 4 _ rfl
          have bq5 := HLW.out.bz.q 5 _ rfl
          have bqz := HLW.out.bz.qz
          have HNE := Lib.hid (HLW.out.ne HRR.out)
          go_wp2
          go_simp
          have hrow : ((((((wr.setCell ⟨w.heap.size + 1, 0, none⟩ (.int .i64 y.kind)).setCell ⟨w.heap.size + 1, 1, none⟩ (.string y.item)).setCell ⟨w.heap.size + 1, 2, none⟩ (.int .i64 y.long)).setCell ⟨w.heap.size + 1, 3, none⟩ (.int .i64 y.many)).setCell ⟨w.heap.size + 1, 4, none⟩ (.slice Ay y.kids.length cy)).setCell ⟨w.heap.size + 1, 5, none⟩ (.slice Asy y.shares.length cy')).heap[w.heap.size + 1]? = some (.cells #[.int .i64 y.kind, .string y.item, .int .i64 y.long, .int .i64 y.many, .slice Ay y.kids.length cy, .slice Asy y.shares.length cy'] 25 (0, 0)) := L.set6 (a := .int .i64 0) (b := .string ⟨#[]⟩) (c := .int .i64 0) (d := .int .i64 0) (e := .slice none 0 0) (f := .slice none 0 0) HLW.out.bz.rw
          have hbd : Below w.heap.size w ((((((wr.setCell ⟨w.heap.size + 1, 0, none⟩ (.int .i64 y.kind)).setCell ⟨w.heap.size + 1, 1, none⟩ (.string y.item)).setCell ⟨w.heap.size + 1, 2, none⟩ (.int .i64 y.long)).setCell ⟨w.heap.size + 1, 3, none⟩ (.int .i64 y.many)).setCell ⟨w.heap.size + 1, 4, none⟩ (.slice Ay y.kids.length cy)).setCell ⟨w.heap.size + 1, 5, none⟩ (.slice Asy y.shares.length cy')) := below6 HLW.out.bz.bl (by omega) _ _ _ _ _ _
          have hff : Fr (fun b => b = w.heap.size + 1) wr ((((((wr.setCell ⟨w.heap.size + 1, 0, none⟩ (.int .i64 y.kind)).setCell ⟨w.heap.size + 1, 1, none⟩ (.string y.item)).setCell ⟨w.heap.size + 1, 2, none⟩ (.int .i64 y.long)).setCell ⟨w.heap.size + 1, 3, none⟩ (.int .i64 y.many)).setCell ⟨w.heap.size + 1, 4, none⟩ (.slice Ay y.kids.length cy)).setCell ⟨w.heap.size + 1, 5, none⟩ (.slice Asy y.shares.length cy')) := fr6 _ _ _ _ _ _ _ _
          generalize ((((((wr.setCell ⟨w.heap.size + 1, 0, none⟩ (.int .i64 y.kind)).setCell ⟨w.heap.size + 1, 1, none⟩ (.string y.item)).setCell ⟨w.heap.size + 1, 2, none⟩ (.int .i64 y.long)).setCell ⟨w.heap.size + 1, 3, none⟩ (.int .i64 y.many)).setCell ⟨w.heap.size + 1, 4, none⟩ (.slice Ay y.kids.length cy)).setCell ⟨w.heap.size + 1, 5, none⟩ (.slice Asy y.shares.length cy')) = WF at hrow hbd hff ⊢
          refine bodyPost_ret (results_cell1_row rfl _ _ (w.heap.size + 1) 25 #[.int .i64 y.kind, .string y.item, .int .i64 y.long, .int .i64 y.many, .slice Ay y.kids.length cy, .slice Asy y.shares.length cy'] (0, 0) _ rfl hrow Tryd.underlying25 rfl (by kernel_rfl)) rfl ?_
          rw [HFL.out, HFIN.out]
          exact ⟨⟨Ay, Asy, cy, cy', rfl, HLW.out.ly.fr hff (fun b hb => (HNE.out b hb).2.1) (fun b hb => rn_fr hff (by omega) (fun b hb e => by omega) b (HLW.out.q b hb).1)⟩, hbd⟩
end Go.Proofs.YtlfobpjefklccaaDoor.H
