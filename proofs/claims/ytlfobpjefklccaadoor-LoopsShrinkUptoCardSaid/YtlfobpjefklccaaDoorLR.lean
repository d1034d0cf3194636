/- Loops and rows of loops that lie in certain blocks, whatever their depth. -/
import Derived.Test.YtlfobpjefklccaaDoorShrink
namespace Go.Proofs.YtlfobpjefklccaaDoor.H
open Go.RowKit
open L (Lp row row1 At AtR lv kdL kid_at rowR)
open F (Fr Cl)

theorem atr_up {R : Nat → Prop} : ∀ {n : Nat} {w : World} {x : Lp} {A As : Option Addr}, AtR R n w x A As → AtR R (n + 1) w x A As := by
  intro n
  induction n with
  | zero =>
    intro w x A As h
    unfold AtR at h ⊢
    refine ⟨h.1, h.2.1, h.2.2.1, fun hp => ?_⟩
    obtain ⟨_, _, _, _, h⟩ := h.2.2.2 hp
    exact h.elim
  | succ n ih =>
    intro w x A As h
    unfold AtR at h ⊢
    refine ⟨h.1, h.2.1, h.2.2.1, fun hp => ?_⟩
    obtain ⟨b, off, e, hR, h⟩ := h.2.2.2 hp
    refine ⟨b, off, e, hR, fun j hj => ?_⟩
    obtain ⟨A', As', c, c', h1, h2⟩ := h j hj
    exact ⟨A', As', c, c', h1, ih h2⟩
theorem atr_le {R : Nat → Prop} {n m : Nat} (h : n ≤ m) : ∀ {w : World} {x : Lp} {A As : Option Addr}, AtR R n w x A As → AtR R m w x A As := by
  induction h with
  | refl => exact fun h => h
  | step _ ih => exact fun h => atr_up (ih h)
/-- A loop that lies in these blocks. -/
def LR (R : Nat → Prop) (w : World) (x : Lp) (A As : Option Addr) : Prop := ∃ n, AtR R n w x A As
theorem LR.fr {R R' S : Nat → Prop} {w w' : World} {x : Lp} {A As : Option Addr} (h : LR R w x A As) (hf : Fr S w w') (hs : ∀ b, R b → ¬ S b) (hR : ∀ b, R b → R' b) : LR R' w' x A As := h.elim fun n h => ⟨n, h.fr hf hs hR⟩
theorem LR.below {R : Nat → Prop} {w w' : World} {x : Lp} {A As : Option Addr} (h : LR R w x A As) (hb : Below w.heap.size w w') : LR R w' x A As := h.fr (S := fun _ => False) (Fr.of_below hb) (fun _ _ h => h) (fun _ h => h)
theorem LR.weak {R R' : Nat → Prop} {w : World} {x : Lp} {A As : Option Addr} (h : LR R w x A As) (hR : ∀ b, R b → R' b) : LR R' w x A As := h.fr (S := fun _ => False) (Fr.refl _ w) (fun _ _ h => h) hR
theorem LR.at {R : Nat → Prop} {w : World} {x : Lp} {A As : Option Addr} (h : LR R w x A As) : ∃ n, At n w x A As := h.elim fun n h => ⟨n, h.at⟩
theorem LR.ok {R : Nat → Prop} {w : World} {x : Lp} {A As : Option Addr} (h : LR R w x A As) : x.ok := h.at.elim fun _ h => h.2.2
theorem LR.sh {R : Nat → Prop} {w : World} {x : Lp} {A As : Option Addr} (h : LR R w x A As) : B.Kd.int.C w As x.shares := h.at.elim fun _ h => h.2.1
theorem LR.shR {R : Nat → Prop} {w : World} {x : Lp} {A As : Option Addr} (h : LR R w x A As) : 0 < x.shares.length → ∃ b off, As = some ⟨b, off, none⟩ ∧ R b := by
  obtain ⟨n, h⟩ := h
  cases n <;> (unfold AtR at h; exact h.2.2.1)
/-- Loops in a row, in these blocks. -/
def SR (R : Nat → Prop) (w : World) (A : Option Addr) (xs : List Lp) : Prop :=
  xs.length ≤ 1048576 ∧ (0 < xs.length → ∃ b off, A = some ⟨b, off, none⟩ ∧ R b ∧ ∀ j (h : j < xs.length), ∃ A' As' c c', (∀ i u, (row xs[j] A' As' c c')[i]? = some u → w.cell? ⟨b, off + j * 6 + i, none⟩ = some u) ∧ LR R w xs[j] A' As')
theorem SR.nil (R : Nat → Prop) (w : World) (A : Option Addr) : SR R w A [] := ⟨by simp, fun h => absurd h (by simp)⟩
theorem SR.fr {R R' S : Nat → Prop} {w w' : World} {A : Option Addr} {xs : List Lp} (h : SR R w A xs) (hf : Fr S w w') (hs : ∀ b, R b → ¬ S b) (hR : ∀ b, R b → R' b) : SR R' w' A xs :=
  ⟨h.1, fun hp => by
    obtain ⟨b, off, e, hb, h⟩ := h.2 hp
    refine ⟨b, off, e, hR b hb, fun j hj => ?_⟩
    obtain ⟨A', As', c, c', h1, h2⟩ := h j hj
    exact ⟨A', As', c, c', fun i u hu => hf.cell (hs b hb) (h1 i u hu), h2.fr hf hs hR⟩⟩
theorem SR.below {R : Nat → Prop} {w w' : World} {A : Option Addr} {xs : List Lp} (h : SR R w A xs) (hb : Below w.heap.size w w') : SR R w' A xs := h.fr (S := fun _ => False) (Fr.of_below hb) (fun _ _ h => h) (fun _ h => h)
theorem SR.weak {R R' : Nat → Prop} {w : World} {A : Option Addr} {xs : List Lp} (h : SR R w A xs) (hR : ∀ b, R b → R' b) : SR R' w A xs := h.fr (S := fun _ => False) (Fr.refl _ w) (fun _ _ h => h) hR
theorem LR.kids {R : Nat → Prop} {w : World} {x : Lp} {A As : Option Addr} (h : LR R w x A As) : SR R w A x.kids := by
  refine ⟨h.ok.2.2.1, fun hp => ?_⟩
  obtain ⟨n, h⟩ := h
  unfold AtR at h
  obtain ⟨b, off, e, hb, h⟩ := h.2.2.2 hp
  cases n with
  | zero => exact h.elim
  | succ n =>
    refine ⟨b, off, e, hb, fun j hj => ?_⟩
    obtain ⟨A', As', c, c', h1, h2⟩ := h j hj
    exact ⟨A', As', c, c', h1, n, h2⟩
theorem max_of {P : Nat → Nat → Prop} (hm : ∀ j n m, n ≤ m → P j n → P j m) : ∀ (k : Nat), (∀ j, j < k → ∃ n, P j n) → ∃ n, ∀ j, j < k → P j n := by
  intro k
  induction k with
  | zero => exact fun _ => ⟨0, fun j h => absurd h (by omega)⟩
  | succ k ih =>
    intro h
    obtain ⟨n, hn⟩ := ih (fun j hj => h j (by omega))
    obtain ⟨m, hk⟩ := h k (by omega)
    refine ⟨max n m, fun j hj => ?_⟩
    by_cases e : j = k
    · subst e; exact hm _ _ _ (Nat.le_max_right _ _) hk
    · exact hm _ _ _ (Nat.le_max_left _ _) (hn j (by omega))
theorem LR.mk {R : Nat → Prop} {w : World} {x : Lp} {A As : Option Addr} (hok : x.ok) (hs : B.Kd.int.C w As x.shares) (hsr : 0 < x.shares.length → ∃ b off, As = some ⟨b, off, none⟩ ∧ R b) (hk : SR R w A x.kids) : LR R w x A As := by
  by_cases hp : 0 < x.kids.length
  · obtain ⟨b, off, e, hb, h⟩ := hk.2 hp
    obtain ⟨n, hn⟩ := max_of (P := fun j n => ∀ hj : j < x.kids.length, ∃ A' As' c c', (∀ i u, (row x.kids[j] A' As' c c')[i]? = some u → w.cell? ⟨b, off + j * 6 + i, none⟩ = some u) ∧ AtR R n w x.kids[j] A' As')
      (fun j n m hnm h hj => by obtain ⟨A', As', c, c', h1, h2⟩ := h hj; exact ⟨A', As', c, c', h1, atr_le hnm h2⟩) x.kids.length (fun j hj => by
        obtain ⟨A', As', c, c', h1, n, h2⟩ := h j hj
        exact ⟨n, fun _ => ⟨A', As', c, c', h1, h2⟩⟩)
    refine ⟨n + 1, ?_⟩
    unfold AtR
    exact ⟨hok, hs, hsr, fun _ => ⟨b, off, e, hb, fun j hj => hn j hj hj⟩⟩
  · refine ⟨0, ?_⟩
    unfold AtR
    exact ⟨hok, hs, hsr, fun h => absurd h hp⟩
theorem at_LR : ∀ {n : Nat} {w : World} {x : Lp} {A As : Option Addr}, At n w x A As → LR (fun b => b < w.heap.size) w x A As := by
  intro n
  induction n with
  | zero =>
    intro w x A As h
    refine LR.mk h.2.2 h.2.1 (fun hp => ?_) ⟨h.2.2.2.2.1, fun hp => ?_⟩
    · obtain ⟨b, off, cs, e, K, hc⟩ := h.2.1.at 0 hp
      have K' : cs = [.int .i64 x.shares[0]] := K
      subst K'
      exact ⟨b, off, e, World.block_lt_of_cell? w _ (hc 0 (by simp))⟩
    · obtain ⟨_, _, _, _, _, _, _, _, e, _⟩ := kid_at h.1 0 hp; omega
  | succ n ih =>
    intro w x A As h
    refine LR.mk h.2.2 h.2.1 (fun hp => ?_) ⟨h.2.2.2.2.1, fun hp => ?_⟩
    · obtain ⟨b, off, cs, e, K, hc⟩ := h.2.1.at 0 hp
      have K' : cs = [.int .i64 x.shares[0]] := K
      subst K'
      exact ⟨b, off, e, World.block_lt_of_cell? w _ (hc 0 (by simp))⟩
    · obtain ⟨b, off, e, hc⟩ := h.1.2 hp
      have hat : ∀ j (hj : j < x.kids.length), ∃ A' As' c c', (∀ i u, (row x.kids[j] A' As' c c')[i]? = some u → w.cell? ⟨b, off + j * 6 + i, none⟩ = some u) ∧ LR (fun b => b < w.heap.size) w x.kids[j] A' As' := fun j hj => by
        obtain ⟨b2, off2, m, A', As', c, c', e2, e3, h4, h5⟩ := kid_at h.1 j hj
        rw [e] at e2
        cases e2
        obtain rfl : n = m := by omega
        exact ⟨A', As', c, c', h5, ih h4⟩
      refine ⟨b, off, e, ?_, hat⟩
      obtain ⟨A', As', c, c', h5, -⟩ := hat 0 hp
      exact World.block_lt_of_cell? w _ (h5 0 _ rfl)
theorem SR.at {R : Nat → Prop} {w : World} {A : Option Addr} {xs : List Lp} (h : SR R w A xs) (j : Nat) (hj : j < xs.length) :
    ∃ b off A' As' c c', A = some ⟨b, off, none⟩ ∧ R b ∧ (∀ i u, (row xs[j] A' As' c c')[i]? = some u → w.cell? ⟨b, off + j * 6 + i, none⟩ = some u) ∧ LR R w xs[j] A' As' := by
  obtain ⟨b, off, e, hb, h⟩ := h.2 (by omega)
  obtain ⟨A', As', c, c', h1, h2⟩ := h j hj
  exact ⟨b, off, A', As', c, c', e, hb, h1, h2⟩
theorem SR.C {R : Nat → Prop} {w : World} {A : Option Addr} {xs : List Lp} (h : SR R w A xs) : ∃ n, (kdL n).C w A xs := by
  have : LR R w (.mk 0 ⟨#[]⟩ 0 0 xs []) A none := LR.mk ⟨⟨by unfold O.okI; simp [Lp.kind], by unfold O.okI; simp [Lp.long], by unfold O.okI; simp [Lp.many]⟩, by simp [Lp.item, ByteArray.size], h.1, by simp [Lp.shares], fun n hn => by cases hn⟩ (B.Kd.C_nil _ _ _) (fun h => absurd h (by simp [Lp.shares])) h
  obtain ⟨n, hn⟩ := this.at
  exact ⟨n, hn.1⟩
/-- Rows of the call's own that hold these loops. -/
def RowsL (R : Nat → Prop) (w : World) (l : List Lp) (rs : List (B.Rw 6)) : Prop := rs.length = l.length ∧ ∀ j (h1 : j < l.length) (h2 : j < rs.length), ∃ A As c c', rs[j] = rowR l[j] A As c c' ∧ LR R w l[j] A As
theorem RowsL.fr {R R' S : Nat → Prop} {w w' : World} {l : List Lp} {rs : List (B.Rw 6)} (h : RowsL R w l rs) (hf : Fr S w w') (hs : ∀ b, R b → ¬ S b) (hR : ∀ b, R b → R' b) : RowsL R' w' l rs := ⟨h.1, fun j h1 h2 => by
  obtain ⟨A, As, c, c', e, h3⟩ := h.2 j h1 h2
  exact ⟨A, As, c, c', e, h3.fr hf hs hR⟩⟩
theorem RowsL.nil (R : Nat → Prop) (w : World) : RowsL R w [] [] := ⟨rfl, fun j h => absurd h (by simp)⟩
theorem RowsL.app {R : Nat → Prop} {w : World} {l l' : List Lp} {rs rs' : List (B.Rw 6)} (h : RowsL R w l rs) (h' : RowsL R w l' rs') : RowsL R w (l ++ l') (rs ++ rs') := by
  refine ⟨by rw [List.length_append, List.length_append, h.1, h'.1], fun j h1 h2 => ?_⟩
  by_cases hj : j < l.length
  · have hj2 : j < rs.length := by rw [h.1]; exact hj
    rw [List.getElem_append_left hj, List.getElem_append_left hj2]
    exact h.2 j hj hj2
  · rw [List.length_append] at h1 h2
    have e := h.1
    rw [List.getElem_append_right (by omega), List.getElem_append_right (by omega)]
    simp only [e]
    exact h'.2 (j - l.length) (by omega) (by omega)
theorem RowsL.one {R : Nat → Prop} {w : World} {x : Lp} {A As : Option Addr} (c c' : Nat) (h : LR R w x A As) : RowsL R w [x] [rowR x A As c c'] := by
  refine ⟨rfl, fun j h1 h2 => ?_⟩
  have : j = 0 := by simp at h1; omega
  subst this
  exact ⟨A, As, c, c', rfl, h⟩
/-- The rows that a row of loops holds. -/
theorem SR.rows {R : Nat → Prop} {w : World} {A : Option Addr} {xs : List Lp} (h : SR R w A xs) : ∃ rs : List (B.Rw 6), RowsL R w xs rs ∧ (B.Kd.flat 6 (fun r : B.Rw 6 => r.val) (fun r => r.2.1) (fun r => r.2.2)).C w A rs := by
  rcases Nat.eq_zero_or_pos xs.length with h0 | hp
  · obtain rfl : xs = [] := List.eq_nil_of_length_eq_zero h0
    exact ⟨[], RowsL.nil _ _, B.Kd.C_nil _ _ _⟩
  · obtain ⟨b, off, e, hb, hat⟩ := h.2 hp
    have hl := h.1
    have key : ∀ k, k ≤ xs.length → ∃ rs : List (B.Rw 6), rs.length = k ∧ ∀ j (h1 : j < xs.length) (h2 : j < rs.length), ∃ A' As' c c', rs[j] = rowR xs[j] A' As' c c' ∧ LR R w xs[j] A' As' ∧ ∀ i u, (row xs[j] A' As' c c')[i]? = some u → w.cell? ⟨b, off + j * 6 + i, none⟩ = some u := by
      intro k
      induction k with
      | zero => exact fun _ => ⟨[], rfl, fun j _ h => absurd h (by simp)⟩
      | succ k ih =>
        intro hk
        obtain ⟨rs, h1, h2⟩ := ih (by omega)
        obtain ⟨A', As', c, c', h3, h4⟩ := hat k (by omega)
        refine ⟨rs ++ [rowR xs[k] A' As' c c'], by simp [h1], fun j q1 q2 => ?_⟩
        by_cases hj : j < rs.length
        · rw [List.getElem_append_left hj]; exact h2 j q1 hj
        · have hjk : j = k := by simp at q2; omega
          subst hjk
          rw [List.getElem_append_right (by omega)]
          simp only [h1, Nat.sub_self, List.getElem_cons_zero]
          exact ⟨A', As', c, c', rfl, h4, h3⟩
    obtain ⟨rs, h1, h2⟩ := key xs.length (Nat.le_refl _)
    refine ⟨rs, ⟨h1, fun j q1 q2 => by obtain ⟨A', As', c, c', e1, e2, -⟩ := h2 j q1 q2; exact ⟨A', As', c, c', e1, e2⟩⟩, ⟨by omega, fun _ => ⟨b, off, e, fun j hj => ⟨rs[j].val, rfl, fun i hi => ?_⟩⟩⟩⟩
    obtain ⟨A', As', c, c', e1, -, e3⟩ := h2 j (by omega) hj
    refine e3 i _ ?_
    rw [List.getElem?_eq_getElem (by have : (rs[j].val).length = 6 := rs[j].2.1; have hi' : i < (rs[j].val).length := hi; show i < 6; omega)]
    simp only [e1]
    rfl
/-- What an own row of loops reads as. -/
theorem rows_SR {R : Nat → Prop} {w : World} {base : Nat} {l : List Lp} {rs : List (B.Rw 6)} {A : Option Addr} {c n : Nat} (ho : B.Own w base 25 6 Subtype.val (.slice A n c) rs) (h : RowsL R w l rs) (hR : ∀ g, (Value.slice A n c).ownBlock = some g → R g) (hl : l.length ≤ 1048576) : SR R w A l := by
  refine ⟨hl, fun hp => ?_⟩
  have hn : n = rs.length := by
    obtain ⟨A', c', e⟩ := Copy.shape ho
    cases e
    rfl
  subst hn
  obtain ⟨g, rfl, hg, hg2⟩ := L.own_blk ho (by rw [h.1]; exact hp)
  refine ⟨g, 0, rfl, hR g hg2, fun j hj => ?_⟩
  obtain ⟨A', As', c1, c2, e, h3⟩ := h.2 j hj (by rw [h.1]; exact hj)
  refine ⟨A', As', c1, c2, fun i u hu => ?_, h3⟩
  have hj' : j < rs.length := by rw [h.1]; exact hj
  have hu' : (rs[j].val)[i]? = some u := by rw [e]; exact hu
  obtain ⟨hi, rfl⟩ := List.getElem?_eq_some_iff.1 hu'
  have hc := World.ownsRow.cells (show w.ownsRow base 25 6 (.slice (some ⟨g, 0, none⟩) rs.length c) rs.length (rs.flatMap Subtype.val) from ho) (g := g) rfl (j * 6 + i) (rs[j].val[i]) (B.flatMap_at (fun x : B.Rw 6 => x.2.1) j hj' i hi)
  rw [Lib.add_plain] at hc
  rw [← hc]
  simp
end Go.Proofs.YtlfobpjefklccaaDoor.H
