/- Rows of the call's own, written in place: an element set, a tail cleared, a prefix taken. No program in sight. -/
import Derived.Test.YtmcbljongeadeaaDoorCopy
import Derived.Laws.OwnMore
import Derived.Laws.IdiomCopy
namespace Go.Proofs.YtmcbljongeadeaaDoor.R
open Go.RowKit

theorem prefix_row {w : World} {base : Nat} {e : TypeId} {size g cap n i : Nat} {row : List Value} (h : w.ownsRow base e size (.slice (some ⟨g, 0, none⟩) n cap) n row) (hi : i ≤ n) :
    w.ownsRow base e size (.slice (some ⟨g, 0, none⟩) i cap) i (row.take (i * size)) := by
  have hm : i * size ≤ n * size := Nat.mul_le_mul_right _ hi
  rcases h with ⟨hl, ⟨h', _⟩ | ⟨g', cap', cur, h', hb, hg, hnc, hcm, hcs, htake⟩⟩
  · cases h'
  · simp only [Value.slice.injEq, Option.some.injEq, Addr.mk.injEq, and_true, true_and] at h'
    obtain ⟨rfl, rfl⟩ := h'
    refine ⟨by rw [List.length_take, hl]; omega, .inr ⟨g, cap, cur, rfl, hb, hg, by omega, hcm, hcs, ?_⟩⟩
    rw [← htake, List.take_take, Nat.min_eq_left hm]
theorem setCells_row {base : Nat} {e : TypeId} {size g cap n : Nat} : ∀ (vs : List Value) (o : Nat) (w : World) (row : List Value), w.ownsRow base e size (.slice (some ⟨g, 0, none⟩) n cap) n row →
    ∃ row', (w.setCells g o vs).ownsRow base e size (.slice (some ⟨g, 0, none⟩) n cap) n row' ∧ row'.take o = row.take o ∧ w.grownBy (w.setCells g o vs) (some g) := by
  intro vs
  induction vs with
  | nil => intro o w row h; exact ⟨row, h, rfl, ⟨rfl, rfl, rfl, Nat.le_refl _, fun _ _ _ => rfl⟩⟩
  | cons v vs ih =>
    intro o w row h
    obtain ⟨h1, g1⟩ := h.stored o v
    obtain ⟨row', h2, ht, g2⟩ := ih (o + 1) _ _ h1
    refine ⟨row', h2, ?_, ⟨g2.os.trans g1.os, g2.tape.trans g1.tape, g2.output.trans g1.output, Nat.le_trans g1.size g2.size, fun k hk hne => (g2.block k (Nat.lt_of_lt_of_le hk g1.size) hne).trans (g1.block k hk hne)⟩⟩
    have := congrArg (List.take o) ht
    rw [List.take_take, List.take_take, Nat.min_eq_left (Nat.le_succ o)] at this
    rw [this, List.take_set_of_le (Nat.le_refl o)]
theorem run_clear {P : Program} (w : World) (t e ty : TypeId) (z : Value) (ht : P.underlying t = some (.slice e)) (hv : ∀ w, (zeroValue e).run P w = .ok z w) (h1 : ∀ v ∈ z.cells, v.oneCell' = true) (b o n c : Nat)
    (hc : ∀ j, j < n * z.cells.size → (w.cell? ⟨b, o + j, none⟩).isSome = true) (hf : ∀ j, j < n * z.cells.size → w.frozen? ⟨b, o + j, none⟩ = false) (hn : 0 < n) :
    ∃ vs, (Builtin.clear_ #[t] ty #[.slice (some ⟨b, o, none⟩) n c]).run P w = .ok (.tuple #[]) (w.setCells b o vs) := by
  obtain ⟨m, rfl⟩ : ∃ m, n = m + 1 := ⟨n - 1, by omega⟩
  have hst := run_storeCells_cells (P := P) b o (Builtin.zeroCells z.cells (m + 1)).toList 0 w (by simpa [Builtin.zeroCells] using hc) (by simpa [Builtin.zeroCells] using hf) (by
    intro v hv'
    simp only [Builtin.zeroCells, Array.toList_map, List.mem_map, Array.toList_range, List.mem_range] at hv'
    obtain ⟨i, hi, rfl⟩ := hv'
    have hz : 0 < z.cells.size := Nat.pos_of_ne_zero (fun h => by rw [h] at hi; simp at hi)
    have hm := Nat.mod_lt i hz
    rw [getElem!_pos z.cells _ hm]
    exact h1 _ (Array.getElem_mem hm))
  simp only [Nat.add_zero] at hst
  exact ⟨(Builtin.zeroCells z.cells (m + 1)).toList, by simp [Builtin.clear_, run_underlying ht, hv, hst]⟩
theorem flat_set {α : Type} {k : Nat} {enc : α → List Value} (hl : ∀ x, (enc x).length = k) (x : α) : ∀ (xs : List α) (i : Nat), i < xs.length → (xs.set i x).flatMap enc = (xs.flatMap enc).take (i * k) ++ enc x ++ (xs.flatMap enc).drop ((i + 1) * k) := by
  intro xs
  induction xs with
  | nil => intro i h; simp at h
  | cons y ys ih =>
    intro i h
    cases i with
    | zero => simp [List.flatMap_cons, hl]
    | succ i =>
      have := ih i (by simpa using h)
      rw [List.set_cons_succ, List.flatMap_cons, this, List.flatMap_cons, Nat.succ_mul, Nat.succ_mul (i + 1), Nat.add_comm (i * k) k, List.take_append, List.drop_append, hl, show k + i * k - k = i * k from by omega, show (i + 1) * k + k - k = (i + 1) * k from by omega,
        List.take_of_length_le (l := enc y) (by rw [hl]; omega), List.drop_of_length_le (l := enc y) (by rw [hl, Nat.succ_mul]; omega)]
      simp only [List.append_assoc, List.nil_append]
      rw [show k + i * k = (i + 1) * k from by rw [Nat.succ_mul]; omega]
theorem flat_len {α : Type} {k : Nat} {enc : α → List Value} (hl : ∀ x, (enc x).length = k) (xs : List α) : (xs.flatMap enc).length = xs.length * k := by
  induction xs with
  | nil => simp
  | cons y ys ih => rw [List.flatMap_cons, List.length_append, hl, ih, List.length_cons, Nat.succ_mul]; omega
theorem flat_take {α : Type} {k : Nat} {enc : α → List Value} (hl : ∀ x, (enc x).length = k) (xs : List α) (i : Nat) (hi : i ≤ xs.length) : (xs.take i).flatMap enc = (xs.flatMap enc).take (i * k) := by
  have e : xs.flatMap enc = (xs.take i).flatMap enc ++ (xs.drop i).flatMap enc := by rw [← List.flatMap_append, List.take_append_drop]
  have hlen : ((xs.take i).flatMap enc).length = i * k := by rw [flat_len hl, List.length_take, Nat.min_eq_left hi]
  rw [e, ← hlen, List.take_left]
theorem clear_tail {P : Program} {α : Type} {k : Nat} {enc : α → List Value} (hl : ∀ x, (enc x).length = k) (t e ty : TypeId) (z : Value) (ht : P.underlying t = some (.slice e)) (hv : ∀ w, (zeroValue e).run P w = .ok z w) (h1 : ∀ v ∈ z.cells, v.oneCell' = true) (hz : z.cells.size = k)
    {w : World} {base g n cap : Nat} {ys : List α} {i : Nat} (h : B.Own w base e k enc (.slice (some ⟨g, 0, none⟩) n cap) ys) (hn : ys.length = n) (hi : i < n) :
    ∃ vs, (Builtin.clear_ #[t] ty #[.slice (some ⟨g, i * k, none⟩) (n - i) (cap - i)]).run P w = .ok (.tuple #[]) (w.setCells g (i * k) vs) ∧ B.Own (w.setCells g (i * k) vs) base e k enc (.slice (some ⟨g, 0, none⟩) i cap) (ys.take i) ∧ w.grownBy (w.setCells g (i * k) vs) (some g) := by
  subst hn
  subst hz
  have hm : ∀ j, j < (ys.length - i) * z.cells.size → i * z.cells.size + j < ys.length * z.cells.size := by
    intro j hj
    have e : ys.length = i + (ys.length - i) := by omega
    rw [e, Nat.add_mul]
    omega
  obtain ⟨vs, hc⟩ := run_clear (P := P) w t e ty z ht hv h1 g (i * z.cells.size) (ys.length - i) (cap - i) (by
      intro j hj
      rw [World.ownsRow.cellAt h _ (hm j hj), List.getElem?_eq_getElem (by rw [flat_len hl]; exact hm j hj)]
      rfl) (fun j _ => World.ownsRow.frozenAt h _) (by omega)
  obtain ⟨row', h2, ht2, hg⟩ := setCells_row vs (i * z.cells.size) w _ h
  refine ⟨vs, hc, ?_, hg⟩
  have h3 := prefix_row h2 (Nat.le_of_lt hi)
  rw [ht2, ← flat_take hl ys i (Nat.le_of_lt hi)] at h3
  unfold B.Own
  rw [List.length_take, Nat.min_eq_left (Nat.le_of_lt hi)]
  exact h3
end Go.Proofs.YtmcbljongeadeaaDoor.R
