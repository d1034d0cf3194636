/- Rows of the call's own: what else is kept, appends with what grew. No program in sight. -/
import Derived.Test.YtfillnkebohciaaGreatDoorBase
import Derived.Deep.AppendLies
namespace Go.Proofs.YtfillnkebohciaaGreatDoor.Copy
open Go.RowKit

theorem shape {α : Type} {w : World} {base : Nat} {e : TypeId} {k : Nat} {enc : α → List Value} {v : Value} {xs : List α} (h : B.Own w base e k enc v xs) : ∃ A c, v = .slice A xs.length c := by
  rcases h.2 with ⟨rfl, h0⟩ | ⟨g, cap, cur, e, _⟩
  · exact ⟨none, 0, by rw [h0]⟩
  · exact ⟨_, cap, e⟩
theorem wpl_append_g {α : Type} {P : Program} {ops : Array Oper} {rest : List Oper} {o : Oper} {a : Act} {Q : Exit → Act → World → Prop} {W w0 : World} (base : Nat) (hgd : o.guard = none) (s x : Operand) (t e : TypeId) (z : Value) (k bytes : Nat)
    (ho : o.op = .call { callee := .builtin .append, args := #[s, x], argTypes := #[t, t] }) (ht : P.underlying t = some (.slice e)) (hinfo : (P.info? e).map (fun i => (i.zero, i.size, i.bytes)) = some (some z, k, bytes)) (hz : z.cells.size = k) (hk : 0 < k) (hby : 0 < bytes)
    (enc : α → List Value) (hlen : ∀ x, (enc x).length = k) (h1 : ∀ x, ∀ v ∈ enc x, v.oneCell' = true) (v : Value) (xs : List α) (y : α) (cs : Array Value) (hcs : cs.toList = enc y) 
    (HO : B.Own W base e k enc v xs) (hs : a.eval s = v) (nW : Nat) (hW : nW = W.heap.size) (hx : a.eval x = .slice (some ⟨nW, 0, none⟩) 1 1) (HB : Below base w0 W) (hbase : base ≤ W.heap.size) (hroom : (xs.length + 1) * bytes ≤ 140737488355328)
    (h : ∀ v1 w1, B.Own w1 base e k enc v1 (xs ++ [y]) → Below base w0 w1 → (W.alloc (.cells cs e)).grownBy w1 v.ownBlock → wpList P ops Q rest (a.put o.dst v1) w1) :
    wpList P ops Q (o :: rest) a (W.alloc (.cells cs e)) := by
  subst hW
  have HO0 : W.ownsRow base e k v xs.length (xs.flatMap enc) := HO
  obtain ⟨i0, hi, hzz⟩ := Option.map_eq_some_iff.1 hinfo
  simp only [Prod.mk.injEq] at hzz
  obtain ⟨hz0, hz1, hz2⟩ := hzz
  have hn : xs.length + 1 ≤ 140737488355328 := Nat.le_trans (Nat.le_mul_of_pos_right _ hby) hroom
  refine wpList_append_own (W.alloc (.cells cs e)) hgd s x t ho base e i0 z k bytes ht hi hz0 hz1 hz2 hz hk v xs.length _ hs (HO0.alloc _) ⟨W.heap.size, 0, none⟩ 1 1 (enc y) hx (by rw [hlen, Nat.one_mul]) ?_ (h1 y) (by simp only [maxLen]; omega) hroom (by simp; omega) ?_
  · intro j u hj
    rw [Lib.add_plain, Nat.zero_add, World.cell?_alloc_new, ← Array.getElem?_toList, hcs]
    exact hj
  · intro v1 w1 hown hg _
    exact h v1 w1 (by unfold B.Own; rw [List.length_append, List.length_singleton, List.flatMap_append, List.flatMap_singleton]; exact hown) ((HB.alloc hbase _).grown hg (by simp; omega) (fun k hk => (HO0.lt k hk).1)) hg
theorem sep {α β : Type} {w : World} {base base' : Nat} {e e' : TypeId} {k k' : Nat} {enc : α → List Value} {enc' : β → List Value} {v v' : Value} {xs : List α} {ys : List β} (h : B.Own w base e k enc v xs) (h' : B.Own w base' e' k' enc' v' ys) (hne : e ≠ e') : v'.ownBlock = none ∨ v'.ownBlock ≠ v.ownBlock := by
  rcases h'.2 with ⟨rfl, _⟩ | ⟨g, cap, cur, rfl, _, hg, _⟩
  · exact Or.inl rfl
  · refine Or.inr fun e1 => ?_
    rcases h.2 with ⟨rfl, _⟩ | ⟨g', cap', cur', rfl, _, hg', _⟩
    · cases e1
    · obtain rfl : g = g' := by simpa [Value.ownBlock] using e1
      rw [hg] at hg'
      simp only [Option.some.injEq, Obj.cells.injEq] at hg'
      exact hne hg'.2.1.symm
theorem own_grown {α : Type} {w w' : World} {base : Nat} {e : TypeId} {k : Nat} {enc : α → List Value} {v : Value} {xs : List α} {row : Option Nat} (h : B.Own w base e k enc v xs) (hg : w.grownBy w' row) (hne : v.ownBlock = none ∨ v.ownBlock ≠ row) : B.Own w' base e k enc v xs := World.ownsRow.kept h hg hne
theorem own_alloc {α : Type} {w : World} {base : Nat} {e : TypeId} {k : Nat} {enc : α → List Value} {v : Value} {xs : List α} (h : B.Own w base e k enc v xs) (o : Obj) : B.Own (w.alloc o) base e k enc v xs := World.ownsRow.alloc h o
theorem own_same {α : Type} {w w' : World} {base : Nat} {e : TypeId} {k : Nat} {enc : α → List Value} {v : Value} {xs : List α} (h : B.Own w base e k enc v xs) (hs : ∀ i, base ≤ i → w'.heap[i]? = w.heap[i]?) : B.Own w' base e k enc v xs := by
  refine ⟨h.1, ?_⟩
  rcases h.2 with hn | ⟨g, cap, cur, rfl, h1, h2, rest⟩
  · exact Or.inl hn
  · exact Or.inr ⟨g, cap, cur, rfl, h1, (hs g h1).trans h2, rest⟩
theorem own_mono {α : Type} {w : World} {base base' : Nat} {e : TypeId} {k : Nat} {enc : α → List Value} {v : Value} {xs : List α} (h : B.Own w base e k enc v xs) (hb : base' ≤ base) : B.Own w base' e k enc v xs := by
  refine ⟨h.1, ?_⟩
  rcases h.2 with hn | ⟨g, cap, cur, rfl, h1, rest⟩
  · exact Or.inl hn
  · exact Or.inr ⟨g, cap, cur, rfl, Nat.le_trans hb h1, rest⟩
theorem lit_own (w : World) (base : Nat) (hb : base ≤ w.heap.size) (e : TypeId) (k : Nat) {α : Type} (enc : α → List Value) : B.Own (w.alloc (.cells #[] e)) base e k enc (.slice (some ⟨w.heap.size, 0, none⟩) 0 0) [] :=
  World.ownsRow_lit w #[] 0 hb (Nat.zero_le _) (by simp)
/-- As wpl_append_g; and the row afterwards is the old one, or a new block. -/
theorem wpl_append_s {α : Type} {P : Program} {ops : Array Oper} {rest : List Oper} {o : Oper} {a : Act} {Q : Exit → Act → World → Prop} {W : World} (base : Nat) (hgd : o.guard = none) (s x : Operand) (t e : TypeId) (z : Value) (k bytes : Nat)
    (ho : o.op = .call { callee := .builtin .append, args := #[s, x], argTypes := #[t, t] }) (ht : P.underlying t = some (.slice e)) (hinfo : (P.info? e).map (fun i => (i.zero, i.size, i.bytes)) = some (some z, k, bytes)) (hz : z.cells.size = k) (hk : 0 < k) (hby : 0 < bytes)
    (enc : α → List Value) (hlen : ∀ x, (enc x).length = k) (h1 : ∀ x, ∀ v ∈ enc x, v.oneCell' = true) (v : Value) (xs : List α) (y : α) (cs : Array Value) (hcs : cs.toList = enc y)
    (HO : B.Own W base e k enc v xs) (hs : a.eval s = v) (nW : Nat) (hW : nW = W.heap.size) (hx : a.eval x = .slice (some ⟨nW, 0, none⟩) 1 1) (hbase : base ≤ W.heap.size) (hroom : (xs.length + 1) * bytes ≤ 140737488355328)
    (h : ∀ v1 w1, B.Own w1 base e k enc v1 (xs ++ [y]) → (v1.ownBlock = v.ownBlock ∨ ∀ g, v1.ownBlock = some g → W.heap.size ≤ g) → (W.alloc (.cells cs e)).grownBy w1 v.ownBlock → wpList P ops Q rest (a.put o.dst v1) w1) :
    wpList P ops Q (o :: rest) a (W.alloc (.cells cs e)) := by
  subst hW
  obtain ⟨i0, hi, hzz⟩ := Option.map_eq_some_iff.1 hinfo
  simp only [Prod.mk.injEq] at hzz
  obtain ⟨hz0, hz1, hz2⟩ := hzz
  have hn : xs.length + 1 ≤ 140737488355328 := Nat.le_trans (Nat.le_mul_of_pos_right _ hby) hroom
  have hml : xs.length + 1 ≤ maxLen := by simp only [maxLen]; omega
  have HO1 : (W.alloc (.cells cs e)).ownsRow base e k v xs.length (xs.flatMap enc) := World.ownsRow.alloc HO _
  have hc : ∀ j u, (enc y)[j]? = some u → (W.alloc (.cells cs e)).cell? ((⟨W.heap.size, 0, none⟩ : Addr).add j) = some u := fun j u hj => by
    rw [Lib.add_plain, Nat.zero_add, World.cell?_alloc_new, ← Array.getElem?_toList, hcs]
    exact hj
  have hfm : xs.flatMap enc ++ enc y = (xs ++ [y]).flatMap enc := by rw [List.flatMap_append, List.flatMap_singleton]
  have hll : (xs ++ [y]).length = xs.length + 1 := by rw [List.length_append, List.length_singleton]
  have own' : ∀ {b : Nat} {v1 : Value} {w1 : World}, base ≤ b → w1.ownsRow b e k v1 (xs.length + 1) (xs.flatMap enc ++ enc y) → B.Own w1 base e k enc v1 (xs ++ [y]) := fun {b v1 w1} hb hr => by
    refine own_mono (base := b) ?_ hb
    unfold B.Own
    rw [hll, ← hfm]
    exact hr
  have grows : ∀ (ao : Option Addr) (cap : Nat), v = .slice ao xs.length cap → (ao = none → xs.length = 0 ∧ cap = 0) → (∀ b, ao = some b → ∀ j u, (xs.flatMap enc)[j]? = some u → (W.alloc (.cells cs e)).cell? (b.add j) = some u) → cap < xs.length + 1 → wpList P ops Q (o :: rest) a (W.alloc (.cells cs e)) := fun ao cap hv hno hold hfull => by
    refine wpList_append_grows (W.alloc (.cells cs e)) hgd s x t ho e i0 z k bytes ht hi hz0 hz1 hz2 hz hk ao xs.length cap (xs.flatMap enc) (hs.trans hv) hno HO1.1 hold ⟨W.heap.size, 0, none⟩ 1 1 (enc y) hx (by rw [hlen, Nat.one_mul]) hc (h1 y) hfull hml hroom fun v1 w1 hr hg => ?_
    refine h v1 w1 (own' (by simp; omega) hr) (.inr fun g hg1 => ?_) ⟨hg.os, hg.tape, hg.output, hg.size, fun k hk _ => hg.block k hk (by simp)⟩
    have := (World.ownsRow.lt hr g hg1).1
    simp at this
    omega
  rcases HO1.2 with ⟨hv, h0⟩ | ⟨g, cap, cur, hv, hb, hg, hcap, -⟩
  · exact grows none 0 (by rw [hv, h0]) (fun _ => ⟨h0, rfl⟩) (fun b hb => by cases hb) (by omega)
  · by_cases hfit : xs.length + 1 ≤ cap
    · refine wpList_append_fits (W.alloc (.cells cs e)) hgd s x t ho base e i0 k ht hi hz1 g xs.length cap (xs.flatMap enc) (hs.trans hv) (hv ▸ HO1) ⟨W.heap.size, 0, none⟩ 1 1 (enc y) hx (by rw [hlen, Nat.one_mul]) hc (h1 y) hfit fun w1 hr hg => ?_
      exact h _ w1 (own' (Nat.le_refl _) hr) (.inl (by rw [hv]; rfl)) (by rw [hv]; exact hg)
    · exact grows (some ⟨g, 0, none⟩) cap hv (fun h => by cases h) (fun b hb' j u hj => by cases hb'; exact HO1.cells (g := g) (by rw [hv]; rfl) j u hj) (by omega)
theorem frozen_new {w w2 : World} {c : Array Value} {o : TypeId} (hb : Below (w.alloc (.cells c o)).heap.size (w.alloc (.cells c o)) w2) (i : Nat) : w2.frozen? ⟨w.heap.size, i, none⟩ = false :=
  (World.frozen?_of_block (a := ⟨w.heap.size, i, none⟩) (hb.block w.heap.size (by simp))).trans (by simp only [World.frozen?, heap_alloc_new]; simp)
theorem two {w w2 : World} {a b : Array Value} {s t : TypeId} (hb : Below ((w.alloc (.cells a s)).alloc (.cells b t)).heap.size ((w.alloc (.cells a s)).alloc (.cells b t)) w2) :
    (∀ i u, a[i]? = some u → w2.cell? ⟨w.heap.size, i, none⟩ = some u) ∧ (∀ i u, b[i]? = some u → w2.cell? ⟨w.heap.size + 1, i, none⟩ = some u) ∧ (∀ i, w2.frozen? ⟨w.heap.size, i, none⟩ = false) ∧ (∀ i, w2.frozen? ⟨w.heap.size + 1, i, none⟩ = false) := by
  have e : (w.alloc (.cells a s)).heap.size = w.heap.size + 1 := by simp
  have h1 : ∀ i, (w2.frozen? ⟨(w.alloc (.cells a s)).heap.size, i, none⟩) = false := frozen_new hb
  rw [e] at h1
  refine ⟨fun i u h => B.cell_below hb (B.cell_below ((Below.refl _ (w.alloc (.cells a s))).alloc (Nat.le_refl _) _) (by rw [World.cell?_alloc_new]; exact h)), fun i u h => B.cell_below hb ?_, fun i => ?_, h1⟩
  · rw [← e, World.cell?_alloc_new]; exact h
  · refine frozen_new (w := w) (c := a) (o := s) (w2 := w2) ?_ i
    exact ((Below.refl _ (w.alloc (.cells a s))).alloc (Nat.le_refl _) _).trans (hb.mono (by simp))
/-- The same at a step of a region that draws its order. -/
theorem step_append_s {α : Type} {P : Program} {ops : Array Oper} {o : Oper} {a : Act} {K : Act → World → Prop} {Q : Exit → Act → World → Prop} {E : Prop} {W : World} (base : Nat) (hgd : o.guard = none) (s x : Operand) (t e : TypeId) (z : Value) (k bytes : Nat)
    (ho : o.op = .call { callee := .builtin .append, args := #[s, x], argTypes := #[t, t] }) (ht : P.underlying t = some (.slice e)) (hinfo : (P.info? e).map (fun i => (i.zero, i.size, i.bytes)) = some (some z, k, bytes)) (hz : z.cells.size = k) (hk : 0 < k) (hby : 0 < bytes)
    (enc : α → List Value) (hlen : ∀ x, (enc x).length = k) (h1 : ∀ x, ∀ v ∈ enc x, v.oneCell' = true) (v : Value) (xs : List α) (y : α) (cs : Array Value) (hcs : cs.toList = enc y)
    (HO : B.Own W base e k enc v xs) (hs : a.eval s = v) (nW : Nat) (hW : nW = W.heap.size) (hx : a.eval x = .slice (some ⟨nW, 0, none⟩) 1 1) (hbase : base ≤ W.heap.size) (hroom : (xs.length + 1) * bytes ≤ 140737488355328)
    (h : ∀ v1 w1, B.Own w1 base e k enc v1 (xs ++ [y]) → (v1.ownBlock = v.ownBlock ∨ ∀ g, v1.ownBlock = some g → W.heap.size ≤ g) → (W.alloc (.cells cs e)).grownBy w1 v.ownBlock → K (a.put o.dst v1) w1) :
    if Region.wanted o (yielded ops a.tmps) = true then Oper.wp P o a (W.alloc (.cells cs e)) K Q else E := by
  subst hW
  have HO0 : W.ownsRow base e k v xs.length (xs.flatMap enc) := HO
  obtain ⟨i0, hi, hzz⟩ := Option.map_eq_some_iff.1 hinfo
  simp only [Prod.mk.injEq] at hzz
  obtain ⟨hz0, hz1, hz2⟩ := hzz
  have hn : xs.length + 1 ≤ 140737488355328 := Nat.le_trans (Nat.le_mul_of_pos_right _ hby) hroom
  refine step_append_lies (W.alloc (.cells cs e)) hgd s x t ho base e i0 z k bytes ht hi hz0 hz1 hz2 hz hk v xs.length _ hs (HO0.alloc _) ⟨W.heap.size, 0, none⟩ 1 1 (enc y) hx (by rw [hlen, Nat.one_mul]) ?_ (h1 y) (by omega) (by simp only [maxLen]; omega) hroom (by simp; omega) _ rfl ?_
  · intro j u hj
    rw [Lib.add_plain, Nat.zero_add, World.cell?_alloc_new, ← Array.getElem?_toList, hcs]
    exact hj
  · intro g cap w1 hown hg hat _
    refine h _ w1 (by unfold B.Own; rw [List.length_append, List.length_singleton, List.flatMap_append, List.flatMap_singleton]; exact hown) ?_ hg
    rcases hat with hat | hat
    · exact .inl (by rw [hat]; rfl)
    · refine .inr fun g' e => ?_
      have : g = g' := by simpa [Value.ownBlock] using e
      subst this
      rw [hat]; simp
end Go.Proofs.YtfillnkebohciaaGreatDoor.Copy
