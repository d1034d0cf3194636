/- Maps of strings that the call itself has made, as lists of pairs: look-up, store, len, delete. No program in sight. -/
import Derived.Test.YtfillnkebohciaaGreatDoorBase
import Derived.MapKept
import Derived.Maps.OwnSet
namespace Go.Proofs.YtfillnkebohciaaGreatDoor.M
open Go.RowKit Go.MapKept

abbrev Es := List (ByteArray × Value)
def look (es : Es) (k : ByteArray) : Option Value := (es.find? (fun p => decide (p.1 = k))).map (·.2)
def put (es : Es) (k : ByteArray) (v : Value) : Es := if es.any (fun p => decide (p.1 = k)) then es.map (fun p => if p.1 = k then (k, v) else p) else es ++ [(k, v)]
def del (es : Es) (k : ByteArray) : Es := es.filter (fun p => !decide (p.1 = k))
/-- Block b is a map with these entries. -/
def OM (w : World) (b : Nat) (es : Es) : Prop := ∃ arr clock, w.heap[b]? = some (.map arr clock) ∧ arr.toList.map (fun e => (e.key, e.val)) = es.map (fun p => (Value.string p.1, p.2)) ∧ Stamped arr clock

section
variable {P : Program} {w : World} {b : Nat} {es : Es}
theorem OM.lt (h : OM w b es) : b < w.heap.size := by
  obtain ⟨_, _, hb, _⟩ := h
  exact (Array.getElem?_eq_some_iff.1 hb).1
theorem OM.made (w : World) : OM (w.alloc (.map #[] 0)) w.heap.size [] := ⟨#[], 0, (MapKept.heap_alloc w _).1, rfl, stamped_empty 0⟩
theorem OM.below {w' : World} (h : OM w b es) (hb : Below w.heap.size w w') : OM w' b es := by
  have hlt := h.lt
  obtain ⟨arr, c, h1, h2, h3⟩ := h
  exact ⟨arr, c, (hb.block b hlt).trans h1, h2, h3⟩
theorem OM.drew (h : OM w b es) (n : Nat) : OM (w.drewN n) b es := h

theorem at_of {arr : List MapEntry} {es : Es} (h : arr.map (fun e => (e.key, e.val)) = es.map (fun p => (Value.string p.1, p.2))) (j : Nat) : (arr[j]?).map (fun e => (e.key, e.val)) = (es[j]?).map (fun p => (Value.string p.1, p.2)) := by
  rw [← List.getElem?_map, ← List.getElem?_map, h]
theorem mem_of {arr : List MapEntry} {es : Es} (h : arr.map (fun e => (e.key, e.val)) = es.map (fun p => (Value.string p.1, p.2))) {p : ByteArray × Value} (hp : p ∈ es) : ∃ e ∈ arr, e.key = .string p.1 ∧ e.val = p.2 := by
  have : (Value.string p.1, p.2) ∈ arr.map (fun e => (e.key, e.val)) := by rw [h]; exact List.mem_map.2 ⟨p, hp, rfl⟩
  obtain ⟨e, he, hq⟩ := List.mem_map.1 this
  simp only [Prod.mk.injEq] at hq
  exact ⟨e, he, hq.1, hq.2⟩
theorem mem_of' {arr : List MapEntry} {es : Es} (h : arr.map (fun e => (e.key, e.val)) = es.map (fun p => (Value.string p.1, p.2))) {e : MapEntry} (he : e ∈ arr) : ∃ p ∈ es, e.key = .string p.1 ∧ e.val = p.2 := by
  have : (e.key, e.val) ∈ es.map (fun p => (Value.string p.1, p.2)) := by rw [← h]; exact List.mem_map.2 ⟨e, he, rfl⟩
  obtain ⟨p, hp, hq⟩ := List.mem_map.1 this
  simp only [Prod.mk.injEq] at hq
  exact ⟨p, hp, hq.1.symm, hq.2.symm⟩
theorem keys_of {arr : List MapEntry} {es : Es} (h : arr.map (fun e => (e.key, e.val)) = es.map (fun p => (Value.string p.1, p.2))) : arr.map (·.key) = es.map (fun p => Value.string p.1) := by
  have := congrArg (List.map Prod.fst) h
  simpa [List.map_map, Function.comp_def] using this
/-- The keys differ. -/
theorem OM.nodup (h : OM w b es) : (es.map (·.1)).Nodup := by
  obtain ⟨arr, c, _, h2, _, _, h3⟩ := h
  rw [keys_of h2] at h3
  have : es.map (fun p => Value.string p.1) = (es.map (·.1)).map Value.string := by simp [List.map_map, Function.comp_def]
  rw [this] at h3
  exact h3.of_map _ (fun {a b} hne e => hne (by rw [e]))
theorem isKeys {arr : List MapEntry} {es : Es} (h : arr.map (fun e => (e.key, e.val)) = es.map (fun p => (Value.string p.1, p.2))) : ∀ x ∈ arr, IsKey .string x.key := by
  intro x hx
  obtain ⟨p, _, h1, _⟩ := mem_of' h hx
  rw [h1]
  trivial

theorem look_none {es : Es} {k : ByteArray} (h : ∀ p ∈ es, p.1 ≠ k) : look es k = none := by
  unfold look
  have : es.find? (fun p => decide (p.1 = k)) = none := List.find?_eq_none.2 (fun p hp => by simpa using h p hp)
  rw [this]
  rfl
theorem look_some {es : Es} {k : ByteArray} {j : Nat} {p : ByteArray × Value} (hn : (es.map (·.1)).Nodup) (hj : es[j]? = some p) (hp : p.1 = k) : look es k = some p.2 := by
  unfold look
  have hmem : p ∈ es := List.mem_of_getElem? hj
  cases hf : es.find? (fun p => decide (p.1 = k)) with
  | none => exact absurd hp (by simpa using List.find?_eq_none.1 hf p hmem)
  | some q =>
    have hq : q.1 = k := by simpa using List.find?_some hf
    have hqm := List.mem_of_find?_eq_some hf
    obtain ⟨i, hi, e1⟩ := List.getElem_of_mem hqm
    obtain ⟨i', hi', e2⟩ := List.getElem_of_mem hmem
    have hii : i = i' := (List.getElem_inj (xs := es.map (fun p : ByteArray × Value => p.1)) (h₀ := by simpa using hi) (h₁ := by simpa using hi') hn).1 (by simp [e1, e2, hq, hp])
    subst hii
    rw [← e1, ← e2]
    rfl
/-- What a search for a key finds. -/
theorem OM.find (h : OM w b es) (k : ByteArray) : ∃ arr clock, w.heap[b]? = some (.map arr clock) ∧ arr.toList.map (fun e => (e.key, e.val)) = es.map (fun p => (Value.string p.1, p.2)) ∧ Stamped arr clock ∧
    ((Instr.findNow .string (.string k) arr.toList 0 = some none ∧ (∀ x ∈ arr.toList, x.key ≠ .string k) ∧ (∀ p ∈ es, p.1 ≠ k) ∧ look es k = none) ∨
      ∃ j e v, Instr.findNow .string (.string k) arr.toList 0 = some (some (j, v)) ∧ arr[j]? = some e ∧ e.key = .string k ∧ e.val = v ∧ es[j]? = some (k, v) ∧ look es k = some v) := by
  have hn := h.nodup
  obtain ⟨arr, clock, h1, h2, h3⟩ := h
  refine ⟨arr, clock, h1, h2, h3, ?_⟩
  rcases findNow_spec (d := .string) (k := .string k) trivial arr.toList 0 (isKeys h2) with ⟨f1, f2⟩ | ⟨j, e, f1, f2, f3⟩
  · have hne : ∀ p ∈ es, p.1 ≠ k := fun p hp e => by
      obtain ⟨x, hx, hk, _⟩ := mem_of h2 hp
      exact f2 x hx (by rw [hk, e])
    exact .inl ⟨f1, f2, hne, look_none hne⟩
  · have := at_of h2 j
    rw [f2] at this
    cases hq : es[j]? with
    | none => rw [hq] at this; cases this
    | some p =>
      rw [hq] at this
      simp only [Option.map_some, Option.some.injEq, Prod.mk.injEq, f3, Value.string.injEq] at this
      obtain ⟨hk, hv⟩ := this
      exact .inr ⟨j, e, e.val, by simpa using f1, by simpa using f2, f3, rfl, by rw [hq, hk, hv], by rw [look_some hn hq hk.symm, hv]⟩
theorem OM.run_look {t kt et : TypeId} (h : OM w b es) (ht : P.underlying t = some (.map kt et)) (hk : P.underlying kt = some .string) {z : Value} (hz : (zeroValue et).run P w = .ok z w) (k : ByteArray) (ok : Bool) :
    (Instr.lookup t (.map (some b)) (.string k) ok).run P w = .ok (if ok then .tuple #[(look es k).getD z, .bool (look es k).isSome] else (look es k).getD z) w := by
  obtain ⟨arr, clock, h1, h2, h3, ⟨f1, f2, f3, f4⟩ | ⟨j, e, v, f1, f2, f3, f4, f5, f6⟩⟩ := h.find k
  · simp [Instr.lookup, run_underlying ht, MapKept.run_getObj_map h1, MapKept.run_checkKey hk (show IsKey .string (.string k) from trivial), MapKept.run_findKey hk f1, hz, Result.andThen, f4]
  · simp [Instr.lookup, run_underlying ht, MapKept.run_getObj_map h1, MapKept.run_checkKey hk (show IsKey .string (.string k) from trivial), MapKept.run_findKey hk f1, Result.andThen, f6]
theorem OM.run_put {t kt et : TypeId} (h : OM w b es) (ht : P.underlying t = some (.map kt et)) (hk : P.underlying kt = some .string) (k : ByteArray) (v : Value) :
    ∃ w', (Instr.mapUpdate t (.map (some b)) (.string k) v).run P w = .ok () w' ∧ OM w' b (put es k v) ∧ w.grownBy w' (some b) := by
  obtain ⟨arr, clock, h1, h2, h3, ⟨f1, f2, f3, f4⟩ | ⟨j, e, u, f1, f2, f3, f4, f5, f6⟩⟩ := h.find k
  · refine ⟨ChangeMaps.setBlock w b (.map (arr.push ⟨.string k, v, clock⟩) (clock + 1)), ?_, ⟨_, _, ChangeMaps.heap_setBlock_same h1 _, ?_, stamped_push h3 f2⟩, ⟨rfl, rfl, rfl, by simp [ChangeMaps.setBlock], fun i _ hi => ChangeMaps.heap_setBlock_other h1 _ (fun e => hi (by rw [e]))⟩⟩
    · simp [Instr.mapUpdate, run_underlying ht, MapKept.run_getObj_map h1, MapKept.run_checkKey hk (show IsKey .string (.string k) from trivial), MapKept.run_findKey hk f1, MapKept.run_setObj_map _ h1, Result.andThen, ChangeMaps.setBlock]
    · unfold put
      have hno : ¬ (es.any (fun p => decide (p.1 = k))) = true := by
        intro hh
        obtain ⟨p, hp, hq⟩ := List.any_eq_true.1 hh
        exact f3 p hp (by simpa using hq)
      rw [if_neg hno]
      simp [h2]
  · have hkey : ∀ e', arr[j]? = some e' → ({ e' with key := .string k, val := v } : MapEntry).key = e'.key := fun e' he' => by rw [f2] at he'; cases he'; exact f3.symm
    refine ⟨ChangeMaps.setBlock w b (.map (arr.modify j fun e => { e with key := .string k, val := v }) clock), ?_, ⟨_, _, ChangeMaps.heap_setBlock_same h1 _, ?_, stamped_modify h3 _ _ (fun _ _ => rfl) (fun e' _ he' => hkey e' he')⟩, ⟨rfl, rfl, rfl, by simp [ChangeMaps.setBlock], fun i _ hi => ChangeMaps.heap_setBlock_other h1 _ (fun e => hi (by rw [e]))⟩⟩
    · simp [Instr.mapUpdate, run_underlying ht, MapKept.run_getObj_map h1, MapKept.run_checkKey hk (show IsKey .string (.string k) from trivial), MapKept.run_findKey hk f1, f2, f3, run_keyThatStays (d := .string) (show IsKey .string (.string k) from trivial), MapKept.run_setObj_map _ h1, Result.andThen, ChangeMaps.setBlock]
    · have hn := OM.nodup ⟨arr, clock, h1, h2, h3⟩
      unfold put
      rw [if_pos (List.any_eq_true.2 ⟨_, List.mem_of_getElem? f5, by simp⟩)]
      apply List.ext_getElem?
      intro i
      rw [List.getElem?_map, List.getElem?_map, List.getElem?_map, Array.toList_modify, List.getElem?_modify]
      have hi := at_of h2 i
      by_cases hij : i = j
      · subst hij
        rw [f5]
        have f2' : arr.toList[i]? = some e := by simpa using f2
        rw [f2']
        simp
      · have hji : ¬ j = i := fun e => hij e.symm
        cases hq : es[i]? with
        | none =>
          rw [hq] at hi
          cases hr : arr.toList[i]? with
          | none => simp
          | some _ => rw [hr] at hi; cases hi
        | some p =>
          rw [hq] at hi
          cases hr : arr.toList[i]? with
          | none => rw [hr] at hi; cases hi
          | some x =>
            rw [hr] at hi
            have hpk : ¬ p.1 = k := fun e1 => hij (by
              obtain ⟨hi1, e2⟩ := List.getElem?_eq_some_iff.1 hq
              obtain ⟨hj1, e3⟩ := List.getElem?_eq_some_iff.1 f5
              exact (List.getElem_inj (xs := es.map (fun p : ByteArray × Value => p.1)) (h₀ := by simpa using hi1) (h₁ := by simpa using hj1) hn).1 (by simp [e2, e3, e1]))
            simpa [hji, hpk] using hi
theorem OM.run_len {t kt et : TypeId} (h : OM w b es) (ht : P.underlying t = some (.map kt et)) (ty : TypeId) : (Builtin.len_ #[t] ty #[.map (some b)]).run P w = .ok (.int .i64 es.length) w := by
  obtain ⟨arr, clock, h1, h2, h3⟩ := h
  have : arr.size = es.length := by have := congrArg List.length h2; simpa using this
  simp [Builtin.len_, run_underlying ht, MapKept.run_getObj_map h1, goInt, Result.andThen, this]

/-! ### at the operation -/
variable {ops : Array Oper} {rest : List Oper} {o : Oper} {a : Act} {Q : Exit → Act → World → Prop}
theorem wpl_look (hg : o.guard = none) (m x : Operand) (t : TypeId) (hop : o.op = Op.lookup t m x false) (kt et : TypeId) (ht : P.underlying t = some (.map kt et)) (hk : P.underlying kt = some .string) (z : Value) (hz : (zeroValue et).run P w = .ok z w) (b : Nat) (es : Es)
    (h : OM w b es) (hm : a.eval m = .map (some b)) (k : ByteArray) (hx : a.eval x = .string k) (hK : wpList P ops Q rest (a.put o.dst ((look es k).getD z)) w) : wpList P ops Q (o :: rest) a w := by
  refine wpList_plain hg fun K' hK' => ?_
  unfold Oper.wp
  simp [execOp, hop, hm, hx, h.run_look ht hk hz k false, Result.andThen]
  exact hK' _ _ hK
theorem wpl_look_ok (hg : o.guard = none) (m x : Operand) (t : TypeId) (hop : o.op = Op.lookup t m x true) (kt et : TypeId) (ht : P.underlying t = some (.map kt et)) (hk : P.underlying kt = some .string) (z : Value) (hz : (zeroValue et).run P w = .ok z w) (b : Nat) (es : Es)
    (h : OM w b es) (hm : a.eval m = .map (some b)) (k : ByteArray) (hx : a.eval x = .string k) (hK : wpList P ops Q rest (a.put o.dst (.tuple #[(look es k).getD z, .bool (look es k).isSome])) w) : wpList P ops Q (o :: rest) a w := by
  refine wpList_plain hg fun K' hK' => ?_
  unfold Oper.wp
  simp [execOp, hop, hm, hx, h.run_look ht hk hz k true, Result.andThen]
  exact hK' _ _ hK
theorem wpl_put (hg : o.guard = none) (m x y : Operand) (t : TypeId) (hop : o.op = Op.mapUpdate t m x y) (kt et : TypeId) (ht : P.underlying t = some (.map kt et)) (hk : P.underlying kt = some .string) (b : Nat) (es : Es)
    (h : OM w b es) (hm : a.eval m = .map (some b)) (k : ByteArray) (hx : a.eval x = .string k) (v : Value) (hy : a.eval y = v) (w0 : World) (base : Nat) (HB : Below base w0 w) (hb : base ≤ b)
    (hK : ∀ w', OM w' b (put es k v) → Below base w0 w' → w.grownBy w' (some b) → wpList P ops Q rest (a.put o.dst undef) w') : wpList P ops Q (o :: rest) a w := by
  refine wpList_plain hg fun K' hK' => ?_
  obtain ⟨w', hr, hO, hgr⟩ := h.run_put ht hk k v
  unfold Oper.wp
  simp [execOp, hop, hm, hx, hy, hr, Result.andThen]
  have hlt := h.lt
  exact hK' _ _ (hK w' hO ⟨hgr.os.trans HB.os, hgr.tape.trans HB.tape, hgr.output.trans HB.output, Nat.le_trans HB.size hgr.size, fun i hi => (hgr.block i (by omega) (by simp; omega)).trans (HB.block i hi)⟩ hgr)
end
end Go.Proofs.YtfillnkebohciaaGreatDoor.M
