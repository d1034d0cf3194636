/- Ranging over an own map of strings: what is still to come. -/
import Derived.Test.YtfillnkebohciaaGreatDoorMaps
import Derived.Test.YtfillnkebohciaaGreatDoorFrame
import Derived.Sort.KeysCollected
import Derived.Maps.RangeWalk
namespace Go.Proofs.YtfillnkebohciaaGreatDoor.Rg
open Go.RowKit Go.Maps Go.Sort Go.WideElems

def lit (k : ByteArray) : Lit := .string k.data.toList
theorem lit_inj {a b : ByteArray} (h : lit a = lit b) : a = b := by
  unfold lit at h
  simp only [Lit.string.injEq] at h
  exact ByteArray.ext (Array.toList_inj.1 h)
theorem same_lit (a b : ByteArray) : (lit a).sameKey (lit b) = decide (a = b) := by
  cases h : decide (a = b) with
  | true => rw [of_decide_eq_true h]; exact WideAt.sameKey_self trivial
  | false =>
    cases h2 : (lit a).sameKey (lit b) with
    | false => rfl
    | true => exact absurd (lit_inj (WideAt.sameKey_eq h2)) (of_decide_eq_false h)
def RR : Value → Option (DataW Unit × List MemPlace) := fun _ => some (.lit (.bool true), [])
theorem owns {P : Program} {k : TypeId} (hk : P.underlying k = some .string) {w : World} {b : Nat} {es : M.Es} (h : M.OM w b es) (hs : ∀ p ∈ es, p.1.size ≤ maxLen) (hl : es.length ≤ 100000) :
    ∃ D : DataW Unit, w.ownsMap P k RR b es.length D ∧ Maps.size D = es.length ∧ (∀ kl, Maps.has D kl = true → ∃ p ∈ es, kl = lit p.1) ∧ ∀ p ∈ es, Maps.has D (lit p.1) = true := by
  obtain ⟨arr, clock, h1, h2, h3⟩ := h
  have hsz : arr.size = es.length := by have := congrArg List.length h2; simpa using this
  have hrd : ∀ x ∈ arr.toList, ∃ s : ByteArray, x.key = .string s ∧ (∃ p ∈ es, s = p.1) ∧ WideElems.rd P k RR x = some (.string s.data.toList, .lit (.bool true)) := fun x hx => by
    obtain ⟨p, hp, e1, e2⟩ := M.mem_of' h2 hx
    refine ⟨p.1, e1, ⟨p, hp, rfl⟩, ?_⟩
    have hb := hs p hp
    simp [WideElems.rd, RR, e1, keyOf, hk, mapKey, hb]
  refine ⟨_, ⟨arr, clock, h1, ⟨by rw [hsz]; simp only [maxLen]; omega, h3, fun x hx => ⟨_, (hrd x hx).choose_spec.2.2⟩⟩, by omega, rfl⟩, ?_, ?_, ?_⟩
  · rw [size_eq, (WideShapes.sorted_perm _).length_eq, List.length_map, Array.length_toList, hsz]
  · intro kl hkl
    obtain ⟨p, hp, hpk⟩ := List.any_eq_true.1 hkl
    obtain ⟨x, hx, rfl⟩ := List.mem_map.1 (mem_sorted.1 hp)
    obtain ⟨s, e1, ⟨q, hq, e2⟩, e3⟩ := hrd x hx
    rw [WideElems.rg_of e3] at hpk
    exact ⟨q, hq, by rw [← e2]; exact (WideAt.sameKey_eq hpk).symm⟩
  · intro p hp
    obtain ⟨x, hx, e1, -⟩ := M.mem_of h2 hp
    obtain ⟨s, f1, -, f3⟩ := hrd x (by simpa using hx)
    rw [f1] at e1
    cases e1
    exact List.any_eq_true.2 ⟨_, mem_sorted.2 (List.mem_map.2 ⟨x, by simpa using hx, rfl⟩), by rw [WideElems.rg_of f3]; exact WideAt.sameKey_self trivial⟩
/-- 'for k := range m' under way at map mb with the keys ks: lf says whether a key is still to come. -/
def Rg (P : Program) (k : TypeId) (w : World) (mb r : Nat) (ks : List ByteArray) (lf : ByteArray → Bool) (cnt : Nat) : Prop :=
  ∃ (n : Nat) (D : DataW Unit) (left : Lit → Bool), w.ranges P k RR mb r n D left cnt ∧ (∀ kl, left kl = true → ∃ q ∈ ks, kl = lit q) ∧ ∀ q, left (lit q) = lf q
section
variable {P : Program} {k : TypeId} {w w' : World} {mb r : Nat} {ks : List ByteArray} {lf : ByteArray → Bool} {cnt : Nat}
theorem Rg.left_eq (h : Rg P k w mb r ks lf cnt) : w.rangeLeft mb r = cnt := by
  obtain ⟨n, D, left, h1, -⟩ := h
  exact h1.left_eq
theorem Rg.kept {row : Option Nat} (h : Rg P k w mb r ks lf cnt) (hg : w.grownBy w' row) (hb : some mb ≠ row) (hr : some r ≠ row) : Rg P k w' mb r ks lf cnt := by
  obtain ⟨n, D, left, h1, h2⟩ := h
  exact ⟨n, D, left, h1.kept hg hb hr, h2⟩
theorem Rg.lt (h : Rg P k w mb r ks lf cnt) : r < w.heap.size := by
  obtain ⟨n, D, left, h1, -⟩ := h
  exact h1.lt
theorem below_grown {base : Nat} {w0 w w' : World} (hl : base ≤ w0.heap.size) (h : Below base w0 w) {b : Nat} (hg : w.grownBy w' (some b)) (hb : base ≤ b) : Below base w0 w' :=
  (F.Fr.grown (S := fun k => base ≤ k) (a := w0) ⟨h.os, h.tape, h.output, h.size, fun k _ hs => h.block k (Nat.lt_of_not_le hs)⟩ hg (fun g e _ => by cases e; exact hb)).below hl (fun _ h => h)
variable {ops : Array Oper} {rest : List Oper} {o : Oper} {a : Act} {Q : Exit → Act → World → Prop}
/-- 'range m'. -/
theorem wpl_range (hg : o.guard = none) (m : Operand) (t : TypeId) (hop : o.op = Op.range t m) (e : TypeId) (hk : P.underlying k = some .string) (ht : P.underlying t = some (.map k e)) (es : M.Es) (hm : a.eval m = .map (some mb)) (h : M.OM w mb es) (hs : ∀ p ∈ es, p.1.size ≤ maxLen) (hl : es.length ≤ 100000)
    (hK : ∀ w' lf, (∀ p ∈ es, lf p.1 = true) → Rg P k w' mb w.heap.size (es.map (·.1)) lf es.length → w.grownBy w' none → w'.heap.size = w.heap.size + 1 → wpList P ops Q rest (a.put o.dst (.pointer (some ⟨w.heap.size, 0, none⟩))) w') :
    wpList P ops Q (o :: rest) a w := by
  obtain ⟨D, h1, h2, h3, h4⟩ := owns hk h hs hl
  refine wpList_range_own w hg m t hop k e (string_keyed hk) ht RR mb es.length D hm h1 ?_
  intro w' r1 r2 r3
  rw [h2] at r1
  exact hK w' (fun q => Maps.has D (lit q)) (fun p hp => h4 p hp) ⟨_, D, _, r1, fun kl hkl => by obtain ⟨p, hp, e⟩ := h3 kl hkl; exact ⟨p.1, List.mem_map.2 ⟨p, hp, rfl⟩, e⟩, fun q => rfl⟩ r2 r3
/-- The step. -/
theorem wpl_next (hg : o.guard = none) (it : Operand) (hop : o.op = Op.next it false) (hk : P.underlying k = some .string) (hit : a.eval it = .pointer (some ⟨r, 0, none⟩)) (h : Rg P k w mb r ks lf cnt)
    (hDone : (∀ q, lf q = false) → wpList P ops Q rest (a.put o.dst (.tuple #[.bool false])) w)
    (hMore : ∀ (x : ByteArray) (c : Value) (w' : World) (cnt' : Nat), x ∈ ks → lf x = true → Rg P k w' mb r ks (fun q => lf q && !decide (q = x)) cnt' → cnt' < cnt →
      w.grownBy w' (some r) → w'.heap.size = w.heap.size → (Instr.entry (.pointer (some ⟨r, 0, none⟩))).run P w' = .ok (.tuple #[.string x, c]) w' → wpList P ops Q rest (a.put o.dst (.tuple #[.bool true, .string x, c])) w') :
    wpList P ops Q (o :: rest) a w := by
  obtain ⟨n, D, left, h1, h2, h3⟩ := h
  refine wpList_next_ranges w hg it hop k (string_keyed hk) RR (Value.string) (fun c => c) (fun key kl hkey => ?_) (fun v y _ => ⟨v, rfl⟩) mb r n D left cnt hit h1 (fun _ hl => hDone (fun q => by rw [← h3]; exact hl _)) (fun x c kl y w' cnt' hkey hlk _ _ hrg hlt hgr hsz hen => ?_)
  · cases key <;> simp [keyOf, hk, mapKey] at hkey
    exact ⟨_, rfl⟩
  · have hkl : kl = lit x := by
      simp [keyOf, hk, mapKey] at hkey
      exact hkey.2.symm
    subst hkl
    obtain ⟨q, hq, e⟩ := h2 _ hlk
    have e2 := lit_inj e
    subst e2
    exact hMore _ c w' cnt' hq (by rw [← h3]; exact hlk) ⟨n, D, _, hrg, fun kl hkl => h2 kl (by simp only [Bool.and_eq_true] at hkl; exact hkl.1), fun z => by show (left (lit z) && !(lit z).sameKey (lit x)) = _; rw [h3, same_lit]⟩ hlt hgr hsz hen
end
end Go.Proofs.YtfillnkebohciaaGreatDoor.Rg
