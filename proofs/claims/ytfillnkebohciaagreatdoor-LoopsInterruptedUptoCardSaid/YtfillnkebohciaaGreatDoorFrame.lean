/- What changed in a world: all blocks that were there are as they were, but those of a set. -/
import Derived.Test.YtfillnkebohciaaGreatDoorBase
namespace Go.Proofs.YtfillnkebohciaaGreatDoor.F
open Go.RowKit

structure Fr (S : Nat → Prop) (w w' : World) : Prop where
  os : w'.os = w.os
  tape : w'.tape = w.tape
  output : w'.output = w.output
  size : w.heap.size ≤ w'.heap.size
  block : ∀ k, k < w.heap.size → ¬ S k → w'.heap[k]? = w.heap[k]?
theorem Fr.refl (S : Nat → Prop) (w : World) : Fr S w w := ⟨rfl, rfl, rfl, Nat.le_refl _, fun _ _ _ => rfl⟩
theorem Fr.trans {S T : Nat → Prop} {a b c : World} (h : Fr S a b) (k : Fr T b c) (hT : ∀ i, i < a.heap.size → T i → S i) : Fr S a c :=
  ⟨k.os.trans h.os, k.tape.trans h.tape, k.output.trans h.output, Nat.le_trans h.size k.size, fun i hi hs => (k.block i (Nat.lt_of_lt_of_le hi h.size) (fun ht => hs (hT i hi ht))).trans (h.block i hi hs)⟩
theorem Fr.weak {S T : Nat → Prop} {a b : World} (h : Fr S a b) (hT : ∀ i, i < a.heap.size → S i → T i) : Fr T a b := ⟨h.os, h.tape, h.output, h.size, fun i hi ht => h.block i hi (fun hs => ht (hT i hi hs))⟩
theorem Fr.of_below {S : Nat → Prop} {w w' : World} (h : Below w.heap.size w w') : Fr S w w' := ⟨h.os, h.tape, h.output, h.size, fun k hk _ => h.block k hk⟩
theorem Fr.below {S : Nat → Prop} {w w' : World} (h : Fr S w w') {B : Nat} (hB : B ≤ w.heap.size) (hS : ∀ k, S k → B ≤ k) : Below B w w' :=
  ⟨h.os, h.tape, h.output, h.size, fun k hk => h.block k (Nat.lt_of_lt_of_le hk hB) (fun hs => absurd (hS k hs) (Nat.not_le.2 hk))⟩
theorem Fr.then_below {S : Nat → Prop} {a b c : World} (h : Fr S a b) (k : Below b.heap.size b c) : Fr S a c := h.trans (T := fun _ => False) (Fr.of_below k) (fun _ _ h => h.elim)
theorem Fr.alloc {S : Nat → Prop} {a b : World} (h : Fr S a b) (o : Obj) : Fr S a (b.alloc o) := h.then_below ((Below.refl _ _).alloc (Nat.le_refl _) o)
theorem Fr.drew {S : Nat → Prop} {a b : World} (h : Fr S a b) (n : Nat) : Fr S a (b.drewN n) := h.then_below (B.below_drew (Below.refl _ _) n)
theorem Fr.set {S : Nat → Prop} {a b : World} (h : Fr S a b) {p : Addr} (hp : p.block < a.heap.size → S p.block) (u : Value) : Fr S a (b.setCell p u) :=
  h.trans (T := fun i => i = p.block) ⟨rfl, rfl, rfl, by simp [World.setCell], fun k _ hk => Below.heap_setCell _ _ _ _ hk⟩ (fun i hi e => by subst e; exact hp hi)
theorem Fr.grown {S : Nat → Prop} {a b c : World} {row : Option Nat} (h : Fr S a b) (hg : b.grownBy c row) (hr : ∀ g, row = some g → g < a.heap.size → S g) : Fr S a c :=
  h.trans (T := fun i => row = some i) ⟨hg.os, hg.tape, hg.output, hg.size, fun k hk ht => hg.block k hk (fun e => ht e.symm)⟩ (fun i hi e => hr i e hi)
theorem Fr.cell {S : Nat → Prop} {w w' : World} (h : Fr S w w') {a : Addr} (ha : ¬ S a.block) {v : Value} (hc : w.cell? a = some v) : w'.cell? a = some v :=
  (World.cell?_of_block (w := w) (h.block a.block (World.block_lt_of_cell? w a hc) ha)).trans hc
theorem Fr.frozen {S : Nat → Prop} {w w' : World} (h : Fr S w w') {a : Addr} (hl : a.block < w.heap.size) (ha : ¬ S a.block) : w'.frozen? a = w.frozen? a := World.frozen?_of_block (w := w) (h.block a.block hl ha)
/-- A cell that can be written, with what is in it. -/
def Cl (w : World) (b i : Nat) (v : Value) : Prop := w.cell? ⟨b, i, none⟩ = some v ∧ w.frozen? ⟨b, i, none⟩ = false
theorem Cl.lt {w : World} {b i : Nat} {v : Value} (h : Cl w b i v) : b < w.heap.size := World.block_lt_of_cell? w _ h.1
theorem Cl.fr {S : Nat → Prop} {w w' : World} {b i : Nat} {v : Value} (h : Cl w b i v) (hf : Fr S w w') (hb : ¬ S b) : Cl w' b i v := ⟨hf.cell hb h.1, (hf.frozen h.lt hb).trans h.2⟩
theorem Cl.below {w w' : World} {b i : Nat} {v : Value} (h : Cl w b i v) (hb : Below w.heap.size w w') : Cl w' b i v := h.fr (S := fun _ => False) (Fr.of_below hb) (fun h => h)
theorem Cl.new (w : World) (cs : Array Value) (e : TypeId) (i : Nat) (v : Value) (h : cs[i]? = some v) : Cl (w.alloc (.cells cs e)) w.heap.size i v :=
  ⟨by rw [World.cell?_alloc_new]; exact h, by simp only [World.frozen?, heap_alloc_new]; simp⟩
theorem Cl.set {w : World} {b i : Nat} {v : Value} (h : Cl w b i v) (u : Value) : Cl (w.setCell ⟨b, i, none⟩ u) b i u := by
  refine ⟨?_, ?_⟩
  · exact World.cell?_setCell_same w _ _ h.1
  · rw [World.frozen?_setCell]; exact h.2
theorem Cl.set_ne {w : World} {b i : Nat} {v : Value} (h : Cl w b i v) {p : Addr} (hp : p ≠ ⟨b, i, none⟩) (u : Value) : Cl (w.setCell p u) b i v := by
  refine ⟨?_, ?_⟩
  · rw [World.cell?_setCell_other w _ _ _ hp]; exact h.1
  · rw [World.frozen?_setCell]; exact h.2
end Go.Proofs.YtfillnkebohciaaGreatDoor.F
