/- How nested data lie in memory: kinds of data, slices of them, rows of the call's own. No program in sight. -/
import Derived.WalkKit
import Derived.OwnWalk
import Derived.Lib.Hide
import Derived.Lib.ItoaMem
namespace Go.Proofs.YtfillnkebohciaaGreatDoor.B
open Go.RowKit

theorem below_trans {w w1 w2 : World} (h : Below w.heap.size w w1) (k : Below w1.heap.size w1 w2) : Below w.heap.size w w2 := h.trans (k.mono h.size)
theorem cell_below {w w' : World} (hb : Below w.heap.size w w') {a : Addr} {v : Value} (h : w.cell? a = some v) : w'.cell? a = some v := (hb.cell (World.block_lt_of_cell? w a h)).trans h

/-- A kind of data: how many cells, and how they read in a world. -/
structure Kd (α : Type) where
  sz : Nat
  K : World → α → List Value → Prop
  len : ∀ {w x cs}, K w x cs → cs.length = sz
  mono : ∀ {w w' x cs}, K w x cs → Below w.heap.size w w' → K w' x cs
  one : ∀ {w x cs}, K w x cs → ∀ v ∈ cs, v.oneCell' = true

section
variable {α : Type}
def Kd.flat (k : Nat) (enc : α → List Value) (h : ∀ x, (enc x).length = k) (h1 : ∀ x, ∀ v ∈ enc x, v.oneCell' = true) : Kd α :=
  ⟨k, fun _ x cs => cs = enc x, fun e => by subst e; exact h _, fun e _ => e, fun e => by subst e; exact h1 _⟩
def Kd.str : Kd ByteArray := .flat 1 (fun s => [.string s]) (fun _ => rfl) (fun _ v hv => by simp at hv; subst hv; rfl)
def Kd.int : Kd Int := .flat 1 (fun n => [.int .i64 n]) (fun _ => rfl) (fun _ v hv => by simp at hv; subst hv; rfl)
def Kd.bool : Kd Bool := .flat 1 (fun b => [.bool b]) (fun _ => rfl) (fun _ v hv => by simp at hv; subst hv; rfl)

/-- A sum and a length. -/
def Kd.chunk : Kd (ByteArray × Int) := .flat 2 (fun c => [.string c.1, .int .i64 c.2]) (fun _ => rfl) (fun _ v hv => by simp at hv; rcases hv with rfl | rfl <;> rfl)
/-- Whether it is to the left, and a sum. -/
def Kd.twig : Kd (Bool × ByteArray) := .flat 2 (fun c => [.bool c.1, .string c.2]) (fun _ => rfl) (fun _ v hv => by simp at hv; rcases hv with rfl | rfl <;> rfl)
/-- From, to and speed. -/
def Kd.link : Kd (Int × Int × Int) := .flat 3 (fun c => [.int .i64 c.1, .int .i64 c.2.1, .int .i64 c.2.2]) (fun _ => rfl) (fun _ v hv => by simp at hv; rcases hv with rfl | rfl | rfl <;> rfl)

/-- The elements of a slice at A. -/
def Kd.C (d : Kd α) (w : World) (A : Option Addr) (xs : List α) : Prop :=
  xs.length ≤ 140737488355328 ∧ (0 < xs.length → ∃ b off, A = some ⟨b, off, none⟩ ∧ ∀ j (h : j < xs.length), ∃ cs, d.K w xs[j] cs ∧ ∀ i (hi : i < cs.length), w.cell? ⟨b, off + j * d.sz + i, none⟩ = some cs[i])
theorem Kd.C.mono {d : Kd α} {w w' : World} {A : Option Addr} {xs : List α} (h : d.C w A xs) (hb : Below w.heap.size w w') : d.C w' A xs :=
  ⟨h.1, fun hp => by
    obtain ⟨b, off, e, hc⟩ := h.2 hp
    refine ⟨b, off, e, fun j hj => ?_⟩
    obtain ⟨cs, hK, hcs⟩ := hc j hj
    exact ⟨cs, d.mono hK hb, fun i hi => cell_below hb (hcs i hi)⟩⟩
theorem Kd.C.at {d : Kd α} {w : World} {A : Option Addr} {xs : List α} (h : d.C w A xs) (j : Nat) (hj : j < xs.length) :
    ∃ b off cs, A = some ⟨b, off, none⟩ ∧ d.K w xs[j] cs ∧ ∀ i (hi : i < cs.length), w.cell? ⟨b, off + j * d.sz + i, none⟩ = some cs[i] := by
  obtain ⟨b, off, e, hc⟩ := h.2 (by omega)
  obtain ⟨cs, h1, h2⟩ := hc j hj
  exact ⟨b, off, cs, e, h1, h2⟩
theorem Kd.C_nil (d : Kd α) (w : World) (A : Option Addr) : d.C w A [] := ⟨by simp, fun h => absurd h (by simp)⟩
/-- A value that is a slice with these elements. -/
def Kd.S (d : Kd α) (w : World) (v : Value) (xs : List α) : Prop := ∃ A c, v = .slice A xs.length c ∧ d.C w A xs
theorem Kd.S.mono {d : Kd α} {w w' : World} {v : Value} {xs : List α} (h : d.S w v xs) (hb : Below w.heap.size w w') : d.S w' v xs := by
  obtain ⟨A, c, e, h⟩ := h
  exact ⟨A, c, e, h.mono hb⟩
theorem Kd.S_nil (d : Kd α) (w : World) : d.S w (.slice none 0 0) [] := ⟨none, 0, rfl, d.C_nil w none⟩
def Kd.sl (d : Kd α) : Kd (List α) :=
  ⟨1, fun w xs cs => ∃ A c, cs = [.slice A xs.length c] ∧ d.C w A xs, fun ⟨_, _, e, _⟩ => by subst e; rfl, fun ⟨A, c, e, h⟩ hb => ⟨A, c, e, h.mono hb⟩, fun ⟨_, _, e, _⟩ v hv => by subst e; simp at hv; subst hv; rfl⟩
/-- A key and chunks. -/
def Kd.file : Kd (ByteArray × List (ByteArray × Int)) :=
  ⟨2, fun w f cs => ∃ A c, cs = [.string f.1, .slice A f.2.length c] ∧ Kd.chunk.C w A f.2, fun ⟨_, _, e, _⟩ => by subst e; rfl, fun ⟨A, c, e, h⟩ hb => ⟨A, c, e, h.mono hb⟩, fun ⟨_, _, e, _⟩ v hv => by subst e; simp at hv; rcases hv with rfl | rfl <;> rfl⟩
theorem flatMap_at {k : Nat} {enc : α → List Value} (hl : ∀ x, (enc x).length = k) : ∀ {xs : List α} (j : Nat) (hj : j < xs.length) (i : Nat) (hi : i < (enc xs[j]).length), (xs.flatMap enc)[j * k + i]? = some (enc xs[j])[i] := by
  intro xs
  induction xs with
  | nil => intro j hj; simp at hj
  | cons x xs ih =>
    intro j hj i hi
    cases j with
    | zero =>
      rw [List.flatMap_cons, Nat.zero_mul, Nat.zero_add, List.getElem?_append_left (by simpa using hi)]
      exact List.getElem?_eq_getElem hi
    | succ j =>
      have hj' : j < xs.length := by simpa using hj
      rw [List.flatMap_cons, List.getElem?_append_right (by rw [hl, Nat.succ_mul]; omega), hl, Nat.succ_mul, show j * k + k + i - k = j * k + i from by omega]
      exact ih j hj' i hi
/-- A row of the call's own, of flat data. -/
def Own (w : World) (base : Nat) (e : TypeId) (k : Nat) (enc : α → List Value) (v : Value) (xs : List α) : Prop := w.ownsRow base e k v xs.length (xs.flatMap enc)
theorem Own.nil (w : World) (base : Nat) (e : TypeId) (k : Nat) (enc : α → List Value) : Own w base e k enc (.slice none 0 0) [] := World.ownsRow_nil _ _ _ _
theorem Own.drew {w : World} {base : Nat} {e : TypeId} {k : Nat} {enc : α → List Value} {v : Value} {xs : List α} (h : Own w base e k enc v xs) (n : Nat) : Own (w.drewN n) base e k enc v xs := h
theorem Own.below {w w' : World} {base : Nat} {e : TypeId} {k : Nat} {enc : α → List Value} {v : Value} {xs : List α} (h : Own w base e k enc v xs) (hb : Below w.heap.size w w') : Own w' base e k enc v xs :=
  World.ownsRow.kept (row := none) h ⟨hb.os, hb.tape, hb.output, hb.size, fun k hk _ => hb.block k hk⟩ (by cases v.ownBlock <;> simp)
theorem Own.setCell {w : World} {base : Nat} {e : TypeId} {k : Nat} {enc : α → List Value} {v : Value} {xs : List α} (h : Own w base e k enc v xs) {p : Addr} (hp : p.block < base) (u : Value) : Own (w.setCell p u) base e k enc v xs := by
  have hb : (w.setCell p u).heap.size = w.heap.size := by simp
  refine World.ownsRow.kept (row := some p.block) h ⟨rfl, rfl, rfl, by rw [hb]; exact Nat.le_refl _, fun i _ hi => Below.heap_setCell _ _ _ _ (fun e => hi (by rw [e]))⟩ ?_
  cases hv : v.ownBlock with
  | none => exact Or.inl rfl
  | some g => exact Or.inr (fun e => by have := (World.ownsRow.lt h g hv).1; have := Option.some.inj e; omega)
/-- What an own row of flat data reads as. -/
theorem own_S {k : Nat} {enc : α → List Value} {hl : ∀ x, (enc x).length = k} {h1 : ∀ x, ∀ v ∈ enc x, v.oneCell' = true} {w : World} {base : Nat} {e : TypeId} {v : Value} {xs : List α}
    (h : Own w base e k enc v xs) (hn : xs.length ≤ 140737488355328) : (Kd.flat k enc hl h1).S w v xs := by
  unfold Own at h
  rcases Nat.eq_zero_or_pos xs.length with h0 | h0
  · have e0 : xs = [] := List.eq_nil_of_length_eq_zero h0
    subst e0
    rcases h.2 with ⟨rfl, _⟩ | ⟨g, cap, cur, rfl, _⟩
    · exact Kd.S_nil _ _
    · exact ⟨_, cap, rfl, Kd.C_nil _ _ _⟩
  · obtain ⟨g, cap, rfl⟩ : ∃ g cap, v = .slice (some ⟨g, 0, none⟩) xs.length cap := by
      rcases h.2 with ⟨_, h2⟩ | ⟨g, cap, cur, e, _⟩
      · omega
      · exact ⟨g, cap, e⟩
    refine ⟨_, cap, rfl, hn, fun _ => ⟨g, 0, rfl, fun j hj => ⟨enc xs[j], rfl, fun i hi => ?_⟩⟩⟩
    have hc := h.cells (g := g) rfl (j * k + i) (enc xs[j])[i] ?_
    · rw [Lib.add_plain] at hc
      rw [← hc]
      simp [Kd.flat]
    · exact flatMap_at hl j hj i hi
theorem own_str {w : World} {base : Nat} {e : TypeId} {v : Value} {xs : List ByteArray} (h : Own w base e 1 (fun s => [.string s]) v xs) (hn : xs.length ≤ 140737488355328) : Kd.str.S w v xs := own_S h hn
theorem own_chunk {w : World} {base : Nat} {e : TypeId} {v : Value} {xs : List (ByteArray × Int)} (h : Own w base e 2 (fun c => [.string c.1, .int .i64 c.2]) v xs) (hn : xs.length ≤ 140737488355328) : Kd.chunk.S w v xs := own_S h hn
theorem own_int {w : World} {base : Nat} {e : TypeId} {v : Value} {xs : List Int} (h : Own w base e 1 (fun n => [.int .i64 n]) v xs) (hn : xs.length ≤ 140737488355328) : Kd.int.S w v xs := own_S h hn
/-- A slice that the text spells out. -/
theorem lit_S {k : Nat} {enc : α → List Value} {hl : ∀ x, (enc x).length = k} {h1 : ∀ x, ∀ v ∈ enc x, v.oneCell' = true} (w : World) (cs : Array Value) (e : TypeId) (xs : List α) (n : Nat) (hn : xs.length = n) (hcs : cs.toList = xs.flatMap enc) (hb : xs.length ≤ 140737488355328) :
    (Kd.flat k enc hl h1).S (w.alloc (.cells cs e)) (.slice (some ⟨w.heap.size, 0, none⟩) n n) xs := by
  subst hn
  refine ⟨_, _, rfl, hb, fun _ => ⟨_, 0, rfl, fun j hj => ⟨enc xs[j], rfl, fun i hi => ?_⟩⟩⟩
  rw [World.cell?_alloc_new, ← Array.getElem?_toList, hcs, Nat.zero_add]
  exact flatMap_at hl j hj i hi
theorem lit_link (w : World) (cs : Array Value) (e : TypeId) (xs : List (Int × Int × Int)) (n : Nat) (hn : xs.length = n) (hcs : cs.toList = xs.flatMap fun c => [.int .i64 c.1, .int .i64 c.2.1, .int .i64 c.2.2]) (hb : xs.length ≤ 140737488355328) :
    Kd.link.S (w.alloc (.cells cs e)) (.slice (some ⟨w.heap.size, 0, none⟩) n n) xs := lit_S w cs e xs n hn hcs hb

/-! ### append of one element to a row of the call's own -/
theorem below_drew {B : Nat} {w W : World} (h : Below B w W) (n : Nat) : Below B w (W.drewN n) := ⟨h.os, h.tape, h.output, h.size, h.block⟩
theorem wpl_append {P : Program} {ops : Array Oper} {rest : List Oper} {o : Oper} {a : Act} {Q : Exit → Act → World → Prop} {W w0 : World} (base : Nat) (hgd : o.guard = none) (s x : Operand) (t e : TypeId) (z : Value) (k bytes : Nat)
    (ho : o.op = .call { callee := .builtin .append, args := #[s, x], argTypes := #[t, t] }) (ht : P.underlying t = some (.slice e)) (hinfo : (P.info? e).map (fun i => (i.zero, i.size, i.bytes)) = some (some z, k, bytes)) (hz : z.cells.size = k) (hk : 0 < k) (hby : 0 < bytes)
    (enc : α → List Value) (hlen : ∀ x, (enc x).length = k) (h1 : ∀ x, ∀ v ∈ enc x, v.oneCell' = true) (v : Value) (xs : List α) (y : α) (cs : Array Value) (hcs : cs.toList = enc y) 
    (HO : Own W base e k enc v xs) (hs : a.eval s = v) (hx : a.eval x = .slice (some ⟨W.heap.size, 0, none⟩) 1 1) (HB : Below base w0 W) (hbase : base ≤ W.heap.size) (hroom : (xs.length + 1) * bytes ≤ 140737488355328)
    (h : ∀ v1 w1, Own w1 base e k enc v1 (xs ++ [y]) → Below base w0 w1 → W.heap.size ≤ w1.heap.size → wpList P ops Q rest (a.put o.dst v1) w1) :
    wpList P ops Q (o :: rest) a (W.alloc (.cells cs e)) := by
  have HO0 : W.ownsRow base e k v xs.length (xs.flatMap enc) := HO
  obtain ⟨i0, hi, hzz⟩ := Option.map_eq_some_iff.1 hinfo
  simp only [Prod.mk.injEq] at hzz
  obtain ⟨hz0, hz1, hz2⟩ := hzz
  have hn : xs.length + 1 ≤ 140737488355328 := Nat.le_trans (Nat.le_mul_of_pos_right _ hby) hroom
  refine wpList_append_own (W.alloc (.cells cs e)) hgd s x t ho base e i0 z k bytes ht hi hz0 hz1 hz2 hz hk v xs.length _ hs (HO0.alloc _) ⟨W.heap.size, 0, none⟩ 1 1 (enc y) hx (by rw [hlen, Nat.one_mul]) ?_ (h1 y) (by simp only [maxLen]; omega) hroom (by simp; omega) ?_
  · intro j u hj
    rw [Lib.add_plain, Nat.zero_add, World.cell?_alloc_new, ← Array.getElem?_toList, hcs]
    exact hj
  · intro v1 w1 hown hg _
    exact h v1 w1 (by unfold Own; rw [List.length_append, List.length_singleton, List.flatMap_append, List.flatMap_singleton]; exact hown) ((HB.alloc hbase _).grown hg (by simp; omega) (fun k hk => (HO0.lt k hk).1)) (by have := hg.size; simp at this; omega)

theorem flatMap_all {k : Nat} (hk : 0 < k) {enc : α → List Value} (hl : ∀ x, (enc x).length = k) {ys : List α} {j : Nat} {u : Value} (h : (ys.flatMap enc)[j]? = some u) :
    ∃ q i, ∃ (hq : q < ys.length) (hi : i < (enc ys[q]).length), j = q * k + i ∧ u = (enc ys[q])[i] := by
  have hlen : (ys.flatMap enc).length = ys.length * k := by
    clear h
    induction ys with
    | nil => simp
    | cons y ys ih => rw [List.flatMap_cons, List.length_append, hl, ih, List.length_cons, Nat.succ_mul]; omega
  have hj : j < ys.length * k := by
    have := (List.getElem?_eq_some_iff.1 h).1
    omega
  have hq : j / k < ys.length := (Nat.div_lt_iff_lt_mul hk).2 hj
  have hi : j % k < (enc ys[j / k]).length := by rw [hl]; exact Nat.mod_lt _ hk
  have e : j = j / k * k + j % k := by rw [Nat.mul_comm]; exact (Nat.div_add_mod j k).symm
  refine ⟨j / k, j % k, hq, hi, e, ?_⟩
  have := flatMap_at hl (j / k) hq (j % k) hi
  rw [← e, h] at this
  exact Option.some.inj this
theorem wpl_append_all {P : Program} {ops : Array Oper} {rest : List Oper} {o : Oper} {a : Act} {Q : Exit → Act → World → Prop} {W w0 : World} (base : Nat) (hgd : o.guard = none) (s x : Operand) (t e : TypeId) (z : Value) (k bytes : Nat)
    (ho : o.op = .call { callee := .builtin .append, args := #[s, x], argTypes := #[t, t] }) (ht : P.underlying t = some (.slice e)) (hinfo : (P.info? e).map (fun i => (i.zero, i.size, i.bytes)) = some (some z, k, bytes)) (hz : z.cells.size = k) (hk : 0 < k) (hby : 0 < bytes)
    (enc : α → List Value) (hlen : ∀ x, (enc x).length = k) (h1 : ∀ x, ∀ v ∈ enc x, v.oneCell' = true) (v : Value) (xs ys : List α)
    (HO : Own W base e k enc v xs) (hs : a.eval s = v) (A : Addr) (c : Nat) (hx : a.eval x = .slice (some A) ys.length c) (C : (Kd.flat k enc hlen h1).C W (some A) ys) (HB : Below base w0 W) (hbase : base ≤ W.heap.size) (hroom : (xs.length + ys.length) * bytes ≤ 140737488355328)
    (h : ∀ v1 w1, Own w1 base e k enc v1 (xs ++ ys) → Below base w0 w1 → W.heap.size ≤ w1.heap.size → wpList P ops Q rest (a.put o.dst v1) w1) :
    wpList P ops Q (o :: rest) a W := by
  have HO0 : W.ownsRow base e k v xs.length (xs.flatMap enc) := HO
  obtain ⟨i0, hi, hzz⟩ := Option.map_eq_some_iff.1 hinfo
  simp only [Prod.mk.injEq] at hzz
  obtain ⟨hz0, hz1, hz2⟩ := hzz
  have hn : xs.length + ys.length ≤ 140737488355328 := Nat.le_trans (Nat.le_mul_of_pos_right _ hby) hroom
  have hlenm : (ys.flatMap enc).length = ys.length * k := by
    clear C hx hroom hn h
    induction ys with
    | nil => simp
    | cons y ys ih => rw [List.flatMap_cons, List.length_append, hlen, ih, List.length_cons, Nat.succ_mul]; omega
  refine wpList_append_own W hgd s x t ho base e i0 z k bytes ht hi hz0 hz1 hz2 hz hk v xs.length _ hs HO0 A ys.length c (ys.flatMap enc) hx hlenm ?_ ?_ (by simp only [maxLen]; omega) hroom hbase ?_
  · intro j u hj
    obtain ⟨q, i, hq, hi', rfl, rfl⟩ := flatMap_all hk hlen hj
    obtain ⟨b, off, cs, hA, hK, hc⟩ := C.at q hq
    obtain rfl : A = ⟨b, off, none⟩ := Option.some.inj hA
    have hK' : cs = enc ys[q] := hK
    subst hK'
    rw [Lib.add_plain, show off + (q * k + i) = off + q * k + i from by omega]
    exact hc i hi'
  · intro u hu
    obtain ⟨y, _, hy⟩ := List.mem_flatMap.1 hu
    exact h1 y u hy
  · intro v1 w1 hown hg _
    exact h v1 w1 (by unfold Own; rw [List.length_append, List.flatMap_append]; exact hown) (HB.grown hg hbase (fun k hk => (HO0.lt k hk).1)) hg.size

/-- Rows of k cells each, of whatever kind. -/
abbrev Rw (k : Nat) := { cs : List Value // cs.length = k ∧ ∀ v ∈ cs, v.oneCell' = true }
/-- What an own row of rows reads as. -/
theorem own_K (d : Kd α) {w : World} {base : Nat} {e : TypeId} {v : Value} {rs : List (Rw d.sz)} {xs : List α} (h : Own w base e d.sz Subtype.val v rs) (hn : xs.length ≤ 140737488355328) (hl : rs.length = xs.length)
    (hK : ∀ j (h : j < xs.length), d.K w xs[j] (rs[j]'(by omega)).val) : d.S w v xs := by
  unfold Own at h
  rcases Nat.eq_zero_or_pos xs.length with h0 | h0
  · have e0 : xs = [] := List.eq_nil_of_length_eq_zero h0
    subst e0
    have e1 : rs = [] := List.eq_nil_of_length_eq_zero hl
    subst e1
    rcases h.2 with ⟨rfl, _⟩ | ⟨g, cap, cur, rfl, _⟩
    · exact Kd.S_nil _ _
    · exact ⟨_, cap, rfl, Kd.C_nil _ _ _⟩
  · obtain ⟨g, cap, rfl⟩ : ∃ g cap, v = .slice (some ⟨g, 0, none⟩) xs.length cap := by
      rcases h.2 with ⟨_, h2⟩ | ⟨g, cap, cur, e, _⟩
      · omega
      · exact ⟨g, cap, by rw [← hl]; exact e⟩
    refine ⟨_, cap, rfl, hn, fun _ => ⟨g, 0, rfl, fun j hj => ⟨_, hK j hj, fun i hi => ?_⟩⟩⟩
    have hc := h.cells (g := g) rfl (j * d.sz + i) ((rs[j]'(by omega)).val[i]) ?_
    · rw [Lib.add_plain] at hc
      rw [← hc]
      simp
    · exact flatMap_at (fun x : Rw d.sz => x.2.1) j (by omega) i hi
end
end Go.Proofs.YtfillnkebohciaaGreatDoor.B
