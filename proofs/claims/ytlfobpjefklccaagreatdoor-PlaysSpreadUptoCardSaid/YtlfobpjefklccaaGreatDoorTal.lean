/- The program's tallies: an own map of pointers to own blocks. -/
import Derived.Test.YtlfobpjefklccaaGreatDoorComeP
import Derived.Test.YtlfobpjefklccaaGreatDoorSmall
import Derived.StillTailTactics
namespace Go.Proofs.YtlfobpjefklccaaGreatDoor.Come
open Go.RowKit
open T (Step stK steps_at)
open F (Fr Cl)

def ptr (b : Nat) : Value := .pointer (some ⟨b, 0, none⟩)
def ptrs (ks : List ByteArray) (bk : ByteArray → Nat) : M.Es := ks.map fun k => (k, ptr (bk k))
theorem look_ptrs {ks : List ByteArray} {bk : ByteArray → Nat} (k : ByteArray) : M.look (ptrs ks bk) k = if has ks k = true then some (ptr (bk k)) else none := by
  unfold ptrs
  induction ks with
  | nil => rfl
  | cons a ks ih =>
    have e : has (a :: ks) k = (decide (a = k) || has ks k) := rfl
    unfold M.look at ih ⊢
    rw [List.map_cons, List.find?_cons, e]
    by_cases h : a = k
    · subst h; simp
    · have hd : decide (a = k) = false := decide_eq_false h
      simp only [hd, Bool.false_or]
      exact ih
theorem put_ptrs {ks : List ByteArray} {bk : ByteArray → Nat} {k : ByteArray} {b : Nat} (h : has ks k = false) : M.put (ptrs ks bk) k (ptr b) = ptrs (ks ++ [k]) (fun x => if x = k then b else bk x) := by
  have h1 : (ptrs ks bk).any (fun p => decide (p.1 = k)) = false := by
    unfold ptrs
    rw [List.any_map]
    exact h
  unfold M.put
  rw [h1, if_neg (by simp)]
  unfold ptrs
  rw [List.map_append, List.map_singleton]
  show _ = _ ++ [(k, ptr (if k = k then b else bk k))]
  rw [if_pos rfl]
  congr 1
  refine List.map_congr_left fun x hx => ?_
  show _ = (x, ptr (if x = k then b else bk x))
  rw [if_neg (fun e => by subst e; rw [has_iff.2 hx] at h; cases h)]
/-- An own map of own blocks of two numbers. -/
structure TM (w : World) (mb lo : Nat) (ks : List ByteArray) (bk : ByteArray → Nat) (f g : ByteArray → Int) : Prop where
  om : M.OM w mb (ptrs ks bk)
  hlo : lo ≤ mb
  cl : ∀ k ∈ ks, lo ≤ bk k ∧ bk k ≠ mb ∧ Cl w (bk k) 0 (.int .i64 (f k)) ∧ Cl w (bk k) 1 (.int .i64 (g k))
  inj : ∀ k ∈ ks, ∀ k' ∈ ks, bk k = bk k' → k = k'
section
variable {w w' : World} {mb lo : Nat} {ks : List ByteArray} {bk : ByteArray → Nat} {f g : ByteArray → Int}
theorem TM.below (h : TM w mb lo ks bk f g) (hb : Below w.heap.size w w') : TM w' mb lo ks bk f g :=
  ⟨h.om.below hb, h.hlo, fun k hk => by obtain ⟨a, b, c, d⟩ := h.cl k hk; exact ⟨a, b, c.below hb, d.below hb⟩, h.inj⟩
theorem om_fr {es : M.Es} {S : Nat → Prop} (h : M.OM w mb es) (hf : Fr S w w') (hS : ¬ S mb) : M.OM w' mb es := by
  have hlt := h.lt
  obtain ⟨arr, c, h1, h2⟩ := h
  exact ⟨arr, c, (hf.block mb hlt hS).trans h1, h2⟩
/-- A number of one key is written. -/
theorem TM.set0 (h : TM w mb lo ks bk f g) {k : ByteArray} (hk : k ∈ ks) (n : Int) : TM (w.setCell ⟨bk k, 0, none⟩ (.int .i64 n)) mb lo ks bk (fun x => if x = k then n else f x) g := by
  have hf : Fr (fun b => b = bk k) w (w.setCell ⟨bk k, 0, none⟩ (.int .i64 n)) := Fr.set (S := fun b => b = bk k) (Fr.refl (fun b => b = bk k) w) (fun _ => rfl) _
  obtain ⟨a, b, c, d⟩ := h.cl k hk
  refine ⟨om_fr h.om hf (fun e => b e.symm), h.hlo, fun x hx => ?_, h.inj⟩
  obtain ⟨a', b', c', d'⟩ := h.cl x hx
  by_cases e : x = k
  · subst e
    rw [if_pos rfl]
    exact ⟨a, b, c.set _, d.set_ne (by simp) _⟩
  · rw [if_neg e]
    exact ⟨a', b', c'.fr hf (fun e2 => e (h.inj x hx k hk e2)), d'.fr hf (fun e2 => e (h.inj x hx k hk e2))⟩
theorem TM.set1 (h : TM w mb lo ks bk f g) {k : ByteArray} (hk : k ∈ ks) (n : Int) : TM (w.setCell ⟨bk k, 1, none⟩ (.int .i64 n)) mb lo ks bk f (fun x => if x = k then n else g x) := by
  have hf : Fr (fun b => b = bk k) w (w.setCell ⟨bk k, 1, none⟩ (.int .i64 n)) := Fr.set (S := fun b => b = bk k) (Fr.refl (fun b => b = bk k) w) (fun _ => rfl) _
  obtain ⟨a, b, c, d⟩ := h.cl k hk
  refine ⟨om_fr h.om hf (fun e => b e.symm), h.hlo, fun x hx => ?_, h.inj⟩
  obtain ⟨a', b', c', d'⟩ := h.cl x hx
  by_cases e : x = k
  · subst e
    rw [if_pos rfl]
    exact ⟨a, b, c.set_ne (by simp) _, d.set _⟩
  · rw [if_neg e]
    exact ⟨a', b', c'.fr hf (fun e2 => e (h.inj x hx k hk e2)), d'.fr hf (fun e2 => e (h.inj x hx k hk e2))⟩
/-- A key comes in. -/
theorem TM.add (h : TM w mb lo ks bk f g) (hlo : lo ≤ w.heap.size) {k : ByteArray} (hk : has ks k = false) {t : TypeId} (h0 : f k = 0) (h1 : g k = 0) (hO : M.OM w' mb (M.put (ptrs ks bk) k (ptr w.heap.size))) (hg : (w.alloc (.cells #[.int .i64 0, .int .i64 0] t)).grownBy w' (some mb)) :
    TM w' mb lo (ks ++ [k]) (fun x => if x = k then w.heap.size else bk x) f g := by
  have hm := h.om.lt
  have hf : Fr (fun b => b = mb) (w.alloc (.cells #[.int .i64 0, .int .i64 0] t)) w' := (Fr.refl _ _).grown hg (fun g e _ => (Option.some.inj e).symm)
  have hal : Below w.heap.size w (w.alloc (.cells #[.int .i64 0, .int .i64 0] t)) := (Below.refl _ _).alloc (Nat.le_refl _) _
  have hne : ∀ x ∈ ks, x ≠ k := fun x hx e => by subst e; rw [has_iff.2 hx] at hk; cases hk
  refine ⟨by rw [put_ptrs hk] at hO; exact hO, h.hlo, fun x hx => ?_, fun x hx y hy e => ?_⟩
  · rcases List.mem_append.1 hx with hx | hx
    · obtain ⟨a, b, c, d⟩ := h.cl x hx
      rw [if_neg (hne x hx)]
      exact ⟨a, b, (c.below hal).fr hf b, (d.below hal).fr hf b⟩
    · rw [List.mem_singleton] at hx
      subst hx
      rw [if_pos rfl, h0, h1]
      exact ⟨hlo, by omega, (Cl.new w #[.int .i64 0, .int .i64 0] t 0 _ rfl).fr hf (by omega), (Cl.new w #[.int .i64 0, .int .i64 0] t 1 _ rfl).fr hf (by omega)⟩
  · have hlt : ∀ x ∈ ks, bk x < w.heap.size := fun x hx => (h.cl x hx).2.2.1.lt
    rcases List.mem_append.1 hx with hx2 | hx2 <;> rcases List.mem_append.1 hy with hy2 | hy2
    · rw [if_neg (hne x hx2), if_neg (hne y hy2)] at e; exact h.inj x hx2 y hy2 e
    · rw [List.mem_singleton] at hy2
      have hyk := hy2
      rw [if_neg (hne x hx2), if_pos hyk] at e
      have := hlt x hx2; omega
    · rw [List.mem_singleton] at hx2
      rw [if_neg (hne y hy2), if_pos hx2] at e
      have := hlt y hy2; omega
    · rw [List.mem_singleton] at hx2 hy2
      rw [hx2, hy2]
theorem TM.congr (h : TM w mb lo ks bk f g) {f' g' : ByteArray → Int} (h1 : ∀ k ∈ ks, f k = f' k) (h2 : ∀ k ∈ ks, g k = g' k) : TM w mb lo ks bk f' g' :=
  ⟨h.om, h.hlo, fun k hk => by rw [← h1 k hk, ← h2 k hk]; exact h.cl k hk, h.inj⟩
end
/-- The tallies of steps. -/
def TL (w : World) (mb lo : Nat) (l : List Step) : Prop := ∃ bk, TM w mb lo (nub l []) bk (fun k => ((its l k).length : Int)) (fun k => tot (its l k))
theorem its_none {l : List Step} {k : ByteArray} (h : has (nub l []) k = false) : its l k = [] := by
  unfold its
  refine List.filter_eq_nil_iff.2 fun s hs => ?_
  simp only [decide_eq_true_eq]
  rintro rfl
  have : has (nub l []) s.1 = true := has_iff.2 ((nub_mem l [] s.1).2 (.inr (List.mem_map.2 ⟨s, hs, rfl⟩)))
  rw [h] at this
  cases this
end Go.Proofs.YtlfobpjefklccaaGreatDoor.Come
