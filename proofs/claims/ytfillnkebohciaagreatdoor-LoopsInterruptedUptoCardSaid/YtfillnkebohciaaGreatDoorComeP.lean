/- Rounds: where a step is found, and when an item comes next: plain laws. Strings in order, each once. -/
import Derived.Test.YtfillnkebohciaaGreatDoorSteps
import Derived.Lib.SlicesCompact
namespace Go.Proofs.YtfillnkebohciaaGreatDoor.Come
open T (Step)
/-- How long all steps are together. -/
def tot : List Step → Int
  | [] => 0
  | s :: l => s.2 + tot l
/-- Steps of a round. -/
def Ok (l : List Step) : Prop := ∀ s ∈ l, 1 ≤ s.2 ∧ s.2 ≤ 3600000
/-- The program's search. -/
def atP : List Step → Int → Nat → Nat × Int
  | [], _, _ => (0, 0)
  | s :: l, r, i => if r < s.2 then (i, r) else atP l (r - s.2) (i + 1)
/-- The reference's search. -/
def stAt : List Step → Int → Int → Step × Int
  | [], _, _ => ((⟨#[]⟩, 0), 0)
  | s :: l, a, b => if a < b + s.2 then (s, b) else stAt l a (b + s.2)
/-- The first moment from a on at which an item begins; t: when the first of these steps begins. -/
def fi (item : ByteArray) (a : Int) : List Step → Int → Option Int
  | [], _ => none
  | s :: l, t => if s.1 = item ∧ a ≤ t then some t else fi item a l (t + s.2)
/-- The same in two rounds. -/
def un (l : List Step) (item : ByteArray) (b a : Int) : Option Int := match fi item a l b with
  | some t => some t
  | none => fi item a l (b + tot l)
theorem tot_app (p q : List Step) : tot (p ++ q) = tot p + tot q := by
  induction p with
  | nil => simp [tot]
  | cons s p ih => rw [List.cons_append, tot, ih, tot]; omega
theorem tot_le {l : List Step} (h : Ok l) : (l.length : Int) ≤ tot l ∧ tot l ≤ 3600000 * l.length := by
  induction l with
  | nil => simp [tot]
  | cons s l ih =>
    obtain ⟨h1, h2⟩ := ih (fun x hx => h x (List.mem_cons_of_mem _ hx))
    have h3 := h s List.mem_cons_self
    rw [tot, List.length_cons]
    omega
theorem tot_pos {l : List Step} (h : Ok l) (hn : l ≠ []) : 1 ≤ tot l := by
  have := tot_le h
  have := List.length_pos_iff.2 hn
  omega
/-- The step at a moment of the round, found from its beginning. -/
theorem split_at : ∀ (l : List Step) (a b : Int), Ok l → b ≤ a → a < b + tot l → ∃ p x q, l = p ++ x :: q ∧ stAt l a b = (x, b + tot p) ∧ b + tot p ≤ a ∧ a < b + tot p + x.2 := by
  intro l
  induction l with
  | nil => intro a b _ h1 h2; rw [tot] at h2; omega
  | cons s l ih =>
    intro a b hok h1 h2
    by_cases hs : a < b + s.2
    · refine ⟨[], s, l, rfl, ?_, ?_, ?_⟩
      · rw [stAt, if_pos hs, tot, Int.add_zero]
      · rw [tot]; omega
      · rw [tot]; omega
    · rw [tot] at h2
      obtain ⟨p, x, q, e1, e2, e3, e4⟩ := ih a (b + s.2) (fun x hx => hok x (List.mem_cons_of_mem _ hx)) (by omega) (by omega)
      refine ⟨s :: p, x, q, by rw [e1]; rfl, ?_, ?_, ?_⟩
      · rw [stAt, if_neg hs, e2, tot]; congr 1; omega
      · rw [tot]; omega
      · rw [tot]; omega
/-- The two ways to find a step agree. -/
theorem at_st : ∀ (l : List Step) (r b : Int) (i : Nat), Ok l → 0 ≤ r → r < tot l → ∃ j, ∃ h : j < l.length, ∃ r', atP l r i = (i + j, r') ∧ stAt l (b + r) b = (l[j], b + r - r') ∧ 0 ≤ r' ∧ r' ≤ r := by
  intro l
  induction l with
  | nil => intro r b i _ h1 h2; rw [tot] at h2; omega
  | cons s l ih =>
    intro r b i hok h1 h2
    by_cases hs : r < s.2
    · refine ⟨0, by simp, r, ?_, ?_, h1, Int.le_refl _⟩
      · rw [atP, if_pos hs]; rfl
      · rw [stAt, if_pos (by omega)]
        show (s, b) = (s, _)
        congr 1; omega
    · rw [tot] at h2
      have h3 := hok s List.mem_cons_self
      obtain ⟨j, hj, r', e1, e2, e3, e4⟩ := ih (r - s.2) (b + s.2) (i + 1) (fun x hx => hok x (List.mem_cons_of_mem _ hx)) (by omega) (by omega)
      refine ⟨j + 1, by rw [List.length_cons]; omega, r', ?_, ?_, e3, by omega⟩
      · rw [atP, if_neg hs, e1]; congr 1; omega
      · rw [stAt, if_neg (by omega), show b + r = b + s.2 + (r - s.2) by omega, e2, List.getElem_cons_succ]
theorem fi_skip {item : ByteArray} {a : Int} : ∀ (p q : List Step) (b : Int), Ok p → b + tot p ≤ a → fi item a (p ++ q) b = fi item a q (b + tot p) := by
  intro p
  induction p with
  | nil => intro q b _ _; rw [List.nil_append, tot, Int.add_zero]
  | cons s p ih =>
    intro q b hok h
    have h3 := hok s List.mem_cons_self
    have hok' : Ok p := fun x hx => hok x (List.mem_cons_of_mem _ hx)
    have h4 := tot_le hok'
    rw [tot] at h ⊢
    rw [List.cons_append, fi, if_neg (fun hh => by omega), ih q (b + s.2) hok' (by omega)]
    congr 1; omega
theorem fi_from {item : ByteArray} {a a' : Int} : ∀ (q : List Step) (t : Int), Ok q → a ≤ t → a' ≤ t → fi item a q t = fi item a' q t := by
  intro q
  induction q with
  | nil => intro t _ _ _; rfl
  | cons s q ih =>
    intro t hok h1 h2
    have h3 := hok s List.mem_cons_self
    rw [fi, fi, ih (t + s.2) (fun x hx => hok x (List.mem_cons_of_mem _ hx)) (by omega) (by omega)]
    by_cases he : s.1 = item
    · rw [if_pos ⟨he, h1⟩, if_pos ⟨he, h2⟩]
    · rw [if_neg (fun h => he h.1), if_neg (fun h => he h.1)]
theorem fi_some {item : ByteArray} {a : Int} : ∀ (l : List Step) (t : Int), Ok l → a ≤ t → item ∈ l.map (·.1) → ∃ v, fi item a l t = some v ∧ t ≤ v ∧ v < t + tot l := by
  intro l
  induction l with
  | nil => intro t _ _ h; cases h
  | cons s l ih =>
    intro t hok h hm
    have h3 := hok s List.mem_cons_self
    have hok' : Ok l := fun x hx => hok x (List.mem_cons_of_mem _ hx)
    have h4 := tot_le hok'
    rw [fi, tot]
    by_cases he : s.1 = item
    · rw [if_pos ⟨he, h⟩]; exact ⟨t, rfl, Int.le_refl _, by omega⟩
    · rw [if_neg (fun h => he h.1)]
      obtain ⟨v, e, h5, h6⟩ := ih (t + s.2) hok' (by omega) (by
        rw [List.map_cons, List.mem_cons] at hm
        rcases hm with hm | hm
        · exact absurd hm.symm he
        · exact hm)
      exact ⟨v, e, by omega, by omega⟩
theorem fi_ge {item : ByteArray} {a : Int} : ∀ (l : List Step) (t v : Int), Ok l → fi item a l t = some v → a ≤ v ∧ t ≤ v ∧ v < t + tot l ∧ item ∈ l.map (·.1) := by
  intro l
  induction l with
  | nil => intro t v _ h; cases h
  | cons s l ih =>
    intro t v hok h
    have h3 := hok s List.mem_cons_self
    have hok' : Ok l := fun x hx => hok x (List.mem_cons_of_mem _ hx)
    have h4 := tot_le hok'
    rw [fi] at h
    rw [tot, List.map_cons, List.mem_cons]
    split at h
    · rename_i h1; cases h; exact ⟨h1.2, Int.le_refl _, by omega, .inl h1.1.symm⟩
    · obtain ⟨e1, e2, e3, e4⟩ := ih (t + s.2) v hok' h; exact ⟨e1, by omega, by omega, .inr e4⟩
theorem un_none {l : List Step} {item : ByteArray} {b a : Int} (hok : Ok l) (h : item ∉ l.map (·.1)) : un l item b a = none := by
  unfold un
  cases h1 : fi item a l b with
  | some v => exact absurd (fi_ge l b v hok h1).2.2.2 h
  | none =>
    cases h2 : fi item a l (b + tot l) with
    | some v => exact absurd (fi_ge l _ v hok h2).2.2.2 h
    | none => rfl
theorem un_some {l : List Step} {item : ByteArray} {b a : Int} (hok : Ok l) (h : item ∈ l.map (·.1)) (hb : a ≤ b + tot l) : ∃ v, un l item b a = some v ∧ a ≤ v ∧ v < b + 2 * tot l := by
  unfold un
  have h0 := tot_le hok
  cases h1 : fi item a l b with
  | some v => obtain ⟨e1, e2, e3, e4⟩ := fi_ge l b v hok h1; exact ⟨v, rfl, e1, by omega⟩
  | none =>
    obtain ⟨v, e1, e2, e3⟩ := fi_some l (b + tot l) hok hb h
    exact ⟨v, e1, by omega, by omega⟩
/-- Where the round of a moment began. -/
def base (l : List Step) (fr a : Int) : Int := a - (a - fr) % tot l
theorem base_in {l : List Step} (hok : Ok l) (hn : l ≠ []) (fr a : Int) : base l fr a ≤ a ∧ a < base l fr a + tot l := by
  have h := tot_pos hok hn
  have h1 := Int.emod_nonneg (a - fr) (show tot l ≠ 0 by omega)
  have h2 := Int.emod_lt_of_pos (a - fr) (show 0 < tot l by omega)
  unfold base
  omega
theorem base_ge {l : List Step} (hok : Ok l) (hn : l ≠ []) {fr a : Int} (h : fr ≤ a) : fr ≤ base l fr a := by
  have h0 := tot_pos hok hn
  have h1 := Int.mul_ediv_add_emod (a - fr) (tot l)
  have h2 := Int.mul_nonneg (show 0 ≤ tot l by omega) (Int.ediv_nonneg (show 0 ≤ a - fr by omega) (show 0 ≤ tot l by omega))
  unfold base
  omega
theorem base_eq {l : List Step} (hok : Ok l) (hn : l ≠ []) (fr a a' : Int) (k : Int) (h1 : base l fr a + k * tot l ≤ a') (h2 : a' < base l fr a + k * tot l + tot l) : base l fr a' = base l fr a + k * tot l := by
  have h0 := tot_pos hok hn
  have e0 := Int.mul_ediv_add_emod (a - fr) (tot l)
  unfold base at h1 h2 ⊢
  have e : (a' - fr) % tot l = a' - (a - (a - fr) % tot l + k * tot l) := by
    have e2 : a' - fr = a' - (a - (a - fr) % tot l + k * tot l) + tot l * ((a - fr) / tot l + k) := by
      rw [Int.mul_add, Int.mul_comm (tot l) k]; omega
    rw [e2, Int.add_mul_emod_self_left]
    exact Int.emod_eq_of_lt (by omega) (by omega)
  rw [e]; omega
/-- **The next step's beginning is as good a start.** -/
theorem un_next {l : List Step} {item : ByteArray} {fr a : Int} (hok : Ok l) (hm : item ∈ l.map (·.1)) :
    ∃ x b, stAt l a (base l fr a) = (x, b) ∧ b ≤ a ∧ a < b + x.2 ∧ base l fr a ≤ b ∧ (b = a → x.1 = item → un l item (base l fr a) a = some a) ∧ (¬ (b = a ∧ x.1 = item) → un l item (base l fr (b + x.2)) (b + x.2) = un l item (base l fr a) a ∧ b + x.2 ≤ base l fr a + tot l) := by
  have hn : l ≠ [] := by rintro rfl; cases hm
  obtain ⟨b1, b2⟩ := base_in hok hn fr a
  have hT := tot_pos hok hn
  generalize hB : base l fr a = B at *
  obtain ⟨p, x, q, e1, e2, e3, e4⟩ := split_at l a B hok b1 b2
  have hp : Ok p := fun s hs => hok s (by rw [e1]; exact List.mem_append_left _ hs)
  have hq : Ok q := fun s hs => hok s (by rw [e1]; exact List.mem_append_right _ (List.mem_cons_of_mem _ hs))
  have hx := hok x (by rw [e1]; simp)
  have tp := tot_le hp
  have tq := tot_le hq
  have ht : tot l = tot p + (x.2 + tot q) := by rw [e1, tot_app, tot]
  refine ⟨x, B + tot p, e2, e3, e4, by omega, fun hb hi => ?_, fun hno => ?_⟩
  · unfold un
    have : fi item a l B = some a := by
      rw [e1, fi_skip p _ B hp (by omega), fi, if_pos ⟨hi, by omega⟩, hb]
    rw [this]
  · have f1 : fi item a l B = fi item a q (B + tot p + x.2) := by
      rw [e1, fi_skip p _ B hp (by omega), fi, if_neg]
      rintro ⟨h1, h2⟩
      exact hno ⟨by omega, h1⟩
    refine ⟨?_, by omega⟩
    generalize ha : B + tot p + x.2 = a' at *
    by_cases hqe : q = []
    · have ea : a' = B + tot l := by rw [ht, hqe, tot]; omega
      have eb : base l fr a' = B + tot l := by
        have := base_eq hok hn fr a a' 1 (by rw [hB]; omega) (by rw [hB]; omega)
        rw [this, hB]; omega
      rw [eb]
      unfold un
      rw [f1, hqe, fi]
      obtain ⟨v, h1, -, -⟩ := fi_some (item := item) (a := a') l (B + tot l) hok (by omega) hm
      rw [h1]
      show some v = fi item a l (B + tot l)
      rw [fi_from l (B + tot l) hok (a := a) (a' := a') (by omega) (by omega), h1]
    · have h5 := List.length_pos_iff.2 hqe
      have eb : base l fr a' = B := by
        have := base_eq hok hn fr a a' 0 (by rw [hB]; omega) (by rw [hB]; omega)
        rw [this, hB]; omega
      rw [eb]
      unfold un
      rw [f1]
      have f2 : fi item a' l B = fi item a' q a' := by
        have e1' : l = (p ++ [x]) ++ q := by rw [e1]; simp
        rw [e1', fi_skip (p ++ [x]) q B (fun s hs => by rcases List.mem_append.1 hs with h | h; exact hp s h; rw [List.mem_singleton.1 h]; exact hx) (by rw [tot_app, tot, tot]; omega), tot_app, tot, tot]
        congr 1; omega
      rw [f2, fi_from q a' hq (a := a') (a' := a) (by omega) (by omega), fi_from l (B + tot l) hok (a := a') (a' := a) (by omega) (by omega)]
/-- The steps of an item. -/
def its (l : List Step) (k : ByteArray) : List Step := l.filter (fun s => decide (s.1 = k))
def has (ks : List ByteArray) (k : ByteArray) : Bool := ks.any (fun p => decide (p = k))
theorem has_iff {ks : List ByteArray} {k : ByteArray} : has ks k = true ↔ k ∈ ks := by
  unfold has; rw [List.any_eq_true]
  exact ⟨fun ⟨x, h, e⟩ => (of_decide_eq_true e) ▸ h, fun h => ⟨k, h, decide_eq_true rfl⟩⟩
/-- The items, each once, as they come. -/
def nub : List Step → List ByteArray → List ByteArray
  | [], ks => ks
  | s :: l, ks => nub l (if has ks s.1 = true then ks else ks ++ [s.1])
theorem nub_mem : ∀ (l : List Step) (ks : List ByteArray) (k : ByteArray), k ∈ nub l ks ↔ k ∈ ks ∨ k ∈ l.map (·.1) := by
  intro l
  induction l with
  | nil => intro ks k; simp [nub]
  | cons s l ih =>
    intro ks k
    rw [nub, ih, List.map_cons, List.mem_cons]
    by_cases h : has ks s.1 = true
    · rw [if_pos h]
      constructor
      · rintro (h1 | h1); exact .inl h1; exact .inr (.inr h1)
      · rintro (h1 | h1 | h1); exact .inl h1; exact .inl (h1 ▸ has_iff.1 h); exact .inr h1
    · rw [if_neg h, List.mem_append, List.mem_singleton]
      constructor
      · rintro ((h1 | h1) | h1); exact .inl h1; exact .inr (.inl h1); exact .inr (.inr h1)
      · rintro (h1 | h1 | h1); exact .inl (.inl h1); exact .inl (.inr h1); exact .inr h1
theorem nub_nodup : ∀ (l : List Step) (ks : List ByteArray), ks.Nodup → (nub l ks).Nodup := by
  intro l
  induction l with
  | nil => intro ks h; exact h
  | cons s l ih =>
    intro ks h
    rw [nub]
    by_cases h1 : has ks s.1 = true
    · rw [if_pos h1]; exact ih ks h
    · rw [if_neg h1]
      refine ih _ (List.nodup_append.2 ⟨h, by simp, fun a ha b hb => ?_⟩)
      rw [List.mem_singleton] at hb
      rintro rfl
      exact h1 (has_iff.2 (hb ▸ ha))
theorem its_snoc (l : List Step) (s : Step) (k : ByteArray) : its (l ++ [s]) k = its l k ++ (if s.1 = k then [s] else []) := by
  unfold its
  rw [List.filter_append]
  congr 1
  by_cases h : s.1 = k
  · rw [if_pos h, List.filter_cons, if_pos (by simpa using h)]; rfl
  · rw [if_neg h, List.filter_cons, if_neg (by simpa using h)]; rfl
theorem nub_snoc : ∀ (l : List Step) (s : Step) (ks : List ByteArray), nub (l ++ [s]) ks = if has (nub l ks) s.1 = true then nub l ks else nub l ks ++ [s.1] := by
  intro l
  induction l with
  | nil => intro s ks; rfl
  | cons a l ih => intro s ks; rw [List.cons_append, nub, ih, nub]
theorem its_le {l : List Step} (h : Ok l) (k : ByteArray) : 0 ≤ tot (its l k) ∧ tot (its l k) ≤ tot l ∧ (its l k).length ≤ l.length := by
  induction l with
  | nil => simp [its, tot]
  | cons s l ih =>
    obtain ⟨h1, h2, h4⟩ := ih (fun x hx => h x (List.mem_cons_of_mem _ hx))
    have h3 := h s List.mem_cons_self
    unfold its at *
    rw [List.filter_cons, tot, List.length_cons]
    split
    · rw [tot, List.length_cons]; omega
    · omega
open Go
abbrev Bs := List UInt8
def leB (x y : Bs) : Bool := decide (x ≤ y)
theorem le_tr (x y z : Bs) : leB x y = true → leB y z = true → leB x z = true := fun h1 h2 => decide_eq_true (List.le_trans (of_decide_eq_true h1) (of_decide_eq_true h2))
theorem le_to (x y : Bs) : (leB x y || leB y x) = true := by
  rcases List.le_total x y with h | h
  · rw [show leB x y = true from decide_eq_true h]; rfl
  · rw [show leB y x = true from decide_eq_true h, Bool.or_true]
theorem le_as {x y : Bs} (h1 : leB x y = true) (h2 : leB y x = true) : x = y := List.le_antisymm (of_decide_eq_true h1) (of_decide_eq_true h2)
theorem le_rf (x : Bs) : leB x x = true := by have := le_to x x; rwa [Bool.or_self] at this
theorem ms_sorted (l : List Bs) : (l.mergeSort leB).Pairwise (fun x y => leB x y = true) := List.pairwise_mergeSort le_tr le_to l
theorem keeps_at {zs : List Bs} {j : Nat} : Lib.keeps zs.toArray j = true ↔ j = 0 ∨ zs[j]! ≠ zs[j - 1]! := by
  simp [Lib.keeps]
theorem compact_mem (zs : List Bs) (x : Bs) : x ∈ Lib.compact zs ↔ x ∈ zs := by
  unfold Lib.compact Lib.compactUpTo
  rw [List.mem_map]
  constructor
  · rintro ⟨j, hj, rfl⟩
    have := List.mem_range.1 (List.mem_filter.1 hj).1
    rw [show (zs.toArray)[j]! = zs[j]! by simp, getElem!_pos zs j this]
    exact List.getElem_mem _
  · intro h
    obtain ⟨j, hj, e⟩ := List.getElem_of_mem h
    induction j with
    | zero => exact ⟨0, List.mem_filter.2 ⟨List.mem_range.2 hj, keeps_at.2 (.inl rfl)⟩, by rw [show (zs.toArray)[0]! = zs[0]! by simp, getElem!_pos zs 0 hj, e]⟩
    | succ j ih =>
      by_cases hk : Lib.keeps zs.toArray (j + 1) = true
      · exact ⟨j + 1, List.mem_filter.2 ⟨List.mem_range.2 hj, hk⟩, by rw [show (zs.toArray)[j + 1]! = zs[j + 1]! by simp, getElem!_pos zs (j + 1) hj, e]⟩
      · have h1 := mt keeps_at.2 hk
        simp only [not_or, Nat.add_sub_cancel, ne_eq, Classical.not_not] at h1
        rw [getElem!_pos zs (j + 1) hj, getElem!_pos zs j (by omega)] at h1
        exact ih (by omega) (h1.2 ▸ e)
theorem compact_lt (zs : List Bs) (hs : zs.Pairwise (fun x y => leB x y = true)) : (Lib.compact zs).Pairwise (fun x y => leB x y = true ∧ x ≠ y) := by
  unfold Lib.compact Lib.compactUpTo
  rw [List.pairwise_map, List.pairwise_filter]
  have hr := List.pairwise_lt_range (n := zs.length)
  refine (List.pairwise_iff_getElem.2 fun i j hi hj hij => ?_)
  simp only [List.getElem_range, List.length_range] at hi hj ⊢
  intro _ hk
  rw [show (zs.toArray)[i]! = zs[i]! by simp, show (zs.toArray)[j]! = zs[j]! by simp, getElem!_pos zs i hi, getElem!_pos zs j hj]
  have hij' := List.pairwise_iff_getElem.1 hs i j hi hj hij
  refine ⟨hij', fun e => ?_⟩
  rcases keeps_at.1 hk with h0 | h0
  · omega
  rw [getElem!_pos zs j hj, getElem!_pos zs (j - 1) (by omega)] at h0
  have h2 := List.pairwise_iff_getElem.1 hs (j - 1) j (by omega) hj (by omega)
  by_cases h3 : i = j - 1
  · subst h3; exact h0 e.symm
  · have h4 := List.pairwise_iff_getElem.1 hs i (j - 1) hi (by omega) (by omega)
    rw [e] at h4
    exact h0 (le_as h4 h2)
theorem lt_nodup {l : List Bs} (h : l.Pairwise (fun x y => leB x y = true ∧ x ≠ y)) : l.Nodup := h.imp (fun h => h.2)
/-- Strings in order, each once, are told by which there are. -/
theorem lt_unique {l m : List Bs} (hl : l.Pairwise (fun x y => leB x y = true ∧ x ≠ y)) (hm : m.Pairwise (fun x y => leB x y = true ∧ x ≠ y)) (h : ∀ x, x ∈ l ↔ x ∈ m) : l = m :=
  List.Perm.eq_of_pairwise (le := fun x y => leB x y = true) (fun _ _ _ _ h1 h2 => le_as h1 h2) (hl.imp (fun h => h.1)) (hm.imp (fun h => h.1)) ((List.perm_ext_iff_of_nodup (lt_nodup hl) (lt_nodup hm)).2 h)
/-- The keys of a map in order are the items in order, each once. -/
theorem sorted_eq {ks ss zs : List Bs} (hp : ss.Perm ks) (hn : ks.Nodup) (h : ∀ x, x ∈ ks ↔ x ∈ zs) : ss.mergeSort leB = Lib.compact (zs.mergeSort leB) := by
  refine lt_unique ?_ (compact_lt _ (ms_sorted zs)) (fun x => ?_)
  · have h1 := ms_sorted ss
    have h2 : (ss.mergeSort leB).Nodup := ((List.mergeSort_perm ss leB).trans hp).nodup_iff.2 hn
    exact List.pairwise_iff_getElem.2 fun i j hi hj hij => ⟨List.pairwise_iff_getElem.1 h1 i j hi hj hij, fun e => by have := List.pairwise_iff_getElem.1 h2 i j hi hj hij; exact this e⟩
  · rw [compact_mem, List.mem_mergeSort, List.mem_mergeSort, hp.mem_iff, h]
end Go.Proofs.YtfillnkebohciaaGreatDoor.Come
