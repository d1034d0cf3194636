/- Loops as small as can be: the plain model. -/
import Derived.Test.YtlfobpjefklccaaDoorRound
namespace Go.Proofs.YtlfobpjefklccaaDoor.H
open Go.RowKit
open L (Lp own)

mutual
def beq : Lp → Lp → Bool
  | .mk a b c d ks s, .mk a' b' c' d' ks' s' => (a == a' && b.toList == b'.toList && c == c' && d == d') && (decide (s = s') && beqL ks ks')
def beqL : List Lp → List Lp → Bool
  | [], [] => true
  | x :: xs, y :: ys => beq x y && beqL xs ys
  | _, _ => false
end
theorem bytes_eq {a b : ByteArray} (h : a.toList = b.toList) : a = b := ByteArray.ext (Array.toList_inj.1 (by simpa [ByteArray.toList_eq] using h))
mutual
theorem beq_eq : ∀ (x y : Lp), beq x y = true → x = y
  | .mk a b c d ks s, .mk a' b' c' d' ks' s' => fun h => by
    simp only [beq, Bool.and_eq_true, beq_iff_eq, decide_eq_true_eq] at h
    obtain ⟨⟨⟨⟨h1, h2⟩, h3⟩, h4⟩, h5, h6⟩ := h
    rw [h1, bytes_eq h2, h3, h4, h5, beqL_eq ks ks' h6]
theorem beqL_eq : ∀ (xs ys : List Lp), beqL xs ys = true → xs = ys
  | [], [] => fun _ => rfl
  | x :: xs, y :: ys => fun h => by
    simp only [beqL, Bool.and_eq_true] at h
    rw [beq_eq x y h.1, beqL_eq xs ys h.2]
  | [], _ :: _ => fun h => by simp [beqL] at h
  | _ :: _, [] => fun h => by simp [beqL] at h
end
mutual
theorem beq_refl : ∀ x : Lp, beq x x = true
  | .mk a b c d ks s => by simp [beq, beqL_refl ks]
theorem beqL_refl : ∀ xs : List Lp, beqL xs xs = true
  | [] => rfl
  | x :: xs => by rw [beqL, beq_refl x, beqL_refl xs]; rfl
end
instance : DecidableEq Lp := fun x y => if h : beq x y = true then .isTrue (beq_eq x y h) else .isFalse (fun e => h (e ▸ beq_refl x))
mutual
/-- How many parts. -/
def parts : Lp → Nat
  | .mk _ _ _ _ ks _ => 1 + partsL ks
def partsL : List Lp → Nat
  | [] => 0
  | k :: ks => parts k + partsL ks
end
mutual
/-- No turn and no share in it. -/
def plain : Lp → Bool
  | .mk k _ _ _ ks _ => (k != 3) && (k != 4) && plainL ks
def plainL : List Lp → Bool
  | [] => true
  | k :: ks => plain k && plainL ks
end
theorem parts_eq (x : Lp) : parts x = 1 + partsL x.kids := by cases x; rfl
theorem partsL_append (a b : List Lp) : partsL (a ++ b) = partsL a + partsL b := by
  induction a with
  | nil => simp [partsL]
  | cons x a ih => rw [List.cons_append, partsL, partsL, ih, Nat.add_assoc]
theorem partsL_len (a : List Lp) : a.length ≤ partsL a := by
  induction a with
  | nil => exact Nat.le_refl _
  | cons x a ih => rw [partsL, List.length_cons, parts_eq]; omega
theorem partsL_mem {a : List Lp} {x : Lp} (h : x ∈ a) : parts x ≤ partsL a := by
  induction a with
  | nil => cases h
  | cons y a ih =>
    rw [partsL]
    rcases List.mem_cons.1 h with rfl | h
    · omega
    · have := ih h; omega
def Dp : Nat → Lp → Prop
  | 0, x => x.kids = []
  | n + 1, x => ∀ k ∈ x.kids, Dp n k
theorem eqL_dec {f : Lp → Lp → Bool} : ∀ {xs ys : List Lp}, (∀ x ∈ xs, ∀ y ∈ ys, f x y = decide (x = y)) → L.eqL f xs ys = decide (xs = ys)
  | [], [], _ => rfl
  | [], _ :: _, _ => rfl
  | _ :: _, [], _ => rfl
  | x :: xs, y :: ys, h => by
    rw [L.eqL, h x List.mem_cons_self y List.mem_cons_self, eqL_dec (fun a ha b hb => h a (List.mem_cons_of_mem _ ha) b (List.mem_cons_of_mem _ hb))]
    by_cases h1 : x = y <;> by_cases h2 : xs = ys <;> simp [h1, h2]
theorem lp_ext {x y : Lp} (h1 : x.kind = y.kind) (h2 : x.item = y.item) (h3 : x.long = y.long) (h4 : x.many = y.many) (h5 : x.kids = y.kids) (h6 : x.shares = y.shares) : x = y := by
  cases x; cases y
  have h1' : _ = _ := h1
  have h2' : _ = _ := h2
  have h3' : _ = _ := h3
  have h4' : _ = _ := h4
  have h5' : _ = _ := h5
  have h6' : _ = _ := h6
  simp only [Lp.kind, Lp.item, Lp.long, Lp.many, Lp.kids, Lp.shares] at *
  subst h1 h2 h3 h4 h5 h6
  rfl
theorem sm_step {f : Lp → Lp → Bool} {x y : Lp} (h : L.eqL f x.kids y.kids = decide (x.kids = y.kids)) : ((x.kind == y.kind && x.item.toList == y.item.toList && x.long == y.long && x.many == y.many) && (decide (x.shares = y.shares) && L.eqL f x.kids y.kids)) = decide (x = y) := by
  rw [h]
  by_cases he : x = y
  · subst he; simp
  · rw [decide_eq_false he]
    rw [Bool.eq_false_iff]
    intro ht
    simp only [Bool.and_eq_true, beq_iff_eq, decide_eq_true_eq] at ht
    obtain ⟨⟨⟨⟨h1, h2⟩, h3⟩, h4⟩, h5, h6⟩ := ht
    exact he (lp_ext h1 (bytes_eq h2) h3 h4 h6 h5)
theorem sm_eq : ∀ (n : Nat) (x y : Lp), Dp n x → Dp n y → L.sm (n + 1) x y = decide (x = y) := by
  intro n
  induction n with
  | zero =>
    intro x y hx hy
    have hx' : x.kids = [] := hx
    have hy' : y.kids = [] := hy
    rw [L.sm]
    exact sm_step (by rw [hx', hy']; rfl)
  | succ n ih =>
    intro x y hx hy
    rw [L.sm]
    exact sm_step (eqL_dec (fun a ha b hb => ih a b (hx a ha) (hy b hb)))
theorem at_dp : ∀ (n : Nat) (w : World) (x : Lp) (A As : Option Addr), L.At n w x A As → Dp n x := by
  intro n
  induction n with
  | zero =>
    intro w x A As h
    exact List.eq_nil_of_length_eq_zero (Nat.eq_zero_of_not_pos fun hq => by obtain ⟨_, _, _, _, _, _, _, _, e, _⟩ := L.kid_at h.1 0 hq; omega)
  | succ n ih =>
    intro w x A As h k hk
    obtain ⟨j, hj, rfl⟩ := List.getElem_of_mem hk
    obtain ⟨_, _, m', A', As', _, _, _, e', hat, _⟩ := L.kid_at h.1 j hj
    obtain rfl : n = m' := by omega
    exact ih w _ _ _ hat

/-! ### one change -/
def rp (it : Lp) (m : Int) : Lp := .mk 5 ⟨#[]⟩ 0 m [it] []
def rowL (ks : List Lp) : Lp := .mk 2 ⟨#[]⟩ 0 0 ks []
/-- The item that a part plays alone, and how often. -/
def cnt (x : Lp) : Option (Lp × Nat) := if x.kind = 1 then some (x, 1) else if x.kind = 5 then (match x.kids with | [] => none | k :: _ => if k.kind = 1 then some (k, x.many.toNat) else none) else none
def flat (l : List Lp) : List Lp := l.flatMap fun k => if k.kind = 2 then k.kids else [k]
def reps (it : Lp) (n : Nat) : List Lp := List.replicate (n / 100) (rp it 100) ++ (if n % 100 = 0 then [] else if n % 100 = 1 then [it] else [rp it (n % 100 : Nat)])
/-- How often an item comes at once, and what follows. -/
def grp (it : Lp) : List Lp → Nat → Nat × List Lp
  | [], n => (n, [])
  | x :: xs, n => match cnt x with
    | some (i, m) => if i = it then grp it xs (n + m) else (n, x :: xs)
    | none => (n, x :: xs)
theorem grp_len (it : Lp) : ∀ (xs : List Lp) (n : Nat), (grp it xs n).2.length ≤ xs.length := by
  intro xs
  induction xs with
  | nil => intro n; exact Nat.le_refl _
  | cons x xs ih =>
    intro n
    rw [grp]
    split
    · split
      · exact Nat.le_trans (ih _) (by simp)
      · exact Nat.le_refl _
    · exact Nat.le_refl _
def mrgF : Nat → List Lp → List Lp
  | 0, _ => []
  | _ + 1, [] => []
  | fu + 1, x :: xs => match cnt x with
    | none => x :: mrgF fu xs
    | some (it, m) => reps it (grp it xs m).1 ++ mrgF fu (grp it xs m).2
theorem mrgF_fuel : ∀ (fu : Nat) (xs : List Lp), xs.length ≤ fu → mrgF fu xs = mrgF xs.length xs := by
  intro fu
  induction fu using Nat.strongRecOn with
  | ind fu ih =>
    intro xs h
    cases xs with
    | nil => cases fu <;> rfl
    | cons x xs =>
      cases fu with
      | zero => simp at h
      | succ fu =>
        simp only [List.length_cons] at h ⊢
        rw [mrgF, mrgF]
        split
        · rw [ih fu (by omega) xs (by omega)]
        · rename_i it m _
          have h1 := grp_len it xs m
          rw [ih fu (by omega) _ (by omega)]
          by_cases hx : xs.length < fu + 1
          · rw [ih xs.length (by omega) _ h1]
          · omega
/-- Equal items put together. -/
def mrg (xs : List Lp) : List Lp := mrgF xs.length xs
theorem mrg_nil : mrg [] = [] := rfl
theorem mrg_none {x : Lp} (xs : List Lp) (h : cnt x = none) : mrg (x :: xs) = x :: mrg xs := by
  rw [mrg, List.length_cons, mrgF, h]; rfl
theorem mrg_some {x : Lp} (xs : List Lp) {it : Lp} {m : Nat} (h : cnt x = some (it, m)) : mrg (x :: xs) = reps it (grp it xs m).1 ++ mrg (grp it xs m).2 := by
  rw [mrg, List.length_cons, mrgF, h]
  show _ ++ mrgF xs.length _ = _ ++ mrgF _ _
  rw [mrgF_fuel _ _ (grp_len it xs m)]
def gath (l : List Lp) : List Lp := mrg (flat l)
def shr (x : Lp) (s : List Int) : Lp := .mk x.kind x.item x.long x.many x.kids s
def upd (x : Lp) (ks : List Lp) : Lp := .mk x.kind x.item x.long x.many ks x.shares
/-- One change; none: there is none. -/
def ch (x : Lp) : Option Lp :=
  if x.kind = 1 then none else
  match x.kids with
  | [] => none
  | k :: ks =>
    if x.kind = 5 then (if k.kind = 5 ∧ x.many * k.many ≤ 100 then some (.mk 5 ⟨#[]⟩ 0 (x.many * k.many) k.kids []) else if x.many = 1 then some k else none)
    else if ks = [] then some k
    else if x.kind = 2 then (if gath x.kids = x.kids then none else some (rowL (gath x.kids)))
    else if x.kind = 4 then (if 1 < T.gcdL x.shares 0 then some (shr x (x.shares.map fun n => n.tdiv (T.gcdL x.shares 0))) else none)
    else if (∀ y ∈ x.kids, y = k) ∧ plain k = true then some k else none

/-! ### merging twice is merging once -/
theorem cnt_item {x it : Lp} {m : Nat} (h : cnt x = some (it, m)) : it.kind = 1 := by
  unfold cnt at h
  split at h
  · cases h; assumption
  · split at h
    · split at h
      · cases h
      · split at h
        · cases h; assumption
        · cases h
    · cases h
theorem cnt_it {it : Lp} (h : it.kind = 1) : cnt it = some (it, 1) := by unfold cnt; rw [if_pos h]
theorem cnt_rp {it : Lp} (h : it.kind = 1) (m : Int) : cnt (rp it m) = some (it, m.toNat) := by
  unfold cnt
  rw [if_neg (show ¬ (rp it m).kind = 1 from by show ¬ (5 : Int) = 1; omega), if_pos (show (rp it m).kind = 5 from rfl)]
  show (if it.kind = 1 then some (it, m.toNat) else none) = _
  rw [if_pos h]
/-- The first of these is not this item. -/
def Hd (it : Lp) : List Lp → Prop
  | [] => True
  | y :: _ => ∀ m, cnt y ≠ some (it, m)
theorem grp_hd (it : Lp) : ∀ (xs : List Lp) (n : Nat), Hd it (grp it xs n).2 := by
  intro xs
  induction xs with
  | nil => intro n; trivial
  | cons x xs ih =>
    intro n
    rw [grp]
    split
    · rename_i i m hc
      split
      · exact ih _
      · rename_i hne
        intro m' e
        rw [hc] at e
        cases e
        exact hne rfl
    · rename_i hc
      intro m' e
      rw [hc] at e
      cases e
theorem grp_stop {it : Lp} {ys : List Lp} (h : Hd it ys) (n : Nat) : grp it ys n = (n, ys) := by
  cases ys with
  | nil => rfl
  | cons y ys =>
    rw [grp]
    split
    · rename_i i m hc
      split
      · rename_i e; subst e; exact absurd hc (h m)
      · rfl
    · rfl
theorem grp_reps {it : Lp} (hi : it.kind = 1) {ys : List Lp} (h : Hd it ys) (n k : Nat) : grp it (reps it n ++ ys) k = (k + n, ys) := by
  have hrep : ∀ (q k : Nat) (zs : List Lp), grp it (List.replicate q (rp it 100) ++ zs) k = grp it zs (k + 100 * q) := by
    intro q
    induction q with
    | zero => intro k zs; simp
    | succ q ih =>
      intro k zs
      rw [List.replicate_succ, List.cons_append, grp, cnt_rp hi]
      show (if it = it then _ else _) = _
      rw [if_pos rfl, ih]
      congr 1
      show k + 100 + 100 * q = k + 100 * (q + 1)
      omega
  unfold reps
  rw [List.append_assoc, hrep]
  have hd := Nat.div_add_mod n 100
  split
  · rw [List.nil_append, grp_stop h]
    congr 1
    omega
  · split
    · rw [List.singleton_append, grp, cnt_it hi]
      show (if it = it then _ else _) = _
      rw [if_pos rfl, grp_stop h]
      congr 1
      omega
    · rw [List.singleton_append, grp, cnt_rp hi]
      show (if it = it then _ else _) = _
      rw [if_pos rfl, grp_stop h, Int.toNat_natCast]
      congr 1
      omega
theorem reps_cons {it : Lp} (hi : it.kind = 1) {n : Nat} (hn : 1 ≤ n) : ∃ r rs m, reps it n = r :: rs ∧ cnt r = some (it, m) ∧ ∀ ys, Hd it ys → grp it (rs ++ ys) m = (n, ys) := by
  have key : ∀ r rs m, reps it n = r :: rs → cnt r = some (it, m) → ∀ ys, Hd it ys → grp it (rs ++ ys) m = (n, ys) := by
    intro r rs m e hc ys hy
    have := grp_reps hi hy n 0
    rw [e, List.cons_append, grp, hc] at this
    simp only [Nat.zero_add, if_true] at this
    exact this
  cases hr : reps it n with
  | nil =>
    exfalso
    have := congrArg List.length hr
    unfold reps at this
    simp only [List.length_append, List.length_replicate, List.length_nil] at this
    split at this
    · simp only [List.length_nil] at this; omega
    · split at this <;> simp at this
  | cons r rs =>
    have hm : ∃ m, cnt r = some (it, m) := by
      have hmem : r ∈ reps it n := by rw [hr]; exact List.mem_cons_self
      unfold reps at hmem
      rcases List.mem_append.1 hmem with h | h
      · rw [(List.mem_replicate.1 h).2]; exact ⟨_, cnt_rp hi _⟩
      · split at h
        · cases h
        · split at h
          · rw [List.mem_singleton.1 h]; exact ⟨_, cnt_it hi⟩
          · rw [List.mem_singleton.1 h]; exact ⟨_, cnt_rp hi _⟩
    obtain ⟨m, hm⟩ := hm
    exact ⟨r, rs, m, rfl, hm, key r rs m hr hm⟩
theorem grp_ge (it : Lp) : ∀ (xs : List Lp) (n : Nat), n ≤ (grp it xs n).1 := by
  intro xs
  induction xs with
  | nil => intro n; exact Nat.le_refl _
  | cons x xs ih =>
    intro n
    rw [grp]
    split
    · split
      · exact Nat.le_trans (Nat.le_add_right _ _) (ih _)
      · exact Nat.le_refl _
    · exact Nat.le_refl _
/-- Every repeat repeats. -/
def Pos (xs : List Lp) : Prop := ∀ x ∈ xs, ∀ it m, cnt x = some (it, m) → 1 ≤ m ∧ m ≤ 100
theorem grp_sub (it : Lp) : ∀ (xs : List Lp) (n : Nat), ∀ x ∈ (grp it xs n).2, x ∈ xs := by
  intro xs
  induction xs with
  | nil => intro n x h; exact h
  | cons y xs ih =>
    intro n x h
    rw [grp] at h
    split at h
    · split at h
      · exact List.mem_cons_of_mem _ (ih _ x h)
      · exact h
    · exact h
theorem mrg_all : ∀ (k : Nat) (xs : List Lp), xs.length ≤ k → Pos xs → mrg (mrg xs) = mrg xs ∧ ∀ it, Hd it xs → Hd it (mrg xs) := by
  intro k
  induction k with
  | zero =>
    intro xs h _
    obtain rfl : xs = [] := List.eq_nil_of_length_eq_zero (by omega)
    exact ⟨rfl, fun _ h => h⟩
  | succ k ih =>
    intro xs h hp
    cases xs with
    | nil => exact ⟨rfl, fun _ h => h⟩
    | cons x xs =>
      simp only [List.length_cons] at h
      cases hc : cnt x with
      | none =>
        rw [mrg_none xs hc, mrg_none _ hc, (ih xs (by omega) (fun y hy => hp y (List.mem_cons_of_mem _ hy))).1]
        exact ⟨rfl, fun it h => h⟩
      | some r =>
        obtain ⟨it, m⟩ := r
        have hi := cnt_item hc
        have hm := hp x List.mem_cons_self it m hc
        rw [mrg_some xs hc]
        have hn : 1 ≤ (grp it xs m).1 := Nat.le_trans hm.1 (grp_ge it xs m)
        have hhd := grp_hd it xs m
        have hl := grp_len it xs m
        obtain ⟨h1, h2⟩ := ih (grp it xs m).2 (by omega) (fun y hy => hp y (List.mem_cons_of_mem _ (grp_sub it xs m y hy)))
        obtain ⟨r, rs, m', e, hcr, hg⟩ := reps_cons hi hn
        refine ⟨?_, fun it' hh => ?_⟩
        · have h3 := hg _ (h2 it hhd)
          rw [e, List.cons_append, mrg_some _ hcr, h3, h1]
          show reps it _ ++ _ = _
          rw [e]; rfl
        · rw [e]
          intro m'' e2
          rw [hcr] at e2
          cases e2
          exact hh m hc
theorem mrg_mrg {xs : List Lp} (h : Pos xs) : mrg (mrg xs) = mrg xs := (mrg_all _ xs (Nat.le_refl _) h).1

/-! ### right loops stay right, and get smaller -/
/-- A right loop. -/
def Vd (x : Lp) : Prop := ∃ n, T.Gd n x
theorem gd_up : ∀ (n : Nat) (x : Lp), T.Gd n x → T.Gd (n + 1) x := by
  intro n
  induction n with
  | zero => intro x h; exact ⟨h.1, fun k hk => by rw [List.eq_nil_of_length_eq_zero h.2] at hk; cases hk⟩
  | succ n ih => intro x h; exact ⟨h.1, fun k hk => ih k (h.2 k hk)⟩
theorem gd_le {n m : Nat} (h : n ≤ m) : ∀ x, T.Gd n x → T.Gd m x := by
  induction h with
  | refl => exact fun _ h => h
  | step _ ih => exact fun x h => gd_up _ x (ih x h)
theorem Vd.own {x : Lp} (h : Vd x) : L.own x = 0 := h.elim fun _ h => h.own
theorem Vd.kid {x k : Lp} (h : Vd x) (hk : k ∈ x.kids) : Vd k := by
  obtain ⟨n, h⟩ := h
  cases n with
  | zero => rw [List.eq_nil_of_length_eq_zero h.2] at hk; cases hk
  | succ n => exact ⟨n, h.2 k hk⟩
theorem vd_of {x : Lp} (h : L.own x = 0) (hk : ∀ k ∈ x.kids, Vd k) : Vd x := by
  have : ∃ n, ∀ k ∈ x.kids, T.Gd n k := by
    generalize x.kids = ks at hk
    induction ks with
    | nil => exact ⟨0, fun k h => by cases h⟩
    | cons k ks ih =>
      obtain ⟨n, hn⟩ := ih (fun k h => hk k (List.mem_cons_of_mem _ h))
      obtain ⟨m, hm⟩ := hk k List.mem_cons_self
      refine ⟨max n m, fun j hj => ?_⟩
      rcases List.mem_cons.1 hj with rfl | hj
      · exact gd_le (Nat.le_max_right _ _) _ hm
      · exact gd_le (Nat.le_max_left _ _) _ (hn j hj)
  obtain ⟨n, hn⟩ := this
  exact ⟨n + 1, h, hn⟩
theorem own_rp {k : Lp} {m : Int} (h1 : 1 ≤ m) (h2 : m ≤ 100) : L.own (rp k m) = 0 := by
  have hb : L.bad m 1 100 = false := by unfold L.bad; exact decide_eq_false (by omega)
  have hb5 : L.bad 5 1 5 = false := by decide
  simp [L.own, L.fb, rp, Lp.kind, Lp.kids, Lp.shares, Lp.item, Lp.long, Lp.many, hb, hb5]
theorem own_merge {ks : List Lp} {m : Int} (h1 : 1 ≤ m) (h2 : m ≤ 100) (hl : ks.length = 1) : L.own (.mk 5 ⟨#[]⟩ 0 m ks []) = 0 := by
  obtain ⟨k, rfl⟩ : ∃ k, ks = [k] := by
    cases ks with
    | nil => simp at hl
    | cons k ks => exact ⟨k, by rw [List.eq_nil_of_length_eq_zero (show ks.length = 0 by simpa using hl)]⟩
  exact own_rp h1 h2
theorem own_row {ks : List Lp} (h : ks ≠ []) : L.own (rowL ks) = 0 := by
  have hl : ¬ ((ks.length : Int) = 0) := by
    have := List.length_pos_iff.2 h
    omega
  simp [L.own, L.fb, rowL, Lp.kind, Lp.kids, Lp.shares, Lp.item, Lp.long, Lp.many, L.bad, h]
theorem vd_item {x : Lp} (h : Vd x) (hk : x.kind = 1) : x.kids = [] ∧ parts x = 1 := by
  have := List.eq_nil_of_length_eq_zero ((T.own_ok h.own).2.1 hk)
  exact ⟨this, by rw [parts_eq, this]; rfl⟩
theorem vd_cnt {x it : Lp} {m : Nat} (h : Vd x) (hc : cnt x = some (it, m)) : Vd it ∧ it.kind = 1 ∧ 1 ≤ m ∧ m ≤ 100 ∧ ((parts x = 1 ∧ m = 1) ∨ parts x = 2) := by
  have hi := cnt_item hc
  unfold cnt at hc
  split at hc
  · rename_i h1
    cases hc
    exact ⟨h, hi, Nat.le_refl _, by omega, .inl ⟨(vd_item h h1).2, rfl⟩⟩
  · split at hc
    · rename_i h5
      have ho := (T.own_ok h.own).2.2.2.1 h5
      cases hks : x.kids with
      | nil => rw [hks] at hc; cases hc
      | cons k ks =>
        rw [hks] at hc
        simp only at hc
        split at hc
        · cases hc
          have hv : Vd it := h.kid (by rw [hks]; exact List.mem_cons_self)
          have hks0 : ks = [] := by
            have := ho.1
            rw [hks] at this
            exact List.eq_nil_of_length_eq_zero (by simpa using this)
          refine ⟨hv, hi, by omega, by omega, .inr ?_⟩
          rw [parts_eq, hks, hks0, partsL, partsL, (vd_item hv hi).2]
        · cases hc
    · cases hc
theorem vd_pos {xs : List Lp} (h : ∀ x ∈ xs, Vd x) : Pos xs := fun x hx it m hc => by
  obtain ⟨_, _, h1, h2, _⟩ := vd_cnt (h x hx) hc
  exact ⟨h1, h2⟩
theorem vd_reps {it : Lp} (h : Vd it) (n : Nat) : ∀ x ∈ reps it n, Vd x := by
  intro x hx
  unfold reps at hx
  have hr : ∀ m : Int, 1 ≤ m → m ≤ 100 → Vd (rp it m) := fun m h1 h2 => vd_of (own_rp h1 h2) (fun k hk => by
    have : k ∈ [it] := hk
    rw [List.mem_singleton.1 this]; exact h)
  rcases List.mem_append.1 hx with hx | hx
  · rw [(List.mem_replicate.1 hx).2]; exact hr _ (by omega) (by omega)
  · split at hx
    · cases hx
    · split at hx
      · rw [List.mem_singleton.1 hx]; exact h
      · rw [List.mem_singleton.1 hx]
        have := Nat.mod_lt n (show 0 < 100 by omega)
        exact hr _ (by omega) (by omega)
theorem parts_reps {it : Lp} (h : parts it = 1) (n a b : Nat) (hn : n ≤ a + 100 * b) : partsL (reps it n) ≤ a + 2 * b := by
  have hrp : ∀ m : Int, parts (rp it m) = 2 := fun m => by rw [parts_eq]; show 1 + partsL [it] = 2; rw [partsL, partsL, h]
  have hrep : ∀ q, partsL (List.replicate q (rp it 100)) = 2 * q := by
    intro q
    induction q with
    | zero => rfl
    | succ q ih => rw [List.replicate_succ, partsL, hrp, ih]; omega
  unfold reps
  rw [partsL_append, hrep]
  have hd := Nat.div_add_mod n 100
  have hl := Nat.mod_lt n (show 0 < 100 by omega)
  split
  · rw [partsL]; omega
  · split
    · rw [partsL, partsL, h]; omega
    · rw [partsL, partsL, hrp]; omega
theorem parts_grp (it : Lp) : ∀ (xs : List Lp) (n a b : Nat), (∀ x ∈ xs, Vd x) → n ≤ a + 100 * b → ∃ a' b', (grp it xs n).1 ≤ a' + 100 * b' ∧ a' + 2 * b' + partsL (grp it xs n).2 ≤ a + 2 * b + partsL xs := by
  intro xs
  induction xs with
  | nil => intro n a b _ h; exact ⟨a, b, h, Nat.le_refl _⟩
  | cons x xs ih =>
    intro n a b hv h
    rw [grp]
    split
    · rename_i i m hc
      split
      · obtain ⟨_, _, h1, h2, h3⟩ := vd_cnt (hv x List.mem_cons_self) hc
        rcases h3 with ⟨h3, h4⟩ | h3
        · obtain ⟨a', b', q1, q2⟩ := ih (n + m) (a + 1) b (fun y hy => hv y (List.mem_cons_of_mem _ hy)) (by omega)
          exact ⟨a', b', q1, by rw [partsL]; omega⟩
        · obtain ⟨a', b', q1, q2⟩ := ih (n + m) a (b + 1) (fun y hy => hv y (List.mem_cons_of_mem _ hy)) (by omega)
          exact ⟨a', b', q1, by rw [partsL]; omega⟩
      · exact ⟨a, b, h, Nat.le_refl _⟩
    · exact ⟨a, b, h, Nat.le_refl _⟩
theorem mrg_vd : ∀ (k : Nat) (xs : List Lp), xs.length ≤ k → (∀ x ∈ xs, Vd x) → (∀ x ∈ mrg xs, Vd x) ∧ partsL (mrg xs) ≤ partsL xs ∧ (xs ≠ [] → mrg xs ≠ []) ∧ ((∀ x ∈ xs, x.kind ≠ 2) → ∀ x ∈ mrg xs, x.kind ≠ 2) := by
  intro k
  induction k with
  | zero =>
    intro xs h _
    obtain rfl : xs = [] := List.eq_nil_of_length_eq_zero (by omega)
    exact ⟨(fun x h => by cases h), Nat.le_refl _, fun h => absurd rfl h, (fun _ x h => by cases h)⟩
  | succ k ih =>
    intro xs h hv
    cases xs with
    | nil => exact ⟨(fun x h => by cases h), Nat.le_refl _, fun h => absurd rfl h, (fun _ x h => by cases h)⟩
    | cons x xs =>
      simp only [List.length_cons] at h
      cases hc : cnt x with
      | none =>
        rw [mrg_none xs hc]
        obtain ⟨h1, h2, -, h4⟩ := ih xs (by omega) (fun y hy => hv y (List.mem_cons_of_mem _ hy))
        refine ⟨fun y hy => ?_, by rw [partsL, partsL]; omega, fun _ => by simp, fun hk y hy => ?_⟩
        · rcases List.mem_cons.1 hy with rfl | hy
          · exact hv _ List.mem_cons_self
          · exact h1 y hy
        · rcases List.mem_cons.1 hy with rfl | hy
          · exact hk _ List.mem_cons_self
          · exact h4 (fun z hz => hk z (List.mem_cons_of_mem _ hz)) y hy
      | some r =>
        obtain ⟨it, m⟩ := r
        obtain ⟨hvi, hi, m1, m2, m3⟩ := vd_cnt (hv x List.mem_cons_self) hc
        rw [mrg_some xs hc]
        have hl := grp_len it xs m
        obtain ⟨h1, h2, -, h4⟩ := ih (grp it xs m).2 (by omega) (fun y hy => hv y (List.mem_cons_of_mem _ (grp_sub it xs m y hy)))
        obtain ⟨r, rs, m', e, hcr, -⟩ := reps_cons hi (Nat.le_trans m1 (grp_ge it xs m))
        have hpi := (vd_item hvi hi).2
        refine ⟨fun y hy => ?_, ?_, fun _ => by rw [e]; simp, fun hk y hy => ?_⟩
        · rcases List.mem_append.1 hy with hy | hy
          · exact vd_reps hvi _ y hy
          · exact h1 y hy
        · rw [partsL_append, partsL]
          rcases m3 with ⟨m3, m4⟩ | m3
          · obtain ⟨a', b', q1, q2⟩ := parts_grp it xs m 1 0 (fun y hy => hv y (List.mem_cons_of_mem _ hy)) (by omega)
            have := parts_reps hpi _ a' b' q1
            omega
          · obtain ⟨a', b', q1, q2⟩ := parts_grp it xs m 0 1 (fun y hy => hv y (List.mem_cons_of_mem _ hy)) (by omega)
            have := parts_reps hpi _ a' b' q1
            omega
        · rcases List.mem_append.1 hy with hy | hy
          · unfold reps at hy
            rcases List.mem_append.1 hy with hy | hy
            · rw [(List.mem_replicate.1 hy).2]; show (5 : Int) ≠ 2; omega
            · split at hy
              · cases hy
              · split at hy
                · rw [List.mem_singleton.1 hy, hi]; omega
                · rw [List.mem_singleton.1 hy]; show (5 : Int) ≠ 2; omega
          · exact h4 (fun z hz => hk z (List.mem_cons_of_mem _ (grp_sub it xs m z hz))) y hy
theorem flat_vd {l : List Lp} (h : ∀ x ∈ l, Vd x) : (∀ x ∈ flat l, Vd x) ∧ partsL (flat l) ≤ partsL l ∧ (l ≠ [] → flat l ≠ []) ∧ ((∃ x ∈ l, x.kind = 2) → partsL (flat l) < partsL l) ∧ ((∀ x ∈ l, x.kind ≠ 2) → flat l = l) := by
  induction l with
  | nil => exact ⟨(fun x h => by cases h), Nat.le_refl _, fun h => absurd rfl h, (fun ⟨x, h, _⟩ => by cases h), fun _ => rfl⟩
  | cons k l ih =>
    obtain ⟨h1, h2, h3, h4, h5⟩ := ih (fun x hx => h x (List.mem_cons_of_mem _ hx))
    have hk := h k List.mem_cons_self
    have e : flat (k :: l) = (if k.kind = 2 then k.kids else [k]) ++ flat l := by unfold flat; rw [List.flatMap_cons]
    rw [e, partsL_append, partsL]
    by_cases h2k : k.kind = 2
    · rw [if_pos h2k]
      have hp := parts_eq k
      refine ⟨fun x hx => ?_, by omega, fun _ => ?_, fun _ => by omega, fun hn => absurd h2k (hn k List.mem_cons_self)⟩
      · rcases List.mem_append.1 hx with hx | hx
        · exact hk.kid hx
        · exact h1 x hx
      · have := (T.own_ok hk.own).2.2.1 (by omega)
        intro e2
        have e3 := congrArg List.length e2
        simp only [List.length_append, List.length_nil] at e3
        omega
    · rw [if_neg h2k]
      refine ⟨fun x hx => ?_, by rw [partsL, partsL]; omega, fun _ => by simp, fun ⟨x, hx, hx2⟩ => ?_, fun hn => ?_⟩
      · rcases List.mem_append.1 hx with hx | hx
        · rw [List.mem_singleton.1 hx]; exact hk
        · exact h1 x hx
      · rcases List.mem_cons.1 hx with rfl | hx
        · exact absurd hx2 h2k
        · have := h4 ⟨x, hx, hx2⟩
          rw [partsL, partsL]; omega
      · rw [h5 (fun x hx => hn x (List.mem_cons_of_mem _ hx))]; rfl
theorem gath_vd {l : List Lp} (h : ∀ x ∈ l, Vd x) : (∀ x ∈ gath l, Vd x) ∧ partsL (gath l) ≤ partsL l ∧ (l ≠ [] → gath l ≠ []) := by
  obtain ⟨f1, f2, f3, -, -⟩ := flat_vd h
  obtain ⟨m1, m2, m3, -⟩ := mrg_vd _ (flat l) (Nat.le_refl _) f1
  exact ⟨m1, Nat.le_trans m2 f2, fun hl => m3 (f3 hl)⟩
/-- How far from as small as can be. -/
def mu (x : Lp) : Nat := 2 * parts x + (if (x.kind = 2 ∧ gath x.kids ≠ x.kids) ∨ (x.kind = 4 ∧ 1 < T.gcdL x.shares 0) then 1 else 0)
theorem mu_le (x : Lp) : mu x ≤ 2 * parts x + 1 := by unfold mu; split <;> omega
theorem gath_row {l : List Lp} (h : ∀ x ∈ l, Vd x) : partsL (gath l) < partsL l ∨ gath (gath l) = gath l := by
  obtain ⟨f1, f2, f3, f4, f5⟩ := flat_vd h
  obtain ⟨m1, m2, m3, m4⟩ := mrg_vd _ (flat l) (Nat.le_refl _) f1
  by_cases hr : ∃ x ∈ l, x.kind = 2
  · exact .inl (Nat.lt_of_le_of_lt m2 (f4 hr))
  · have hn : ∀ x ∈ l, x.kind ≠ 2 := fun x hx e => hr ⟨x, hx, e⟩
    have hf := f5 hn
    refine .inr ?_
    have hg : ∀ x ∈ gath l, x.kind ≠ 2 := by unfold gath; rw [hf]; rw [hf] at m4; exact m4 hn
    have h2 := (flat_vd m1).2.2.2.2 hg
    show mrg (flat (gath l)) = gath l
    have h3 : flat (gath l) = gath l := h2
    rw [h3]
    exact mrg_mrg (vd_pos f1)
theorem gcdL_dvd : ∀ (l : List Int) (g : Nat), T.gcdL l g ∣ g ∧ ∀ n ∈ l, T.gcdL l g ∣ n.toNat := by
  intro l
  induction l with
  | nil => intro g; exact ⟨Nat.dvd_refl _, fun n h => by cases h⟩
  | cons n ns ih =>
    intro g
    rw [T.gcdL]
    obtain ⟨h1, h2⟩ := ih (Nat.gcd g n.toNat)
    refine ⟨Nat.dvd_trans h1 (Nat.gcd_dvd_left _ _), fun m hm => ?_⟩
    rcases List.mem_cons.1 hm with rfl | hm
    · exact Nat.dvd_trans h1 (Nat.gcd_dvd_right _ _)
    · exact h2 m hm
theorem gcdL_div {d : Nat} : ∀ (l : List Int) (g : Nat), d ∣ g → (∀ n ∈ l, 0 ≤ n ∧ d ∣ n.toNat) → T.gcdL (l.map fun n => n.tdiv d) (g / d) = T.gcdL l g / d := by
  intro l
  induction l with
  | nil => intro g _ _; rfl
  | cons n ns ih =>
    intro g hg h
    obtain ⟨h0, h1⟩ := h n List.mem_cons_self
    rw [List.map_cons, T.gcdL, T.gcdL]
    have e : (n.tdiv d).toNat = n.toNat / d := by
      obtain ⟨m, rfl⟩ : ∃ m : Nat, n = m := ⟨n.toNat, by omega⟩
      rw [Int.tdiv_eq_ediv_of_nonneg (by omega), Int.toNat_natCast]
      rfl
    rw [e, Nat.gcd_div hg h1]
    exact ih _ (Nat.dvd_gcd hg h1) (fun m hm => h m (List.mem_cons_of_mem _ hm))
theorem own_shr {x : Lp} {s : List Int} (h : L.own x = 0) (hk : x.kind = 4) (hl : s.length = x.shares.length) (hs : ∀ n ∈ s, 1 ≤ n ∧ n ≤ 1000) : L.own (shr x s) = 0 := by
  have hf : L.fb (shr x s) = L.fb x := by unfold L.fb; rw [show (shr x s).shares = s from rfl, hl]; rfl
  have ha : s.any (fun n => L.bad n 1 1000) = false := by
    rw [List.any_eq_false]
    intro n hn
    have := hs n hn
    simp [L.bad]
    omega
  unfold L.own at h ⊢
  rw [hf]
  have hk' : (shr x s).kind = 4 := hk
  simp only [show (shr x s).kind = x.kind from rfl, show (shr x s).shares = s from rfl, show (shr x s).item = x.item from rfl, show (shr x s).long = x.long from rfl, show (shr x s).many = x.many from rfl, ha] at *
  split at h
  · omega
  · rename_i h1
    rw [if_neg h1]
    split at h
    · omega
    · rename_i h2
      rw [if_neg h2]
      split at h
      · omega
      · rename_i h3
        rw [if_neg h3]
        split at h
        · omega
        · rename_i h4
          rw [if_neg h4]
          split at h
          · omega
          · rename_i h5
            rw [if_neg h5]
            rfl
theorem ch_spec {x y : Lp} (hv : Vd x) (h : ch x = some y) : Vd y ∧ parts y ≤ parts x ∧ mu y < mu x := by
  unfold ch at h
  split at h
  · cases h
  · rename_i hk1
    cases hks : x.kids with
    | nil => rw [hks] at h; cases h
    | cons k ks =>
      rw [hks] at h
      simp only at h
      have hvk : Vd k := hv.kid (by rw [hks]; exact List.mem_cons_self)
      have hpx : parts x = 1 + (parts k + partsL ks) := by rw [parts_eq, hks, partsL]
      have kidc : y = k → Vd y ∧ parts y ≤ parts x ∧ mu y < mu x := fun e => by
        subst e
        have h1 := mu_le y
        have h2 : 2 * parts x ≤ mu x := by unfold mu; omega
        exact ⟨hvk, by omega, by omega⟩
      split at h
      · rename_i h5
        have ho := (T.own_ok hv.own).2.2.2.1 h5
        split at h
        · rename_i hm
          cases h
          have hok := (T.own_ok hvk.own).2.2.2.1 hm.1
          have h1 : (1 : Int) ≤ x.many * k.many := by
            have := Int.mul_le_mul (a := 1) (b := 1) ho.2.1 hok.2.1 (by omega) (by omega)
            omega
          have hp : parts (.mk 5 ⟨#[]⟩ 0 (x.many * k.many) k.kids []) = parts k := by rw [parts_eq, parts_eq]; rfl
          refine ⟨vd_of (own_merge h1 hm.2 hok.1) (fun j hj => hvk.kid hj), by omega, ?_⟩
          have h2 : mu (.mk 5 ⟨#[]⟩ 0 (x.many * k.many) k.kids []) = 2 * parts k := by
            unfold mu
            rw [hp, if_neg]
            · omega
            · rintro (⟨h, -⟩ | ⟨h, -⟩)
              · have h' : (5 : Int) = 2 := h; omega
              · have h' : (5 : Int) = 4 := h; omega
          have h3 : 2 * parts x ≤ mu x := by unfold mu; omega
          omega
        · split at h
          · exact kidc (by cases h; rfl)
          · cases h
      · rename_i hk5
        split at h
        · exact kidc (by cases h; rfl)
        · split at h
          · rename_i hk2
            rw [← hks] at h
            split at h
            · cases h
            · rename_i hne
              cases h
              have hvs : ∀ z ∈ x.kids, Vd z := fun z hz => hv.kid hz
              obtain ⟨g1, g2, g3⟩ := gath_vd hvs
              have hnil : x.kids ≠ [] := by rw [hks]; simp
              have hp : parts (rowL (gath x.kids)) = 1 + partsL (gath x.kids) := by rw [parts_eq]; rfl
              have hp2 := parts_eq x
              refine ⟨vd_of (own_row (g3 hnil)) (fun j hj => g1 j hj), by omega, ?_⟩
              have hx : mu x = 2 * parts x + 1 := by unfold mu; rw [if_pos (.inl ⟨hk2, hne⟩)]
              rcases gath_row hvs with hlt | heq
              · have := mu_le (rowL (gath x.kids)); omega
              · have : mu (rowL (gath x.kids)) = 2 * parts (rowL (gath x.kids)) := by
                  unfold mu
                  rw [if_neg]
                  · omega
                  · rintro (⟨-, h⟩ | ⟨h, -⟩)
                    · exact h heq
                    · have h' : (2 : Int) = 4 := h; omega
                omega
          · rename_i hk2
            split at h
            · rename_i hk4
              split at h
              · rename_i hg
                cases h
                have hsh := (T.own_ok hv.own).2.2.2.2.2.1
                have hd := gcdL_dvd x.shares 0
                generalize hG : T.gcdL x.shares 0 = G at hg hd
                have hs : ∀ n ∈ x.shares.map (fun n => n.tdiv G), 1 ≤ n ∧ n ≤ 1000 := fun n hn => by
                  obtain ⟨m, hm, rfl⟩ := List.mem_map.1 hn
                  have h1 := hsh m hm
                  obtain ⟨q, hq⟩ := hd.2 m hm
                  have hm' : m = ((G * q : Nat) : Int) := by omega
                  have hq0 : 0 < q := by
                    rcases Nat.eq_zero_or_pos q with h0 | h0
                    · subst h0; rw [Nat.mul_zero] at hq; omega
                    · exact h0
                  have e : m.tdiv (G : Int) = q := by
                    rw [hm', Int.tdiv_eq_ediv_of_nonneg (by omega), Int.natCast_mul, Int.mul_ediv_cancel_left _ (by omega)]
                  have hle : q ≤ G * q := Nat.le_mul_of_pos_left _ (by omega)
                  rw [e]
                  omega
                have hp : parts (shr x (x.shares.map fun n => n.tdiv G)) = parts x := by rw [parts_eq, parts_eq x]; rfl
                refine ⟨vd_of (own_shr hv.own hk4 (by simp) hs) (fun j hj => hv.kid hj), by omega, ?_⟩
                have hx : mu x = 2 * parts x + 1 := by unfold mu; rw [if_pos (.inr ⟨hk4, by rw [hG]; exact hg⟩)]
                have hone : T.gcdL (x.shares.map fun n => n.tdiv G) 0 = 1 := by
                  have := gcdL_div (d := G) x.shares 0 (Nat.dvd_zero G) (fun n hn => ⟨by have := hsh n hn; omega, hd.2 n hn⟩)
                  rw [Nat.zero_div, hG, Nat.div_self (by omega)] at this
                  exact this
                have : mu (shr x (x.shares.map fun n => n.tdiv G)) = 2 * parts x := by
                  unfold mu
                  rw [hp, if_neg]
                  · omega
                  · rintro (⟨h, -⟩ | ⟨-, h⟩)
                    · exact hk2 h
                    · have h' : 1 < T.gcdL (x.shares.map fun n => n.tdiv G) 0 := h
                      omega
                omega
              · cases h
            · split at h
              · exact kidc (by cases h; rfl)
              · cases h
/-- Changes until there is none. -/
def iter : Nat → Lp → Lp
  | 0, x => x
  | f + 1, x => match ch x with
    | none => x
    | some y => iter f y
def fin (x : Lp) : Lp := iter (mu x) x
theorem iter_none {x : Lp} (h : ch x = none) (f : Nat) : iter f x = x := by
  cases f with
  | zero => rfl
  | succ f => rw [iter, h]
theorem iter_ge : ∀ (f : Nat) (x : Lp), Vd x → mu x ≤ f → iter f x = iter (mu x) x := by
  intro f
  induction f using Nat.strongRecOn with
  | ind f ih =>
    intro x hv h
    cases hc : ch x with
    | none => rw [iter_none hc, iter_none hc]
    | some y =>
      obtain ⟨h1, h2, h3⟩ := ch_spec hv hc
      obtain ⟨g, rfl⟩ : ∃ g, f = g + 1 := ⟨f - 1, by omega⟩
      obtain ⟨q, hq⟩ : ∃ q, mu x = q + 1 := ⟨mu x - 1, by omega⟩
      rw [hq, iter, iter, hc]
      show iter g y = iter q y
      rw [ih g (by omega) y h1 (by omega)]
      by_cases hlt : q < g + 1
      · rw [ih q (by omega) y h1 (by omega)]
      · omega
theorem fin_none {x : Lp} (h : ch x = none) : fin x = x := iter_none h _
theorem fin_some {x y : Lp} (hv : Vd x) (h : ch x = some y) : fin x = fin y := by
  obtain ⟨h1, h2, h3⟩ := ch_spec hv h
  obtain ⟨q, hq⟩ : ∃ q, mu x = q + 1 := ⟨mu x - 1, by omega⟩
  unfold fin
  rw [hq, iter, h]
  exact iter_ge q y h1 (by omega)
theorem fin_vd : ∀ (k : Nat) (x : Lp), mu x ≤ k → Vd x → Vd (fin x) ∧ parts (fin x) ≤ parts x := by
  intro k
  induction k with
  | zero => intro x h hv; have : 0 < mu x := by unfold mu; rw [parts_eq]; omega
            omega
  | succ k ih =>
    intro x h hv
    cases hc : ch x with
    | none => rw [fin_none hc]; exact ⟨hv, Nat.le_refl _⟩
    | some y =>
      obtain ⟨h1, h2, h3⟩ := ch_spec hv hc
      rw [fin_some hv hc]
      obtain ⟨a, b⟩ := ih y (by omega) h1
      exact ⟨a, Nat.le_trans b h2⟩
mutual
/-- A loop as small as can be. -/
def lst : Lp → Lp
  | .mk k i l m ks s => fin (.mk k i l m (lstL ks) s)
def lstL : List Lp → List Lp
  | [] => []
  | x :: xs => lst x :: lstL xs
end
theorem lstL_map (l : List Lp) : lstL l = l.map lst := by
  induction l with
  | nil => rfl
  | cons x l ih => rw [lstL, ih, List.map_cons]
theorem lst_eq (x : Lp) : lst x = fin (upd x (x.kids.map lst)) := by cases x; rw [lst, lstL_map]; rfl
theorem own_upd {x : Lp} {ks : List Lp} (h : L.own x = 0) (hl : ks.length = x.kids.length) : L.own (upd x ks) = 0 := by
  have hf : L.fb (upd x ks) = L.fb x := by unfold L.fb; rw [show (upd x ks).kids = ks from rfl, hl]; rfl
  unfold L.own at h ⊢
  rw [hf]
  exact h
mutual
theorem lst_vd : ∀ (x : Lp), Vd x → Vd (lst x) ∧ parts (lst x) ≤ parts x
  | .mk k i l m ks s => fun hv => by
    rw [lst]
    obtain ⟨h1, h2⟩ := lstL_vd ks (fun j hj => hv.kid hj)
    have hl : (lstL ks).length = ks.length := by rw [lstL_map, List.length_map]
    have hv2 : Vd (.mk k i l m (lstL ks) s) := vd_of (own_upd (x := .mk k i l m ks s) hv.own hl) h1
    obtain ⟨a, b⟩ := fin_vd _ _ (Nat.le_refl _) hv2
    refine ⟨a, Nat.le_trans b ?_⟩
    rw [parts_eq, parts_eq]
    show 1 + partsL (lstL ks) ≤ 1 + partsL ks
    omega
theorem lstL_vd : ∀ (xs : List Lp), (∀ x ∈ xs, Vd x) → (∀ x ∈ lstL xs, Vd x) ∧ partsL (lstL xs) ≤ partsL xs
  | [] => fun _ => ⟨(fun x h => by cases h), Nat.le_refl _⟩
  | x :: xs => fun h => by
    obtain ⟨a1, a2⟩ := lst_vd x (h x List.mem_cons_self)
    obtain ⟨b1, b2⟩ := lstL_vd xs (fun y hy => h y (List.mem_cons_of_mem _ hy))
    refine ⟨fun y hy => ?_, by rw [lstL, partsL, partsL]; omega⟩
    rw [lstL] at hy
    rcases List.mem_cons.1 hy with rfl | hy
    · exact a1
    · exact b1 y hy
end
end Go.Proofs.YtlfobpjefklccaaDoor.H
