/- How near an item comes: the two ways to count agree. Plain. The program's Nearest: three own maps. The program's Nearest: the walk. Printed by wip/gen/neargen.py. The reference's NearestOf. Printed by wip/gen/neargen.py. -/
import Derived.Test.YtlfobpjefklccaaGreatDoorComeP
import Derived.Test.YtlfobpjefklccaaGreatDoorTal
import Derived.Test.YtlfobpjefklccaaGreatDoorWant
import Derived.Test.YtlfobpjefklccaaGreatDoorPort
import Derived.Test.YtlfobpjefklccaaGreatDoorTal2
import Derived.Test.YtlfobpjefklccaaGreatDoorRoundOk
import Derived.StillTailTactics
import Derived.Deep.Cut
import Derived.Carry
import Derived.Test.YtlfobpjefklccaaGreatDoorSmall
namespace Go.Proofs.YtlfobpjefklccaaGreatDoor.Come
open T (Step)
/-- What is nearest, as the program counts: behind an occurrence at la; i: the place of the first of these. -/
def nG (k : ByteArray) (n p0 : Int) : List Step → Int → Int → Int → Int
  | [], _, la, m => min m (p0 + n - la - 1)
  | s :: l, i, la, m => if s.1 = k then nG k n p0 l (i + 1) i (min m (i - la - 1)) else nG k n p0 l (i + 1) la m
/-- How far it is to the next one, less one. -/
def pend (k : ByteArray) (n p0 : Int) : List Step → Int → Int → Int
  | [], _, la => p0 + n - la - 1
  | s :: l, i, la => if s.1 = k then i - la - 1 else pend k n p0 l (i + 1) la
/-- What is nearest, as the reference counts. -/
def nR (k : ByteArray) (n p0 : Int) : List Step → Int → Int → Int
  | [], _, m => m
  | s :: l, i, m => if s.1 = k then nR k n p0 l (i + 1) (min m (pend k n p0 l (i + 1) i)) else nR k n p0 l (i + 1) m
theorem nG_nR (k : ByteArray) (n p0 : Int) : ∀ (l : List Step) (i la m : Int), nG k n p0 l i la m = nR k n p0 l i (min m (pend k n p0 l i la)) := by
  intro l
  induction l with
  | nil => intro i la m; rfl
  | cons s l ih =>
    intro i la m
    rw [nG, nR, pend]
    by_cases h : s.1 = k
    · rw [if_pos h, if_pos h, if_pos h, ih]
    · rw [if_neg h, if_neg h, if_neg h, ih]
theorem nG_min (k : ByteArray) (n p0 : Int) : ∀ (l : List Step) (i la m m' : Int), nG k n p0 l i la (min m m') = min m (nG k n p0 l i la m') := by
  intro l
  induction l with
  | nil => intro i la m m'; rw [nG, nG, Int.min_assoc]
  | cons s l ih =>
    intro i la m m'
    rw [nG, nG]
    by_cases h : s.1 = k
    · rw [if_pos h, if_pos h, ← ih, Int.min_assoc]
    · rw [if_neg h, if_neg h, ih]
theorem nG_le (k : ByteArray) (n p0 : Int) : ∀ (l : List Step) (i la m : Int), p0 ≤ la → la ≤ i → nG k n p0 l i la m ≤ n - 1 := by
  intro l
  induction l with
  | nil => intro i la m h h2; rw [nG]; omega
  | cons s l ih =>
    intro i la m h h2
    rw [nG]
    split
    · exact ih _ _ _ (by omega) (by omega)
    · exact ih _ _ _ h (by omega)
/-- Both count the same, behind the first one. -/
theorem near_eq (k : ByteArray) (n p0 : Int) (l : List Step) : nG k n p0 l (p0 + 1) p0 (n - 1) = nR k n p0 l (p0 + 1) (min n (pend k n p0 l (p0 + 1) p0)) := by
  rw [← nG_nR]
  have h1 := nG_min k n p0 l (p0 + 1) p0 n (n - 1)
  have h2 := nG_le k n p0 l (p0 + 1) p0 (n - 1) (Int.le_refl _) (by omega)
  have h3 := nG_min k n p0 l (p0 + 1) p0 (n - 1) n
  have h4 := nG_le k n p0 l (p0 + 1) p0 n (Int.le_refl _) (by omega)
  have e1 : min n (n - 1) = n - 1 := by omega
  have e2 : min (n - 1) n = n - 1 := by omega
  rw [e1] at h1
  rw [e2] at h3
  omega

def nstep (n i : Int) : Option (Int × Int × Int) → Option (Int × Int × Int)
  | none => some (i, i, n - 1)
  | some q => some (q.1, i, min q.2.2 (i - q.2.1 - 1))
/-- Of an item: when it came first, when last, and how near, as the program counts. -/
def nst (n : Int) (k : ByteArray) : List Step → Int → Option (Int × Int × Int) → Option (Int × Int × Int)
  | [], _, o => o
  | s :: l, i, o => nst n k l (i + 1) (if s.1 = k then nstep n i o else o)
theorem nst_snoc (n : Int) (k : ByteArray) (s : Step) : ∀ (l : List Step) (i : Int) (o : Option (Int × Int × Int)), nst n k (l ++ [s]) i o = if s.1 = k then nstep n (i + l.length) (nst n k l i o) else nst n k l i o := by
  intro l
  induction l with
  | nil => intro i o; simp [nst]
  | cons a l ih =>
    intro i o
    have e : i + 1 + (l.length : Int) = i + ((a :: l).length : Int) := by rw [List.length_cons]; omega
    simp only [List.cons_append, nst, ih, e]
theorem nst_some (n : Int) (k : ByteArray) : ∀ (l : List Step) (i : Int) (q : Int × Int × Int), ∃ la a, nst n k l i (some q) = some (q.1, la, a) ∧ min a (q.1 + n - la - 1) = nG k n q.1 l i q.2.1 q.2.2 := by
  intro l
  induction l with
  | nil => intro i q; exact ⟨q.2.1, q.2.2, rfl, rfl⟩
  | cons s l ih =>
    intro i q
    rw [nst, nG]
    by_cases h : s.1 = k
    · rw [if_pos h, if_pos h]
      obtain ⟨la, a, h1, h2⟩ := ih (i + 1) (q.1, i, min q.2.2 (i - q.2.1 - 1))
      exact ⟨la, a, h1, h2⟩
    · rw [if_neg h, if_neg h]
      exact ih (i + 1) q
/-- **The two ways to count agree.** -/
theorem near_all (n : Int) (k : ByteArray) : ∀ (l : List Step) (i : Int), k ∈ l.map (·.1) → ∃ f la a, nst n k l i none = some (f, la, a) ∧ min a (f + n - la - 1) = nR k n f l i n ∧ i ≤ f ∧ f < i + l.length ∧
    (∃ h : (f - i).toNat < l.length, l[(f - i).toNat].1 = k) ∧ (∀ j (h : j < l.length), (j : Int) < f - i → l[j].1 ≠ k) := by
  intro l
  induction l with
  | nil => intro i h; cases h
  | cons s l ih =>
    intro i hm
    rw [nst]
    have hlen : (s :: l).length = l.length + 1 := rfl
    by_cases h : s.1 = k
    · rw [if_pos h]
      obtain ⟨la, a, h1, h2⟩ := nst_some n k l (i + 1) (i, i, n - 1)
      refine ⟨i, la, a, h1, ?_, Int.le_refl _, by omega, ⟨by simp, by simpa using h⟩, fun j _ hj => by omega⟩
      rw [h2, nR, if_pos h]
      exact near_eq k n i l
    · rw [if_neg h]
      rw [List.map_cons, List.mem_cons] at hm
      obtain ⟨f, la, a, h1, h2, h3, h4, ⟨h5, h5'⟩, h6⟩ := ih (i + 1) (hm.resolve_left (fun e => h e.symm))
      refine ⟨f, la, a, h1, ?_, by omega, by omega, ⟨by omega, ?_⟩, fun j hj hlt => ?_⟩
      · rw [h2, nR, if_neg h]
      · have e : (f - i).toNat = (f - (i + 1)).toNat + 1 := by omega
        simp only [e, List.getElem_cons_succ]
        exact h5'
      · cases j with
        | zero => exact h
        | succ j => simp only [List.getElem_cons_succ]; exact h6 j (by simpa using hj) (by omega)
theorem nst_none (n : Int) (k : ByteArray) : ∀ (l : List Step) (i : Int), k ∉ l.map (·.1) → nst n k l i none = none := by
  intro l
  induction l with
  | nil => intro i _; rfl
  | cons s l ih =>
    intro i h
    rw [List.map_cons, List.mem_cons, not_or] at h
    rw [nst, if_neg (fun e => h.1 e.symm), ih (i + 1) h.2]
theorem pend_at (k : ByteArray) (n p0 la : Int) (l : List Step) (q : Nat) (hq : q < l.length) (hk : l[q].1 = k) : ∀ (c j : Nat), j + c = q → (∀ r (h : r < l.length), j ≤ r → r < q → l[r].1 ≠ k) → pend k n p0 (l.drop j) j la = q - la - 1 := by
  intro c
  induction c with
  | zero =>
    intro j e _
    have : j = q := by omega
    subst this
    rw [List.drop_eq_getElem_cons hq, pend, if_pos hk]
  | succ c ih =>
    intro j e hno
    have hj : j < l.length := by omega
    rw [List.drop_eq_getElem_cons hj, pend, if_neg (hno j hj (Nat.le_refl _) (by omega))]
    have := ih (j + 1) (by omega) (fun r h h1 h2 => hno r h (by omega) h2)
    rw [show ((j + 1 : Nat) : Int) = (j : Int) + 1 by omega] at this
    exact this
theorem pend_no (k : ByteArray) (n p0 la : Int) (l : List Step) : ∀ (c j : Nat), j + c = l.length → (∀ r (h : r < l.length), j ≤ r → l[r].1 ≠ k) → pend k n p0 (l.drop j) j la = p0 + n - la - 1 := by
  intro c
  induction c with
  | zero =>
    intro j e _
    have : j = l.length := by omega
    subst this
    rw [List.drop_length, pend]
  | succ c ih =>
    intro j e hno
    have hj : j < l.length := by omega
    rw [List.drop_eq_getElem_cons hj, pend, if_neg (hno j hj (Nat.le_refl _))]
    have := ih (j + 1) (by omega) (fun r h h1 => hno r h (by omega))
    rw [show ((j + 1 : Nat) : Int) = (j : Int) + 1 by omega] at this
    exact this
/-- How far it is to the next one, as the reference looks for it. -/
theorem pend_dist (k : ByteArray) (l : List Step) (i f q : Nat) (hf : f < l.length) (hfk : l[f].1 = k) (hff : ∀ j (h : j < l.length), j < f → l[j].1 ≠ k) (hi : i < l.length) (hik : l[i].1 = k) (hq1 : 1 ≤ q) (hq2 : q ≤ l.length)
    (hno : ∀ r, 1 ≤ r → r < q → ∀ h : (i + r) % l.length < l.length, l[(i + r) % l.length].1 ≠ k) (hyes : ∀ h : (i + q) % l.length < l.length, l[(i + q) % l.length].1 = k) :
    pend k l.length f (l.drop (i + 1)) ((i : Int) + 1) i = (q : Int) - 1 := by
  have hfi : f ≤ i := by
    rcases Nat.lt_or_ge i f with h | h
    · exact absurd hik (hff i hi h)
    · exact h
  have e1 : ((i : Int) + 1) = ((i + 1 : Nat) : Int) := by omega
  rw [e1]
  by_cases hc : i + q < l.length
  · have hm : (i + q) % l.length = i + q := Nat.mod_eq_of_lt hc
    have hy := hyes (by omega)
    simp only [hm] at hy
    rw [pend_at k l.length f i l (i + q) hc hy (q - 1) (i + 1) (by omega) (fun r h h1 h2 => by
      have := hno (r - i) (by omega) (by omega)
      rw [show i + (r - i) = r by omega, Nat.mod_eq_of_lt h] at this
      exact this h)]
    omega
  · have hafter : ∀ r (h : r < l.length), i + 1 ≤ r → l[r].1 ≠ k := fun r h h1 => by
      have := hno (r - i) (by omega) (by omega)
      rw [show i + (r - i) = r by omega, Nat.mod_eq_of_lt h] at this
      exact this h
    rw [pend_no k l.length f i l (l.length - (i + 1)) (i + 1) (by omega) hafter]
    have hm : (i + q) % l.length = i + q - l.length := by
      rw [Nat.mod_eq_sub_mod (by omega), Nat.mod_eq_of_lt (by omega)]
    have hy := hyes (Nat.mod_lt _ (by omega))
    simp only [hm] at hy
    have hlo : f ≤ i + q - l.length := by
      rcases Nat.lt_or_ge (i + q - l.length) f with h | h
      · exact absurd hy (hff _ (by omega) h)
      · exact h
    have hhi : i + q - l.length ≤ f := by
      rcases Nat.lt_or_ge f (i + q - l.length) with h | h
      · have := hno (l.length - i + f) (by omega) (by omega)
        have e : (i + (l.length - i + f)) % l.length = f := by
          rw [show i + (l.length - i + f) = l.length + f by omega, Nat.add_mod_left, Nat.mod_eq_of_lt hf]
        rw [e] at this
        exact absurd hfk (this hf)
      · exact h
    omega
end Go.Proofs.YtlfobpjefklccaaGreatDoor.Come
namespace Go.Proofs.YtlfobpjefklccaaGreatDoor.Come
open Go.RowKit
open T (Step)
open F (Fr Cl)

def ints (ks : List ByteArray) (f : ByteArray → Int) : M.Es := ks.map fun k => (k, .int .i64 (f k))
theorem look_ints {ks : List ByteArray} {f : ByteArray → Int} (k : ByteArray) : M.look (ints ks f) k = if has ks k = true then some (.int .i64 (f k)) else none := by
  unfold ints
  induction ks with
  | nil => rfl
  | cons a ks ih =>
    have e : has (a :: ks) k = (decide (a = k) || has ks k) := rfl
    unfold M.look at ih ⊢
    rw [List.map_cons, List.find?_cons, e]
    by_cases h : a = k
    · subst h; simp
    · have hd : decide (a = k) = false := decide_eq_false h
      simp only [hd, Bool.false_or]
      exact ih
def kadd (ks : List ByteArray) (k : ByteArray) : List ByteArray := if has ks k = true then ks else ks ++ [k]
def upd (f : ByteArray → Int) (k : ByteArray) (n : Int) : ByteArray → Int := fun x => if x = k then n else f x
theorem put_ints {ks : List ByteArray} {f : ByteArray → Int} {k : ByteArray} {n : Int} : M.put (ints ks f) k (.int .i64 n) = ints (kadd ks k) (upd f k n) := by
  have h1 : (ints ks f).any (fun p => decide (p.1 = k)) = has ks k := by
    unfold ints
    rw [List.any_map]
    rfl
  unfold M.put kadd
  rw [h1]
  unfold ints
  by_cases h : has ks k = true
  · rw [if_pos h, if_pos h, List.map_map]
    refine List.map_congr_left fun x _ => ?_
    show (if x = k then (k, Value.int .i64 n) else (x, Value.int .i64 (f x))) = (x, Value.int .i64 (if x = k then n else f x))
    by_cases e : x = k
    · rw [if_pos e, if_pos e, e]
    · rw [if_neg e, if_neg e]
  · rw [if_neg h, if_neg h, List.map_append, List.map_singleton]
    show _ = _ ++ [(k, Value.int .i64 (if k = k then n else f k))]
    rw [if_pos rfl]
    congr 1
    refine List.map_congr_left fun x hx => ?_
    show _ = (x, Value.int .i64 (if x = k then n else f x))
    rw [if_neg (fun e => by subst e; exact h (has_iff.2 hx))]
/-- Three own maps: when an item came first, when last, and pointers to what is wanted of it. -/
structure NM (w : World) (mf ml ma lo : Nat) (kf kl ka : List ByteArray) (bk : ByteArray → Nat) (cf cl f g : ByteArray → Int) : Prop where
  of : M.OM w mf (ints kf cf)
  ol : M.OM w ml (ints kl cl)
  oa : M.OM w ma (ptrs ka bk)
  hlo : lo ≤ mf ∧ lo ≤ ml ∧ lo ≤ ma
  ne : mf ≠ ml ∧ mf ≠ ma ∧ ml ≠ ma
  cls : ∀ k ∈ ka, (lo ≤ bk k ∧ bk k ≠ mf ∧ bk k ≠ ml ∧ bk k ≠ ma) ∧ Cl w (bk k) 0 (.string k) ∧ Cl w (bk k) 1 (.int .i64 (f k)) ∧ Cl w (bk k) 2 (.int .i64 (g k))
  inj : ∀ k ∈ ka, ∀ k' ∈ ka, bk k = bk k' → k = k'
section
variable {w w' : World} {mf ml ma lo : Nat} {kf kl ka : List ByteArray} {bk : ByteArray → Nat} {cf cl f g : ByteArray → Int}
theorem NM.below (h : NM w mf ml ma lo kf kl ka bk cf cl f g) (hb : Below w.heap.size w w') : NM w' mf ml ma lo kf kl ka bk cf cl f g :=
  ⟨h.of.below hb, h.ol.below hb, h.oa.below hb, h.hlo, h.ne, fun k hk => by obtain ⟨a, b, c, d⟩ := h.cls k hk; exact ⟨a, b.below hb, c.below hb, d.below hb⟩, h.inj⟩
theorem NM.set1 (h : NM w mf ml ma lo kf kl ka bk cf cl f g) {k : ByteArray} (hk : k ∈ ka) (n : Int) : NM (w.setCell ⟨bk k, 1, none⟩ (.int .i64 n)) mf ml ma lo kf kl ka bk cf cl (upd f k n) g := by
  have hf : Fr (fun b => b = bk k) w (w.setCell ⟨bk k, 1, none⟩ (.int .i64 n)) := Fr.set (S := fun b => b = bk k) (Fr.refl (fun b => b = bk k) w) (fun _ => rfl) _
  obtain ⟨⟨a, b1, b2, b3⟩, b, c, d⟩ := h.cls k hk
  refine ⟨om_fr h.of hf (fun e => b1 e.symm), om_fr h.ol hf (fun e => b2 e.symm), om_fr h.oa hf (fun e => b3 e.symm), h.hlo, h.ne, fun x hx => ?_, h.inj⟩
  obtain ⟨a', b', c', d'⟩ := h.cls x hx
  unfold upd
  by_cases e : x = k
  · subst e
    rw [if_pos rfl]
    exact ⟨a', b.set_ne (by simp) _, c.set _, d.set_ne (by simp) _⟩
  · rw [if_neg e]
    exact ⟨a', b'.fr hf (fun e2 => e (h.inj x hx k hk e2)), c'.fr hf (fun e2 => e (h.inj x hx k hk e2)), d'.fr hf (fun e2 => e (h.inj x hx k hk e2))⟩
theorem NM.set2 (h : NM w mf ml ma lo kf kl ka bk cf cl f g) {k : ByteArray} (hk : k ∈ ka) (n : Int) : NM (w.setCell ⟨bk k, 2, none⟩ (.int .i64 n)) mf ml ma lo kf kl ka bk cf cl f (upd g k n) := by
  have hf : Fr (fun b => b = bk k) w (w.setCell ⟨bk k, 2, none⟩ (.int .i64 n)) := Fr.set (S := fun b => b = bk k) (Fr.refl (fun b => b = bk k) w) (fun _ => rfl) _
  obtain ⟨⟨a, b1, b2, b3⟩, b, c, d⟩ := h.cls k hk
  refine ⟨om_fr h.of hf (fun e => b1 e.symm), om_fr h.ol hf (fun e => b2 e.symm), om_fr h.oa hf (fun e => b3 e.symm), h.hlo, h.ne, fun x hx => ?_, h.inj⟩
  obtain ⟨a', b', c', d'⟩ := h.cls x hx
  unfold upd
  by_cases e : x = k
  · subst e
    rw [if_pos rfl]
    exact ⟨a', b.set_ne (by simp) _, c.set_ne (by simp) _, d.set _⟩
  · rw [if_neg e]
    exact ⟨a', b'.fr hf (fun e2 => e (h.inj x hx k hk e2)), c'.fr hf (fun e2 => e (h.inj x hx k hk e2)), d'.fr hf (fun e2 => e (h.inj x hx k hk e2))⟩
theorem NM.putF (h : NM w mf ml ma lo kf kl ka bk cf cl f g) {k : ByteArray} {n : Int} (hO : M.OM w' mf (M.put (ints kf cf) k (.int .i64 n))) (hg : w.grownBy w' (some mf)) : NM w' mf ml ma lo (kadd kf k) kl ka bk (upd cf k n) cl f g := by
  have hf : Fr (fun b => b = mf) w w' := (Fr.refl _ _).grown hg (fun g e _ => (Option.some.inj e).symm)
  obtain ⟨n1, n2, n3⟩ := h.ne
  refine ⟨by rw [put_ints] at hO; exact hO, om_fr h.ol hf (fun e => n1 e.symm), om_fr h.oa hf (fun e => n2 e.symm), h.hlo, h.ne, fun x hx => ?_, h.inj⟩
  obtain ⟨⟨a, b1, b2, b3⟩, b, c, d⟩ := h.cls x hx
  exact ⟨⟨a, b1, b2, b3⟩, b.fr hf b1, c.fr hf b1, d.fr hf b1⟩
theorem NM.putL (h : NM w mf ml ma lo kf kl ka bk cf cl f g) {k : ByteArray} {n : Int} (hO : M.OM w' ml (M.put (ints kl cl) k (.int .i64 n))) (hg : w.grownBy w' (some ml)) : NM w' mf ml ma lo kf (kadd kl k) ka bk cf (upd cl k n) f g := by
  have hf : Fr (fun b => b = ml) w w' := (Fr.refl _ _).grown hg (fun g e _ => (Option.some.inj e).symm)
  obtain ⟨n1, n2, n3⟩ := h.ne
  refine ⟨om_fr h.of hf n1, by rw [put_ints] at hO; exact hO, om_fr h.oa hf (fun e => n3 e.symm), h.hlo, h.ne, fun x hx => ?_, h.inj⟩
  obtain ⟨⟨a, b1, b2, b3⟩, b, c, d⟩ := h.cls x hx
  exact ⟨⟨a, b1, b2, b3⟩, b.fr hf b2, c.fr hf b2, d.fr hf b2⟩
/-- An item comes in. -/
theorem NM.putA (h : NM w mf ml ma lo kf kl ka bk cf cl f g) (hlo : lo ≤ w.heap.size) {k : ByteArray} (hk : has ka k = false) {t : TypeId} {a b : Int} (hO : M.OM w' ma (M.put (ptrs ka bk) k (ptr w.heap.size))) (hg : (w.alloc (.cells #[.string k, .int .i64 a, .int .i64 b] t)).grownBy w' (some ma)) :
    NM w' mf ml ma lo kf kl (ka ++ [k]) (fun x => if x = k then w.heap.size else bk x) cf cl (upd f k a) (upd g k b) := by
  have hm1 := h.of.lt
  have hm2 := h.ol.lt
  have hm3 := h.oa.lt
  have hf : Fr (fun b => b = ma) (w.alloc (.cells #[.string k, .int .i64 a, .int .i64 b] t)) w' := (Fr.refl _ _).grown hg (fun g e _ => (Option.some.inj e).symm)
  have hal : Below w.heap.size w (w.alloc (.cells #[.string k, .int .i64 a, .int .i64 b] t)) := (Below.refl _ _).alloc (Nat.le_refl _) _
  have hne : ∀ x ∈ ka, x ≠ k := fun x hx e => by subst e; rw [has_iff.2 hx] at hk; cases hk
  obtain ⟨n1, n2, n3⟩ := h.ne
  refine ⟨om_fr (h.of.below hal) hf n2, om_fr (h.ol.below hal) hf n3, by rw [put_ptrs hk] at hO; exact hO, h.hlo, h.ne, fun x hx => ?_, fun x hx y hy e => ?_⟩
  · unfold upd
    rcases List.mem_append.1 hx with hx | hx
    · obtain ⟨⟨q, b1, b2, b3⟩, b, c, d⟩ := h.cls x hx
      rw [if_neg (hne x hx), if_neg (hne x hx), if_neg (hne x hx)]
      exact ⟨⟨q, b1, b2, b3⟩, (b.below hal).fr hf b3, (c.below hal).fr hf b3, (d.below hal).fr hf b3⟩
    · rw [List.mem_singleton] at hx
      subst hx
      rw [if_pos rfl, if_pos rfl, if_pos rfl]
      exact ⟨⟨hlo, by omega, by omega, by omega⟩, (Cl.new w #[.string x, .int .i64 a, .int .i64 b] t 0 _ rfl).fr hf (by omega), (Cl.new w #[.string x, .int .i64 a, .int .i64 b] t 1 _ rfl).fr hf (by omega), (Cl.new w #[.string x, .int .i64 a, .int .i64 b] t 2 _ rfl).fr hf (by omega)⟩
  · have hlt : ∀ x ∈ ka, bk x < w.heap.size := fun x hx => (h.cls x hx).2.1.lt
    rcases List.mem_append.1 hx with hx2 | hx2 <;> rcases List.mem_append.1 hy with hy2 | hy2
    · rw [if_neg (hne x hx2), if_neg (hne y hy2)] at e; exact h.inj x hx2 y hy2 e
    · rw [List.mem_singleton] at hy2
      rw [if_neg (hne x hx2), if_pos hy2] at e
      have := hlt x hx2; omega
    · rw [List.mem_singleton] at hx2
      rw [if_neg (hne y hy2), if_pos hx2] at e
      have := hlt y hy2; omega
    · rw [List.mem_singleton] at hx2 hy2
      rw [hx2, hy2]
theorem NM.congr (h : NM w mf ml ma lo kf kl ka bk cf cl f g) {ks : List ByteArray} {cf' cl' f' g' : ByteArray → Int} (e1 : kf = ks) (e2 : kl = ks) (e3 : ka = ks) (h1 : ∀ k ∈ ks, cf k = cf' k) (h2 : ∀ k ∈ ks, cl k = cl' k) (h3 : ∀ k ∈ ks, f k = f' k) (h4 : ∀ k ∈ ks, g k = g' k) : NM w mf ml ma lo ks ks ks bk cf' cl' f' g' := by
  have ec : ∀ (f f' : ByteArray → Int), (∀ k ∈ ks, f k = f' k) → ints ks f' = ints ks f := fun f f' hh => by
    unfold ints
    exact List.map_congr_left fun k hk => by rw [hh k hk]
  refine ⟨by rw [ec cf cf' h1, ← e1]; exact h.of, by rw [ec cl cl' h2, ← e2]; exact h.ol, by rw [← e3]; exact h.oa, h.hlo, h.ne, fun k hk => ?_, by rw [← e3]; exact h.inj⟩
  rw [← h3 k hk, ← h4 k hk]
  exact h.cls k (e3 ▸ hk)
end
/-- When an item came first, when last, and how near. -/
def no (n : Int) (p : List Step) (k : ByteArray) : Int × Int × Int := (nst n k p 0 none).getD (0, 0, 0)
theorem no_snoc (n : Int) (p : List Step) (s : Step) (k : ByteArray) : no n (p ++ [s]) k = if s.1 = k then (if has (nub p []) k = true then ((no n p k).1, (p.length : Int), min (no n p k).2.2 ((p.length : Int) - (no n p k).2.1 - 1)) else ((p.length : Int), (p.length : Int), n - 1)) else no n p k := by
  unfold no
  rw [nst_snoc, Int.zero_add]
  by_cases h : s.1 = k
  · rw [if_pos h, if_pos h]
    by_cases hh : has (nub p []) k = true
    · rw [if_pos hh]
      have hm : k ∈ p.map (·.1) := ((nub_mem p [] k).1 (has_iff.1 hh)).resolve_left (by simp)
      obtain ⟨f, la, a, e, -⟩ := near_all n k p 0 hm
      rw [e]; rfl
    · rw [if_neg hh]
      have hm : k ∉ p.map (·.1) := fun hm => hh (has_iff.2 ((nub_mem p [] k).2 (.inr hm)))
      rw [nst_none n k p 0 hm]; rfl
  · rw [if_neg h, if_neg h]
theorem no_in {n : Int} {p : List Step} (hn : (p.length : Int) ≤ n) {k : ByteArray} (hk : has (nub p []) k = true) : 0 ≤ (no n p k).1 ∧ (no n p k).1 ≤ p.length ∧ -1 ≤ (no n p k).2.1 ∧ (no n p k).2.1 ≤ p.length ∧ -n - 1 ≤ (no n p k).2.2 ∧ (no n p k).2.2 ≤ n := by
  have gen : ∀ (l : List Step) (i : Int) (o : Option (Int × Int × Int)), 0 ≤ i → i + l.length ≤ n → (∀ q, o = some q → 0 ≤ q.1 ∧ q.1 ≤ i ∧ 0 ≤ q.2.1 ∧ q.2.1 ≤ i ∧ -n - 1 ≤ q.2.2 ∧ q.2.2 ≤ n) → ∀ q, nst n k l i o = some q → 0 ≤ q.1 ∧ q.1 ≤ i + l.length ∧ 0 ≤ q.2.1 ∧ q.2.1 ≤ i + l.length ∧ -n - 1 ≤ q.2.2 ∧ q.2.2 ≤ n := by
    intro l
    induction l with
    | nil => intro i o _ _ h q hq; have := h q hq; simp; omega
    | cons s l ih =>
      intro i o hi hl h q hq
      rw [nst] at hq
      have hlen : (s :: l).length = l.length + 1 := rfl
      have := ih (i + 1) _ (by omega) (by omega) (fun q' hq' => ?_) q hq
      · omega
      · split at hq'
        · cases o with
          | none => cases hq'; simp; omega
          | some r => cases hq'; have := h r rfl; simp; omega
        · have := h q' hq'; omega
  unfold no
  have hm : k ∈ p.map (·.1) := ((nub_mem p [] k).1 (has_iff.1 hk)).resolve_left (by simp)
  obtain ⟨f, la, a, e, -⟩ := near_all n k p 0 hm
  have h' : 0 ≤ f ∧ f ≤ 0 + (p.length : Int) ∧ 0 ≤ la ∧ la ≤ 0 + (p.length : Int) ∧ -n - 1 ≤ a ∧ a ≤ n := gen p 0 none (by omega) (by omega) (fun q hq => by cases hq) _ e
  rw [e]
  show 0 ≤ f ∧ f ≤ (p.length : Int) ∧ -1 ≤ la ∧ la ≤ (p.length : Int) ∧ -n - 1 ≤ a ∧ a ≤ n
  omega
/-- What is wanted of an item. -/
def nw (l : List Step) (k : ByteArray) : Wn.Wt := (k, ((its l k).length : Int), min (no l.length l k).2.2 ((no l.length l k).1 + l.length - (no l.length l k).2.1 - 1))
def nws (l : List Step) : List Wn.Wt := (Told.dd (l.map (·.1))).map (nw l)
end Go.Proofs.YtlfobpjefklccaaGreatDoor.Come
namespace Go.Proofs.YtlfobpjefklccaaGreatDoor.Come
open Go.RowKit
open L (Lp At lv)
open T (Step stK steps_at lng roundM rE rL rP)
open F (Fr Cl)

theorem zeroWn (w : World) : (zeroValue 104).run Tryz.prog w = .ok (.pointer none) w := by kernel_rfl
theorem zeroIntW (w : World) : (zeroValue 3).run Tryz.prog w = .ok (.int .i64 0) w := by kernel_rfl
theorem three_maps (W : World) (lo : Nat) (hlo : lo ≤ W.heap.size) (bk : ByteArray → Nat) (cf cl f g : ByteArray → Int) : NM (((W.alloc (.map #[] 0)).alloc (.map #[] 0)).alloc (.map #[] 0)) W.heap.size (W.heap.size + 1) (W.heap.size + 2) lo [] [] [] bk cf cl f g := by
  have h1 := M.OM.made W
  have h2 := M.OM.made (W.alloc (.map #[] 0))
  have h3 := M.OM.made ((W.alloc (.map #[] 0)).alloc (.map #[] 0))
  have e1 : (W.alloc (.map #[] 0)).heap.size = W.heap.size + 1 := by simp
  have e2 : ((W.alloc (.map #[] 0)).alloc (.map #[] 0)).heap.size = W.heap.size + 2 := by simp
  have b2 : Below (W.alloc (.map #[] 0)).heap.size (W.alloc (.map #[] 0)) (((W.alloc (.map #[] 0)).alloc (.map #[] 0)).alloc (.map #[] 0)) := ((Below.refl _ _).alloc (Nat.le_refl _) _).alloc (by simp) _
  have b3 : Below ((W.alloc (.map #[] 0)).alloc (.map #[] 0)).heap.size ((W.alloc (.map #[] 0)).alloc (.map #[] 0)) (((W.alloc (.map #[] 0)).alloc (.map #[] 0)).alloc (.map #[] 0)) := (Below.refl _ _).alloc (Nat.le_refl _) _
  rw [e1] at h2
  rw [e2] at h3
  exact ⟨h1.below b2, h2.below b3, h3, ⟨hlo, by omega, by omega⟩, ⟨by omega, by omega, by omega⟩, fun k hk => (by cases hk), fun k hk => (by cases hk)⟩
theorem own_wn {w : World} {base : Nat} {e : TypeId} {v : Value} {xs : List Wn.Wt} (h : B.Own w base e 3 Wn.wnE v xs) (hn : xs.length ≤ 140737488355328) : Wn.wnK.S w v xs := B.own_S h hn
def WtRes (l : List Wn.Wt) (q : Int) (e : Ending) (w' : World) : Prop := ∃ A c, e = .returned (.tuple #[.slice A l.length c, .int .i64 q]) ∧ Wn.wnK.C w' A l
set_option maxHeartbeats 4000000 in
set_option maxRecDepth 100000 in
theorem nearest_bad (n : Nat) (x : Lp) (A As : Option Addr) (c c' : Nat) (w : World) (h : At n w x A As) (hE : rE (L.lf (n + 1) x) (roundM n x) ≠ 0) :
    Calls Tryz.prog 28 #[lv x A As c c'] w fun e w' => WtRes [] (rE (L.lf (n + 1) x) (roundM n x)) e w' ∧ Below w.heap.size w w' := by
  have HA := Lib.hid (fun (c : Array Value) (e : TypeId) => (Below.refl _ w).alloc (Nat.le_refl _) (.cells c e))
  have cc := fun c0 e0 => T.checked n x A As c c' _ (h.mono (HA.out c0 e0))
  have hEb : (rE (L.lf (n + 1) x) (roundM n x) != 0) = true := bne_iff_ne.2 hE
  clear h hE
  generalize rP (L.lf (n + 1) x) (roundM n x) = P0 at *
  generalize rL (L.lf (n + 1) x) (roundM n x) = L0 at *
  generalize rE (L.lf (n + 1) x) (roundM n x) = E0 at *
  unfold lv at cc ⊢
  go_enter Tryz.func28, Tryz.ntmps28
  go_wp2_with (go_at_call 38; refine (cc _ _).mono ?_; rintro e w2 ⟨⟨A5, c5, rfl, hC5⟩, hB2⟩; have HB2 := Lib.hid (B.below_trans (HA.out _ _) hB2); clear hB2 hC5)
  go_ret2
  exact ⟨⟨none, 0, rfl, B.Kd.C_nil _ _ _⟩, HB2.out.alloc HB2.out.size _⟩
set_option maxHeartbeats 8000000 in
set_option maxRecDepth 100000 in
theorem nearest_ok (n : Nat) (x : Lp) (A As : Option Addr) (c c' : Nat) (w : World) (h : At n w x A As) (hq : L.lf (n + 1) x = 0) (p : Nat) (l : List Step) (hr : roundM n x = some (p, l)) :
    Calls Tryz.prog 28 #[lv x A As c c'] w fun e w' => WtRes (nws l) 0 e w' ∧ Below w.heap.size w w' := by
  have HA := Lib.hid (fun (c : Array Value) (e : TypeId) => (Below.refl _ w).alloc (Nat.le_refl _) (.cells c e))
  have cc := fun c0 e0 => T.checked n x A As c c' _ (h.mono (HA.out c0 e0))
  obtain ⟨hok, hn, hl, hlng⟩ := round_ok h hq hr
  rw [hq, hr, show rP 0 (some (p, l)) = p from rfl, show rL 0 (some (p, l)) = l from rfl, show rE 0 (some (p, l)) = 0 from rfl, hlng] at cc
  have hmm := @run_makeMap Tryz.prog
  have HOK := Lib.hid hok
  have hlp : 1 ≤ l.length := List.length_pos_iff.2 hn
  have HKE : Hid (SK.srt (nub l []) = Told.dd (l.map (·.1))) := Lib.hid (srt_dd l)
  have HPE : Hid (nws l = (Told.dd (l.map (·.1))).map (nw l)) := Lib.hid rfl
  have HDL := Lib.hid (dd_len l)
  have HDM := Lib.hid (fun k (hk : k ∈ Told.dd (l.map (·.1))) => (nub_mem l [] k).2 (.inr ((dd_mem _ _).1 hk)))
  have HNL : Hid ((nub l []).length ≤ 5000) := Lib.hid (by have e := congrArg List.length (srt_dd l); rw [SK.srt_length] at e; have := dd_len l; omega)
  have HSZ : Hid (∀ k ∈ nub l [], k.size ≤ maxLen) := Lib.hid (fun k hk => by
    rcases (nub_mem l [] k).1 hk with h1 | h1
    · cases h1
    · obtain ⟨s, hs, rfl⟩ := List.mem_map.1 h1
      have := key_size (round_ok2 h hq hr s hs).2
      simp only [maxLen]; omega)
  generalize Told.dd (l.map (·.1)) = ks at *
  generalize nws l = PL at *
  clear h hq hr hok hn hlng
  unfold lv at cc ⊢
  go_enter Tryz.func28, Tryz.ntmps28
  go_upto_region 7 with (go_at_call 38; refine (cc _ _).mono ?_; rintro e w2 ⟨⟨A5, c5, rfl, hC5⟩, hB2⟩; have HC5 := Lib.hid hC5; have HB2 := Lib.hid (B.below_trans (HA.out _ _) hB2); clear hB2 hC5)
  clear cc hmm
  have HB2b : Hid (Below w.heap.size w (w2.alloc (.cells #[.int .i64 p, .slice A5 l.length c5, .int .i64 (tot l)] 79))) := Lib.hid (HB2.out.alloc HB2.out.size _)
  have HB3 : Hid (Below (w2.alloc (.cells #[.int .i64 p, .slice A5 l.length c5, .int .i64 (tot l)] 79)).heap.size (w2.alloc (.cells #[.int .i64 p, .slice A5 l.length c5, .int .i64 (tot l)] 79)) ((((w2.alloc (.cells #[.int .i64 p, .slice A5 l.length c5, .int .i64 (tot l)] 79)).alloc (.map #[] 0)).alloc (.map #[] 0)).alloc (.map #[] 0))) := Lib.hid ((((Below.refl _ _).alloc (Nat.le_refl _) _).alloc (by simp) _).alloc (by simp <;> omega) _)
  have HNM : Hid (NM ((((w2.alloc (.cells #[.int .i64 p, .slice A5 l.length c5, .int .i64 (tot l)] 79)).alloc (.map #[] 0)).alloc (.map #[] 0)).alloc (.map #[] 0)) (w2.heap.size + 1) (w2.heap.size + 1 + 1) (w2.heap.size + 1 + 1 + 1) (w2.alloc (.cells #[.int .i64 p, .slice A5 l.length c5, .int .i64 (tot l)] 79)).heap.size [] [] [] (fun _ => 0) (fun k => (no l.length [] k).1) (fun k => (no l.length [] k).2.1) (fun k => ((its [] k).length : Int)) (fun k => (no l.length [] k).2.2)) := Lib.hid (by
    have := three_maps (w2.alloc (.cells #[.int .i64 p, .slice A5 l.length c5, .int .i64 (tot l)] 79)) (w2.alloc (.cells #[.int .i64 p, .slice A5 l.length c5, .int .i64 (tot l)] 79)).heap.size (Nat.le_refl _) (fun _ => 0) (fun k => (no l.length [] k).1) (fun k => (no l.length [] k).2.1) (fun k => ((its [] k).length : Int)) (fun k => (no l.length [] k).2.2)
    have e : (w2.alloc (.cells #[.int .i64 p, .slice A5 l.length c5, .int .i64 (tot l)] 79)).heap.size = w2.heap.size + 1 := by simp
    rw [e] at this ⊢
    exact this)
  have HC2 : Hid (stK.C (w2.alloc (.cells #[.int .i64 p, .slice A5 l.length c5, .int .i64 (tot l)] 79)) A5 l) := Lib.hid (HC5.out.mono ((Below.refl _ _).alloc (Nat.le_refl _) _))
  have HR2 : Hid ((w2.alloc (.cells #[.int .i64 p, .slice A5 l.length c5, .int .i64 (tot l)] 79)).cell? ⟨w2.heap.size, 1, none⟩ = some (.slice A5 l.length c5)) := Lib.hid (by rw [World.cell?_alloc_new]; rfl)
  have r1 := B.cell_below HB3.out HR2.out
  have HRW1 := Lib.hid r1
  clear HC5 HA HB2 HR2 r1
  generalize (((w2.alloc (.cells #[.int .i64 p, .slice A5 l.length c5, .int .i64 (tot l)] 79)).alloc (.map #[] 0)).alloc (.map #[] 0)).alloc (.map #[] 0) = W3 at *
  generalize w2.alloc (.cells #[.int .i64 p, .slice A5 l.length c5, .int .i64 (tot l)] 79) = W2 at *
  generalize w2.heap.size + 1 + 1 + 1 = ma at *
  generalize w2.heap.size + 1 + 1 = ml at *
  generalize w2.heap.size + 1 = mf at *
  have r1 := HRW1.out
  go_wp2
  clear r1
  go_loopw [34] (fun s34 wr => ∃ (k : Nat), s34 = .int .i64 k ∧ k ≤ l.length ∧ Hid (∃ bk, NM wr mf ml ma W2.heap.size (nub (l.take k) []) (nub (l.take k) []) (nub (l.take k) []) bk (fun x => (no l.length (l.take k) x).1) (fun x => (no l.length (l.take k) x).2.1) (fun x => ((its (l.take k) x).length : Int)) (fun x => (no l.length (l.take k) x).2.2)) ∧ Hid (Below W2.heap.size W2 wr)) (fun s _ => l.length - (intOf s).toNat)
  case atStart => exact ⟨0, rfl, Nat.zero_le _, Lib.hid ⟨fun _ => 0, by rw [List.take_zero]; exact HNM.out⟩, HB3⟩
  case round =>
    obtain ⟨k, rfl, hk, HN, HB⟩ := hrel
    by_cases hlt : k < l.length
    · obtain ⟨b1, o1, rfl, f0, f1⟩ := steps_at (HC2.out.mono HB.out) k hlt
      have hk1 : (k : Int) < l.length := by omega
      have HTS : Hid (l.take (k + 1) = l.take k ++ [l[k]]) := Lib.hid (List.take_succ_eq_append_getElem hlt)
      have HTL : Hid ((l.take k).length = k) := Lib.hid (by rw [List.length_take]; omega)
      obtain ⟨bk, hN⟩ := HN.out
      have hcnt : (its (l.take k) l[k].1).length ≤ 5000 := by have := (its_le (ok_take HOK.out k) l[k].1).2.2; rw [HTL.out] at this; omega
      generalize l[k] = s at *
      obtain ⟨s1, s2⟩ := s
      have hcnt' : (its (l.take k) s1).length ≤ 5000 := hcnt
      have HSN := Lib.hid (fun x => no_snoc l.length (l.take k) (s1, s2) x)
      have HIS := Lib.hid (fun x => its_snoc (l.take k) (s1, s2) x)
      have HSS : Hid (nub (l.take k ++ [(s1, s2)]) [] = if has (nub (l.take k) []) s1 = true then nub (l.take k) [] else nub (l.take k) [] ++ [s1]) := Lib.hid (nub_snoc _ _ _)
      have HIN := Lib.hid (fun (h : has (nub (l.take k) []) s1 = true) => no_in (n := (l.length : Int)) (p := l.take k) (by rw [HTL.out]; omega) h)
      clear hcnt
      go_upto_region 10 with (fail)
      have HAL : Hid (Below wr.heap.size wr (wr.alloc (.cells #[.string s1, .int .i64 s2] 46))) := Lib.hid ((Below.refl _ _).alloc (Nat.le_refl _) _)
      have p0 : (wr.alloc (.cells #[.string s1, .int .i64 s2] 46)).cell? ⟨wr.heap.size, 0, none⟩ = some (.string s1) := by rw [World.cell?_alloc_new]; rfl
      have HNA := Lib.hid (hN.below HAL.out)
      have HBA := Lib.hid (HB.out.alloc HB.out.size (.cells #[.string s1, .int .i64 s2] 46))
      have HLT : Hid (∀ x ∈ nub (l.take k) [], bk x < wr.heap.size) := Lib.hid (fun x hx => (hN.cls x hx).2.1.lt)
      have HMN : Hid (mf < wr.heap.size ∧ ml < wr.heap.size ∧ ma < wr.heap.size) := Lib.hid ⟨hN.of.lt, hN.ol.lt, hN.oa.lt⟩
      clear hN HN f0 f1 HB HAL
      have HSZA : Hid ((wr.alloc (.cells #[.string s1, .int .i64 s2] 46)).heap.size = wr.heap.size + 1) := Lib.hid (by simp)
      generalize wr.alloc (.cells #[.string s1, .int .i64 s2] 46) = W1 at *
      generalize wr.heap.size = n5 at *
      cases hh : has (nub (l.take k) []) s1 with
      | true =>
        have HNK : Hid (nub (l.take (k + 1)) [] = nub (l.take k) []) := Lib.hid (by rw [HTS.out, HSS.out, if_pos hh])
        have HKA : Hid (kadd (nub (l.take k) []) s1 = nub (l.take k) []) := Lib.hid (by unfold kadd; rw [if_pos hh])
        have HMEM : Hid (s1 ∈ nub (l.take k) []) := Lib.hid (has_iff.1 hh)
        have HLKA : Hid (M.look (ptrs (nub (l.take k) []) bk) s1 = some (ptr (bk s1))) := Lib.hid (by rw [look_ptrs, if_pos hh])
        have HNE : Hid (n5 ≠ bk s1) := Lib.hid (by have := HLT.out s1 HMEM.out; omega)
        obtain ⟨i1, i2, i3, i4, i5, i6⟩ := HIN.out hh
        rw [HTL.out] at i2 i4
        have HNO := Lib.hid (fun x => HSN.out x)
        have HHS : Hid (has (nub (l.take k) []) s1 = true) := Lib.hid hh
        clear HSS HLT hh HIN HSN
        go_upto_region 11 with (at_lookup; refine M.wpl_look rfl _ _ 103 rfl 9 104 Tryz.underlying103 Tryz.underlying9 _ (zeroWn _) ma _ HNA.out.oa rfl _ rfl ?_; simp only [HLKA.out, Option.getD_some, ptr])
        obtain ⟨-, -, ⟨c1, z1⟩, c2, z2⟩ := HNA.out.cls s1 HMEM.out
        go_upto_region 15 with (fail)
        have HN2 := Lib.hid (HNA.out.set1 HMEM.out (((its (l.take k) s1).length : Int) + 1))
        have HB8 : Hid (Below W2.heap.size W2 (W1.setCell ⟨bk s1, 1, none⟩ (.int .i64 (((its (l.take k) s1).length : Int) + 1)))) := Lib.hid (HBA.out.setCell (HNA.out.cls s1 HMEM.out).1.1 _)
        have P0 : Hid ((W1.setCell ⟨bk s1, 1, none⟩ (.int .i64 (((its (l.take k) s1).length : Int) + 1))).cell? ⟨n5, 0, none⟩ = some (.string s1)) := Lib.hid (by rw [World.cell?_setCell_other _ _ _ _ (by intro e; cases e)]; exact p0)
        clear p0 c1 z1 c2 z2
        generalize W1.setCell ⟨bk s1, 1, none⟩ (.int .i64 (((its (l.take k) s1).length : Int) + 1)) = W8 at *
        have p0 := P0.out
        obtain ⟨-, -, -, c2, z2⟩ := HN2.out.cls s1 HMEM.out
        have hlk := (HN2.out.below (B.below_drew (Below.refl _ _) 1)).ol.run_look (P := Tryz.prog) (w := W8.drew) (t := 102) Tryz.underlying102 Tryz.underlying9 (zeroIntW _) s1 false
        rw [look_ints, if_pos HHS.out, if_neg (by simp), Option.getD_some] at hlk
        have c2' : W8.drew.cell? ⟨bk s1, 2, none⟩ = some (.int .i64 (no l.length (l.take k) s1).2.2) := c2
        have z2' : W8.drew.frozen? ⟨bk s1, 2, none⟩ = false := z2
        have HN3 : Hid (NM W8.drew mf ml ma W2.heap.size (nub (l.take k) []) (nub (l.take k) []) (nub (l.take k) []) bk (fun x => (no l.length (l.take k) x).1) (fun x => (no l.length (l.take k) x).2.1) (upd (fun x => ((its (l.take k) x).length : Int)) s1 (((its (l.take k) s1).length : Int) + 1)) (fun x => (no l.length (l.take k) x).2.2)) := Lib.hid (HN2.out.below (B.below_drew (Below.refl _ _) 1))
        have HB9 : Hid (Below W2.heap.size W2 W8.drew) := Lib.hid (B.below_drew HB8.out 1)
        have p0' : W8.drew.cell? ⟨n5, 0, none⟩ = some (.string s1) := p0
        go_still_tail 15, (by kernel_rfl)
        change wpList _ _ _ _ _ W8.drew
        have HN4 := Lib.hid (HN3.out.set2 HMEM.out (min (no l.length (l.take k) s1).2.2 ((k : Int) - (no l.length (l.take k) s1).2.1 - 1)))
        have HBX := Lib.hid (HB9.out.setCell (p := ⟨bk s1, 2, none⟩) (HN3.out.cls s1 HMEM.out).1.1 (.int .i64 (min (no l.length (l.take k) s1).2.2 ((k : Int) - (no l.length (l.take k) s1).2.1 - 1))))
        have PX : Hid ((W8.drew.setCell ⟨bk s1, 2, none⟩ (.int .i64 (min (no l.length (l.take k) s1).2.2 ((k : Int) - (no l.length (l.take k) s1).2.1 - 1)))).cell? ⟨n5, 0, none⟩ = some (.string s1)) := Lib.hid (by rw [World.cell?_setCell_other _ _ _ _ (by intro e; cases e)]; exact p0')
        clear hlk p0 c2 z2
        generalize W8.drew = W9 at *
        go_upto_region 16 with (fail)
        clear c2' z2' p0'
        generalize W9.setCell ⟨bk s1, 2, none⟩ (.int .i64 (min (no l.length (l.take k) s1).2.2 ((k : Int) - (no l.length (l.take k) s1).2.1 - 1))) = W10 at *
        have p0 := PX.out
        go_wp2_with (at_mapUpdate; refine M.wpl_put rfl _ _ _ 102 rfl 9 3 Tryz.underlying102 Tryz.underlying9 ml _ HN4.out.ol rfl _ rfl _ rfl W2 W2.heap.size HBX.out HN4.out.hlo.2.1 ?_; intro w11 hO11 hB11 hG11; have HO11 := Lib.hid hO11; have HB11 := Lib.hid hB11; have HG11 := Lib.hid hG11; clear hO11 hB11 hG11)
        go_roundw
        case rel => exact ⟨k + 1, by go_num, by omega, Lib.hid ⟨bk, (HN4.out.putL HO11.out HG11.out).congr HNK.out.symm (HKA.out.trans HNK.out.symm) HNK.out.symm
          (fun x _ => by
            rw [HTS.out, HNO.out]
            by_cases e : s1 = x
            · subst e; rw [if_pos rfl, if_pos HHS.out]
            · rw [if_neg e])
          (fun x _ => by
            rw [HTS.out, HNO.out]
            unfold upd
            by_cases e : s1 = x
            · subst e; rw [if_pos rfl, if_pos rfl, if_pos HHS.out, HTL.out]
            · rw [if_neg e, if_neg (fun e2 => e e2.symm)])
          (fun x _ => by
            rw [HTS.out, HIS.out]
            unfold upd
            by_cases e : s1 = x
            · subst e; rw [if_pos rfl, if_pos rfl]; simp
            · rw [if_neg e, if_neg (fun e2 => e e2.symm), List.append_nil])
          (fun x _ => by
            rw [HTS.out, HNO.out]
            unfold upd
            by_cases e : s1 = x
            · subst e; rw [if_pos rfl, if_pos rfl, if_pos HHS.out, HTL.out]
            · rw [if_neg e, if_neg (fun e2 => e e2.symm)])⟩, HB11⟩
        case measure => simp [intOf]; omega
      | false =>
        have HNK : Hid (nub (l.take (k + 1)) [] = nub (l.take k) [] ++ [s1]) := Lib.hid (by rw [HTS.out, HSS.out, if_neg (by rw [hh]; simp)])
        have HKA : Hid (kadd (nub (l.take k) []) s1 = nub (l.take k) [] ++ [s1]) := Lib.hid (by unfold kadd; rw [if_neg (by rw [hh]; simp)])
        have HLKA : Hid (M.look (ptrs (nub (l.take k) []) bk) s1 = none) := Lib.hid (by rw [look_ptrs, if_neg (by rw [hh]; simp)])
        have HHS : Hid (has (nub (l.take k) []) s1 = false) := Lib.hid hh
        have HI0 : Hid (its (l.take k) s1 = []) := Lib.hid (its_none hh)
        obtain ⟨hm1, hm2, hm3⟩ := HMN.out
        clear HSS hh HIN hcnt'
        go_upto_region 11 with (at_lookup; refine M.wpl_look rfl _ _ 103 rfl 9 104 Tryz.underlying103 Tryz.underlying9 _ (zeroWn _) ma _ HNA.out.oa rfl _ rfl ?_; simp only [HLKA.out, Option.getD_none])
        have HAW : Hid (Below W1.heap.size W1 (W1.alloc (.cells #[.string s1, .int .i64 1, .int .i64 ((l.length : Int) - 1)] 32))) := Lib.hid ((Below.refl _ _).alloc (Nat.le_refl _) _)
        have HBW : Hid (Below W2.heap.size W2 (W1.alloc (.cells #[.string s1, .int .i64 1, .int .i64 ((l.length : Int) - 1)] 32))) := Lib.hid (HBA.out.alloc HBA.out.size _)
        have HOW : Hid (M.OM (W1.alloc (.cells #[.string s1, .int .i64 1, .int .i64 ((l.length : Int) - 1)] 32)) ma (ptrs (nub (l.take k) []) bk)) := Lib.hid (HNA.out.oa.below HAW.out)
        have HPW : Hid ((W1.alloc (.cells #[.string s1, .int .i64 1, .int .i64 ((l.length : Int) - 1)] 32)).cell? ⟨n5, 0, none⟩ = some (.string s1)) := Lib.hid (B.cell_below HAW.out p0)
        go_upto_region 13 with (at_mapUpdate; refine M.wpl_put rfl _ _ _ 103 rfl 9 104 Tryz.underlying103 Tryz.underlying9 ma _ HOW.out rfl _ rfl _ rfl W2 W2.heap.size HBW.out HNA.out.hlo.2.2 ?_; intro w7 hO7 hB7 hG7; have HO7 := Lib.hid hO7; have HB7 := Lib.hid hB7; have HG7 := Lib.hid hG7; clear hO7 hB7 hG7)
        have HN7 : Hid (NM w7 mf ml ma W2.heap.size (nub (l.take k) []) (nub (l.take k) []) (nub (l.take k) [] ++ [s1]) (fun x => if x = s1 then W1.heap.size else bk x) (fun x => (no l.length (l.take k) x).1) (fun x => (no l.length (l.take k) x).2.1) (upd (fun x => ((its (l.take k) x).length : Int)) s1 1) (upd (fun x => (no l.length (l.take k) x).2.2) s1 ((l.length : Int) - 1))) := Lib.hid (HNA.out.putA HBA.out.size HHS.out HO7.out HG7.out)
        have HF7 : Hid (Fr (fun b => b = ma) (W1.alloc (.cells #[.string s1, .int .i64 1, .int .i64 ((l.length : Int) - 1)] 32)) w7) := Lib.hid ((Fr.refl _ _).grown HG7.out (fun g e _ => (Option.some.inj e).symm))
        clear p0
        have p0 : w7.cell? ⟨n5, 0, none⟩ = some (.string s1) := HF7.out.cell (by show ¬ n5 = ma; omega) HPW.out
        generalize (fun x => if x = s1 then W1.heap.size else bk x) = bk7 at *
        clear HAW HBW HOW HPW HF7 HO7 HG7 HNA HBA HLT HMN
        have P7 := Lib.hid p0
        go_upto_region 16 with (at_mapUpdate; refine M.wpl_put rfl _ _ _ 102 rfl 9 3 Tryz.underlying102 Tryz.underlying9 mf _ HN7.out.of rfl _ rfl _ rfl W2 W2.heap.size HB7.out HN7.out.hlo.1 ?_; intro w8 hO8 hB8 hG8; have HO8 := Lib.hid hO8; have HB8 := Lib.hid hB8; have HG8 := Lib.hid hG8; clear hO8 hB8 hG8)
        have HN8 := Lib.hid (HN7.out.putF HO8.out HG8.out)
        have HF8 : Hid (Fr (fun b => b = mf) w7 w8) := Lib.hid ((Fr.refl _ _).grown HG8.out (fun g e _ => (Option.some.inj e).symm))
        clear p0
        have p0 : w8.cell? ⟨n5, 0, none⟩ = some (.string s1) := HF8.out.cell (by show ¬ n5 = mf; omega) P7.out
        clear HN7 HO8 HG8 HF8 HB7 P7
        go_wp2_with (at_mapUpdate; refine M.wpl_put rfl _ _ _ 102 rfl 9 3 Tryz.underlying102 Tryz.underlying9 ml _ HN8.out.ol rfl _ rfl _ rfl W2 W2.heap.size HB8.out HN8.out.hlo.2.1 ?_; intro w11 hO11 hB11 hG11; have HO11 := Lib.hid hO11; have HB11 := Lib.hid hB11; have HG11 := Lib.hid hG11; clear hO11 hB11 hG11)
        go_roundw
        case rel => exact ⟨k + 1, by go_num, by omega, Lib.hid ⟨bk7, (HN8.out.putL HO11.out HG11.out).congr (HKA.out.trans HNK.out.symm) (HKA.out.trans HNK.out.symm) HNK.out.symm
          (fun x _ => by
            rw [HTS.out, HSN.out]
            unfold upd
            by_cases e : s1 = x
            · subst e; rw [if_pos rfl, if_pos rfl, if_neg (by rw [HHS.out]; simp), HTL.out]
            · rw [if_neg e, if_neg (fun e2 => e e2.symm)])
          (fun x _ => by
            rw [HTS.out, HSN.out]
            unfold upd
            by_cases e : s1 = x
            · subst e; rw [if_pos rfl, if_pos rfl, if_neg (by rw [HHS.out]; simp), HTL.out]
            · rw [if_neg e, if_neg (fun e2 => e e2.symm)])
          (fun x _ => by
            rw [HTS.out, HIS.out]
            unfold upd
            by_cases e : s1 = x
            · subst e; rw [if_pos rfl, if_pos rfl, HI0.out]; rfl
            · rw [if_neg e, if_neg (fun e2 => e e2.symm), List.append_nil])
          (fun x _ => by
            rw [HTS.out, HSN.out]
            unfold upd
            by_cases e : s1 = x
            · subst e; rw [if_pos rfl, if_pos rfl, if_neg (by rw [HHS.out]; simp)]
            · rw [if_neg e, if_neg (fun e2 => e e2.symm)])⟩, HB11⟩
        case measure => simp [intOf]; omega
    · obtain rfl : k = l.length := by omega
      rw [List.take_length] at HN
      obtain ⟨bk, hN⟩ := HN.out
      have HNA := Lib.hid hN
      clear HN hN
      go_wp2_with (first
        | (go_at_call 56; refine (SK.keys_wanted ma _).mono ?_; rintro e w9 ⟨rfl, rfl⟩)
        | (go_at_call 40; refine (SK.sorted_wanted ma _ wr HNA.out.oa (by intro q hq2; unfold ptrs at hq2; rw [List.mem_map] at hq2; obtain ⟨k, hk, rfl⟩ := hq2; exact HSZ.out k hk) (by unfold ptrs; rw [List.length_map]; have := HNL.out; omega)).mono ?_; rintro e W4 ⟨v4, rfl, hO4, hB4⟩; rw [ptrs_keys, HKE.out] at hO4; obtain ⟨A4, c4, rfl⟩ := Copy.shape hO4; have HO4 := Lib.hid hO4; have HB34 := Lib.hid (((Below.refl _ wr).alloc (Nat.le_refl _) (.cells #[.map (some ma)] 103)).trans (hB4.mono (by omega))); clear hO4 hB4))
      have HB4 := Lib.hid (B.below_trans HB2b.out (B.below_trans HB.out HB34.out))
      have HN4 := Lib.hid (HNA.out.below HB34.out)
      have HKS : Hid (B.Kd.str.C W4 A4 ks) := Lib.hid (by obtain ⟨A', c', e, hC⟩ := B.own_str HO4.out (by have := HDL.out; omega); cases e; exact hC)
      clear HNA HB34 HO4 HB
      go_loopw [13, 89] (fun s13 s89 wr => ∃ j : Nat, s89 = .int .i64 j ∧ j ≤ ks.length ∧ Hid (B.Own wr W4.heap.size 32 3 Wn.wnE s13 ((ks.take j).map (nw l))) ∧ Hid (Below W4.heap.size W4 wr)) (fun _ s _ => ks.length - (intOf s).toNat)
      case atStart => exact ⟨0, rfl, Nat.zero_le _, Lib.hid (by rw [List.take_zero]; exact B.Own.nil _ _ _ _ _), Lib.hid (Below.refl _ _)⟩
      case round =>
        obtain ⟨j, rfl, hj, HO, HB⟩ := hrel
        by_cases hlt : j < ks.length
        · obtain ⟨b1, o1, rfl, f0⟩ := str_at (HKS.out.mono HB.out) j hlt
          have hj1 : (j : Int) < ks.length := by omega
          have hkl : ks.length ≤ 5000 := by have := HDL.out; omega
          have HTK : Hid ((ks.take (j + 1)).map (nw l) = (ks.take j).map (nw l) ++ [nw l ks[j]]) := Lib.hid (by rw [List.take_succ_eq_append_getElem hlt, List.map_append]; rfl)
          have HLT : Hid (((ks.take j).map (nw l)).length ≤ 5000) := Lib.hid (by rw [List.length_map, List.length_take]; omega)
          have hmem := HDM.out _ (List.getElem_mem hlt)
          have HLA : Hid (M.look (ptrs (nub l []) bk) ks[j] = some (ptr (bk ks[j]))) := Lib.hid (by rw [look_ptrs, if_pos (has_iff.2 hmem)])
          have HLF : Hid (M.look (ints (nub l []) (fun x => (no l.length l x).1)) ks[j] = some (.int .i64 (no l.length l ks[j]).1)) := Lib.hid (by rw [look_ints, if_pos (has_iff.2 hmem)])
          have HLL : Hid (M.look (ints (nub l []) (fun x => (no l.length l x).2.1)) ks[j] = some (.int .i64 (no l.length l ks[j]).2.1)) := Lib.hid (by rw [look_ints, if_pos (has_iff.2 hmem)])
          have HNJ := Lib.hid (HN4.out.below HB.out)
          obtain ⟨-, ⟨c0, -⟩, ⟨c1, -⟩, ⟨c2, -⟩⟩ := HNJ.out.cls _ hmem
          have hcnt : (its l ks[j]).length ≤ 5000 := by have := (its_le HOK.out ks[j]).2.2; omega
          obtain ⟨i1, i2, i3, i4, i5, i6⟩ := no_in (n := (l.length : Int)) (p := l) (by omega) (has_iff.2 hmem)
          have HCS : Hid ((#[.string ks[j], .int .i64 ((its l ks[j]).length : Int), .int .i64 (min (no l.length l ks[j]).2.2 ((no l.length l ks[j]).1 + l.length - (no l.length l ks[j]).2.1 - 1))] : Array Value).toList = Wn.wnE (nw l ks[j])) := Lib.hid rfl
          generalize nw l ks[j] = PJ at HTK HCS
          generalize (ks.take j).map (nw l) = PS at *
          have HAL := Lib.hid (fun o => (Below.refl _ wr).alloc (Nat.le_refl wr.heap.size) o)
          generalize (no l.length l ks[j]).1 = q1 at *
          generalize (no l.length l ks[j]).2.1 = q2 at *
          generalize (no l.length l ks[j]).2.2 = q3 at *
          generalize (its l ks[j]).length = y1 at *
          clear hmem
          generalize ks[j] = kk at *
          have HNJA := Lib.hid (fun o => HNJ.out.below (HAL.out o))
          go_upto_region 23 with (at_lookup; refine M.wpl_look rfl _ _ 103 rfl 9 104 Tryz.underlying103 Tryz.underlying9 _ (zeroWn _) ma _ HNJ.out.oa rfl _ rfl ?_; simp only [HLA.out, Option.getD_some, ptr])
          go_wp2_with (first
            | (at_lookup; refine M.wpl_look rfl _ _ 102 rfl 9 3 Tryz.underlying102 Tryz.underlying9 _ (zeroIntW _) mf _ (HNJA.out _).of rfl _ rfl ?_; simp only [HLF.out, Option.getD_some])
            | (at_lookup; refine M.wpl_look rfl _ _ 102 rfl 9 3 Tryz.underlying102 Tryz.underlying9 _ (zeroIntW _) ml _ (HNJA.out _).ol rfl _ rfl ?_; simp only [HLL.out, Option.getD_some])
            | (at_builtin; (refine Copy.wpl_append_g (w0 := W4) W4.heap.size rfl _ _ 29 32 (.agg #[.string ⟨#[]⟩, .int .i64 0, .int .i64 0]) 3 32 rfl Tryz.underlying29 Wn.info_wn rfl (by decide) (by decide) Wn.wnE (fun _ => rfl) Wn.wnE1 _ PS PJ _ HCS.out (HO.out.below (HAL.out _)) rfl _ (by simp) rfl (HB.out.alloc HB.out.size _) (by have := HB.out.size; simp; omega) (by have := HLT.out; omega) ?_); intro v7 w7 hO7 hB7 _; have HO7 := Lib.hid hO7; have HB7 := Lib.hid hB7; clear hO7 hB7))
          go_roundw
          case rel => exact ⟨j + 1, by go_num, by omega, by rw [HTK.out]; exact HO7, HB7⟩
          case measure => simp [intOf]; omega
        · obtain rfl : j = ks.length := by omega
          have ho := HO.out
          rw [List.take_length, ← HPE.out] at ho
          obtain ⟨A7, c7, rfl, hC7⟩ := own_wn ho (by rw [HPE.out, List.length_map]; have := HDL.out; omega)
          have HC7 := Lib.hid hC7
          clear ho hC7 HO
          go_wp2
          go_ret2
          exact ⟨⟨A7, c7, rfl, HC7.out⟩, B.below_trans HB4.out HB.out⟩
end Go.Proofs.YtlfobpjefklccaaGreatDoor.Come
namespace Go.Proofs.YtlfobpjefklccaaGreatDoor.Come
open Go.RowKit
open T (Step stK steps_at)

theorem own_set_ne {α : Type} {w : World} {base : Nat} {e : TypeId} {k : Nat} {enc : α → List Value} {v : Value} {xs : List α} {g i : Nat} (h : B.Own w base e k enc v xs) (hg : v.ownBlock ≠ some g) (u : Value) : B.Own (w.setCell ⟨g, i, none⟩ u) base e k enc v xs := by
  have hb : (w.setCell ⟨g, i, none⟩ u).heap.size = w.heap.size := by simp
  refine World.ownsRow.kept (row := some g) h ⟨rfl, rfl, rfl, by rw [hb]; exact Nat.le_refl _, fun i _ hi => Below.heap_setCell _ _ _ _ (fun e => hi (by rw [e]))⟩ (.inr hg)
theorem nR_drop {k : ByteArray} {n p0 : Int} {l : List Step} {i : Nat} (hi : i < l.length) (m : Int) : nR k n p0 (l.drop i) i m = if l[i].1 = k then nR k n p0 (l.drop (i + 1)) ((i + 1 : Nat) : Int) (min m (pend k n p0 (l.drop (i + 1)) ((i : Int) + 1) i)) else nR k n p0 (l.drop (i + 1)) ((i + 1 : Nat) : Int) m := by
  rw [List.drop_eq_getElem_cons hi, nR, show ((i + 1 : Nat) : Int) = (i : Int) + 1 by omega]
theorem nw_ref {l : List Step} {k : ByteArray} (hk : k ∈ l.map (·.1)) : ∃ f : Nat, nw l k = (k, ((its l k).length : Int), nR k l.length f l 0 l.length) ∧ ∃ h : f < l.length, l[f].1 = k ∧ ∀ j (hj : j < l.length), j < f → l[j].1 ≠ k := by
  obtain ⟨f, la, a, h1, h2, h3, h4, ⟨h5, h5'⟩, h6⟩ := near_all l.length k l 0 hk
  rw [Int.sub_zero] at h5
  simp only [Int.sub_zero] at h5' h6
  refine ⟨f.toNat, ?_, h5, h5', fun j hj hlt => h6 j hj (by omega)⟩
  unfold nw no
  rw [h1]
  show (k, _, min a (f + l.length - la - 1)) = _
  rw [h2, show ((f.toNat : Nat) : Int) = f by omega]
set_option maxHeartbeats 8000000 in
set_option maxRecDepth 100000 in
theorem nearestOf (A : Option Addr) (c : Nat) (l : List Step) (w : World) (h1 : stK.C w A l) (hok : Ok l) (hn : l ≠ []) (hl : l.length ≤ 5000) :
    Calls Tryz.prog 29 #[.slice A l.length c] w fun e w' => (∃ A c, e = .returned (.slice A (nws l).length c) ∧ Wn.wnK.C w' A (nws l)) ∧ Below w.heap.size w w' := by
  have H1 := Lib.hid h1
  have HOK := Lib.hid hok
  have hlp : 1 ≤ l.length := List.length_pos_iff.2 hn
  have HI := Lib.hid (itemsOf A c l w h1 hl)
  have HPE : Hid (nws l = (Told.dd (l.map (·.1))).map (nw l)) := Lib.hid rfl
  have HDL := Lib.hid (dd_len l)
  have HDM := Lib.hid (fun k (hk : k ∈ Told.dd (l.map (·.1))) => nw_ref ((dd_mem _ _).1 hk))
  generalize Told.dd (l.map (·.1)) = ks at *
  generalize nws l = PL at *
  clear h1 hok hn
  go_enter Tryz.func29, Tryz.ntmps29
  go_wp2_with (go_at_call 44; refine HI.out.mono ?_; rintro e W4 ⟨v4, rfl, hO4, hB4⟩; obtain ⟨A4, c4, rfl⟩ := Copy.shape hO4; have HO4 := Lib.hid hO4; have HB4 := Lib.hid hB4; clear hO4 hB4)
  have HKS : Hid (B.Kd.str.C W4 A4 ks) := Lib.hid (by obtain ⟨A', c', e, hC⟩ := B.own_str HO4.out (by have := HDL.out; omega); cases e; exact hC)
  have H4 := Lib.hid (H1.out.mono HB4.out)
  clear HO4 HI
  go_loopw [3, 13] (fun s3 s13 wr => ∃ (j : Nat) (v3 : Value), s13 = .int .i64 j ∧ j ≤ ks.length ∧ v3 = s3 ∧ Hid (B.Own wr W4.heap.size 32 3 Wn.wnE v3 ((ks.take j).map (nw l))) ∧ Hid (Below W4.heap.size W4 wr)) (fun _ s _ => ks.length - (intOf s).toNat)
  case atStart => exact ⟨0, _, rfl, Nat.zero_le _, rfl, Lib.hid (by rw [List.take_zero]; exact B.Own.nil _ _ _ _ _), Lib.hid (Below.refl _ _)⟩
  case round =>
    obtain ⟨j, v3, rfl, hj, rfl, HO, HB⟩ := hrel
    by_cases hlt : j < ks.length
    · obtain ⟨b1, o1, rfl, f0⟩ := str_at (HKS.out.mono HB.out) j hlt
      have hj1 : (j : Int) < ks.length := by omega
      have hkl : ks.length ≤ 5000 := by have := HDL.out; omega
      have HTK : Hid ((ks.take (j + 1)).map (nw l) = (ks.take j).map (nw l) ++ [nw l ks[j]]) := Lib.hid (by rw [List.take_succ_eq_append_getElem hlt, List.map_append]; rfl)
      have HLT : Hid (((ks.take j).map (nw l)).length ≤ 5000) := Lib.hid (by rw [List.length_map, List.length_take]; omega)
      obtain ⟨f, hnw, hf, hfk, hff⟩ := HDM.out _ (List.getElem_mem hlt)
      have HFF := Lib.hid hff
      have HFK := Lib.hid hfk
      have HNW := Lib.hid hnw
      clear hnw hfk hff
      generalize (ks.take j).map (nw l) = PS at *
      generalize nw l ks[j] = PJ at HTK HNW
      generalize ks[j] = kk at *
      go_upto_region 6 with (fail)
      have HBA : Hid (Below W4.heap.size W4 (wr.alloc (.cells #[.string kk, .int .i64 0, .int .i64 l.length] 32))) := Lib.hid (HB.out.alloc HB.out.size _)
      have HOA : Hid (B.Own (wr.alloc (.cells #[.string kk, .int .i64 0, .int .i64 l.length] 32)) W4.heap.size 32 3 Wn.wnE v3 PS) := Lib.hid (HO.out.below ((Below.refl _ _).alloc (Nat.le_refl _) _))
      have HC0 := Lib.hid (F.Cl.new wr #[.string kk, .int .i64 0, .int .i64 l.length] 32 0 _ rfl)
      have HC1 := Lib.hid (F.Cl.new wr #[.string kk, .int .i64 0, .int .i64 l.length] 32 1 _ rfl)
      have HC2 := Lib.hid (F.Cl.new wr #[.string kk, .int .i64 0, .int .i64 l.length] 32 2 _ rfl)
      have HNB : Hid (v3.ownBlock ≠ some wr.heap.size) := Lib.hid (fun e => by have := (World.ownsRow.lt HO.out _ e).2; omega)
      have HBL : Hid (W4.heap.size ≤ wr.heap.size) := Lib.hid HB.out.size
      clear f0 HB HO
      generalize wr.alloc (.cells #[.string kk, .int .i64 0, .int .i64 l.length] 32) = W5 at *
      generalize wr.heap.size = n5 at *
      go_wp2
      go_loopw [23] (fun s23 wr => ∃ (i : Nat) (m : Int), s23 = .int .i64 i ∧ i ≤ l.length ∧ 0 ≤ m ∧ m ≤ 5000 ∧ Hid (F.Cl wr n5 0 (.string kk)) ∧ Hid (F.Cl wr n5 1 (.int .i64 ((its (l.take i) kk).length : Nat))) ∧ Hid (F.Cl wr n5 2 (.int .i64 m)) ∧ Hid (nR kk l.length f (l.drop i) i m = nR kk l.length f l 0 l.length) ∧ Hid (B.Own wr W4.heap.size 32 3 Wn.wnE v3 PS) ∧ Hid (Below W4.heap.size W4 wr)) (fun s _ => l.length - (intOf s).toNat)
      case atStart => exact ⟨0, l.length, rfl, Nat.zero_le _, by omega, by omega, HC0, HC1, HC2, Lib.hid rfl, HOA, HBA⟩
      case round =>
        obtain ⟨i, m, rfl, hi, hm0, hm1, H0, HC1, H2, HNR, HO, HB⟩ := hrel
        by_cases hlt2 : i < l.length
        · obtain ⟨b2, o2, rfl, f1, f2⟩ := steps_at (H4.out.mono HB.out) i hlt2
          have hi1 : (i : Int) < l.length := by omega
          have HTS : Hid (its (l.take (i + 1)) kk = its (l.take i) kk ++ (if l[i].1 = kk then [l[i]] else [])) := Lib.hid (by rw [List.take_succ_eq_append_getElem hlt2, its_snoc])
          have HND := Lib.hid (nR_drop (k := kk) (n := l.length) (p0 := f) hlt2 m)
          have hcn : (its (l.take i) kk).length ≤ 5000 := by have := (its_le (ok_take HOK.out i) kk).2.2; have := List.length_take_le i l; omega
          have HIK : Hid (∀ h : i < l.length, l[i].1 = l[i].1) := Lib.hid (fun _ => rfl)
          have HAL := Lib.hid ((Below.refl _ wr).alloc (Nat.le_refl _) (.cells #[.string l[i].1, .int .i64 l[i].2] 46))
          have HL5 : Hid (n5 < wr.heap.size) := Lib.hid H0.out.lt
          generalize hs : l[i] = s at *
          obtain ⟨s1, s2⟩ := s
          have HSE : Hid (l[i].1 = s1) := Lib.hid (by rw [hs])
          clear hs HIK
          rcases seq_cases s1 kk with ⟨hse, hsb⟩ | ⟨hse, hsb⟩
          · have hsn : (s1.toList != kk.toList) = false := by rw [bne, hsb]; rfl
            have HTS2 : Hid ((its (l.take (i + 1)) kk).length = (its (l.take i) kk).length + 1) := Lib.hid (by rw [HTS.out, if_pos hse.out, List.length_append]; rfl)
            have HND2 : Hid (nR kk l.length f (l.drop i) i m = nR kk l.length f (l.drop (i + 1)) ((i + 1 : Nat) : Int) (min m (pend kk l.length f (l.drop (i + 1)) ((i : Int) + 1) i))) := Lib.hid (by rw [HND.out, if_pos hse.out])
            have HIK : Hid (l[i].1 = kk) := Lib.hid (HSE.out.trans hse.out)
            have HB6 := Lib.hid (HB.out.alloc HB.out.size (.cells #[.string s1, .int .i64 s2] 46))
            have HO6 : Hid (B.Own (wr.alloc (.cells #[.string s1, .int .i64 s2] 46)) W4.heap.size 32 3 Wn.wnE v3 PS) := Lib.hid (HO.out.below HAL.out)
            have G0 := Lib.hid (H0.out.below HAL.out)
            have G1 := Lib.hid (HC1.out.below HAL.out)
            have G2 := Lib.hid (H2.out.below HAL.out)
            clear HTS HND hse HSE
            go_upto_region 9 with (fail)
            clear f1 f2
            have P8 : Hid ((wr.alloc (.cells #[.string s1, .int .i64 s2] 46)).cell? ⟨wr.heap.size, 0, none⟩ = some (.string s1)) := Lib.hid (by rw [World.cell?_alloc_new]; rfl)
            generalize wr.alloc (.cells #[.string s1, .int .i64 s2] 46) = W6 at *
            have p8 := P8.out
            obtain ⟨g1, z1⟩ := G1.out
            go_upto_region 11 with (fail)
            clear g1 z1 p8 P8
            have K0 := Lib.hid (G0.out.set_ne (p := ⟨n5, 1, none⟩) (by simp) (.int .i64 ((its (l.take i) kk).length + 1 : Int)))
            have K1 := Lib.hid (G1.out.set (.int .i64 ((its (l.take i) kk).length + 1 : Int)))
            have K2 := Lib.hid (G2.out.set_ne (p := ⟨n5, 1, none⟩) (by simp) (.int .i64 ((its (l.take i) kk).length + 1 : Int)))
            have HB7 := Lib.hid (HB6.out.setCell (p := ⟨n5, 1, none⟩) HBL.out (.int .i64 ((its (l.take i) kk).length + 1 : Int)))
            have HO7 : Hid (B.Own (W6.setCell ⟨n5, 1, none⟩ (.int .i64 ((its (l.take i) kk).length + 1 : Int))) W4.heap.size 32 3 Wn.wnE v3 PS) := Lib.hid (own_set_ne HO6.out HNB.out _)
            clear HB6 HO6 G0 G1 G2 H0 HC1 H2 HB HO HAL
            generalize W6.setCell ⟨n5, 1, none⟩ (.int .i64 ((its (l.take i) kk).length + 1 : Int)) = W7 at *
            go_wp2
            go_loopw [9] (fun s9 wr => ∃ q : Nat, s9 = .int .i64 q ∧ 1 ≤ q ∧ q ≤ l.length ∧ Hid (∀ r, 1 ≤ r → r < q → ∀ h : (i + r) % l.length < l.length, l[(i + r) % l.length].1 ≠ kk) ∧ Hid (wr = W7)) (fun s _ => l.length - (intOf s).toNat)
            case atStart => exact ⟨1, rfl, Nat.le_refl _, hlp, Lib.hid (fun r h1 h2 => by omega), Lib.hid rfl⟩
            case round =>
              obtain ⟨q, rfl, hq1, hq2, HNQ, HW⟩ := hrel
              obtain rfl := HW.out
              have hmd := Nat.mod_lt (i + q) (show 0 < l.length by omega)
              obtain ⟨b3, o3, e3, f3, f4⟩ := steps_at (H4.out.mono HB7.out) ((i + q) % l.length) hmd
              cases e3
              have ea : (((i : Int) + q) % l.length).toNat = (i + q) % l.length := by rw [← Int.natCast_add, ← Int.natCast_emod]; exact Int.toNat_natCast _
              have na : (0 : Int) ≤ ((i : Int) + q) % l.length := Int.emod_nonneg _ (by omega)
              have la : ((i : Int) + q) % l.length < l.length := Int.emod_lt_of_pos _ (by omega)
              have hqi : (q : Int) ≤ l.length := by omega
              have HYN := Lib.hid (fun (h : l[(i + q) % l.length].1 = kk) => pend_dist kk l i f q hf HFK.out HFF.out hlt2 HIK.out hq1 hq2 HNQ.out (fun _ => h))
              have HQN : Hid (l[(i + q) % l.length].1 ≠ kk → q + 1 ≤ l.length) := Lib.hid (fun hne => by
                rcases Nat.lt_or_ge q l.length with h | h
                · omega
                · refine absurd ?_ hne
                  have e : (i + q) % l.length = i := by rw [show q = l.length by omega, Nat.add_mod_right, Nat.mod_eq_of_lt hlt2]
                  simp only [e]
                  exact HIK.out)
              have HNQ2 : Hid (l[(i + q) % l.length].1 ≠ kk → ∀ r, 1 ≤ r → r < q + 1 → ∀ h : (i + r) % l.length < l.length, l[(i + r) % l.length].1 ≠ kk) := Lib.hid (fun hne r h1 h2 h => by
                rcases Nat.lt_or_ge r q with h3 | h3
                · exact HNQ.out r h1 h3 h
                · obtain rfl : r = q := by omega
                  exact hne)
              generalize l[(i + q) % l.length] = t at *
              obtain ⟨t1, t2⟩ := t
              clear f4 HNQ HW
              rcases seq_cases t1 kk with ⟨hte, htb⟩ | ⟨hte, htb⟩
              · have HPD := Lib.hid (HYN.out hte.out)
                obtain ⟨g2, z2⟩ := K2.out
                clear HYN HQN HNQ2
                go_upto_region 16 with (fail)
                have L0 := Lib.hid (K0.out.set_ne (p := ⟨n5, 2, none⟩) (by simp) (.int .i64 (min m ((q : Int) - 1))))
                have L1 := Lib.hid (K1.out.set_ne (p := ⟨n5, 2, none⟩) (by simp) (.int .i64 (min m ((q : Int) - 1))))
                have L2 := Lib.hid (K2.out.set (.int .i64 (min m ((q : Int) - 1))))
                have HB8 := Lib.hid (HB7.out.setCell (p := ⟨n5, 2, none⟩) HBL.out (.int .i64 (min m ((q : Int) - 1))))
                have HO8 := Lib.hid (own_set_ne (i := 2) HO7.out HNB.out (.int .i64 (min m ((q : Int) - 1))))
                clear g2 z2
                go_wp2
                go_roundw
                case rel => exact ⟨i + 1, min m ((q : Int) - 1), by go_num, by omega, by omega, by omega, L0, Lib.hid (by have := L1.out; rw [HTS2.out]; exact this), L2, Lib.hid (by rw [← HPD.out, ← HND2.out]; exact HNR.out), HO8, HB8⟩
                case measure => simp [intOf]; omega
              · have hq3 : q + 1 ≤ l.length := HQN.out hte.out
                have HNQ3 := Lib.hid (HNQ2.out hte.out)
                clear HYN HQN HNQ2
                go_wp2
                go_roundw
                case rel => exact ⟨q + 1, by go_num, by omega, hq3, HNQ3, Lib.hid (by first | rfl | trivial)⟩
                case measure => simp [intOf]; omega
          · have hsn : (s1.toList != kk.toList) = true := by rw [bne, hsb]; rfl
            have HTS2 : Hid ((its (l.take (i + 1)) kk).length = (its (l.take i) kk).length) := Lib.hid (by rw [HTS.out, if_neg hse.out, List.append_nil])
            have HND2 : Hid (nR kk l.length f (l.drop i) i m = nR kk l.length f (l.drop (i + 1)) ((i + 1 : Nat) : Int) m) := Lib.hid (by rw [HND.out, if_neg hse.out])
            clear HTS HND hse
            go_wp2
            go_roundw
            case rel => exact ⟨i + 1, m, by go_num, by omega, hm0, hm1, Lib.hid (H0.out.below HAL.out), Lib.hid (by rw [HTS2.out]; exact HC1.out.below HAL.out), Lib.hid (H2.out.below HAL.out), Lib.hid (by rw [← HND2.out]; exact HNR.out), Lib.hid (HO.out.below HAL.out), Lib.hid (HB.out.alloc HB.out.size _)⟩
            case measure => simp [intOf]; omega
        · obtain rfl : i = l.length := by omega
          have HMR : Hid (m = nR kk l.length f l 0 l.length) := Lib.hid (by have := HNR.out; rw [List.drop_length, nR] at this; exact this)
          have HC1' : Hid (F.Cl wr n5 1 (.int .i64 ((its l kk).length : Nat))) := Lib.hid (by have := HC1.out; rwa [List.take_length] at this)
          have HCS : Hid ((#[.string kk, .int .i64 ((its l kk).length : Nat), .int .i64 m] : Array Value).toList = Wn.wnE PJ) := Lib.hid (by rw [HNW.out, HMR.out]; rfl)
          have g0 := H0.out.1
          have g1 := HC1'.out.1
          have g2 := H2.out.1
          clear HC1 HNR HMR HNW
          go_wp2_with (at_builtin; (refine B.wpl_append (w0 := W4) W4.heap.size rfl _ _ 29 32 (.agg #[.string ⟨#[]⟩, .int .i64 0, .int .i64 0]) 3 32 rfl Tryz.underlying29 Wn.info_wn rfl (by decide) (by decide) Wn.wnE (fun _ => rfl) Wn.wnE1 _ PS PJ _ HCS.out HO.out rfl rfl HB.out HB.out.size (by have := HLT.out; omega) ?_); intro v7 w7 hO7 hB7 _; have HO7 := Lib.hid hO7; have HB7 := Lib.hid hB7; clear hO7 hB7)
          go_roundw
          case rel => exact ⟨j + 1, _, by go_num, by omega, rfl, by rw [HTK.out]; exact HO7, HB7⟩
          case measure => simp [intOf]; omega
    · obtain rfl : j = ks.length := by omega
      have ho := HO.out
      rw [List.take_length, ← HPE.out] at ho
      obtain ⟨A7, c7, rfl, hC7⟩ := own_wn ho (by rw [HPE.out, List.length_map]; have := HDL.out; omega)
      have HC7 := Lib.hid hC7
      clear ho hC7 HO
      go_wp2
      go_ret
      exact ⟨⟨A7, c7, rfl, HC7.out⟩, B.below_trans HB4.out HB.out⟩
end Go.Proofs.YtlfobpjefklccaaGreatDoor.Come
