/- Rows of items: the program and the reference look for the same. Plain. Rows of items: what a state's key is, and that it tells the state. Plain; rows of ints of the call's own. The program's spreader: its state, and what each write does to it. The spreader's state from one world to the next. The program's spreader as it is built. Printed by wip/gen/spgen.py. The reference's search: the state of its closure, and what each write does to it. The boxes of the reference's SpreadOf while they are filled. Printed by wip/gen/sogen.py. -/
import Derived.Test.YtlfobpjefklccaaGreatDoorBase
import Derived.Test.YtlfobpjefklccaaGreatDoorFrame
import Derived.Test.YtlfobpjefklccaaGreatDoorMaps
import Derived.Laws.OwnMore
import Derived.Lib.ItoaNum
import Derived.Test.YtlfobpjefklccaaGreatDoorWant
namespace Go.Proofs.YtlfobpjefklccaaGreatDoor.Sp
abbrev Wn := ByteArray × Int × Int
/-- The first that is found. -/
def fs {α : Type} (f : Nat → Option α) : Nat → Nat → Option α
  | _, 0 => none
  | i, c + 1 => match f i with
    | some r => some r
    | none => fs f (i + 1) c
theorem fs_congr {α : Type} {f g : Nat → Option α} : ∀ (c i : Nat), (∀ j, i ≤ j → j < i + c → f j = g j) → fs f i c = fs g i c := by
  intro c
  induction c with
  | zero => intro i _; rfl
  | succ c ih =>
    intro i h
    rw [fs, fs, h i (Nat.le_refl _) (by omega), ih (i + 1) (fun j h1 h2 => h j (by omega) (by omega))]
theorem fs_some {α : Type} {f : Nat → Option α} {r : α} : ∀ (c i : Nat), fs f i c = some r → ∃ j, i ≤ j ∧ j < i + c ∧ f j = some r := by
  intro c
  induction c with
  | zero => intro i h; cases h
  | succ c ih =>
    intro i h
    rw [fs] at h
    cases hf : f i with
    | some r' => rw [hf] at h; cases h; exact ⟨i, Nat.le_refl _, by omega, hf⟩
    | none =>
      rw [hf] at h
      obtain ⟨j, h1, h2, h3⟩ := ih (i + 1) h
      exact ⟨j, by omega, by omega, h3⟩
def g0 (l : List Int) (i : Nat) : Int := l.getD i 0
def ap (l : List Wn) (i : Nat) : Int := (l.getD i (⟨#[]⟩, 0, 0)).2.2
def it (l : List Wn) (i : Nat) : ByteArray := (l.getD i (⟨#[]⟩, 0, 0)).1
theorem g0_set {l : List Int} {i j : Nat} (hi : i < l.length) (v : Int) : g0 (l.set i v) j = if j = i then v else g0 l j := by
  unfold g0
  rw [List.getD_eq_getElem?_getD, List.getD_eq_getElem?_getD, List.getElem?_set]
  by_cases h : i = j
  · subst h; simp [hi]
  · rw [if_neg h, if_neg (fun e => h e.symm)]
theorem g0_map {l : List Int} {f : Int → Int} (hf : f 0 = 0) (j : Nat) : g0 (l.map f) j = f (g0 l j) := by
  unfold g0
  rw [List.getD_eq_getElem?_getD, List.getD_eq_getElem?_getD, List.getElem?_map]
  cases l[j]? with
  | none => simp [hf]
  | some x => simp
def sm : List Int → Int
  | [] => 0
  | x :: l => x + sm l
theorem sm_set : ∀ (l : List Int) (i : Nat) (v : Int), i < l.length → sm (l.set i v) = sm l - g0 l i + v := by
  intro l
  induction l with
  | nil => intro i v h; simp at h
  | cons x l ih =>
    intro i v h
    cases i with
    | zero => simp [sm, g0]; omega
    | succ i =>
      have := ih i v (by simpa using h)
      rw [List.set_cons_succ, sm, sm, this]
      have e : g0 (x :: l) (i + 1) = g0 l i := by simp [g0]
      rw [e]; omega
theorem sm_ge : ∀ (l : List Int) (i : Nat), (∀ j, 0 ≤ g0 l j) → 0 ≤ sm l ∧ g0 l i ≤ sm l := by
  intro l
  induction l with
  | nil => intro i _; simp [sm, g0]
  | cons x l ih =>
    intro i h
    have h0 : 0 ≤ x := by have := h 0; simpa [g0] using this
    have ht : ∀ j, 0 ≤ g0 l j := fun j => by have := h (j + 1); simpa [g0] using this
    cases i with
    | zero => have := (ih 0 ht).1; simp only [sm]; simp [g0]; omega
    | succ i => have := ih i ht; simp only [sm]; have e : g0 (x :: l) (i + 1) = g0 l i := by simp [g0]
                rw [e]; omega
/-- One step of waiting. -/
def dec (wait : List Int) (i : Nat) (a : Int) : List Int := (wait.map (fun x => max 0 (x - 1))).set i a
/-- The first row in which so many more come, as the program looks for it. -/
def sr (l : List Wn) : Nat → List Int → List Int → Option (List ByteArray)
  | 0, _, _ => some []
  | m + 1, left, wait => fs (fun i => if g0 left i = 0 ∨ 0 < g0 wait i then none else (sr l m (left.set i (g0 left i - 1)) (dec wait i (ap l i))).map (it l i :: ·)) 0 l.length
def roomy (l : List Wn) (left last : List Int) (t all : Int) : Bool := (List.range l.length).all fun i => !decide (0 < g0 left i ∧ all ≤ max t (g0 last i + ap l i + 1) + (g0 left i - 1) * (ap l i + 1))
/-- The same as the reference looks for it. -/
def rr (l : List Wn) (all : Int) : Nat → List Int → List Int → Option (List ByteArray)
  | 0, _, _ => some []
  | m + 1, left, last => fs (fun i => if g0 left i = 0 ∨ all - (m + 1 : Nat) - g0 last i - 1 < ap l i then none else
      if roomy l (left.set i (g0 left i - 1)) (last.set i (all - (m + 1 : Nat))) (all - (m : Nat)) all = true then (rr l all m (left.set i (g0 left i - 1)) (last.set i (all - (m + 1 : Nat)))).map (it l i :: ·) else none) 0 l.length
/-- Where there is a row, there is room for each item alone. -/
theorem room (l : List Wn) (ha : ∀ i, 0 ≤ ap l i) : ∀ (m : Nat) (left wait : List Int) (r : List ByteArray), left.length = l.length → wait.length = l.length → (∀ i, 0 ≤ g0 left i) → (∀ i, 0 ≤ g0 wait i) → sm left = m → sr l m left wait = some r →
    ∀ i, 0 < g0 left i → g0 wait i + (g0 left i - 1) * (ap l i + 1) < m := by
  intro m
  induction m with
  | zero =>
    intro left wait r _ _ h0 _ hs _ i hi
    have := (sm_ge left i h0).2
    omega
  | succ m ih =>
    intro left wait r h1 h2 h0 hw hs hr i hi
    rw [sr] at hr
    obtain ⟨j, -, hj, hf⟩ := fs_some _ _ hr
    rw [Nat.zero_add] at hj
    by_cases hc : g0 left j = 0 ∨ 0 < g0 wait j
    · rw [if_pos hc] at hf; cases hf
    rw [if_neg hc] at hf
    simp only [not_or, Int.not_lt] at hc
    obtain ⟨r', hr', -⟩ := Option.map_eq_some_iff.1 hf
    have hj1 : j < left.length := by omega
    have hlj : 1 ≤ g0 left j := by have := h0 j; omega
    have hg : ∀ x, g0 (left.set j (g0 left j - 1)) x = if x = j then g0 left j - 1 else g0 left x := fun x => g0_set hj1 _
    have hd : ∀ x, g0 (dec wait j (ap l j)) x = if x = j then ap l j else max 0 (g0 wait x - 1) := fun x => by
      unfold dec
      rw [g0_set (by rw [List.length_map]; omega), g0_map (by decide)]
    have := ih (left.set j (g0 left j - 1)) (dec wait j (ap l j)) r' (by rw [List.length_set]; exact h1) (by unfold dec; rw [List.length_set, List.length_map]; exact h2) (fun x => by rw [hg]; split; omega; exact h0 x) (fun x => by rw [hd]; split; exact ha j; omega) (by rw [sm_set _ _ _ hj1, hs]; omega) hr'
    by_cases hij : i = j
    · subst hij
      by_cases h1' : g0 left i = 1
      · rw [h1']; simp; have := hw i; omega
      · have h3 := this i (by rw [hg, if_pos rfl]; omega)
        rw [hg, hd, if_pos rfl, if_pos rfl] at h3
        have e : (g0 left i - 1) * (ap l i + 1) = (g0 left i - 1 - 1) * (ap l i + 1) + (ap l i + 1) := by
          rw [show g0 left i - 1 = (g0 left i - 1 - 1) + 1 by omega, Int.add_mul]; simp
        rw [e]
        have := hw i
        omega
    · have h3 := this i (by rw [hg, if_neg hij]; exact hi)
      rw [hg, hd, if_neg hij, if_neg hij] at h3
      have := hw i
      omega
/-- Both find the same. -/
theorem rr_sr (l : List Wn) (all : Int) (ha : ∀ i, 0 ≤ ap l i) : ∀ (m : Nat) (left last wait : List Int), left.length = l.length → last.length = l.length → wait.length = l.length → (∀ i, 0 ≤ g0 left i) → (∀ i, i < l.length → g0 wait i = max 0 (g0 last i + ap l i + 1 - (all - m))) → sm left = m →
    rr l all m left last = sr l m left wait := by
  intro m
  induction m with
  | zero => intro left last wait _ _ _ _ _ _; rfl
  | succ m ih =>
    intro left last wait h1 h2 h3 h0 hw hs
    rw [rr, sr]
    refine fs_congr _ _ (fun i _ hi => ?_)
    rw [Nat.zero_add] at hi
    have hwi := hw i hi
    by_cases hc : g0 left i = 0 ∨ 0 < g0 wait i
    · rw [if_pos hc, if_pos]
      rcases hc with hc | hc
      · exact .inl hc
      · exact .inr (by omega)
    · rw [if_neg hc, if_neg (by rintro (h | h); exact hc (.inl h); exact hc (.inr (by omega)))]
      simp only [not_or, Int.not_lt] at hc
      have hli : 1 ≤ g0 left i := by have := h0 i; omega
      have hg : ∀ x, g0 (left.set i (g0 left i - 1)) x = if x = i then g0 left i - 1 else g0 left x := fun x => g0_set (by omega) _
      have hd : ∀ x, g0 (dec wait i (ap l i)) x = if x = i then ap l i else max 0 (g0 wait x - 1) := fun x => by
        unfold dec
        rw [g0_set (by rw [List.length_map]; omega), g0_map (by decide)]
      have hla : ∀ x, g0 (last.set i (all - (m + 1 : Nat))) x = if x = i then all - (m + 1 : Nat) else g0 last x := fun x => g0_set (by omega) _
      have hw' : ∀ x, x < l.length → g0 (dec wait i (ap l i)) x = max 0 (g0 (last.set i (all - (m + 1 : Nat))) x + ap l x + 1 - (all - m)) := fun x hx => by
        rw [hd, hla]
        by_cases e : x = i
        · subst e; rw [if_pos rfl, if_pos rfl]; have := ha x; omega
        · rw [if_neg e, if_neg e]; have := hw x hx; omega
      have hn0 : ∀ x, 0 ≤ g0 (left.set i (g0 left i - 1)) x := fun x => by rw [hg]; split; omega; exact h0 x
      have hsm : sm (left.set i (g0 left i - 1)) = m := by rw [sm_set _ _ _ (by omega), hs]; omega
      have hl1 : (left.set i (g0 left i - 1)).length = l.length := by rw [List.length_set]; exact h1
      have hl3 : (dec wait i (ap l i)).length = l.length := by unfold dec; rw [List.length_set, List.length_map]; exact h3
      have IH := ih _ (last.set i (all - (m + 1 : Nat))) _ hl1 (by rw [List.length_set]; exact h2) hl3 hn0 hw' hsm
      by_cases hro : roomy l (left.set i (g0 left i - 1)) (last.set i (all - (m + 1 : Nat))) (all - (m : Nat)) all = true
      · rw [if_pos hro, IH]
      · rw [if_neg hro]
        cases hsr : sr l m (left.set i (g0 left i - 1)) (dec wait i (ap l i)) with
        | none => rfl
        | some r =>
          refine absurd ?_ hro
          unfold roomy
          rw [List.all_eq_true]
          intro x hx
          have hx' := List.mem_range.1 hx
          simp only [Bool.not_eq_true', decide_eq_false_iff_not, not_and, Int.not_le]
          intro hpos
          have hnw : ∀ y, 0 ≤ g0 (dec wait i (ap l i)) y := fun y => by rw [hd]; split; exact ha i; omega
          have h5 := room l ha m _ _ r hl1 hl3 hn0 hnw hsm hsr x hpos
          have h6 := hw' x hx'
          omega
end Go.Proofs.YtlfobpjefklccaaGreatDoor.Sp
namespace Go.Proofs.YtlfobpjefklccaaGreatDoor.Sp
open Go.RowKit
open F (Fr Cl)

theorem dd_small {n : Nat} (h : n < 100) : Lib.decDigits n = if n < 10 then [UInt8.ofNat (48 + n)] else [UInt8.ofNat (48 + n / 10), UInt8.ofNat (48 + n % 10)] := by
  rw [Lib.decDigits]
  by_cases h1 : n < 10
  · rw [dif_pos h1, if_pos h1]
  · rw [dif_neg h1, if_neg h1, Lib.decDigits, dif_pos (show n / 10 < 10 by omega)]; rfl
theorem dd_byte {n : Nat} (h : n < 100) : ∀ b ∈ Lib.decDigits n, b ≠ 58 ∧ b ≠ 32 := by
  have all : ∀ m : Nat, m < 10 → UInt8.ofNat (48 + m) ≠ 58 ∧ UInt8.ofNat (48 + m) ≠ 32 := by decide
  intro b hb
  rw [dd_small h] at hb
  split at hb
  · rw [List.mem_singleton] at hb; subst hb; exact all n (by assumption)
  · simp only [List.mem_cons, List.not_mem_nil, or_false] at hb
    rcases hb with rfl | rfl
    · exact all _ (by omega)
    · exact all _ (by omega)
theorem dd_inj {n m : Nat} (h : n < 100) (k : m < 100) (e : Lib.decDigits n = Lib.decDigits m) : n = m := by
  have inj : ∀ a : Nat, a < 10 → ∀ b : Nat, b < 10 → UInt8.ofNat (48 + a) = UInt8.ofNat (48 + b) → a = b := by decide
  rw [dd_small h, dd_small k] at e
  by_cases h1 : n < 10 <;> by_cases k1 : m < 10
  · rw [if_pos h1, if_pos k1] at e
    exact inj n h1 m k1 (List.cons.inj e).1
  · rw [if_pos h1, if_neg k1] at e; simp at e
  · rw [if_neg h1, if_pos k1] at e; simp at e
  · rw [if_neg h1, if_neg k1] at e
    obtain ⟨e1, e2⟩ := List.cons.inj e
    have a := inj (n / 10) (by omega) (m / 10) (by omega) e1
    have b := inj (n % 10) (by omega) (m % 10) (by omega) (List.cons.inj e2).1
    omega
theorem cut_at (c : UInt8) : ∀ (x y r s : List UInt8), (∀ b ∈ x, b ≠ c) → (∀ b ∈ y, b ≠ c) → x ++ c :: r = y ++ c :: s → x = y ∧ r = s := by
  intro x
  induction x with
  | nil =>
    intro y r s _ hy e
    cases y with
    | nil => exact ⟨rfl, (List.cons.inj e).2⟩
    | cons b y => exact absurd (List.cons.inj e).1.symm (hy b (List.mem_cons_self ..))
  | cons a x ih =>
    intro y r s hx hy e
    cases y with
    | nil => exact absurd (List.cons.inj e).1 (hx a (List.mem_cons_self ..))
    | cons b y =>
      obtain ⟨e1, e2⟩ := List.cons.inj e
      obtain ⟨h1, h2⟩ := ih y r s (fun b h => hx b (List.mem_cons_of_mem _ h)) (fun b h => hy b (List.mem_cons_of_mem _ h)) e2
      exact ⟨by rw [e1, h1], h2⟩
def kst1 (a b : Int) : List UInt8 := ((Lib.decDigits a.toNat ++ [58]) ++ Lib.decDigits b.toNat) ++ [32]
/-- What the key of a state is, of its first rows. -/
def kst (l m : List Int) : Nat → List UInt8
  | 0 => []
  | n + 1 => kst l m n ++ kst1 (g0 l n) (g0 m n)
/-- The same from the front. -/
def ksf (l m : List Int) : Nat → Nat → List UInt8
  | _, 0 => []
  | i, n + 1 => kst1 (g0 l i) (g0 m i) ++ ksf l m (i + 1) n
theorem ksf_snoc (l m : List Int) : ∀ (n i : Nat), ksf l m i (n + 1) = ksf l m i n ++ kst1 (g0 l (i + n)) (g0 m (i + n)) := by
  intro n
  induction n with
  | zero => intro i; simp [ksf]
  | succ n ih =>
    intro i
    rw [ksf, ih (i + 1), ksf, List.append_assoc, show i + 1 + n = i + (n + 1) by omega]
theorem kst_ksf (l m : List Int) : ∀ n, kst l m n = ksf l m 0 n := by
  intro n
  induction n with
  | zero => rfl
  | succ n ih => rw [kst, ih, ksf_snoc, Nat.zero_add]
def In (x : Int) : Prop := 0 ≤ x ∧ x < 100
theorem kst1_inj {a b c d : Int} {r s : List UInt8} (ha : In a) (hb : In b) (hc : In c) (hd : In d) (e : kst1 a b ++ r = kst1 c d ++ s) : a = c ∧ b = d ∧ r = s := by
  unfold In at *
  unfold kst1 at e
  simp only [List.append_assoc, List.singleton_append] at e
  obtain ⟨e1, e2⟩ := cut_at 58 _ _ _ _ (fun b h => (dd_byte (n := a.toNat) (by omega) b h).1) (fun b h => (dd_byte (n := c.toNat) (by omega) b h).1) e
  obtain ⟨e3, e4⟩ := cut_at 32 _ _ _ _ (fun x h => (dd_byte (n := b.toNat) (by omega) x h).2) (fun x h => (dd_byte (n := d.toNat) (by omega) x h).2) e2
  have h1 := dd_inj (by omega) (by omega) e1
  have h2 := dd_inj (by omega) (by omega) e3
  exact ⟨by omega, by omega, e4⟩
theorem ksf_inj {l m l' m' : List Int} (h1 : ∀ i, In (g0 l i)) (h2 : ∀ i, In (g0 m i)) (h3 : ∀ i, In (g0 l' i)) (h4 : ∀ i, In (g0 m' i)) : ∀ (n i : Nat), ksf l m i n = ksf l' m' i n → ∀ j, i ≤ j → j < i + n → g0 l j = g0 l' j ∧ g0 m j = g0 m' j := by
  intro n
  induction n with
  | zero => intro i _ j _ _; omega
  | succ n ih =>
    intro i e j hj hjn
    rw [ksf, ksf] at e
    obtain ⟨a, b, c⟩ := kst1_inj (h1 i) (h2 i) (h3 i) (h4 i) e
    by_cases hi : j = i
    · subst hi; exact ⟨a, b⟩
    · exact ih (i + 1) c j (by omega) (by omega)
theorem g0_ext {l l' : List Int} (h : l.length = l'.length) (e : ∀ j, j < l.length → g0 l j = g0 l' j) : l = l' := by
  refine List.ext_getElem h (fun j h1 h2 => ?_)
  have := e j h1
  unfold g0 at this
  rwa [List.getD_eq_getElem?_getD, List.getD_eq_getElem?_getD, List.getElem?_eq_getElem h1, List.getElem?_eq_getElem h2] at this
theorem kst_inj {l m l' m' : List Int} {n : Nat} (e1 : l.length = n) (e2 : m.length = n) (e3 : l'.length = n) (e4 : m'.length = n) (h1 : ∀ i, In (g0 l i)) (h2 : ∀ i, In (g0 m i)) (h3 : ∀ i, In (g0 l' i)) (h4 : ∀ i, In (g0 m' i)) (e : kst l m n = kst l' m' n) : l = l' ∧ m = m' := by
  rw [kst_ksf, kst_ksf] at e
  have := ksf_inj h1 h2 h3 h4 n 0 e
  exact ⟨g0_ext (e1.trans e3.symm) (fun j hj => (this j (Nat.zero_le _) (by omega)).1), g0_ext (e2.trans e4.symm) (fun j hj => (this j (Nat.zero_le _) (by omega)).2)⟩
theorem kst_len {l m : List Int} (h1 : ∀ i, In (g0 l i)) (h2 : ∀ i, In (g0 m i)) : ∀ n, (kst l m n).length ≤ n * 6 := by
  intro n
  have hd : ∀ x : Int, In x → (Lib.decDigits x.toNat).length ≤ 2 := fun x hx => by
    unfold In at hx
    rw [dd_small (by omega)]; split <;> simp
  induction n with
  | zero => simp [kst]
  | succ n ih =>
    rw [kst, List.length_append]
    have a := hd _ (h1 n)
    have b := hd _ (h2 n)
    unfold kst1
    simp only [List.length_append, List.length_singleton]
    omega
/-- A set of keys as a map to true. -/
def hs (ks : List ByteArray) (k : ByteArray) : Bool := ks.any fun x => decide (x = k)
theorem hs_iff {ks : List ByteArray} {k : ByteArray} : hs ks k = true ↔ k ∈ ks := by
  unfold hs
  rw [List.any_eq_true]
  exact ⟨fun ⟨x, h, e⟩ => (of_decide_eq_true e) ▸ h, fun h => ⟨k, h, decide_eq_true rfl⟩⟩
def kadd (ks : List ByteArray) (k : ByteArray) : List ByteArray := if hs ks k = true then ks else ks ++ [k]
def bds (ks : List ByteArray) : M.Es := ks.map fun k => (k, .bool true)
theorem look_bds (ks : List ByteArray) (k : ByteArray) : M.look (bds ks) k = if hs ks k = true then some (.bool true) else none := by
  unfold bds
  induction ks with
  | nil => rfl
  | cons a ks ih =>
    have e : hs (a :: ks) k = (decide (a = k) || hs ks k) := rfl
    unfold M.look at ih ⊢
    rw [List.map_cons, List.find?_cons, e]
    by_cases h : a = k
    · subst h; simp
    · have hd : decide (a = k) = false := decide_eq_false h
      simp only [hd, Bool.false_or]
      exact ih
theorem put_bds (ks : List ByteArray) (k : ByteArray) : M.put (bds ks) k (.bool true) = bds (kadd ks k) := by
  have h1 : (bds ks).any (fun p => decide (p.1 = k)) = hs ks k := by
    unfold bds
    rw [List.any_map]
    rfl
  unfold M.put kadd
  rw [h1]
  unfold bds
  by_cases h : hs ks k = true
  · rw [if_pos h, if_pos h, List.map_map]
    refine List.map_congr_left fun x _ => ?_
    show (if x = k then (k, Value.bool true) else (x, Value.bool true)) = (x, Value.bool true)
    by_cases e : x = k
    · rw [if_pos e, e]
    · rw [if_neg e]
  · rw [if_neg h, if_neg h, List.map_append, List.map_singleton]
/-- Keys of states from where there is no row. -/
def Bad (l : List Wn) (bd : List ByteArray) : Prop := ∀ k ∈ bd, ∃ (left wait : List Int) (m : Nat), left.length = l.length ∧ wait.length = l.length ∧ (∀ i, In (g0 left i)) ∧ (∀ i, In (g0 wait i)) ∧ sm left = m ∧ k = ⟨(kst left wait l.length).toArray⟩ ∧ sr l m left wait = none
theorem Bad.has {l : List Wn} {bd : List ByteArray} (h : Bad l bd) {left wait : List Int} {m : Nat} (h1 : left.length = l.length) (h2 : wait.length = l.length) (h3 : ∀ i, In (g0 left i)) (h4 : ∀ i, In (g0 wait i)) (hs : sm left = m) (hk : (⟨(kst left wait l.length).toArray⟩ : ByteArray) ∈ bd) : sr l m left wait = none := by
  obtain ⟨left', wait', m', a1, a2, a3, a4, a5, a6, a7⟩ := h _ hk
  have e : kst left wait l.length = kst left' wait' l.length := by
    have := congrArg (fun (b : ByteArray) => b.data.toList) a6
    simpa using this
  obtain ⟨rfl, rfl⟩ := kst_inj h1 h2 a1 a2 h3 h4 a3 a4 e
  have : m' = m := by omega
  subst this
  exact a7
theorem Bad.add {l : List Wn} {bd : List ByteArray} (h : Bad l bd) {left wait : List Int} {m : Nat} (h1 : left.length = l.length) (h2 : wait.length = l.length) (h3 : ∀ i, In (g0 left i)) (h4 : ∀ i, In (g0 wait i)) (hs : sm left = m) (hn : sr l m left wait = none) : Bad l (kadd bd ⟨(kst left wait l.length).toArray⟩) := by
  intro k hk
  unfold kadd at hk
  split at hk
  · exact h k hk
  · rcases List.mem_append.1 hk with hk | hk
    · exact h k hk
    · rw [List.mem_singleton] at hk
      exact ⟨left, wait, m, h1, h2, h3, h4, hs, hk, hn⟩
/-- A row of ints that can be written. -/
def Ir (w : World) (g : Nat) (xs : List Int) : Prop := ∀ j, j < xs.length → Cl w g j (.int .i64 (g0 xs j))
theorem Ir.fr {S : Nat → Prop} {w w' : World} {g : Nat} {xs : List Int} (h : Ir w g xs) (hf : Fr S w w') (hb : ¬ S g) : Ir w' g xs := fun j hj => (h j hj).fr hf hb
theorem Ir.below {w w' : World} {g : Nat} {xs : List Int} (h : Ir w g xs) (hb : Below w.heap.size w w') : Ir w' g xs := fun j hj => (h j hj).below hb
theorem Ir.set {w : World} {g : Nat} {xs : List Int} (h : Ir w g xs) {i : Nat} (hi : i < xs.length) (v : Int) : Ir (w.setCell ⟨g, i, none⟩ (.int .i64 v)) g (xs.set i v) := by
  intro j hj
  rw [List.length_set] at hj
  rw [g0_set hi]
  by_cases e : j = i
  · subst e; rw [if_pos rfl]; exact (h j hj).set _
  · rw [if_neg e]; exact (h j hj).set_ne (fun q => e (by simpa using (Addr.mk.inj q).2.1.symm)) _
theorem Ir.set_other {w : World} {g : Nat} {xs : List Int} (h : Ir w g xs) {p : Addr} (hp : p.block ≠ g) (u : Value) : Ir (w.setCell p u) g xs := fun j hj => (h j hj).set_ne (fun e => hp (by rw [e])) u
theorem Ir.of_own {w : World} {base : Nat} {e : TypeId} {g cap n : Nat} {xs : List Int} (h : w.ownsRow base e 1 (.slice (some ⟨g, 0, none⟩) n cap) n (xs.map (Value.int .i64))) : Ir w g xs := by
  have hl := h.1
  rw [List.length_map] at hl
  intro j hj
  refine ⟨?_, World.ownsRow.frozenAt h _⟩
  rw [World.ownsRow.cellAt h j (by omega), List.getElem?_map]
  unfold g0
  rw [List.getD_eq_getElem?_getD, List.getElem?_eq_getElem hj]
  rfl
theorem it_at {l : List Wn} {i : Nat} (h : i < l.length) : it l i = l[i].1 := by unfold it; rw [List.getD_eq_getElem?_getD, List.getElem?_eq_getElem h]; rfl
theorem ap_at {l : List Wn} {i : Nat} (h : i < l.length) : ap l i = l[i].2.2 := by unfold ap; rw [List.getD_eq_getElem?_getD, List.getElem?_eq_getElem h]; rfl
end Go.Proofs.YtlfobpjefklccaaGreatDoor.Sp
namespace Go.Proofs.YtlfobpjefklccaaGreatDoor.Sp
open Go.RowKit
open F (Fr Cl)

def strE (s : ByteArray) : List Value := [.string s]
theorem strE1 (s : ByteArray) : ∀ v ∈ strE s, v.oneCell' = true := by intro v hv; simp [strE] at hv; subst hv; rfl
theorem om_fr {w w' : World} {mb : Nat} {es : M.Es} {S : Nat → Prop} (h : M.OM w mb es) (hf : Fr S w w') (hS : ¬ S mb) : M.OM w' mb es := by
  obtain ⟨arr, clock, h1, h2, h3⟩ := h
  exact ⟨arr, clock, (hf.block mb (OM_lt h1) hS).trans h1, h2, h3⟩
where
  OM_lt {w : World} {mb : Nat} {o : Obj} (h1 : w.heap[mb]? = some o) : mb < w.heap.size := by
    rcases Nat.lt_or_ge mb w.heap.size with h | h
    · exact h
    · simp [Array.getElem?_eq_none h] at h1
theorem own_fr {α : Type} {w w' : World} {base : Nat} {e : TypeId} {k : Nat} {enc : α → List Value} {v : Value} {xs : List α} {S : Nat → Prop} (h : B.Own w base e k enc v xs) (hf : Fr S w w') (hS : ∀ g, v.ownBlock = some g → ¬ S g) : B.Own w' base e k enc v xs := by
  have h0 : w.ownsRow base e k v xs.length (xs.flatMap enc) := h
  refine ⟨h.1, ?_⟩
  rcases h.2 with hn | ⟨g, cap, cur, rfl, h1, h2, rest⟩
  · exact Or.inl hn
  · exact Or.inr ⟨g, cap, cur, rfl, h1, (hf.block g ((World.ownsRow.lt h0 g rfl).2) (hS g rfl)).trans h2, rest⟩
/-- The spreader at b: what is wanted, how often each must come still, how many others must come first, the row so far, and the keys that are bad. -/
structure Sd (w0 w : World) (b : Nat) (A : Option Addr) (c : Nat) (l : List Wn) (gL cL gW cW m : Nat) (vO : Value) (left wait : List Int) (out bd : List ByteArray) : Prop where
  wn : Wn.wnK.C w0 A l
  be : Below w0.heap.size w0 w
  c0 : Cl w b 0 (.slice A l.length c)
  c1 : Cl w b 1 (.slice (some ⟨gL, 0, none⟩) l.length cL)
  c2 : Cl w b 2 (.slice (some ⟨gW, 0, none⟩) l.length cW)
  c3 : Cl w b 3 vO
  c4 : Cl w b 4 (.map (some m))
  L : Ir w gL left
  W : Ir w gW wait
  O : B.Own w w0.heap.size 9 1 strE vO out
  M : M.OM w m (bds bd)
  ll : left.length = l.length
  wl : wait.length = l.length
  lo : w0.heap.size ≤ b ∧ w0.heap.size ≤ gL ∧ w0.heap.size ≤ gW ∧ w0.heap.size ≤ m
  hs : gL < w.heap.size ∧ gW < w.heap.size
  ne : b ≠ gL ∧ b ≠ gW ∧ b ≠ m ∧ gL ≠ gW ∧ gL ≠ m ∧ gW ≠ m
  on : ∀ g, vO.ownBlock = some g → g ≠ b ∧ g ≠ gL ∧ g ≠ gW ∧ g ≠ m
section
variable {w0 w w' : World} {b : Nat} {A : Option Addr} {c : Nat} {l : List Wn} {gL cL gW cW m : Nat} {vO : Value} {left wait : List Int} {out bd : List ByteArray}
theorem Sd.below (h : Sd w0 w b A c l gL cL gW cW m vO left wait out bd) (hb : Below w.heap.size w w') : Sd w0 w' b A c l gL cL gW cW m vO left wait out bd :=
  ⟨h.wn, h.be.trans (hb.mono h.be.size), h.c0.below hb, h.c1.below hb, h.c2.below hb, h.c3.below hb, h.c4.below hb, h.L.below hb, h.W.below hb, own_fr (S := fun _ => False) h.O (Fr.of_below hb) (fun _ _ h => h), h.M.below hb, h.ll, h.wl, h.lo, ⟨Nat.lt_of_lt_of_le h.hs.1 hb.size, Nat.lt_of_lt_of_le h.hs.2 hb.size⟩, h.ne, h.on⟩
theorem Sd.lt (h : Sd w0 w b A c l gL cL gW cW m vO left wait out bd) : b < w.heap.size ∧ m < w.heap.size ∧ (∀ g, vO.ownBlock = some g → g < w.heap.size) :=
  ⟨h.c0.lt, h.M.lt, fun g e => (World.ownsRow.lt (h.O : w.ownsRow _ _ _ _ _ _) g e).2⟩
theorem fr_set (w : World) (p : Addr) (u : Value) : Fr (fun j => j = p.block) w (w.setCell p u) := Fr.set (S := fun j => j = p.block) (Fr.refl _ w) (fun _ => rfl) u
/-- A number of how many others must come first. -/
theorem Sd.setW (h : Sd w0 w b A c l gL cL gW cW m vO left wait out bd) {k : Nat} (hk : k < l.length) (v : Int) : Sd w0 (w.setCell ⟨gW, k, none⟩ (.int .i64 v)) b A c l gL cL gW cW m vO left (wait.set k v) out bd := by
  have hf := fr_set w ⟨gW, k, none⟩ (.int .i64 v)
  obtain ⟨n1, n2, n3, n4, n5, n6⟩ := h.ne
  exact ⟨h.wn, h.be.setCell h.lo.2.2.1 _, h.c0.fr hf n2, h.c1.fr hf n2, h.c2.fr hf n2, h.c3.fr hf n2, h.c4.fr hf n2, h.L.fr hf n4, h.W.set (by rw [h.wl]; exact hk) v, own_fr h.O hf (fun g e => (h.on g e).2.2.1), om_fr h.M hf (fun e => n6 e.symm), h.ll, by rw [List.length_set]; exact h.wl, h.lo, by simpa [World.setCell] using h.hs, h.ne, h.on⟩
/-- A number of how often it must come still. -/
theorem Sd.setL (h : Sd w0 w b A c l gL cL gW cW m vO left wait out bd) {k : Nat} (hk : k < l.length) (v : Int) : Sd w0 (w.setCell ⟨gL, k, none⟩ (.int .i64 v)) b A c l gL cL gW cW m vO (left.set k v) wait out bd := by
  have hf := fr_set w ⟨gL, k, none⟩ (.int .i64 v)
  obtain ⟨n1, n2, n3, n4, n5, n6⟩ := h.ne
  exact ⟨h.wn, h.be.setCell h.lo.2.1 _, h.c0.fr hf n1, h.c1.fr hf n1, h.c2.fr hf n1, h.c3.fr hf n1, h.c4.fr hf n1, h.L.set (by rw [h.ll]; exact hk) v, h.W.fr hf (fun e => n4 e.symm), own_fr h.O hf (fun g e => (h.on g e).2.1), om_fr h.M hf (fun e => n5 e.symm), by rw [List.length_set]; exact h.ll, h.wl, h.lo, by simpa [World.setCell] using h.hs, h.ne, h.on⟩
/-- A new row of items. -/
theorem Sd.app (h : Sd w0 w b A c l gL cL gW cW m vO left wait out bd) {vO1 : Value} {out1 : List ByteArray} (hO : B.Own w' w0.heap.size 9 1 strE vO1 out1) (ha : vO1.ownBlock = vO.ownBlock ∨ ∀ g, vO1.ownBlock = some g → w.heap.size ≤ g) (hf : Fr (fun j => vO.ownBlock = some j) w w') (hB : Below w0.heap.size w0 w') :
    Sd w0 (w'.setCell ⟨b, 3, none⟩ vO1) b A c l gL cL gW cW m vO1 left wait out1 bd := by
  obtain ⟨n1, n2, n3, n4, n5, n6⟩ := h.ne
  have nb : ∀ x, (x = b ∨ x = gL ∨ x = gW ∨ x = m) → ¬ vO.ownBlock = some x := fun x hx e => by
    obtain ⟨a1, a2, a3, a4⟩ := h.on x e
    rcases hx with rfl | rfl | rfl | rfl
    · exact a1 rfl
    · exact a2 rfl
    · exact a3 rfl
    · exact a4 rfl
  have on1 : ∀ g, vO1.ownBlock = some g → g ≠ b ∧ g ≠ gL ∧ g ≠ gW ∧ g ≠ m := fun g e => by
    rcases ha with ha | ha
    · exact h.on g (ha ▸ e)
    · have := ha g e
      have h1 := h.c0.lt
      have h2 := h.M.lt
      have h3 := h.hs
      exact ⟨by omega, by omega, by omega, by omega⟩
  have hs := fr_set w' ⟨b, 3, none⟩ vO1
  refine ⟨h.wn, hB.setCell h.lo.1 _, ((h.c0.fr hf (nb _ (.inl rfl))).set_ne (by simp) _), ((h.c1.fr hf (nb _ (.inl rfl))).set_ne (by simp) _), ((h.c2.fr hf (nb _ (.inl rfl))).set_ne (by simp) _), (h.c3.fr hf (nb _ (.inl rfl))).set _, ((h.c4.fr hf (nb _ (.inl rfl))).set_ne (by simp) _),
    (h.L.fr hf (nb _ (.inr (.inl rfl)))).fr hs (fun e => n1 e.symm), (h.W.fr hf (nb _ (.inr (.inr (.inl rfl))))).fr hs (fun e => n2 e.symm), own_fr hO hs (fun g e => (on1 g e).1), om_fr (om_fr h.M hf (nb _ (.inr (.inr (.inr rfl))))) hs (fun e => n3 e.symm), h.ll, h.wl, h.lo, ⟨by simp [World.setCell]; exact Nat.lt_of_lt_of_le h.hs.1 hf.size, by simp [World.setCell]; exact Nat.lt_of_lt_of_le h.hs.2 hf.size⟩, h.ne, on1⟩
/-- Another row of waits. -/
theorem Sd.wt (h : Sd w0 w b A c l gL cL gW cW m vO left wait out bd) {g' c' : Nat} {wait' : List Int} (hW : Ir w g' wait') (hl : wait'.length = l.length) (lo : w0.heap.size ≤ g') (hg : g' < w.heap.size) (ne : g' ≠ b ∧ g' ≠ gL ∧ g' ≠ m) (on : ∀ g, vO.ownBlock = some g → g ≠ g') :
    Sd w0 (w.setCell ⟨b, 2, none⟩ (.slice (some ⟨g', 0, none⟩) l.length c')) b A c l gL cL g' c' m vO left wait' out bd := by
  have hf := fr_set w ⟨b, 2, none⟩ (.slice (some ⟨g', 0, none⟩) l.length c')
  obtain ⟨n1, n2, n3, n4, n5, n6⟩ := h.ne
  obtain ⟨m1, m2, m3⟩ := ne
  exact ⟨h.wn, h.be.setCell h.lo.1 _, h.c0.set_ne (by simp) _, h.c1.set_ne (by simp) _, h.c2.set _, h.c3.set_ne (by simp) _, h.c4.set_ne (by simp) _, h.L.fr hf (fun e => n1 e.symm), hW.fr hf m1, own_fr h.O hf (fun g e => (h.on g e).1), om_fr h.M hf (fun e => n3 e.symm), h.ll, hl, ⟨h.lo.1, h.lo.2.1, lo, h.lo.2.2.2⟩, ⟨by simpa [World.setCell] using h.hs.1, by simpa [World.setCell] using hg⟩, ⟨n1, fun e => m1 e.symm, n3, fun e => m2 e.symm, n5, m3⟩, fun g e => ⟨(h.on g e).1, (h.on g e).2.1, on g e, (h.on g e).2.2.2⟩⟩
/-- A key more that is bad. -/
theorem Sd.put (h : Sd w0 w b A c l gL cL gW cW m vO left wait out bd) {k : ByteArray} (hO : M.OM w' m (M.put (bds bd) k (.bool true))) (hg : w.grownBy w' (some m)) : Sd w0 w' b A c l gL cL gW cW m vO left wait out (kadd bd k) := by
  have hf : Fr (fun b => b = m) w w' := (Fr.refl _ _).grown hg (fun g e _ => (Option.some.inj e).symm)
  obtain ⟨n1, n2, n3, n4, n5, n6⟩ := h.ne
  exact ⟨h.wn, h.be.trans (hf.below h.be.size (fun k e => e ▸ h.lo.2.2.2)), h.c0.fr hf n3, h.c1.fr hf n3, h.c2.fr hf n3, h.c3.fr hf n3, h.c4.fr hf n3, h.L.fr hf n5, h.W.fr hf n6, own_fr h.O hf (fun g e => (h.on g e).2.2.2), by rw [put_bds] at hO; exact hO, h.ll, h.wl, h.lo, ⟨Nat.lt_of_lt_of_le h.hs.1 hg.size, Nat.lt_of_lt_of_le h.hs.2 hg.size⟩, h.ne, h.on⟩
end
end Go.Proofs.YtlfobpjefklccaaGreatDoor.Sp
namespace Go.Proofs.YtlfobpjefklccaaGreatDoor.Sp
open Go.RowKit
open F (Fr Cl)

theorem prefix_row {w : World} {base : Nat} {e : TypeId} {size g cap n i : Nat} {row : List Value} (h : w.ownsRow base e size (.slice (some ⟨g, 0, none⟩) n cap) n row) (hi : i ≤ n) :
    w.ownsRow base e size (.slice (some ⟨g, 0, none⟩) i cap) i (row.take (i * size)) := by
  have hm : i * size ≤ n * size := Nat.mul_le_mul_right _ hi
  rcases h with ⟨hl, ⟨h', _⟩ | ⟨g', cap', cur, h', hb, hg, hnc, hcm, hcs, htake⟩⟩
  · cases h'
  · simp only [Value.slice.injEq, Option.some.injEq, Addr.mk.injEq, and_true, true_and] at h'
    obtain ⟨rfl, rfl⟩ := h'
    refine ⟨by rw [List.length_take, hl]; omega, .inr ⟨g, cap, cur, rfl, hb, hg, by omega, hcm, hcs, ?_⟩⟩
    rw [← htake, List.take_take, Nat.min_eq_left hm]
theorem flat_len {α : Type} {k : Nat} {enc : α → List Value} (hl : ∀ x, (enc x).length = k) (xs : List α) : (xs.flatMap enc).length = xs.length * k := by
  induction xs with
  | nil => simp
  | cons y ys ih => rw [List.flatMap_cons, List.length_append, hl, ih, List.length_cons, Nat.succ_mul]; omega
def Sx (b gL gW m : Nat) (vO : Value) : Nat → Prop := fun j => j = b ∨ j = gL ∨ j = gW ∨ j = m ∨ vO.ownBlock = some j
/-- The spreader's state in w, as it came from the world s. -/
structure Sf (w0 s w : World) (b : Nat) (A : Option Addr) (c : Nat) (l : List Wn) (gL cL g0 gW cW m : Nat) (v0 vO : Value) (left wait : List Int) (out bd : List ByteArray) : Prop where
  sd : Sd w0 w b A c l gL cL gW cW m vO left wait out bd
  fr : Fr (Sx b gL g0 m v0) s w
  gw : gW = g0 ∨ s.heap.size ≤ gW
  vo : vO.ownBlock = v0.ownBlock ∨ ∀ g, vO.ownBlock = some g → s.heap.size ≤ g
  bad : Bad l bd
section
variable {w0 s t w w' : World} {b : Nat} {A : Option Addr} {c : Nat} {l : List Wn} {gL cL g0 g1 gW cW m : Nat} {v0 v1 vO : Value} {left wait : List Int} {out bd : List ByteArray} {x : ByteArray}
theorem Sf.start (h : Sd w0 w b A c l gL cL gW cW m vO left wait out bd) (hb : Bad l bd) : Sf w0 w w b A c l gL cL gW gW cW m vO vO left wait out bd := ⟨h, Fr.refl _ _, .inl rfl, .inl rfl, hb⟩
theorem Sf.below (h : Sf w0 s w b A c l gL cL g0 gW cW m v0 vO left wait out bd) (hb : Below w.heap.size w w') : Sf w0 s w' b A c l gL cL g0 gW cW m v0 vO left wait out bd := ⟨h.sd.below hb, h.fr.then_below hb, h.gw, h.vo, h.bad⟩
theorem Sx.gw (hg : gW = g0 ∨ s.heap.size ≤ gW) (j : Nat) (hj : j < s.heap.size) (e : j = gW) : Sx b gL g0 m v0 j := by
  rcases hg with rfl | hg
  · exact .inr (.inr (.inl e))
  · omega
theorem Sx.vo (hv : vO.ownBlock = v0.ownBlock ∨ ∀ g, vO.ownBlock = some g → s.heap.size ≤ g) (j : Nat) (hj : j < s.heap.size) (e : vO.ownBlock = some j) : Sx b gL g0 m v0 j := by
  rcases hv with hv | hv
  · exact .inr (.inr (.inr (.inr (hv ▸ e))))
  · exact absurd (hv j e) (by omega)
theorem Sf.setW (h : Sf w0 s w b A c l gL cL g0 gW cW m v0 vO left wait out bd) {k : Nat} (hk : k < l.length) (v : Int) : Sf w0 s (w.setCell ⟨gW, k, none⟩ (.int .i64 v)) b A c l gL cL g0 gW cW m v0 vO left (wait.set k v) out bd :=
  ⟨h.sd.setW hk v, h.fr.set (p := ⟨gW, k, none⟩) (fun hp => Sx.gw h.gw _ hp rfl) _, h.gw, h.vo, h.bad⟩
theorem Sf.setL (h : Sf w0 s w b A c l gL cL g0 gW cW m v0 vO left wait out bd) {k : Nat} (hk : k < l.length) (v : Int) : Sf w0 s (w.setCell ⟨gL, k, none⟩ (.int .i64 v)) b A c l gL cL g0 gW cW m v0 vO (left.set k v) wait out bd :=
  ⟨h.sd.setL hk v, h.fr.set (p := ⟨gL, k, none⟩) (fun _ => .inr (.inl rfl)) _, h.gw, h.vo, h.bad⟩
theorem Sf.app (h : Sf w0 s w b A c l gL cL g0 gW cW m v0 vO left wait out bd) {vO1 : Value} {out1 : List ByteArray} (hO : B.Own w' w0.heap.size 9 1 strE vO1 out1) (ha : vO1.ownBlock = vO.ownBlock ∨ ∀ g, vO1.ownBlock = some g → w.heap.size ≤ g) (hf : Fr (fun j => vO.ownBlock = some j) w w') (hB : Below w0.heap.size w0 w') :
    Sf w0 s (w'.setCell ⟨b, 3, none⟩ vO1) b A c l gL cL g0 gW cW m v0 vO1 left wait out1 bd := by
  refine ⟨h.sd.app hO ha hf hB, (h.fr.trans hf (fun i hi e => Sx.vo h.vo i hi e)).set (p := ⟨b, 3, none⟩) (fun _ => .inl rfl) _, h.gw, ?_, h.bad⟩
  rcases ha with ha | ha
  · rw [ha]; exact h.vo
  · exact .inr fun g e => Nat.le_trans h.fr.size (ha g e)
theorem Sf.wt (h : Sf w0 s w b A c l gL cL g0 gW cW m v0 vO left wait out bd) {g' c' : Nat} {wait' : List Int} (hW : Ir w g' wait') (hl : wait'.length = l.length) (lo : w0.heap.size ≤ g') (hs : s.heap.size ≤ g') (hg : g' < w.heap.size) (ne : g' ≠ b ∧ g' ≠ gL ∧ g' ≠ m) (on : ∀ g, vO.ownBlock = some g → g ≠ g') :
    Sf w0 s (w.setCell ⟨b, 2, none⟩ (.slice (some ⟨g', 0, none⟩) l.length c')) b A c l gL cL g0 g' c' m v0 vO left wait' out bd :=
  ⟨h.sd.wt hW hl lo hg ne on, h.fr.set (p := ⟨b, 2, none⟩) (fun _ => .inl rfl) _, .inr hs, h.vo, h.bad⟩
theorem Sf.put (h : Sf w0 s w b A c l gL cL g0 gW cW m v0 vO left wait out bd) {k : ByteArray} (hO : M.OM w' m (M.put (bds bd) k (.bool true))) (hg : w.grownBy w' (some m)) (hb : Bad l (kadd bd k)) : Sf w0 s w' b A c l gL cL g0 gW cW m v0 vO left wait out (kadd bd k) :=
  ⟨h.sd.put hO hg, h.fr.grown hg (fun g e _ => .inr (.inr (.inr (.inl (Option.some.inj e).symm)))), h.gw, h.vo, hb⟩
theorem Sx.mono (hg : g1 = g0 ∨ s.heap.size ≤ g1) (hv : v1.ownBlock = v0.ownBlock ∨ ∀ g, v1.ownBlock = some g → s.heap.size ≤ g) (i : Nat) (hi : i < s.heap.size) (h : Sx b gL g1 m v1 i) : Sx b gL g0 m v0 i := by
  rcases h with h | h | h | h | h
  · exact .inl h
  · exact .inr (.inl h)
  · exact Sx.gw hg i hi h
  · exact .inr (.inr (.inr (.inl h)))
  · exact Sx.vo hv i hi h
/-- One after the other. -/
theorem Sf.trans {left' wait' : List Int} {out' bd' : List ByteArray} {cW' : Nat} (h : Sf w0 s t b A c l gL cL g0 g1 cW' m v0 v1 left' wait' out' bd') (k : Sf w0 t w b A c l gL cL g1 gW cW m v1 vO left wait out bd) : Sf w0 s w b A c l gL cL g0 gW cW m v0 vO left wait out bd := by
  refine ⟨k.sd, h.fr.trans k.fr (fun i hi e => Sx.mono h.gw h.vo i hi e), ?_, ?_, k.bad⟩
  · rcases k.gw with e | e
    · rw [e]; exact h.gw
    · exact .inr (Nat.le_trans h.fr.size e)
  · rcases k.vo with e | e
    · rw [e]; exact h.vo
    · exact .inr fun g q => Nat.le_trans h.fr.size (e g q)
/-- The last item taken off. -/
theorem Sf.cut (h : Sf w0 s w b A c l gL cL g0 gW cW m v0 vO left wait (out ++ [x]) bd) : ∃ g cap, vO = .slice (some ⟨g, 0, none⟩) (out.length + 1) cap ∧ out.length + 1 ≤ cap ∧ Sf w0 s (w.setCell ⟨b, 3, none⟩ (.slice (some ⟨g, 0, none⟩) out.length cap)) b A c l gL cL g0 gW cW m v0 (.slice (some ⟨g, 0, none⟩) out.length cap) left wait out bd := by
  have hO : w.ownsRow w0.heap.size 9 1 vO (out ++ [x]).length ((out ++ [x]).flatMap strE) := h.sd.O
  have hO' := hO
  rw [List.length_append, List.length_singleton] at hO
  rcases hO.2 with ⟨-, h0⟩ | ⟨g, cap, cur, rfl, -, -, hc, -⟩
  · exact absurd h0 (by omega)
  · refine ⟨g, cap, rfl, hc, ?_⟩
    have hp : B.Own w w0.heap.size 9 1 strE (.slice (some ⟨g, 0, none⟩) out.length cap) out := by
      have := prefix_row hO (i := out.length) (by omega)
      have e : ((out ++ [x]).flatMap strE).take (out.length * 1) = out.flatMap strE := by
        rw [List.flatMap_append, List.take_append_of_le_length, List.take_of_length_le]
        · rw [flat_len (k := 1) (fun _ => rfl)]; exact Nat.le_refl _
        · rw [flat_len (k := 1) (fun _ => rfl)]; exact Nat.le_refl _
      rw [e] at this
      exact this
    exact h.app hp (.inl rfl) (Fr.refl _ _) h.sd.be
end
end Go.Proofs.YtlfobpjefklccaaGreatDoor.Sp
namespace Go.Proofs.YtlfobpjefklccaaGreatDoor.Sp
open Go.RowKit
open F (Fr Cl)

def intE (n : Int) : List Value := [.int .i64 n]
theorem intE1 (n : Int) : ∀ v ∈ intE n, v.oneCell' = true := by intro v hv; simp [intE] at hv; subst hv; rfl
theorem info_i : (Tryz.prog.info? 3).map (fun i => (i.zero, i.size, i.bytes)) = some (some (.int .i64 0), 1, 8) := by kernel_rfl
theorem made_ints (n : Nat) : (madeCells (Value.int .i64 0).cells n).toList = (List.replicate n (0 : Int)).map (Value.int .i64) := by
  refine List.ext_getElem (by simp [madeCells]) (fun j h1 h2 => ?_)
  simp [madeCells, Value.cells]
  rw [Nat.mod_one]; rfl
theorem make_ints (n : Nat) (hn : n ≤ 1048576) (W : World) : (Instr.makeSlice 23 (.int .i64 (n : Int)) (.int .i64 (n : Int))).run Tryz.prog W = .ok (.slice (some ⟨W.heap.size, 0, none⟩) n n) (W.alloc (.cells (madeCells (Value.int .i64 0).cells n) 3)) ∧ Ir (W.alloc (.cells (madeCells (Value.int .i64 0).cells n) 3)) W.heap.size (List.replicate n 0) := by
  obtain ⟨i, hi, hz⟩ := Option.map_eq_some_iff.1 info_i
  simp only [Prod.mk.injEq] at hz
  obtain ⟨hz, hs, hb⟩ := hz
  have h1 := run_make (P := Tryz.prog) W 23 3 i _ Tryz.underlying23 hi hz .i64 .i64 (n : Int) (n : Int) (by omega) (by omega) (by rw [hb]; omega) (by omega)
  simp only [Int.toNat_natCast, hs, Nat.mul_one] at h1
  obtain ⟨w', h2, r1, -⟩ := run_make_full (P := Tryz.prog) W 0 23 3 i _ 1 Tryz.underlying23 hi hz hs .i64 .i64 n (by rw [hb]; omega) (by simp [maxLen]; omega) (Nat.zero_le _)
  rw [h1] at h2
  cases h2
  refine ⟨h1, Ir.of_own (base := 0) (e := 3) (cap := n) (n := n) ?_⟩
  rw [Nat.mul_one, made_ints] at r1
  exact r1
/-- The spreader while the numbers are laid. -/
structure Sb (w0 w : World) (b : Nat) (A : Option Addr) (c : Nat) (l : List Wn) (gW m : Nat) (vL : Value) (xs : List Int) : Prop where
  wn : Wn.wnK.C w0 A l
  be : Below w0.heap.size w0 w
  c0 : Cl w b 0 (.slice A l.length c)
  c1 : Cl w b 1 vL
  c2 : Cl w b 2 (.slice (some ⟨gW, 0, none⟩) l.length l.length)
  c3 : Cl w b 3 (.slice none 0 0)
  c4 : Cl w b 4 (.map (some m))
  W : Ir w gW (List.replicate l.length 0)
  O : B.Own w w0.heap.size 3 1 intE vL xs
  M : M.OM w m (bds [])
  lo : w0.heap.size ≤ b ∧ w0.heap.size ≤ gW ∧ w0.heap.size ≤ m
  hs : gW < w.heap.size
  ne : b ≠ gW ∧ b ≠ m ∧ gW ≠ m
  on : ∀ g, vL.ownBlock = some g → g ≠ b ∧ g ≠ gW ∧ g ≠ m
section
variable {w0 w w' : World} {b : Nat} {A : Option Addr} {c : Nat} {l : List Wn} {gW m : Nat} {vL : Value} {xs : List Int}
theorem Sb.below (h : Sb w0 w b A c l gW m vL xs) (hb : Below w.heap.size w w') : Sb w0 w' b A c l gW m vL xs :=
  ⟨h.wn, h.be.trans (hb.mono h.be.size), h.c0.below hb, h.c1.below hb, h.c2.below hb, h.c3.below hb, h.c4.below hb, h.W.below hb, own_fr (S := fun _ => False) h.O (Fr.of_below hb) (fun _ _ h => h), h.M.below hb, h.lo, Nat.lt_of_lt_of_le h.hs hb.size, h.ne, h.on⟩
theorem Sb.lt (h : Sb w0 w b A c l gW m vL xs) : b < w.heap.size ∧ m < w.heap.size ∧ (∀ g, vL.ownBlock = some g → g < w.heap.size) :=
  ⟨h.c0.lt, h.M.lt, fun g e => (World.ownsRow.lt (h.O : w.ownsRow _ _ _ _ _ _) g e).2⟩
theorem Sb.app (h : Sb w0 w b A c l gW m vL xs) {v1 : Value} {ys : List Int} (hO : B.Own w' w0.heap.size 3 1 intE v1 ys) (ha : v1.ownBlock = vL.ownBlock ∨ ∀ g, v1.ownBlock = some g → w.heap.size ≤ g) (hf : Fr (fun j => vL.ownBlock = some j) w w') (hB : Below w0.heap.size w0 w') :
    Sb w0 (w'.setCell ⟨b, 1, none⟩ v1) b A c l gW m v1 ys := by
  obtain ⟨n1, n2, n3⟩ := h.ne
  have nb : ∀ x, (x = b ∨ x = gW ∨ x = m) → ¬ vL.ownBlock = some x := fun x hx e => by
    obtain ⟨a1, a2, a3⟩ := h.on x e
    rcases hx with rfl | rfl | rfl
    · exact a1 rfl
    · exact a2 rfl
    · exact a3 rfl
  have on1 : ∀ g, v1.ownBlock = some g → g ≠ b ∧ g ≠ gW ∧ g ≠ m := fun g e => by
    rcases ha with ha | ha
    · exact h.on g (ha ▸ e)
    · have := ha g e
      have h1 := h.c0.lt
      have h2 := h.M.lt
      have h3 := h.hs
      exact ⟨by omega, by omega, by omega⟩
  have hs := fr_set w' ⟨b, 1, none⟩ v1
  exact ⟨h.wn, hB.setCell h.lo.1 _, ((h.c0.fr hf (nb _ (.inl rfl))).set_ne (by simp) _), (h.c1.fr hf (nb _ (.inl rfl))).set _, ((h.c2.fr hf (nb _ (.inl rfl))).set_ne (by simp) _), ((h.c3.fr hf (nb _ (.inl rfl))).set_ne (by simp) _), ((h.c4.fr hf (nb _ (.inl rfl))).set_ne (by simp) _),
    (h.W.fr hf (nb _ (.inr (.inl rfl)))).fr hs (fun e => n1 e.symm), own_fr hO hs (fun g e => (on1 g e).1), om_fr (om_fr h.M hf (nb _ (.inr (.inr rfl)))) hs (fun e => n2 e.symm), h.lo, by simp [World.setCell]; exact Nat.lt_of_lt_of_le h.hs hf.size, h.ne, on1⟩
/-- All numbers are laid. -/
theorem Sb.done (h : Sb w0 w b A c l gW m vL xs) (hx : xs.length = l.length) (hl : l ≠ []) : ∃ gL cL, vL = .slice (some ⟨gL, 0, none⟩) l.length cL ∧ Sd w0 w b A c l gL cL gW l.length m (.slice none 0 0) xs (List.replicate l.length 0) [] [] := by
  have hO : w.ownsRow w0.heap.size 3 1 vL xs.length (xs.flatMap intE) := h.O
  have hp := List.length_pos_iff.2 hl
  have e : xs.flatMap intE = xs.map (Value.int .i64) := by
    clear hO hx h
    induction xs with
    | nil => rfl
    | cons x xs ih => rw [List.flatMap_cons, ih]; rfl
  rw [hx, e] at hO
  have hO' := hO
  rcases hO.2 with ⟨-, h0⟩ | ⟨g, cap, cur, rfl, hb, -⟩
  · omega
  · obtain ⟨o1, o2, o3⟩ := h.on g rfl
    obtain ⟨n1, n2, n3⟩ := h.ne
    exact ⟨g, cap, rfl, h.wn, h.be, h.c0, h.c1, h.c2, h.c3, h.c4, Ir.of_own hO', h.W, ⟨rfl, .inl ⟨rfl, rfl⟩⟩, h.M, hx, by simp, ⟨h.lo.1, hb, h.lo.2.1, h.lo.2.2⟩, ⟨(World.ownsRow.lt hO' g rfl).2, h.hs⟩, ⟨fun q => o1 q.symm, n1, n2, o2, o3, n3⟩, fun g' q => by cases q⟩
end
end Go.Proofs.YtlfobpjefklccaaGreatDoor.Sp
namespace Go.Proofs.YtlfobpjefklccaaGreatDoor.Sp
open Go.RowKit
open F (Fr Cl)

/-- The boxes of the closure: all, l, left, last, try. -/
structure Bx where
  ro : Nat
  al : Nat
  bl : Nat
  bL : Nat
  bR : Nat
  bt : Nat
def Bx.clo (x : Bx) : Value := .func (.func 59) #[] #[.pointer (some ⟨x.ro, 0, none⟩), .pointer (some ⟨x.al, 0, none⟩), .pointer (some ⟨x.bl, 0, none⟩), .pointer (some ⟨x.bL, 0, none⟩), .pointer (some ⟨x.bR, 0, none⟩), .pointer (some ⟨x.bt, 0, none⟩)]
def Bx.us (x : Bx) (j : Nat) : Prop := j = x.al ∨ j = x.bl ∨ j = x.bL ∨ j = x.bR ∨ j = x.bt
structure Rd (w0 w : World) (x : Bx) (A : Option Addr) (c : Nat) (l : List Wn) (gL cL gR cR : Nat) (all : Int) (vO : Value) (left last : List Int) (out : List ByteArray) : Prop where
  wn : Wn.wnK.C w0 A l
  be : Below w0.heap.size w0 w
  c0 : Cl w x.ro 0 vO
  c1 : Cl w x.al 0 (.int .i64 all)
  c2 : Cl w x.bl 0 (.slice A l.length c)
  c3 : Cl w x.bL 0 (.slice (some ⟨gL, 0, none⟩) l.length cL)
  c4 : Cl w x.bR 0 (.slice (some ⟨gR, 0, none⟩) l.length cR)
  c5 : Cl w x.bt 0 x.clo
  L : Ir w gL left
  R : Ir w gR last
  O : B.Own w w0.heap.size 9 1 strE vO out
  ll : left.length = l.length
  lr : last.length = l.length
  lo : w0.heap.size ≤ x.ro ∧ w0.heap.size ≤ gL ∧ w0.heap.size ≤ gR
  hs : gL < w.heap.size ∧ gR < w.heap.size
  ne : x.ro ≠ gL ∧ x.ro ≠ gR ∧ gL ≠ gR
  nu : ∀ u, x.us u → u ≠ x.ro ∧ u ≠ gL ∧ u ≠ gR
  on : ∀ g, vO.ownBlock = some g → g ≠ x.ro ∧ g ≠ gL ∧ g ≠ gR ∧ ¬ x.us g
def Ry (x : Bx) (gL gR : Nat) (vO : Value) : Nat → Prop := fun j => j = x.ro ∨ j = gL ∨ j = gR ∨ vO.ownBlock = some j
section
variable {w0 s t w w' : World} {x : Bx} {A : Option Addr} {c : Nat} {l : List Wn} {gL cL gR cR : Nat} {all : Int} {v0 v1 vO : Value} {left last : List Int} {out : List ByteArray} {y : ByteArray}
theorem us_al : x.us x.al := .inl rfl
theorem us_bl : x.us x.bl := .inr (.inl rfl)
theorem us_bL : x.us x.bL := .inr (.inr (.inl rfl))
theorem us_bR : x.us x.bR := .inr (.inr (.inr (.inl rfl)))
theorem us_bt : x.us x.bt := .inr (.inr (.inr (.inr rfl)))
theorem Rd.below (h : Rd w0 w x A c l gL cL gR cR all vO left last out) (hb : Below w.heap.size w w') : Rd w0 w' x A c l gL cL gR cR all vO left last out :=
  ⟨h.wn, h.be.trans (hb.mono h.be.size), h.c0.below hb, h.c1.below hb, h.c2.below hb, h.c3.below hb, h.c4.below hb, h.c5.below hb, h.L.below hb, h.R.below hb, own_fr (S := fun _ => False) h.O (Fr.of_below hb) (fun _ _ h => h), h.ll, h.lr, h.lo, ⟨Nat.lt_of_lt_of_le h.hs.1 hb.size, Nat.lt_of_lt_of_le h.hs.2 hb.size⟩, h.ne, h.nu, h.on⟩
theorem Rd.lt (h : Rd w0 w x A c l gL cL gR cR all vO left last out) : x.ro < w.heap.size ∧ (∀ u, x.us u → u < w.heap.size) ∧ (∀ g, vO.ownBlock = some g → g < w.heap.size) :=
  ⟨h.c0.lt, fun u hu => by
    rcases hu with rfl | rfl | rfl | rfl | rfl
    · exact h.c1.lt
    · exact h.c2.lt
    · exact h.c3.lt
    · exact h.c4.lt
    · exact h.c5.lt, fun g e => (World.ownsRow.lt (h.O : w.ownsRow _ _ _ _ _ _) g e).2⟩
theorem Rd.setL (h : Rd w0 w x A c l gL cL gR cR all vO left last out) {k : Nat} (hk : k < l.length) (v : Int) : Rd w0 (w.setCell ⟨gL, k, none⟩ (.int .i64 v)) x A c l gL cL gR cR all vO (left.set k v) last out := by
  have hf := fr_set w ⟨gL, k, none⟩ (.int .i64 v)
  obtain ⟨n1, n2, n3⟩ := h.ne
  exact ⟨h.wn, h.be.setCell h.lo.2.1 _, h.c0.fr hf n1, h.c1.fr hf (h.nu _ us_al).2.1, h.c2.fr hf (h.nu _ us_bl).2.1, h.c3.fr hf (h.nu _ us_bL).2.1, h.c4.fr hf (h.nu _ us_bR).2.1, h.c5.fr hf (h.nu _ us_bt).2.1, h.L.set (by rw [h.ll]; exact hk) v, h.R.fr hf (fun e => n3 e.symm), own_fr h.O hf (fun g e => (h.on g e).2.1), by rw [List.length_set]; exact h.ll, h.lr, h.lo, by simpa [World.setCell] using h.hs, h.ne, h.nu, h.on⟩
theorem Rd.setR (h : Rd w0 w x A c l gL cL gR cR all vO left last out) {k : Nat} (hk : k < l.length) (v : Int) : Rd w0 (w.setCell ⟨gR, k, none⟩ (.int .i64 v)) x A c l gL cL gR cR all vO left (last.set k v) out := by
  have hf := fr_set w ⟨gR, k, none⟩ (.int .i64 v)
  obtain ⟨n1, n2, n3⟩ := h.ne
  exact ⟨h.wn, h.be.setCell h.lo.2.2 _, h.c0.fr hf n2, h.c1.fr hf (h.nu _ us_al).2.2, h.c2.fr hf (h.nu _ us_bl).2.2, h.c3.fr hf (h.nu _ us_bL).2.2, h.c4.fr hf (h.nu _ us_bR).2.2, h.c5.fr hf (h.nu _ us_bt).2.2, h.L.fr hf n3, h.R.set (by rw [h.lr]; exact hk) v, own_fr h.O hf (fun g e => (h.on g e).2.2.1), h.ll, by rw [List.length_set]; exact h.lr, h.lo, by simpa [World.setCell] using h.hs, h.ne, h.nu, h.on⟩
theorem Rd.app (h : Rd w0 w x A c l gL cL gR cR all vO left last out) {vO1 : Value} {out1 : List ByteArray} (hO : B.Own w' w0.heap.size 9 1 strE vO1 out1) (ha : vO1.ownBlock = vO.ownBlock ∨ ∀ g, vO1.ownBlock = some g → w.heap.size ≤ g) (hf : Fr (fun j => vO.ownBlock = some j) w w') (hB : Below w0.heap.size w0 w') :
    Rd w0 (w'.setCell ⟨x.ro, 0, none⟩ vO1) x A c l gL cL gR cR all vO1 left last out1 := by
  obtain ⟨n1, n2, n3⟩ := h.ne
  have hlt := h.lt
  have nb : ∀ j, (j = x.ro ∨ j = gL ∨ j = gR ∨ x.us j) → ¬ vO.ownBlock = some j := fun j hx e => by
    obtain ⟨a1, a2, a3, a4⟩ := h.on j e
    rcases hx with rfl | rfl | rfl | hx
    · exact a1 rfl
    · exact a2 rfl
    · exact a3 rfl
    · exact a4 hx
  have nU : ∀ u, x.us u → ¬ vO.ownBlock = some u := fun u hu => nb u (.inr (.inr (.inr hu)))
  have on1 : ∀ g, vO1.ownBlock = some g → g ≠ x.ro ∧ g ≠ gL ∧ g ≠ gR ∧ ¬ x.us g := fun g e => by
    rcases ha with ha | ha
    · exact h.on g (ha ▸ e)
    · have := ha g e
      have h3 := h.hs
      exact ⟨by omega, by omega, by omega, fun hu => by have := hlt.2.1 g hu; omega⟩
  have hs := fr_set w' ⟨x.ro, 0, none⟩ vO1
  exact ⟨h.wn, hB.setCell h.lo.1 _, (h.c0.fr hf (nb _ (.inl rfl))).set _, (h.c1.fr hf (nU _ us_al)).fr hs (h.nu _ us_al).1, (h.c2.fr hf (nU _ us_bl)).fr hs (h.nu _ us_bl).1, (h.c3.fr hf (nU _ us_bL)).fr hs (h.nu _ us_bL).1, (h.c4.fr hf (nU _ us_bR)).fr hs (h.nu _ us_bR).1, (h.c5.fr hf (nU _ us_bt)).fr hs (h.nu _ us_bt).1,
    (h.L.fr hf (nb _ (.inr (.inl rfl)))).fr hs (fun e => n1 e.symm), (h.R.fr hf (nb _ (.inr (.inr (.inl rfl))))).fr hs (fun e => n2 e.symm), own_fr hO hs (fun g e => (on1 g e).1), h.ll, h.lr, h.lo, ⟨by simp [World.setCell]; exact Nat.lt_of_lt_of_le h.hs.1 hf.size, by simp [World.setCell]; exact Nat.lt_of_lt_of_le h.hs.2 hf.size⟩, h.ne, h.nu, on1⟩
/-- The state in w, as it came from the world s. -/
structure Rf (w0 s w : World) (x : Bx) (A : Option Addr) (c : Nat) (l : List Wn) (gL cL gR cR : Nat) (all : Int) (v0 vO : Value) (left last : List Int) (out : List ByteArray) : Prop where
  rd : Rd w0 w x A c l gL cL gR cR all vO left last out
  fr : Fr (Ry x gL gR v0) s w
  vo : vO.ownBlock = v0.ownBlock ∨ ∀ g, vO.ownBlock = some g → s.heap.size ≤ g
theorem Rf.start (h : Rd w0 w x A c l gL cL gR cR all vO left last out) : Rf w0 w w x A c l gL cL gR cR all vO vO left last out := ⟨h, Fr.refl _ _, .inl rfl⟩
theorem Rf.below (h : Rf w0 s w x A c l gL cL gR cR all v0 vO left last out) (hb : Below w.heap.size w w') : Rf w0 s w' x A c l gL cL gR cR all v0 vO left last out := ⟨h.rd.below hb, h.fr.then_below hb, h.vo⟩
theorem Ry.vo (hv : vO.ownBlock = v0.ownBlock ∨ ∀ g, vO.ownBlock = some g → s.heap.size ≤ g) (j : Nat) (hj : j < s.heap.size) (e : vO.ownBlock = some j) : Ry x gL gR v0 j := by
  rcases hv with hv | hv
  · exact .inr (.inr (.inr (hv ▸ e)))
  · exact absurd (hv j e) (by omega)
theorem Ry.mono (hv : v1.ownBlock = v0.ownBlock ∨ ∀ g, v1.ownBlock = some g → s.heap.size ≤ g) (i : Nat) (hi : i < s.heap.size) (h : Ry x gL gR v1 i) : Ry x gL gR v0 i := by
  rcases h with h | h | h | h
  · exact .inl h
  · exact .inr (.inl h)
  · exact .inr (.inr (.inl h))
  · exact Ry.vo hv i hi h
theorem Rf.setL (h : Rf w0 s w x A c l gL cL gR cR all v0 vO left last out) {k : Nat} (hk : k < l.length) (v : Int) : Rf w0 s (w.setCell ⟨gL, k, none⟩ (.int .i64 v)) x A c l gL cL gR cR all v0 vO (left.set k v) last out :=
  ⟨h.rd.setL hk v, h.fr.set (p := ⟨gL, k, none⟩) (fun _ => .inr (.inl rfl)) _, h.vo⟩
theorem Rf.setR (h : Rf w0 s w x A c l gL cL gR cR all v0 vO left last out) {k : Nat} (hk : k < l.length) (v : Int) : Rf w0 s (w.setCell ⟨gR, k, none⟩ (.int .i64 v)) x A c l gL cL gR cR all v0 vO left (last.set k v) out :=
  ⟨h.rd.setR hk v, h.fr.set (p := ⟨gR, k, none⟩) (fun _ => .inr (.inr (.inl rfl))) _, h.vo⟩
theorem Rf.app (h : Rf w0 s w x A c l gL cL gR cR all v0 vO left last out) {vO1 : Value} {out1 : List ByteArray} (hO : B.Own w' w0.heap.size 9 1 strE vO1 out1) (ha : vO1.ownBlock = vO.ownBlock ∨ ∀ g, vO1.ownBlock = some g → w.heap.size ≤ g) (hf : Fr (fun j => vO.ownBlock = some j) w w') (hB : Below w0.heap.size w0 w') :
    Rf w0 s (w'.setCell ⟨x.ro, 0, none⟩ vO1) x A c l gL cL gR cR all v0 vO1 left last out1 := by
  refine ⟨h.rd.app hO ha hf hB, (h.fr.trans hf (fun i hi e => Ry.vo h.vo i hi e)).set (p := ⟨x.ro, 0, none⟩) (fun _ => .inl rfl) _, ?_⟩
  rcases ha with ha | ha
  · rw [ha]; exact h.vo
  · exact .inr fun g e => Nat.le_trans h.fr.size (ha g e)
theorem Rf.trans {left' last' : List Int} {out' : List ByteArray} (h : Rf w0 s t x A c l gL cL gR cR all v0 v1 left' last' out') (k : Rf w0 t w x A c l gL cL gR cR all v1 vO left last out) : Rf w0 s w x A c l gL cL gR cR all v0 vO left last out := by
  refine ⟨k.rd, h.fr.trans k.fr (fun i hi e => Ry.mono h.vo i hi e), ?_⟩
  rcases k.vo with e | e
  · rw [e]; exact h.vo
  · exact .inr fun g q => Nat.le_trans h.fr.size (e g q)
theorem Rf.cut (h : Rf w0 s w x A c l gL cL gR cR all v0 vO left last (out ++ [y])) : ∃ g cap, vO = .slice (some ⟨g, 0, none⟩) (out.length + 1) cap ∧ out.length + 1 ≤ cap ∧ Rf w0 s (w.setCell ⟨x.ro, 0, none⟩ (.slice (some ⟨g, 0, none⟩) out.length cap)) x A c l gL cL gR cR all v0 (.slice (some ⟨g, 0, none⟩) out.length cap) left last out := by
  have hO : w.ownsRow w0.heap.size 9 1 vO (out ++ [y]).length ((out ++ [y]).flatMap strE) := h.rd.O
  rw [List.length_append, List.length_singleton] at hO
  rcases hO.2 with ⟨-, h0⟩ | ⟨g, cap, cur, rfl, -, -, hc, -⟩
  · exact absurd h0 (by omega)
  · refine ⟨g, cap, rfl, hc, ?_⟩
    have hp : B.Own w w0.heap.size 9 1 strE (.slice (some ⟨g, 0, none⟩) out.length cap) out := by
      have := prefix_row hO (i := out.length) (by omega)
      have e : ((out ++ [y]).flatMap strE).take (out.length * 1) = out.flatMap strE := by
        rw [List.flatMap_append, List.take_append_of_le_length, List.take_of_length_le]
        · rw [flat_len (k := 1) (fun _ => rfl)]; exact Nat.le_refl _
        · rw [flat_len (k := 1) (fun _ => rfl)]; exact Nat.le_refl _
      rw [e] at this
      exact this
    exact h.app hp (.inl rfl) (Fr.refl _ _) h.rd.be
end
end Go.Proofs.YtlfobpjefklccaaGreatDoor.Sp
namespace Go.Proofs.YtlfobpjefklccaaGreatDoor.Sp
open Go.RowKit
open F (Fr Cl)

structure Rb (w0 w : World) (bl gL bL gR bR al : Nat) (A : Option Addr) (c : Nat) (l : List Wn) (sum : Int) (xs ys : List Int) : Prop where
  wn : Wn.wnK.C w0 A l
  be : Below w0.heap.size w0 w
  c1 : Cl w al 0 (.int .i64 sum)
  c2 : Cl w bl 0 (.slice A l.length c)
  c3 : Cl w bL 0 (.slice (some ⟨gL, 0, none⟩) l.length l.length)
  c4 : Cl w bR 0 (.slice (some ⟨gR, 0, none⟩) l.length l.length)
  L : Ir w gL xs
  R : Ir w gR ys
  ll : xs.length = l.length
  lr : ys.length = l.length
  e : w0.heap.size ≤ bl ∧ bl < gL ∧ gL < bL ∧ bL < gR ∧ gR < bR ∧ bR < al ∧ al < w.heap.size
section
variable {w0 w w' : World} {bl gL bL gR bR al : Nat} {A : Option Addr} {c : Nat} {l : List Wn} {sum : Int} {xs ys : List Int}
theorem Rb.below (h : Rb w0 w bl gL bL gR bR al A c l sum xs ys) (hb : Below w.heap.size w w') : Rb w0 w' bl gL bL gR bR al A c l sum xs ys :=
  ⟨h.wn, h.be.trans (hb.mono h.be.size), h.c1.below hb, h.c2.below hb, h.c3.below hb, h.c4.below hb, h.L.below hb, h.R.below hb, h.ll, h.lr, by obtain ⟨a, b, c, d, e, f, g⟩ := h.e; exact ⟨a, b, c, d, e, f, Nat.lt_of_lt_of_le g hb.size⟩⟩
theorem Rb.setL (h : Rb w0 w bl gL bL gR bR al A c l sum xs ys) {k : Nat} (hk : k < l.length) (v : Int) : Rb w0 (w.setCell ⟨gL, k, none⟩ (.int .i64 v)) bl gL bL gR bR al A c l sum (xs.set k v) ys := by
  have hf := fr_set w ⟨gL, k, none⟩ (.int .i64 v)
  have he := h.e
  exact ⟨h.wn, h.be.setCell (p := ⟨gL, k, none⟩) (by show w0.heap.size ≤ gL; omega) _, h.c1.fr hf (by show ¬ al = gL; omega), h.c2.fr hf (by show ¬ bl = gL; omega), h.c3.fr hf (by show ¬ bL = gL; omega), h.c4.fr hf (by show ¬ bR = gL; omega), h.L.set (by rw [h.ll]; exact hk) v, h.R.fr hf (by show ¬ gR = gL; omega), by rw [List.length_set]; exact h.ll, h.lr, by simpa [World.setCell] using h.e⟩
theorem Rb.setR (h : Rb w0 w bl gL bL gR bR al A c l sum xs ys) {k : Nat} (hk : k < l.length) (v : Int) : Rb w0 (w.setCell ⟨gR, k, none⟩ (.int .i64 v)) bl gL bL gR bR al A c l sum xs (ys.set k v) := by
  have hf := fr_set w ⟨gR, k, none⟩ (.int .i64 v)
  have he := h.e
  exact ⟨h.wn, h.be.setCell (p := ⟨gR, k, none⟩) (by show w0.heap.size ≤ gR; omega) _, h.c1.fr hf (by show ¬ al = gR; omega), h.c2.fr hf (by show ¬ bl = gR; omega), h.c3.fr hf (by show ¬ bL = gR; omega), h.c4.fr hf (by show ¬ bR = gR; omega), h.L.fr hf (by show ¬ gL = gR; omega), h.R.set (by rw [h.lr]; exact hk) v, h.ll, by rw [List.length_set]; exact h.lr, by simpa [World.setCell] using h.e⟩
theorem Rb.setA (h : Rb w0 w bl gL bL gR bR al A c l sum xs ys) (v : Int) : Rb w0 (w.setCell ⟨al, 0, none⟩ (.int .i64 v)) bl gL bL gR bR al A c l v xs ys := by
  have hf := fr_set w ⟨al, 0, none⟩ (.int .i64 v)
  have he := h.e
  exact ⟨h.wn, h.be.setCell (p := ⟨al, 0, none⟩) (by show w0.heap.size ≤ al; omega) _, h.c1.set _, h.c2.fr hf (by show ¬ bl = al; omega), h.c3.fr hf (by show ¬ bL = al; omega), h.c4.fr hf (by show ¬ bR = al; omega), h.L.fr hf (by show ¬ gL = al; omega), h.R.fr hf (by show ¬ gR = al; omega), h.ll, h.lr, by simpa [World.setCell] using h.e⟩
/-- The boxes as they are made. -/
theorem rb_made {w : World} {A : Option Addr} {l : List Wn} (hC : Wn.wnK.C w A l) (hn : l.length ≤ 12) (c : Nat) : Rb w ((((((w.alloc (.cells #[.slice A l.length c] 29)).alloc
      (.cells (madeCells #[.int .i64 0] l.length) 3)).alloc (.cells #[.slice (some ⟨w.heap.size + 1, 0, none⟩) l.length l.length] 23)).alloc
      (.cells (madeCells #[.int .i64 0] l.length) 3)).alloc (.cells #[.slice (some ⟨w.heap.size + 1 + 1 + 1, 0, none⟩) l.length l.length] 23)).alloc (.cells #[.int .i64 0] 3))
    w.heap.size (w.heap.size + 1) (w.heap.size + 1 + 1) (w.heap.size + 1 + 1 + 1) (w.heap.size + 1 + 1 + 1 + 1) (w.heap.size + 1 + 1 + 1 + 1 + 1) A c l 0 (List.replicate l.length 0) (List.replicate l.length 0) := by
  have ha : ∀ (W : World) (cs : Array Value) (t : TypeId), Below W.heap.size W (W.alloc (.cells cs t)) ∧ (W.alloc (.cells cs t)).heap.size = W.heap.size + 1 := fun W cs t => ⟨(Below.refl _ _).alloc (Nat.le_refl _) _, by simp⟩
  have hi : ∀ W : World, Ir (W.alloc (.cells (madeCells #[.int .i64 0] l.length) 3)) W.heap.size (List.replicate l.length 0) := fun W => (make_ints l.length (by omega) W).2
  have h1 := Cl.new w #[.slice A l.length c] 29 0 _ rfl
  obtain ⟨b1, s1⟩ := ha w #[.slice A l.length c] 29
  generalize w.alloc (.cells #[.slice A l.length c] 29) = W1 at *
  have h2 := hi W1
  obtain ⟨b2, s2⟩ := ha W1 (madeCells #[.int .i64 0] l.length) 3
  generalize W1.alloc (.cells (madeCells #[.int .i64 0] l.length) 3) = W2 at *
  have h3 := Cl.new W2 #[.slice (some ⟨w.heap.size + 1, 0, none⟩) l.length l.length] 23 0 _ rfl
  obtain ⟨b3, s3⟩ := ha W2 #[.slice (some ⟨w.heap.size + 1, 0, none⟩) l.length l.length] 23
  generalize W2.alloc (.cells #[.slice (some ⟨w.heap.size + 1, 0, none⟩) l.length l.length] 23) = W3 at *
  have h4 := hi W3
  obtain ⟨b4, s4⟩ := ha W3 (madeCells #[.int .i64 0] l.length) 3
  generalize W3.alloc (.cells (madeCells #[.int .i64 0] l.length) 3) = W4 at *
  have h5 := Cl.new W4 #[.slice (some ⟨w.heap.size + 1 + 1 + 1, 0, none⟩) l.length l.length] 23 0 _ rfl
  obtain ⟨b5, s5⟩ := ha W4 #[.slice (some ⟨w.heap.size + 1 + 1 + 1, 0, none⟩) l.length l.length] 23
  generalize W4.alloc (.cells #[.slice (some ⟨w.heap.size + 1 + 1 + 1, 0, none⟩) l.length l.length] 23) = W5 at *
  have h6 := Cl.new W5 #[.int .i64 0] 3 0 _ rfl
  obtain ⟨b6, s6⟩ := ha W5 #[.int .i64 0] 3
  generalize W5.alloc (.cells #[.int .i64 0] 3) = W6 at *
  clear ha hi
  rw [s1] at h2
  rw [s2, s1] at h3
  rw [s3, s2, s1] at h4
  rw [s4, s3, s2, s1] at h5
  rw [s5, s4, s3, s2, s1] at h6
  exact ⟨hC, b1.trans ((b2.mono (by omega)).trans ((b3.mono (by omega)).trans ((b4.mono (by omega)).trans ((b5.mono (by omega)).trans (b6.mono (by omega)))))), h6, ((((h1.below b2).below b3).below b4).below b5).below b6, ((h3.below b4).below b5).below b6, h5.below b6, (((h2.below b3).below b4).below b5).below b6, (h4.below b5).below b6, by simp, by simp, ⟨Nat.le_refl _, by omega, by omega, by omega, by omega, by omega, by omega⟩⟩
end
end Go.Proofs.YtlfobpjefklccaaGreatDoor.Sp
