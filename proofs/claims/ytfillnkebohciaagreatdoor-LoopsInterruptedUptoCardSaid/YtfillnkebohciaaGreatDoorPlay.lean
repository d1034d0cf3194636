/- What right loops play: plain laws. -/
import Derived.Test.YtfillnkebohciaaGreatDoorBehind
namespace Go.Proofs.YtfillnkebohciaaGreatDoor.T
open Go.RowKit
open L (Lp own pf)

theorem own_ok {x : Lp} (h : own x = 0) : (1 ≤ x.kind ∧ x.kind ≤ 5) ∧ (x.kind = 1 → x.kids.length = 0) ∧ (x.kind ≠ 1 → 0 < x.kids.length) ∧ (x.kind = 5 → x.kids.length = 1 ∧ 1 ≤ x.many ∧ x.many ≤ 100) ∧ (x.kind = 4 → x.shares.length = x.kids.length) ∧
    (∀ s ∈ x.shares, 1 ≤ s ∧ s ≤ 1000) ∧ (x.kind = 1 → (1 ≤ x.long ∧ x.long ≤ 3600000) ∧ Key.keyB x.item = true) ∧ (x.kind ≠ 4 → x.shares.length = 0) ∧ (x.kind ≠ 1 → x.item.toList.isEmpty = true ∧ x.long = 0) ∧ (x.kind ≠ 5 → x.many = 0) := by
  unfold own at h
  split at h
  · omega
  split at h
  · omega
  split at h
  · omega
  split at h
  · omega
  split at h
  · omega
  split at h
  · omega
  rename_i h1 h2 h3 h4 h5 h6
  simp only [L.bad, decide_eq_true_eq, not_or, Int.not_lt] at h1
  have h2' : L.fb x = false := by simpa using h2
  unfold L.fb at h2'
  simp only [Bool.or_eq_false_iff, Bool.and_eq_false_iff] at h2'
  obtain ⟨⟨⟨⟨⟨⟨a1, a2⟩, a3⟩, a4⟩, a5⟩, a6⟩, a7⟩ := h2'
  refine ⟨h1, fun hk => ?_, fun hk => ?_, fun hk => ?_, fun hk => ?_, fun s hs => ?_, fun hk => ?_, fun hk => ?_, fun hk => ?_, fun hk => ?_⟩
  · rcases a1 with a | a
    · simp [hk] at a
    · have : (x.kids.length : Int) = 0 := by simpa using a
      omega
  · rcases a3 with a | a
    · simp [hk] at a
    · have : (x.kids.length : Int) ≠ 0 := by simpa using a
      omega
  · refine ⟨?_, ?_⟩
    · rcases a2 with a | a
      · simp [hk] at a
      · have : (x.kids.length : Int) = 1 := by simpa using a
        omega
    · have : ¬ (L.bad x.many 1 100 = true) := fun h => h5 ⟨hk, h⟩
      simp only [L.bad, decide_eq_true_eq, not_or, Int.not_lt] at this
      exact this
  · rcases a4 with a | a
    · simp [hk] at a
    · have : (x.shares.length : Int) = x.kids.length := by simpa using a
      omega
  · have : L.bad s 1 1000 = false := by
      have h6' : x.shares.any (fun n => L.bad n 1 1000) = false := by simpa using h6
      rw [List.any_eq_false] at h6'
      simpa using h6' s hs
    simp only [L.bad, decide_eq_false_iff_not, not_or, Int.not_lt] at this
    exact this
  · refine ⟨?_, ?_⟩
    · have : ¬ (L.bad x.long 1 3600000 = true) := fun h => h4 ⟨hk, h⟩
      simp only [L.bad, decide_eq_true_eq, not_or, Int.not_lt] at this
      exact this
    · cases hq : Key.keyB x.item with
      | true => rfl
      | false => exact absurd ⟨hk, hq⟩ h3
  · rcases a5 with a | a
    · simp [hk] at a
    · have : (x.shares.length : Int) = 0 := by simpa using a
      omega
  · rcases a6 with a | a
    · simp [hk] at a
    · exact ⟨by simpa using a.1, by simpa using a.2⟩
  · rcases a7 with a | a
    · simp [hk] at a
    · simpa using a
/-- A right loop of at most so many floors. -/
def Gd : Nat → Lp → Prop
  | 0, x => own x = 0 ∧ x.kids.length = 0
  | n + 1, x => own x = 0 ∧ ∀ k ∈ x.kids, Gd n k
theorem Gd.own {n : Nat} {x : Lp} (h : Gd n x) : L.own x = 0 := by cases n <;> exact h.1
theorem first_zero {f : Lp → Int} {l : List Lp} (h : L.first f l = 0) : ∀ k ∈ l, f k = 0 := by
  induction l with
  | nil => intro k hk; cases hk
  | cons a l ih =>
    unfold L.first at h
    split at h
    · rename_i h1; exact absurd h h1
    · rename_i h1
      intro k hk
      rcases List.mem_cons.1 hk with rfl | hk
      · simpa using h1
      · exact ih h k hk
theorem gd_of : ∀ (n : Nat) (x : Lp), pf (n + 1) x = 0 → (n = 0 → x.kids.length = 0) → (∀ k ∈ x.kids, ∀ m, n = m + 1 → m = 0 → k.kids.length = 0) → (∀ m, n = m + 1 → ∀ k ∈ x.kids, Gd m k) → Gd n x := by
  intro n x h h0 _ hk
  unfold pf at h
  split at h
  · rename_i h1; exact absurd h h1
  · rename_i h1
    have h1' : L.own x = 0 := by simpa using h1
    cases n with
    | zero => exact ⟨h1', h0 rfl⟩
    | succ n => exact ⟨h1', hk n rfl⟩
theorem gd_at : ∀ (n : Nat) (w : World) (x : Lp) (A As : Option Addr), L.At n w x A As → pf (n + 1) x = 0 → Gd n x := by
  intro n
  induction n with
  | zero =>
    intro w x A As h hp
    refine gd_of 0 x hp (fun _ => Nat.eq_zero_of_not_pos fun hq => ?_) (fun k hk m e => by omega) (fun m e => by omega)
    obtain ⟨_, _, _, _, _, _, _, _, e, _⟩ := L.kid_at h.1 0 hq
    omega
  | succ n ih =>
    intro w x A As h hp
    refine gd_of (n + 1) x hp (fun e => by omega) (fun k hk m e e0 => ?_) (fun m e k hk => ?_)
    · obtain ⟨j, hj, rfl⟩ := List.getElem_of_mem hk
      obtain ⟨_, _, m', A', As', _, _, _, e', hat, _⟩ := L.kid_at h.1 j hj
      obtain rfl : m' = m := by omega
      refine Nat.eq_zero_of_not_pos fun hq => ?_
      obtain ⟨_, _, _, _, _, _, _, _, e2, _⟩ := L.kid_at hat.1 0 hq
      omega
    · obtain rfl : n = m := by omega
      obtain ⟨j, hj, rfl⟩ := List.getElem_of_mem hk
      obtain ⟨_, _, m', A', As', _, _, _, e', hat, _⟩ := L.kid_at h.1 j hj
      obtain rfl : n = m' := by omega
      refine ih w _ _ _ hat ?_
      unfold pf at hp
      split at hp
      · rename_i h1; exact absurd hp h1
      · exact first_zero hp _ hk

/-- How the kids are played. -/
def kf (n : Nat) (x : Lp) (i : Nat) (s : St) : St × List Step := match x.kids[i]? with | some k => passS n k s | none => (s, [])
theorem passS_item {n : Nat} {x : Lp} {st : St} (h : x.kind = 1) : passS (n + 1) x st = (.mk (w64 (st.had + 1)) st.cnt st.kids, [(x.item, x.long)]) := by unfold passS; rw [if_pos h]
theorem passS_kids {n : Nat} {x : Lp} {st : St} (h : x.kind ≠ 1) : passS (n + 1) x st = (.mk (w64 (st.had + 1)) (if x.kind = 4 then bump st.cnt (next x st.had st.cnt) else st.cnt) (runs (kf n x) (idx x st.had st.cnt) st.kids).1, (runs (kf n x) (idx x st.had st.cnt) st.kids).2) := by
  unfold passS; rw [if_neg h]; rfl
theorem runs_cons (f : Nat → St → St × List Step) (i : Nat) (is : List Nat) (ks : List St) (h : i < ks.length) : runs f (i :: is) ks = ((runs f is (ks.set i (f i ks[i]).1)).1, (f i ks[i]).2 ++ (runs f is (ks.set i (f i ks[i]).1)).2) := by
  rw [runs, List.getElem?_eq_getElem h]
theorem runs_len (f : Nat → St → St × List Step) : ∀ (is : List Nat) (ks : List St), (runs f is ks).1.length = ks.length := by
  intro is
  induction is with
  | nil => intro ks; rfl
  | cons i is ih =>
    intro ks
    rw [runs]
    split
    · rfl
    · rename_i s _
      show (runs f is (ks.set i (f i s).1)).1.length = _
      rw [ih, List.length_set]
theorem kf_at {n : Nat} {x : Lp} {i : Nat} (h : i < x.kids.length) (s : St) : kf n x i s = passS n x.kids[i] s := by unfold kf; rw [List.getElem?_eq_getElem h]
theorem idx_ok {x : Lp} {had : Int} {cnt : List Int} (h : own x = 0) (hk : x.kind ≠ 1) (h0 : 0 ≤ had) : idx x had cnt ≠ [] ∧ ∀ i ∈ idx x had cnt, i < x.kids.length := by
  obtain ⟨a1, a2, a3, a4, a5, -, -, -⟩ := own_ok h
  have hp := a3 hk
  unfold idx
  split
  · refine ⟨fun e => ?_, fun i hi => List.mem_range.1 hi⟩
    have := congrArg List.length e
    rw [List.length_range, List.length_nil] at this
    omega
  split
  · refine ⟨by simp, fun i hi => ?_⟩
    obtain rfl := List.mem_singleton.1 hi
    have h1 := Int.tmod_lt_of_pos had (b := x.kids.length) (by omega)
    have h2 := Int.tmod_nonneg (x.kids.length : Int) h0
    exact (Int.toNat_lt h2).2 h1
  split
  · rename_i h4
    refine ⟨by simp, fun i hi => ?_⟩
    obtain rfl := List.mem_singleton.1 hi
    have := a5 h4
    rw [← this]
    exact scan_lt _ _ _ _ _ (by omega) (by omega)
  · have h5 : x.kind = 5 := by omega
    obtain ⟨b1, b2, -⟩ := a4 h5
    refine ⟨fun e => ?_, fun i hi => ?_⟩
    · have := congrArg List.length e
      simp at this
      omega
    · have := (List.mem_replicate.1 hi).2
      omega
/-- The numbers in a part lie in this range, and the kids are as many. -/
def Bd (N : Nat) : Nat → Lp → St → Prop
  | 0, x, st => (0 ≤ st.had ∧ st.had ≤ N) ∧ st.kids.length = x.kids.length
  | n + 1, x, st => (0 ≤ st.had ∧ st.had ≤ N) ∧ st.kids.length = x.kids.length ∧ ∀ j (h1 : j < x.kids.length) (h2 : j < st.kids.length), Bd N n x.kids[j] st.kids[j]
theorem Bd.had {N n : Nat} {x : Lp} {st : St} (h : Bd N n x st) : 0 ≤ st.had ∧ st.had ≤ N := by cases n <;> exact h.1
theorem Bd.len {N n : Nat} {x : Lp} {st : St} (h : Bd N n x st) : st.kids.length = x.kids.length := by cases n; exact h.2; exact h.2.1
theorem Bd.le {N M : Nat} (hl : N ≤ M) : ∀ {n : Nat} {x : Lp} {st : St}, Bd N n x st → Bd M n x st := by
  intro n
  induction n with
  | zero => intro x st h; exact ⟨⟨h.1.1, by have := h.1.2; omega⟩, h.2⟩
  | succ n ih => intro x st h; exact ⟨⟨h.1.1, by have := h.1.2; omega⟩, h.2.1, fun j h1 h2 => ih (h.2.2 j h1 h2)⟩
theorem bd_st0 : ∀ (n : Nat) (x : Lp), Gd n x → Bd 0 n x (st0 n x) := by
  intro n
  induction n with
  | zero => intro x h; exact ⟨by rw [st0_had]; exact ⟨Int.le_refl _, Int.le_refl _⟩, by rw [h.2]; rfl⟩
  | succ n ih =>
    intro x h
    refine ⟨by rw [st0_had]; exact ⟨Int.le_refl _, Int.le_refl _⟩, by simp [st0, St.kids], fun j h1 h2 => ?_⟩
    have e3 : (st0 (n + 1) x).kids[j] = st0 n x.kids[j] := by simp [st0, St.kids]
    rw [e3]
    exact ih _ (h.2 _ (List.getElem_mem h1))
theorem runs_bd {n : Nat} {x : Lp} (hf : ∀ i (h : i < x.kids.length) N s, Bd N n x.kids[i] s → 1 ≤ (kf (n + 1) x i s).2.length ∧ (N + (kf (n + 1) x i s).2.length ≤ 5000 → Bd (N + (kf (n + 1) x i s).2.length) n x.kids[i] (kf (n + 1) x i s).1)) :
    ∀ (is : List Nat) (N : Nat) (ks : List St), ks.length = x.kids.length → (∀ i ∈ is, i < x.kids.length) → (∀ j (h1 : j < x.kids.length) (h2 : j < ks.length), Bd N n x.kids[j] ks[j]) →
      (is ≠ [] → 1 ≤ (runs (kf (n + 1) x) is ks).2.length) ∧ (N + (runs (kf (n + 1) x) is ks).2.length ≤ 5000 → ∀ j (h1 : j < x.kids.length) (h2 : j < (runs (kf (n + 1) x) is ks).1.length), Bd (N + (runs (kf (n + 1) x) is ks).2.length) n x.kids[j] (runs (kf (n + 1) x) is ks).1[j]) := by
  intro is
  induction is with
  | nil => intro N ks hl _ hb; exact ⟨fun h => absurd rfl h, fun _ => hb⟩
  | cons i is ih =>
    intro N ks hl hi hb
    have h0 := hi i List.mem_cons_self
    rw [runs_cons _ _ _ _ (by omega)]
    obtain ⟨p1, p2⟩ := hf i h0 N _ (hb i h0 (by omega))
    generalize kf (n + 1) x i ks[i] = r at p1 p2
    have q := fun hh => ih (N + r.2.length) (ks.set i r.1) (by rw [List.length_set]; exact hl) (fun j hj => hi j (List.mem_cons_of_mem _ hj)) hh
    simp only [List.length_append]
    have hset : N + r.2.length ≤ 5000 → ∀ j (h1 : j < x.kids.length) (h2 : j < (ks.set i r.1).length), Bd (N + r.2.length) n x.kids[j] (ks.set i r.1)[j] := fun hN j h1 h2 => by
      rw [List.getElem_set]
      split
      · rename_i e; subst e; exact p2 hN
      · exact (hb j h1 _).le (by omega)
    refine ⟨fun _ => by omega, fun hN => ?_⟩
    have := (q (hset (by omega))).2 (by omega)
    rw [← Nat.add_assoc]
    exact this
theorem pass_bd : ∀ (n : Nat) (x : Lp) (N : Nat) (st : St), Gd n x → Bd N n x st → 1 ≤ (passS (n + 1) x st).2.length ∧ (N + (passS (n + 1) x st).2.length ≤ 5000 → Bd (N + (passS (n + 1) x st).2.length) n x (passS (n + 1) x st).1) := by
  have wr : ∀ (h : Int) (N : Nat), 0 ≤ h → h ≤ N → N ≤ 5000 → w64 (h + 1) = h + 1 := fun h N h1 h2 h3 => by rw [w64_eq]; unfold wrap64; omega
  intro n
  induction n with
  | zero =>
    intro x N st hg hb
    have hk : x.kind = 1 := by
      by_cases h : x.kind = 1
      · exact h
      · have := (own_ok hg.1).2.2.1 h
        have := hg.2
        omega
    rw [passS_item hk]
    refine ⟨Nat.le_refl _, fun hN => ?_⟩
    have h1 := hb.had
    simp only [List.length_singleton] at hN ⊢
    refine ⟨?_, hb.2⟩
    show 0 ≤ w64 _ ∧ w64 _ ≤ _
    rw [wr _ N h1.1 h1.2 (by omega)]
    omega
  | succ n ih =>
    intro x N st hg hb
    have h1 := hb.had
    by_cases hk : x.kind = 1
    · rw [passS_item hk]
      refine ⟨Nat.le_refl _, fun hN => ?_⟩
      simp only [List.length_singleton] at hN ⊢
      refine ⟨?_, hb.2.1, fun j h1 h2 => (hb.2.2 j h1 h2).le (by omega)⟩
      show 0 ≤ w64 _ ∧ w64 _ ≤ _
      rw [wr _ N h1.1 h1.2 (by omega)]
      omega
    · rw [passS_kids hk]
      obtain ⟨i1, i2⟩ := idx_ok (had := st.had) (cnt := st.cnt) hg.1 hk h1.1
      obtain ⟨q1, q2⟩ := runs_bd (n := n) (x := x) (fun i h N s hs => by rw [kf_at h]; exact ih _ N s (hg.2 _ (List.getElem_mem h)) hs) (idx x st.had st.cnt) N st.kids hb.2.1 i2 hb.2.2
      refine ⟨q1 i1, fun hN => ⟨?_, ?_, q2 hN⟩⟩
      · show 0 ≤ w64 _ ∧ w64 _ ≤ _
        have := q1 i1
        have hN' : N + (runs (kf (n + 1) x) (idx x st.had st.cnt) st.kids).2.length ≤ 5000 := hN
        rw [wr _ N h1.1 h1.2 (by omega)]
        show _ ∧ st.had + 1 ≤ ((N + (runs (kf (n + 1) x) (idx x st.had st.cnt) st.kids).2.length : Nat) : Int)
        omega
      · show (runs _ _ _).1.length = _
        rw [runs_len]; exact hb.2.1
end Go.Proofs.YtfillnkebohciaaGreatDoor.T
