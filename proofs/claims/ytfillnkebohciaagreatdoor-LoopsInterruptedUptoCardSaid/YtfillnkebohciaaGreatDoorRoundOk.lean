/- What a round of a right loop is: steps of right length. -/
import Derived.Test.YtfillnkebohciaaGreatDoorComeP
namespace Go.Proofs.YtfillnkebohciaaGreatDoor.Come
open Go.RowKit
open L (Lp At)
open T

/-- Steps of items that are keys. -/
def Ok2 (l : List Step) : Prop := ∀ s ∈ l, (1 ≤ s.2 ∧ s.2 ≤ 3600000) ∧ Key.keyB s.1 = true
theorem ok_app {p q : List Step} (hp : Ok2 p) (hq : Ok2 q) : Ok2 (p ++ q) := fun s hs => (List.mem_append.1 hs).elim (hp s) (hq s)
theorem runs_ok (f : Nat → St → St × List Step) (hf : ∀ i s, Ok2 (f i s).2) : ∀ (is : List Nat) (ks : List St), Ok2 (runs f is ks).2 := by
  intro is
  induction is with
  | nil => intro ks s hs; cases hs
  | cons i is ih =>
    intro ks
    rw [runs]
    split
    · intro s hs; cases hs
    · exact ok_app (hf _ _) (ih _)
theorem pass_ok : ∀ (n : Nat) (x : Lp) (st : St), Gd n x → Ok2 (passS (n + 1) x st).2 := by
  intro n
  induction n with
  | zero =>
    intro x st hg
    have hk : x.kind = 1 := by
      by_cases h : x.kind = 1
      · exact h
      · have := (own_ok hg.1).2.2.1 h
        have := hg.2
        omega
    rw [passS_item hk]
    intro s hs
    rw [List.mem_singleton] at hs
    subst hs
    exact (own_ok hg.1).2.2.2.2.2.2.1 hk
  | succ n ih =>
    intro x st hg
    by_cases hk : x.kind = 1
    · rw [passS_item hk]
      intro s hs
      rw [List.mem_singleton] at hs
      subst hs
      exact (own_ok hg.1).2.2.2.2.2.2.1 hk
    · rw [passS_kids hk]
      refine runs_ok _ (fun i s => ?_) _ _
      by_cases hi : i < x.kids.length
      · rw [kf_at hi]; exact ih _ s (hg.2 _ (List.getElem_mem hi))
      · unfold kf
        rw [List.getElem?_eq_none (by omega)]
        intro s hs; cases hs
theorem rnd_ok {n : Nat} {x : Lp} (hg : Gd n x) : ∀ (fu : Nat) (st : St) (p : Nat) (l : List Step) (p' : Nat) (l' : List Step), Ok2 l → rnd n x fu st p l = some (p', l') → Ok2 l' := by
  intro fu
  induction fu with
  | zero => intro st p l p' l' _ h; cases h
  | succ fu ih =>
    intro st p l p' l' hl h
    have h1 := ok_app hl (pass_ok n x st hg)
    rw [rnd] at h
    split at h
    · cases h
    split at h
    · cases h; exact h1
    · exact ih _ _ _ _ _ h1 h
theorem sumI_tot : ∀ (l : List Step) (s : Int), Ok l → 0 ≤ s → s + tot l ≤ 1000000000000 → sumI (l.map (·.2)) s = s + tot l := by
  intro l
  induction l with
  | nil => intro s _ _ _; simp [sumI, tot]
  | cons a l ih =>
    intro s hok h0 h1
    have h3 := hok a List.mem_cons_self
    have hok' : Ok l := fun x hx => hok x (List.mem_cons_of_mem _ hx)
    have h4 := tot_le hok'
    rw [tot] at h1 ⊢
    rw [List.map_cons, sumI, show w64 (s + a.2) = s + a.2 by rw [w64_eq]; unfold wrap64; omega, ih _ hok' (by omega) (by omega)]
    omega
theorem lng_tot {l : List Step} (hok : Ok l) (hl : l.length ≤ 5000) : lng l = tot l := by
  have := tot_le hok
  unfold lng
  rw [sumI_tot l 0 hok (by omega) (by omega)]
  omega
theorem key_size {s : ByteArray} (h : Key.keyB s = true) : s.size ≤ 40 := by
  unfold Key.keyB at h
  rw [Bool.and_eq_true] at h
  exact of_decide_eq_true h.2
theorem round_ok2 {n : Nat} {w : World} {x : Lp} {A As : Option Addr} (h : At n w x A As) (hl : L.lf (n + 1) x = 0) {p : Nat} {l : List Step} (hr : roundM n x = some (p, l)) : Ok2 l :=
  rnd_ok (gd_at n w x A As h (lf_pf hl)) 5001 (st0 n x) 0 [] p l (fun s hs => by cases hs) hr
theorem round_ok {n : Nat} {w : World} {x : Lp} {A As : Option Addr} (h : At n w x A As) (hl : L.lf (n + 1) x = 0) {p : Nat} {l : List Step} (hr : roundM n x = some (p, l)) : Ok l ∧ l ≠ [] ∧ l.length ≤ 5000 ∧ lng l = tot l := by
  have h1 := roundM_len h hl hr
  have h2 : Ok l := fun s hs => (round_ok2 h hl hr s hs).1
  exact ⟨h2, fun e => by rw [e] at h1; exact absurd h1.1 (by simp), h1.2, lng_tot h2 h1.2⟩
end Go.Proofs.YtfillnkebohciaaGreatDoor.Come
