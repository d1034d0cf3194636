/- Passes and PassesOf. -/
import Derived.Test.YtlfobpjefklccaaGreatDoorPassQ
namespace Go.Proofs.YtlfobpjefklccaaGreatDoor.T
open Go.RowKit
open L (Lp row row1 At AtR lv kdL kid_at)
open F (Fr Cl)

/-- So many passes. -/
def playN (n : Nat) (x : Lp) : Nat → St → St × List Step
  | 0, st => (st, [])
  | k + 1, st => ((playN n x k (passS n x st).1).1, (passS n x st).2 ++ (playN n x k (passS n x st).1).2)
def stK : B.Kd Step := .flat 2 stE (fun _ => rfl) stE1
def PRun (tst : Bool) (w0 : World) (n lo hi : Nat) (x : Lp) (b : Nat) (ob : Ob) (tot : List Step) (wr : World) (j : Nat) : Prop :=
  (∃ st v l, Pre tst w0 wr n lo hi x b st ob v l ∧ l ++ (playN (n + 1) x j st).2 = tot) ∨ (∃ v, Over tst wr ob v tot.length)
theorem prun_step {tst : Bool} {w0 wr w' : World} {n lo hi : Nat} {x : Lp} {b : Nat} {st : St} {ob : Ob} {v : Value} {l tot : List Step} {j : Nat} {B : Nat} (h : Pre tst w0 wr n lo hi x b st ob v l) (ht : l ++ (playN (n + 1) x (j + 1) st).2 = tot) (hp : PassPost tst w0 wr n lo hi x b st ob v l w') (h1 : B ≤ lo) (h2 : B ≤ ob.o) (h3 : B ≤ wr.heap.size) :
    (((∃ st v l, Pre tst w0 w' n lo hi x b st ob v l ∧ l ++ (playN (n + 1) x j st).2 = tot) ∧ l.length + (passS (n + 1) x st).2.length ≤ 5000) ∨ ((∃ v, Over tst w' ob v tot.length) ∧ 5000 < l.length + (passS (n + 1) x st).2.length)) ∧ Below B wr w' := by
  obtain ⟨v', hn, hf, hr⟩ := hp
  have hv : ∀ g, v.ownBlock = some g → ob.bs ≤ g := fun g e => (World.ownsRow.lt h.out.2.2.1 g e).1
  have hb : ∀ B, B ≤ lo → B ≤ ob.o → B ≤ wr.heap.size → Below B wr w' := fun B h1 h2 h3 => hf.below h3 (fun k hS => by
    rcases hS with hS | hS | hS
    · omega
    · omega
    · have := hv k hS; have := h.hob; omega)
  refine ⟨?_, hb B h1 h2 h3⟩
  rw [playN] at ht
  rcases hr with ⟨a1, a2, a3⟩ | ⟨a1, a2⟩
  · refine .inl ⟨⟨_, v', _, ⟨a3, h.gd, ?_, h.hob, a2, by rw [List.length_append]; exact a1, h.hw0.trans (hb _ h.hlo h.how0 h.hw0.size), h.hlo, h.how0⟩, by rw [List.append_assoc]; exact ht⟩, a1⟩
    rw [List.length_append]
    exact (pass_bd n x l.length st h.gd h.bd).2 a1
  · refine .inr ⟨⟨v', ?_, a2⟩, a1⟩
    have e := congrArg List.length ht
    simp only [List.length_append] at e
    omega
theorem prun_call {w0 wr : World} {n lo hi : Nat} {x : Lp} {b : Nat} {ob : Ob} {tot : List Step} {j : Nat} {B : Nat} (h : PRun true w0 n lo hi x b ob tot wr (j + 1)) (h1 : B ≤ lo) (h2 : B ≤ ob.o) (h3 : B ≤ wr.heap.size) :
    Calls Tryz.prog 77 #[.pointer (some ⟨b, 0, none⟩), .pointer (some ⟨ob.o, 0, none⟩)] wr fun e w' => e = .returned (.tuple #[]) ∧ PRun true w0 n lo hi x b ob tot w' j ∧ Below B wr w' := by
  rcases h with ⟨st, v, l, hp, ht⟩ | ⟨v, hov⟩
  · refine (pass n _ _ _ _ _ _ _ _ _ _ hp).mono fun e w' he => ⟨he.1, ?_⟩
    obtain ⟨h5, h6⟩ := prun_step hp ht he.2 h1 h2 h3
    exact ⟨h5.elim (fun h => .inl h.1) (fun h => .inr h.1), h6⟩
  · obtain ⟨l', q1, q2, q3⟩ := hov.2
    refine (pass_full wr b ob v l' q3 ⟨q1, q2⟩).mono fun e w' he => ⟨he.1, .inr ⟨v, hov.1, l', q1, q2, q3.below he.2⟩, he.2.mono h3⟩
/-- Where nothing was played yet. -/
theorem pre_start {tst : Bool} {w0 w : World} {n lo hi : Nat} {x : Lp} {b : Nat} {ob : Ob} {A As : Option Addr} (ht : Tr tst w0 n w lo hi x b (st0 n x)) (hat : At n w0 x A As) (hg : L.pf (n + 1) x = 0) (hob : (ob.o < lo ∨ hi ≤ ob.o) ∧ hi ≤ ob.bs ∧ ob.o < ob.bs) (h0 : Cl w ob.o 0 (.slice none 0 0)) (h1 : tst = true → Cl w ob.o 1 (.int .i64 5000)) (hbs : ob.bs ≤ w.heap.size)
    (hb : Below w0.heap.size w0 w) (h2 : w0.heap.size ≤ lo) (h3 : w0.heap.size ≤ ob.o) : Pre tst w0 w n lo hi x b (st0 n x) ob (.slice none 0 0) [] :=
  ⟨ht, gd_at n w0 x A As hat hg, bd_st0 n x (gd_at n w0 x A As hat hg), hob, ⟨h0, h1, B.Own.nil _ _ _ _ _, hbs⟩, Nat.zero_le _, hb, h2, h3⟩
def tot (n : Nat) (x : Lp) (k : Nat) : List Step := (playN (n + 1) x k (st0 n x)).2
def psE (n : Nat) (x : Lp) (many : Int) : Int := if L.lf (n + 1) x ≠ 0 then L.lf (n + 1) x else if L.bad many 0 5000 = true then 1 else if 5000 < (tot n x many.toNat).length then 2 else 0
def psL (n : Nat) (x : Lp) (many : Int) : List Step := if psE n x many = 0 then tot n x many.toNat else []
/-- Steps and an error. -/
def Res2 (l : List Step) (q : Int) (e : Ending) (w' : World) : Prop := ∃ A c, e = .returned (.tuple #[.slice A l.length c, .int .i64 q]) ∧ stK.C w' A l
theorem res_none (q : Int) (w' : World) : Res2 [] q (.returned (.tuple #[.slice none 0 0, .int .i64 q])) w' := ⟨none, 0, rfl, B.Kd.C_nil _ _ _⟩
theorem lf_pf {n : Nat} {x : Lp} (h : L.lf (n + 1) x = 0) : L.pf (n + 1) x = 0 := by
  unfold L.lf at h
  split at h
  · omega
  · exact h
/-! ### PassesOf -/
def PRunA (w0 : World) (n lo hi : Nat) (x : Lp) (b : Nat) (ob : Ob) (tot : List Step) (wr : World) (j : Nat) (st : St) (v : Value) (l : List Step) : Prop := Pre false w0 wr n lo hi x b st ob v l ∧ l ++ (playN (n + 1) x j st).2 = tot
theorem prun_callR {w0 wr : World} {n lo hi : Nat} {x : Lp} {b : Nat} {ob : Ob} {tot : List Step} {j : Nat} {st : St} {v : Value} {l : List Step} {B : Nat} (h : PRunA w0 n lo hi x b ob tot wr (j + 1) st v l) (h1 : B ≤ lo) (h2 : B ≤ ob.o) (h3 : B ≤ wr.heap.size) :
    Calls Tryz.prog 68 #[.pointer (some ⟨b, 0, none⟩), .pointer (some ⟨ob.o, 0, none⟩), .int .i64 5000] wr fun e w' => e = .returned (.bool (decide (l.length + (passS (n + 1) x st).2.length ≤ 5000))) ∧ (l.length + (passS (n + 1) x st).2.length ≤ 5000 → ∃ st v l, PRunA w0 n lo hi x b ob tot w' j st v l) ∧ (5000 < l.length + (passS (n + 1) x st).2.length → 5000 < tot.length) ∧ Below B wr w' := by
  refine (passR n _ _ _ _ _ _ _ _ _ _ h.1).mono fun e w' he => ⟨he.1, ?_⟩
  obtain ⟨h5, h6⟩ := prun_step h.1 h.2 he.2 h1 h2 h3
  refine ⟨fun hf => ?_, fun hf => ?_, h6⟩
  · rcases h5 with h | h
    · exact h.1
    · omega
  · rcases h5 with h | ⟨⟨v, hov⟩, _⟩
    · omega
    · exact hov.1
end Go.Proofs.YtlfobpjefklccaaGreatDoor.T
