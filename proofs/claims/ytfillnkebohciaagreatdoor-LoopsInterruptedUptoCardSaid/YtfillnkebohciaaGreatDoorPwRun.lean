/- The program's player in memory, and what each write does to it. The program's player: full, step, goOn. Printed by wip/gen/playergen.py. The program's player: gap. Printed by wip/gen/gapgen.py. The program's player: run. Printed by wip/gen/runwgen.py. -/
import Derived.Test.YtfillnkebohciaaGreatDoorBrk
import Derived.Test.YtfillnkebohciaaGreatDoorFrame
import Derived.Test.YtfillnkebohciaaGreatDoorComeA
import Derived.Test.YtfillnkebohciaaGreatDoorTl
import Derived.Test.YtfillnkebohciaaGreatDoorSmall
import Derived.StillTailTactics
import Derived.Deep.Cut
import Derived.Test.YtfillnkebohciaaGreatDoorRnP
namespace Go.Proofs.YtfillnkebohciaaGreatDoor.Rn
open Go.RowKit
open F (Fr Cl)
open T (Step stK)
open Come (tot Ok)

theorem own_fr {α : Type} {w w' : World} {base : Nat} {e : TypeId} {k : Nat} {enc : α → List Value} {v : Value} {xs : List α} {S : Nat → Prop} (h : B.Own w base e k enc v xs) (hf : Fr S w w') (hS : ∀ g, v.ownBlock = some g → ¬ S g) : B.Own w' base e k enc v xs := by
  have h0 : w.ownsRow base e k v xs.length (xs.flatMap enc) := h
  refine ⟨h.1, ?_⟩
  rcases h.2 with hn | ⟨g, cap, cur, rfl, h1, h2, rest⟩
  · exact Or.inl hn
  · exact Or.inr ⟨g, cap, cur, rfl, h1, (hf.block g ((World.ownsRow.lt h0 g rfl).2) (hS g rfl)).trans h2, rest⟩
theorem fr_set (w : World) (p : Addr) (u : Value) : Fr (fun j => j = p.block) w (w.setCell p u) := Fr.set (S := fun j => j = p.block) (Fr.refl _ w) (fun _ => rfl) u
/-- The steps' capacity; and blocks that stay as they are in a world. -/
structure Cx where
  c : Nat
  K : Nat → Prop
  wk : World
/-- The player at b. -/
structure Pw (w0 w : World) (b : Nat) (A : Option Addr) (c : Cx) (l : List Step) (ps wf wt af : Int) (vO vX : Value) (s : PS) : Prop where
  st : stK.C w0 A l
  be : Below w0.heap.size w0 w
  c0 : Cl w b 0 (.int .i64 ps)
  c1 : Cl w b 1 (.slice A l.length c.c)
  c2 : Cl w b 2 (.int .i64 (tot l))
  c3 : Cl w b 3 (.int .i64 wf)
  c4 : Cl w b 4 (.int .i64 wt)
  c5 : Cl w b 5 (.int .i64 af)
  c6 : Cl w b 6 vO
  c7 : Cl w b 7 vX
  c8 : Cl w b 8 (.int .i64 s.i)
  c9 : Cl w b 9 (.int .i64 s.rest)
  c10 : Cl w b 10 (.bool s.half)
  O : B.Own w w0.heap.size 77 4 plE vO s.own
  X : B.Own w w0.heap.size 77 4 plE vX s.oth
  lo : w0.heap.size ≤ b
  nO : vO.ownBlock ≠ some b
  nX : vX.ownBlock ≠ some b
  nOX : ∀ g, vO.ownBlock = some g → vX.ownBlock ≠ some g
  kp : ∀ i, c.K i → i < w.heap.size ∧ w.heap[i]? = c.wk.heap[i]?
  kb : ¬ c.K b
  kO : ∀ g, vO.ownBlock = some g → ¬ c.K g
  kX : ∀ g, vX.ownBlock = some g → ¬ c.K g
theorem kp_fr {K S : Nat → Prop} {w w' wk : World} (h : ∀ i, K i → i < w.heap.size ∧ w.heap[i]? = wk.heap[i]?) (hf : Fr S w w') (hS : ∀ i, K i → ¬ S i) : ∀ i, K i → i < w'.heap.size ∧ w'.heap[i]? = wk.heap[i]? := fun i hi =>
  ⟨Nat.lt_of_lt_of_le (h i hi).1 hf.size, (hf.block i (h i hi).1 (hS i hi)).trans (h i hi).2⟩
section
variable {w0 w w' : World} {b : Nat} {A : Option Addr} {c : Cx} {l : List Step} {ps wf wt af : Int} {vO vX : Value} {s : PS}
theorem Pw.below (h : Pw w0 w b A c l ps wf wt af vO vX s) (hb : Below w.heap.size w w') : Pw w0 w' b A c l ps wf wt af vO vX s :=
  ⟨h.st, h.be.trans (hb.mono h.be.size), h.c0.below hb, h.c1.below hb, h.c2.below hb, h.c3.below hb, h.c4.below hb, h.c5.below hb, h.c6.below hb, h.c7.below hb, h.c8.below hb, h.c9.below hb, h.c10.below hb,
    own_fr (S := fun _ => False) h.O (Fr.of_below hb) (fun _ _ h => h), own_fr (S := fun _ => False) h.X (Fr.of_below hb) (fun _ _ h => h), h.lo, h.nO, h.nX, h.nOX, kp_fr (S := fun _ => False) h.kp (Fr.of_below hb) (fun _ _ h => h), h.kb, h.kO, h.kX⟩
theorem Pw.drew (h : Pw w0 w b A c l ps wf wt af vO vX s) (n : Nat) : Pw w0 (w.drewN n) b A c l ps wf wt af vO vX s := h.below (B.below_drew (Below.refl _ _) n)
theorem Pw.lt (h : Pw w0 w b A c l ps wf wt af vO vX s) : b < w.heap.size := h.c0.lt
theorem Pw.nOb (h : Pw w0 w b A c l ps wf wt af vO vX s) : ∀ g, vO.ownBlock = some g → ¬ g = b := fun _ e q => h.nO (q ▸ e)
theorem Pw.nXb (h : Pw w0 w b A c l ps wf wt af vO vX s) : ∀ g, vX.ownBlock = some g → ¬ g = b := fun _ e q => h.nX (q ▸ e)
theorem Pw.set8 (h : Pw w0 w b A c l ps wf wt af vO vX s) (i : Nat) : Pw w0 (w.setCell ⟨b, 8, none⟩ (.int .i64 i)) b A c l ps wf wt af vO vX { s with i := i } :=
  ⟨h.st, h.be.setCell h.lo _, h.c0.set_ne (by simp) _, h.c1.set_ne (by simp) _, h.c2.set_ne (by simp) _, h.c3.set_ne (by simp) _, h.c4.set_ne (by simp) _, h.c5.set_ne (by simp) _, h.c6.set_ne (by simp) _, h.c7.set_ne (by simp) _, h.c8.set _, h.c9.set_ne (by simp) _, h.c10.set_ne (by simp) _,
    own_fr h.O (fr_set w ⟨b, 8, none⟩ _) h.nOb, own_fr h.X (fr_set w ⟨b, 8, none⟩ _) h.nXb, h.lo, h.nO, h.nX, h.nOX, kp_fr h.kp (fr_set w ⟨b, 8, none⟩ _) (fun i hi (e : i = b) => h.kb (e ▸ hi)), h.kb, h.kO, h.kX⟩
theorem Pw.set9 (h : Pw w0 w b A c l ps wf wt af vO vX s) (i : Int) : Pw w0 (w.setCell ⟨b, 9, none⟩ (.int .i64 i)) b A c l ps wf wt af vO vX { s with rest := i } :=
  ⟨h.st, h.be.setCell h.lo _, h.c0.set_ne (by simp) _, h.c1.set_ne (by simp) _, h.c2.set_ne (by simp) _, h.c3.set_ne (by simp) _, h.c4.set_ne (by simp) _, h.c5.set_ne (by simp) _, h.c6.set_ne (by simp) _, h.c7.set_ne (by simp) _, h.c8.set_ne (by simp) _, h.c9.set _, h.c10.set_ne (by simp) _,
    own_fr h.O (fr_set w ⟨b, 9, none⟩ _) h.nOb, own_fr h.X (fr_set w ⟨b, 9, none⟩ _) h.nXb, h.lo, h.nO, h.nX, h.nOX, kp_fr h.kp (fr_set w ⟨b, 9, none⟩ _) (fun i hi (e : i = b) => h.kb (e ▸ hi)), h.kb, h.kO, h.kX⟩
theorem Pw.set10 (h : Pw w0 w b A c l ps wf wt af vO vX s) (t : Bool) : Pw w0 (w.setCell ⟨b, 10, none⟩ (.bool t)) b A c l ps wf wt af vO vX { s with half := t } :=
  ⟨h.st, h.be.setCell h.lo _, h.c0.set_ne (by simp) _, h.c1.set_ne (by simp) _, h.c2.set_ne (by simp) _, h.c3.set_ne (by simp) _, h.c4.set_ne (by simp) _, h.c5.set_ne (by simp) _, h.c6.set_ne (by simp) _, h.c7.set_ne (by simp) _, h.c8.set_ne (by simp) _, h.c9.set_ne (by simp) _, h.c10.set _,
    own_fr h.O (fr_set w ⟨b, 10, none⟩ _) h.nOb, own_fr h.X (fr_set w ⟨b, 10, none⟩ _) h.nXb, h.lo, h.nO, h.nX, h.nOX, kp_fr h.kp (fr_set w ⟨b, 10, none⟩ _) (fun i hi (e : i = b) => h.kb (e ▸ hi)), h.kb, h.kO, h.kX⟩
/-- A play more of the loop. -/
theorem Pw.appO (h : Pw w0 w b A c l ps wf wt af vO vX s) {v1 : Value} {p : Pl} (hO : B.Own w' w0.heap.size 77 4 plE v1 (s.own ++ [p])) (ha : v1.ownBlock = vO.ownBlock ∨ ∀ g, v1.ownBlock = some g → w.heap.size ≤ g) (hf : Fr (fun j => vO.ownBlock = some j) w w') (hB : Below w0.heap.size w0 w') :
    Pw w0 (w'.setCell ⟨b, 6, none⟩ v1) b A c l ps wf wt af v1 vX { s with own := s.own ++ [p] } := by
  have nb := h.nO
  have n1 : v1.ownBlock ≠ some b := fun e => by
    rcases ha with ha | ha
    · exact h.nO (ha ▸ e)
    · have := ha b e; have := h.lt; omega
  have hs := fr_set w' ⟨b, 6, none⟩ v1
  have hX : B.Own w' w0.heap.size 77 4 plE vX s.oth := own_fr h.X hf (fun g e q => h.nOX g q e)
  exact ⟨h.st, hB.setCell h.lo _, (h.c0.fr hf nb).set_ne (by simp) _, (h.c1.fr hf nb).set_ne (by simp) _, (h.c2.fr hf nb).set_ne (by simp) _, (h.c3.fr hf nb).set_ne (by simp) _, (h.c4.fr hf nb).set_ne (by simp) _, (h.c5.fr hf nb).set_ne (by simp) _, (h.c6.fr hf nb).set _, (h.c7.fr hf nb).set_ne (by simp) _, (h.c8.fr hf nb).set_ne (by simp) _, (h.c9.fr hf nb).set_ne (by simp) _, (h.c10.fr hf nb).set_ne (by simp) _,
    own_fr hO hs (fun g e (q : g = b) => n1 (q ▸ e)), own_fr hX hs h.nXb, h.lo, n1, h.nX, fun g e q => by
      rcases ha with ha | ha
      · exact h.nOX g (ha ▸ e) q
      · have := ha g e
        have := (World.ownsRow.lt (h.X : w.ownsRow _ _ _ _ _ _) g q).2
        omega,
    kp_fr (kp_fr h.kp hf (fun i hi e => h.kO i e hi)) hs (fun i hi (e : i = b) => h.kb (e ▸ hi)), h.kb, fun g e hk => by
      rcases ha with ha | ha
      · exact h.kO g (ha ▸ e) hk
      · have := ha g e
        have := (h.kp g hk).1
        omega, h.kX⟩
/-- A play more of a break. -/
theorem Pw.appX (h : Pw w0 w b A c l ps wf wt af vO vX s) {v1 : Value} {p : Pl} (hO : B.Own w' w0.heap.size 77 4 plE v1 (s.oth ++ [p])) (ha : v1.ownBlock = vX.ownBlock ∨ ∀ g, v1.ownBlock = some g → w.heap.size ≤ g) (hf : Fr (fun j => vX.ownBlock = some j) w w') (hB : Below w0.heap.size w0 w') :
    Pw w0 (w'.setCell ⟨b, 7, none⟩ v1) b A c l ps wf wt af vO v1 { s with oth := s.oth ++ [p] } := by
  have nb := h.nX
  have n1 : v1.ownBlock ≠ some b := fun e => by
    rcases ha with ha | ha
    · exact h.nX (ha ▸ e)
    · have := ha b e; have := h.lt; omega
  have hs := fr_set w' ⟨b, 7, none⟩ v1
  have hX : B.Own w' w0.heap.size 77 4 plE vO s.own := own_fr h.O hf (fun g e q => h.nOX g e q)
  exact ⟨h.st, hB.setCell h.lo _, (h.c0.fr hf nb).set_ne (by simp) _, (h.c1.fr hf nb).set_ne (by simp) _, (h.c2.fr hf nb).set_ne (by simp) _, (h.c3.fr hf nb).set_ne (by simp) _, (h.c4.fr hf nb).set_ne (by simp) _, (h.c5.fr hf nb).set_ne (by simp) _, (h.c6.fr hf nb).set_ne (by simp) _, (h.c7.fr hf nb).set _, (h.c8.fr hf nb).set_ne (by simp) _, (h.c9.fr hf nb).set_ne (by simp) _, (h.c10.fr hf nb).set_ne (by simp) _,
    own_fr hX hs h.nOb, own_fr hO hs (fun g e (q : g = b) => n1 (q ▸ e)), h.lo, h.nO, n1, fun g e q => by
      rcases ha with ha | ha
      · exact h.nOX g e (ha ▸ q)
      · have := ha g q
        have := (World.ownsRow.lt (h.O : w.ownsRow _ _ _ _ _ _) g e).2
        omega,
    kp_fr (kp_fr h.kp hf (fun i hi e => h.kX i e hi)) hs (fun i hi (e : i = b) => h.kb (e ▸ hi)), h.kb, h.kO, fun g e hk => by
      rcases ha with ha | ha
      · exact h.kX g (ha ▸ e) hk
      · have := ha g e
        have := (h.kp g hk).1
        omega⟩
/-- Another block is to stay as it is; or none. -/
theorem Pw.keep (h : Pw w0 w b A c l ps wf wt af vO vX s) (g : Nat) (hg : g < w.heap.size) (hb : g ≠ b) (hO : vO.ownBlock ≠ some g) (hX : vX.ownBlock ≠ some g) : Pw w0 w b A ⟨c.c, fun i => i = g, w⟩ l ps wf wt af vO vX s :=
  ⟨h.st, h.be, h.c0, h.c1, h.c2, h.c3, h.c4, h.c5, h.c6, h.c7, h.c8, h.c9, h.c10, h.O, h.X, h.lo, h.nO, h.nX, h.nOX, fun i (e : i = g) => ⟨by rw [e]; exact hg, rfl⟩, fun (e : b = g) => hb e.symm, fun i e (q : i = g) => hO (q ▸ e), fun i e (q : i = g) => hX (q ▸ e)⟩
theorem Pw.forget (h : Pw w0 w b A c l ps wf wt af vO vX s) : Pw w0 w b A ⟨c.c, fun _ => False, w0⟩ l ps wf wt af vO vX s :=
  ⟨h.st, h.be, h.c0, h.c1, h.c2, h.c3, h.c4, h.c5, h.c6, h.c7, h.c8, h.c9, h.c10, h.O, h.X, h.lo, h.nO, h.nX, h.nOX, fun _ e => e.elim, fun e => e, fun _ _ e => e, fun _ _ e => e⟩
/-- Behind an append to the loop's plays. -/
theorem Pw.growO (h : Pw w0 w b A c l ps wf wt af vO vX s) {o : Obj} {v1 : Value} {p : Pl} (hO : B.Own w' w0.heap.size 77 4 plE v1 (s.own ++ [p])) (ha : v1.ownBlock = vO.ownBlock ∨ ∀ g, v1.ownBlock = some g → w.heap.size ≤ g) (hg : (w.alloc o).grownBy w' vO.ownBlock) :
    Cl w' b 6 vO ∧ Cl w' b 8 (.int .i64 s.i) ∧ (w'.setCell ⟨b, 6, none⟩ v1).cell? ⟨b, 8, none⟩ = some (.int .i64 s.i) ∧ Pw w0 (w'.setCell ⟨b, 6, none⟩ v1) b A c l ps wf wt af v1 vX { s with own := s.own ++ [p] } := by
  have hf : Fr (fun j => vO.ownBlock = some j) w w' := ((Fr.refl _ w).alloc o).grown hg (fun g e _ => e)
  have hP := h.appO hO ha hf (h.be.trans (hf.below h.be.size (fun k hk => ((h.O : w.ownsRow _ _ _ _ _ _).lt k hk).1)))
  exact ⟨h.c6.fr hf h.nO, h.c8.fr hf h.nO, hP.c8.1, hP⟩
/-- Behind an append to the breaks' plays. -/
theorem Pw.growX (h : Pw w0 w b A c l ps wf wt af vO vX s) {o : Obj} {v1 : Value} {p : Pl} (hO : B.Own w' w0.heap.size 77 4 plE v1 (s.oth ++ [p])) (ha : v1.ownBlock = vX.ownBlock ∨ ∀ g, v1.ownBlock = some g → w.heap.size ≤ g) (hg : (w.alloc o).grownBy w' vX.ownBlock) :
    Cl w' b 7 vX ∧ Fr (fun j => vX.ownBlock = some j) w w' ∧ Pw w0 (w'.setCell ⟨b, 7, none⟩ v1) b A c l ps wf wt af vO v1 { s with oth := s.oth ++ [p] } := by
  have hf : Fr (fun j => vX.ownBlock = some j) w w' := ((Fr.refl _ w).alloc o).grown hg (fun g e _ => e)
  have hP := h.appX hO ha hf (h.be.trans (hf.below h.be.size (fun k hk => ((h.X : w.ownsRow _ _ _ _ _ _).lt k hk).1)))
  exact ⟨h.c7.fr hf h.nX, hf, hP⟩
end
/-- Through a piece of the walk by what holds behind it. -/
theorem wp_mid {P : Program} {c : Code} {Q : Exit → Act → World → Prop} {a : Act} {w : World} {R : Option Addr → Nat → Nat → World → Prop} {V : Option Addr → Nat → World → World} {F : Option Addr → Nat → Nat → Act}
    (walk : c.wp P (fun e a' w' => e = .normal ∧ ∃ x y n z, R x y n z ∧ a' = F x y n ∧ w' = V x y z) a w) (cont : ∀ x y n z, R x y n z → Q .normal (F x y n) (V x y z)) : c.wp P Q a w :=
  Code.wp_mono (by rintro e a' w' ⟨rfl, x, y, n, z, h, rfl, rfl⟩; exact cont x y n z h) walk
end Go.Proofs.YtfillnkebohciaaGreatDoor.Rn
namespace Go.Proofs.YtfillnkebohciaaGreatDoor.Rn
open Go.RowKit
open F (Fr Cl)
open T (Step stK steps_at)
open Come (tot Ok)

theorem fld0 (s : ByteArray) (n : Int) (w : World) : (Instr.field 48 (.agg #[.string s, .int .i64 n]) 0).run Tryz.prog w = .ok (.string s) w := by kernel_rfl
theorem fld1 (s : ByteArray) (n : Int) (w : World) : (Instr.field 48 (.agg #[.string s, .int .i64 n]) 1).run Tryz.prog w = .ok (.int .i64 n) w := by kernel_rfl
set_option maxHeartbeats 2000000 in
set_option maxRecDepth 100000 in
theorem full {w0 w : World} {b : Nat} {A : Option Addr} {c : Cx} {l : List Step} {ps wf wt af : Int} {vO vX : Value} {s : PS} (h : Pw w0 w b A c l ps wf wt af vO vX s) (hc : s.cnt ≤ 10000) (fb : Bool) (hb : decide (3000 < s.cnt) = fb) :
    Calls Tryz.prog 87 #[.pointer (some ⟨b, 0, none⟩)] w fun e w' => e = .returned (.bool fb) ∧ ∃ k, w' = w.drewN k := by
  obtain ⟨AO, cO, e6⟩ := Copy.shape h.O
  obtain ⟨AX, cX, e7⟩ := Copy.shape h.X
  have f6 := h.c6.1
  have f7 := h.c7.1
  rw [e6] at f6
  rw [e7] at f7
  unfold PS.cnt at hb hc
  generalize s.own.length = n1 at *
  generalize s.oth.length = n2 at *
  have hx : decide ((3000 : Int) < (n1 : Int) + (n2 : Int)) = fb := by rw [← hb]; exact decide_eq_decide.2 (by omega)
  have hw : IntKind.i64.wrap ((n1 : Int) + (n2 : Int)) = (n1 : Int) + (n2 : Int) := by rw [IntKind.wrap_i64]; omega
  clear hb h e6 e7
  go_enter Tryz.func87, Tryz.ntmps87
  go_wp2
  go_quiet (fail)
  go_wp2
  go_ret
  exact ⟨rfl, _, rfl⟩
set_option maxHeartbeats 2000000 in
set_option maxRecDepth 100000 in
theorem step {w0 w : World} {b : Nat} {A : Option Addr} {c : Cx} {l : List Step} {ps wf wt af : Int} {vO vX : Value} {s : PS} (h : Pw w0 w b A c l ps wf wt af vO vX s) (k : Nat) (hk : k < l.length) :
    Calls Tryz.prog 146 #[.pointer (some ⟨b, 0, none⟩), .int .i64 k] w fun e w' => e = .returned (.agg #[.string l[k].1, .int .i64 l[k].2]) ∧ Below w.heap.size w w' := by
  have HA := Lib.hid ((Below.refl _ w).alloc (Nat.le_refl _) (.cells #[.string ⟨#[]⟩, .int .i64 0] 48))
  have HRW : Hid ((w.alloc (.cells #[.string ⟨#[]⟩, .int .i64 0] 48)).drew.heap[w.heap.size]? = some (.cells #[.string ⟨#[]⟩, .int .i64 0] 48 (0, 0))) := Lib.hid (heap_alloc_new w _)
  have P1 := h.below HA.out
  have f1 := P1.c1.1
  obtain ⟨b1, o1, rfl, g0, g1⟩ := steps_at (h.st.mono (h.be.trans (HA.out.mono h.be.size))) k hk
  have L1 := h.st.1
  generalize l[k].1 = x1 at *
  generalize l[k].2 = x2 at *
  have hk1 : (k : Int) < l.length := by omega
  have hm1 : (k : Int).tmod (l.length : Int) = (k : Int) := by rw [Int.tmod_eq_emod_of_nonneg (by omega)]; exact Int.emod_eq_of_lt (by omega) hk1
  have hm2 : (k : Int) % (l.length : Int) = (k : Int) := Int.emod_eq_of_lt (by omega) hk1
  have hnz : ¬ (l = []) := fun e => by rw [e] at hk; simp at hk
  have hnz2 : ¬ ((l.length : Int) = 0) := by omega
  clear h P1
  have HC0 : Hid ((w.alloc (.cells #[.string ⟨#[]⟩, .int .i64 0] 48)).drew.cell? ⟨w.heap.size, 0, none⟩ = some (.string ⟨#[]⟩)) := Lib.hid ((World.cell?_alloc_new w _ _ 0).trans rfl)
  have HC1 : Hid ((w.alloc (.cells #[.string ⟨#[]⟩, .int .i64 0] 48)).drew.cell? ⟨w.heap.size, 1, none⟩ = some (.int .i64 0)) := Lib.hid ((World.cell?_alloc_new w _ _ 1).trans rfl)
  have HFZ : Hid (∀ i, (w.alloc (.cells #[.string ⟨#[]⟩, .int .i64 0] 48)).drew.frozen? ⟨w.heap.size, i, none⟩ = false) := Lib.hid (fun i => Copy.frozen_new (Below.refl _ _) i)
  have HB1 : Hid (Below w.heap.size w (w.alloc (.cells #[.string ⟨#[]⟩, .int .i64 0] 48)).drew) := Lib.hid (B.below_drew HA.out 1)
  go_enter Tryz.func146, Tryz.ntmps146
  go_wp2
  generalize (w.alloc (.cells #[.string ⟨#[]⟩, .int .i64 0] 48)) = W0 at *
  go_still_tail 15, (by kernel_rfl)
  change wpList _ _ _ _ _ W0.drew
  clear f1 g0 g1
  generalize W0.drew = W1 at *
  have c0 := HC0.out
  have c1 := HC1.out
  have fz := HFZ.out
  go_wp2
  refine bodyPost_ret (Low.results_cell_row rfl _ _ w.heap.size 48 #[.string x1, .int .i64 x2] (0, 0) _ rfl (Low.set2l HRW.out) Tryz.underlying48 rfl (by kernel_rfl)) rfl ?_
  exact ⟨rfl, (HB1.out.setCell (Nat.le_refl _) _).setCell (Nat.le_refl _) _⟩
set_option maxHeartbeats 2000000 in
set_option maxRecDepth 100000 in
theorem goOn_f {w0 w : World} {b : Nat} {A : Option Addr} {c : Cx} {l : List Step} {ps wf wt af : Int} {vO vX : Value} {i : Nat} {rest : Int} {own oth : List Pl} (h : Pw w0 w b A c l ps wf wt af vO vX ⟨i, rest, false, own, oth⟩) (hok : Ok l) (hl : l.length ≤ 5000) (hi : i < l.length) (a : Int) (ha : 0 ≤ wf ∧ wf ≤ a ∧ a ≤ 345686400000) (h4 : (af == 4) = false) :
    Calls Tryz.prog 145 #[.pointer (some ⟨b, 0, none⟩), .int .i64 a] w fun e w' => e = .returned (.tuple #[]) ∧ Pw w0 w' b A c l ps wf wt af vO vX (gOn l wf af a ⟨i, rest, false, own, oth⟩) := by
  have hn : l ≠ [] := fun e => by rw [e] at hi; simp at hi
  have HP := Lib.hid h
  have LQ := Lib.hid hl
  have HG : Hid (gOn l wf af a ⟨i, rest, false, own, oth⟩ = ⟨i, l[i].2, false, own, oth⟩) := Lib.hid (by
    have e : lg l i = l[i].2 := by unfold lg; rw [List.getD_eq_getElem?_getD, List.getElem?_eq_getElem hi]; rfl
    rw [← e]
    unfold gOn; rw [if_neg (by simpa using h4), if_neg (by simp), if_pos (.inl rfl)])
  have cs := step h i hi
  clear hok hn hl ha
  have f5 := h.c5.1
  have f10 := h.c10.1
  have f8 := h.c8.1
  clear h
  generalize l[i].1 = x1 at *
  generalize l[i].2 = x2 at *
  have hfd := fld1
  go_enter Tryz.func145, Tryz.ntmps145
  go_wp2_with (go_at_call 146; refine (cs).mono ?_; rintro e w1 ⟨rfl, hB1⟩; have HP1 := Lib.hid (HP.out.below hB1); have y9 := HP1.out.c9.1; have z9 := HP1.out.c9.2; have y10 := HP1.out.c10.1; have z10 := HP1.out.c10.2; clear hB1)
  go_end0
  exact ⟨rfl, by rw [HG.out]; exact (HP1.out.set9 x2).set10 false⟩
set_option maxHeartbeats 2000000 in
set_option maxRecDepth 100000 in
theorem goOn_2 {w0 w : World} {b : Nat} {A : Option Addr} {c : Cx} {l : List Step} {ps wf wt : Int} {vO vX : Value} {i : Nat} {rest : Int} {own oth : List Pl} (h : Pw w0 w b A c l ps wf wt 2 vO vX ⟨i, rest, true, own, oth⟩) (hok : Ok l) (hl : l.length ≤ 5000) (hi : i < l.length) (a : Int) (ha : 0 ≤ wf ∧ wf ≤ a ∧ a ≤ 345686400000) :
    Calls Tryz.prog 145 #[.pointer (some ⟨b, 0, none⟩), .int .i64 a] w fun e w' => e = .returned (.tuple #[]) ∧ Pw w0 w' b A c l ps wf wt 2 vO vX (gOn l wf 2 a ⟨i, rest, true, own, oth⟩) := by
  have hn : l ≠ [] := fun e => by rw [e] at hi; simp at hi
  have HP := Lib.hid h
  have LQ := Lib.hid hl
  have HG : Hid (gOn l wf 2 a ⟨i, rest, true, own, oth⟩ = ⟨i, l[i].2, false, own, oth⟩) := Lib.hid (by
    have e : lg l i = l[i].2 := by unfold lg; rw [List.getD_eq_getElem?_getD, List.getElem?_eq_getElem hi]; rfl
    rw [← e]
    unfold gOn; rw [if_neg (by decide), if_neg (by simp), if_pos (.inr rfl)])
  have cs := step h i hi
  clear hok hn hl ha
  have f5 := h.c5.1
  have f10 := h.c10.1
  have f8 := h.c8.1
  clear h
  generalize l[i].1 = x1 at *
  generalize l[i].2 = x2 at *
  have hfd := fld1
  go_enter Tryz.func145, Tryz.ntmps145
  go_wp2_with (go_at_call 146; refine (cs).mono ?_; rintro e w1 ⟨rfl, hB1⟩; have HP1 := Lib.hid (HP.out.below hB1); have y9 := HP1.out.c9.1; have z9 := HP1.out.c9.2; have y10 := HP1.out.c10.1; have z10 := HP1.out.c10.2; clear hB1)
  go_end0
  exact ⟨rfl, by rw [HG.out]; exact (HP1.out.set9 x2).set10 false⟩
set_option maxHeartbeats 2000000 in
set_option maxRecDepth 100000 in
theorem goOn_1 {w0 w : World} {b : Nat} {A : Option Addr} {c : Cx} {l : List Step} {ps wf wt : Int} {vO vX : Value} {i : Nat} {rest : Int} {own oth : List Pl} (h : Pw w0 w b A c l ps wf wt 1 vO vX ⟨i, rest, true, own, oth⟩) (hok : Ok l) (hl : l.length ≤ 5000) (hi : i < l.length) (a : Int) (ha : 0 ≤ wf ∧ wf ≤ a ∧ a ≤ 345686400000) :
    Calls Tryz.prog 145 #[.pointer (some ⟨b, 0, none⟩), .int .i64 a] w fun e w' => e = .returned (.tuple #[]) ∧ Pw w0 w' b A c l ps wf wt 1 vO vX (gOn l wf 1 a ⟨i, rest, true, own, oth⟩) := by
  have hn : l ≠ [] := fun e => by rw [e] at hi; simp at hi
  have HP := Lib.hid h
  have LQ := Lib.hid hl
  have HG : Hid (gOn l wf 1 a ⟨i, rest, true, own, oth⟩ = ⟨i, rest, false, own, oth⟩) := Lib.hid (by unfold gOn; rw [if_neg (by decide), if_neg (by simp), if_neg (by simp)])
  have z10 := h.c10.2
  clear hok hn hl ha
  have f5 := h.c5.1
  have f10 := h.c10.1
  have f8 := h.c8.1
  clear h
  have hfd := fld1
  go_enter Tryz.func145, Tryz.ntmps145
  go_wp2
  go_end0
  exact ⟨rfl, by rw [HG.out]; exact HP.out.set10 false⟩
set_option maxHeartbeats 2000000 in
set_option maxRecDepth 100000 in
theorem goOn_3 {w0 w : World} {b : Nat} {A : Option Addr} {c : Cx} {l : List Step} {ps wf wt : Int} {vO vX : Value} {i : Nat} {rest : Int} {own oth : List Pl} (h : Pw w0 w b A c l ps wf wt 3 vO vX ⟨i, rest, true, own, oth⟩) (hok : Ok l) (hl : l.length ≤ 5000) (hi : i < l.length) (a : Int) (ha : 0 ≤ wf ∧ wf ≤ a ∧ a ≤ 345686400000) :
    Calls Tryz.prog 145 #[.pointer (some ⟨b, 0, none⟩), .int .i64 a] w fun e w' => e = .returned (.tuple #[]) ∧ Pw w0 w' b A c l ps wf wt 3 vO vX (gOn l wf 3 a ⟨i, rest, true, own, oth⟩) := by
  have hn : l ≠ [] := fun e => by rw [e] at hi; simp at hi
  have HP := Lib.hid h
  have LQ := Lib.hid hl
  obtain ⟨j, hj, hj2⟩ : ∃ j, nx l i = j ∧ j < l.length := ⟨_, rfl, nx_lt hn i⟩
  have HG : Hid (gOn l wf 3 a ⟨i, rest, true, own, oth⟩ = ⟨j, l[j].2, false, own, oth⟩) := Lib.hid (by
    have e : lg l j = l[j].2 := by unfold lg; rw [List.getD_eq_getElem?_getD, List.getElem?_eq_getElem hj2]; rfl
    rw [← e, ← hj]
    unfold gOn; rw [if_neg (by decide), if_pos ⟨rfl, rfl⟩])
  have HS := Lib.hid (fun W (hb : Below w.heap.size w W) => (h.below hb).set8 j)
  have HST := Lib.hid (fun W (hb : Below w.heap.size w W) => step ((h.below hb).set8 j) j hj2)
  have f1 := h.c1.1
  have z8 := h.c8.2
  have hi1 : (i : Int) + 1 ≤ 5000 := by omega
  have hw : IntKind.i64.wrap ((i : Int) + 1) = (i : Int) + 1 := by rw [IntKind.wrap_i64]; omega
  have hjj : (((i : Int) + 1) % (l.length : Int)) = (j : Int) := by rw [← hj]; unfold nx; push_cast; rfl
  have hm1 : ((i : Int) + 1).tmod (l.length : Int) = (j : Int) := by rw [Int.tmod_eq_emod_of_nonneg (by omega)]; exact hjj
  have hnz2 : ¬ ((l.length : Int) = 0) := by omega
  have hnz : ¬ (l = []) := hn
  clear hj hok hn hl ha
  have f5 := h.c5.1
  have f10 := h.c10.1
  have f8 := h.c8.1
  clear h
  generalize l[j].1 = x1 at *
  generalize l[j].2 = x2 at *
  have hfd := fld1
  go_enter Tryz.func145, Tryz.ntmps145
  go_upto_region 4 with (fail)
  go_still_tail 15, (by kernel_rfl)
  have HB1 : Hid (Below w.heap.size w w.drew) := Lib.hid (B.below_drew (Below.refl _ _) 1)
  have f8' : w.drew.cell? ⟨b, 8, none⟩ = some (.int .i64 i) := f8
  have z8' : w.drew.frozen? ⟨b, 8, none⟩ = false := z8
  change wpList _ _ _ _ _ w.drew
  clear f1 f5 f8 f10 z8
  generalize w.drew = W1 at *
  go_upto_region 5 with (fail)
  clear f8' z8'
  have HP2 := Lib.hid (HS.out _ HB1.out)
  have cs := HST.out _ HB1.out
  have g8 := HP2.out.c8.1
  clear HS HST
  generalize W1.setCell ⟨b, 8, none⟩ (.int .i64 j) = W2 at *
  go_wp2_with (go_at_call 146; refine (cs).mono ?_; rintro e w1 ⟨rfl, hB1⟩; have HP1 := Lib.hid (HP2.out.below hB1); have y9 := HP1.out.c9.1; have z9 := HP1.out.c9.2; have y10 := HP1.out.c10.1; have z10 := HP1.out.c10.2; clear hB1)
  go_end0
  exact ⟨rfl, by rw [HG.out]; exact (HP1.out.set9 x2).set10 false⟩
set_option maxHeartbeats 2000000 in
set_option maxRecDepth 100000 in
theorem goOn_4 {w0 w : World} {b : Nat} {A : Option Addr} {c : Cx} {l : List Step} {ps wf wt : Int} {vO vX : Value} {i : Nat} {rest : Int} {half : Bool} {own oth : List Pl} (h : Pw w0 w b A c l ps wf wt 4 vO vX ⟨i, rest, half, own, oth⟩) (hok : Ok l) (hl : l.length ≤ 5000) (hi : i < l.length) (a : Int) (ha : 0 ≤ wf ∧ wf ≤ a ∧ a ≤ 345686400000) :
    Calls Tryz.prog 145 #[.pointer (some ⟨b, 0, none⟩), .int .i64 a] w fun e w' => e = .returned (.tuple #[]) ∧ Pw w0 w' b A c l ps wf wt 4 vO vX (gOn l wf 4 a ⟨i, rest, half, own, oth⟩) := by
  have hn : l ≠ [] := fun e => by rw [e] at hi; simp at hi
  have HP := Lib.hid h
  have LQ := Lib.hid hl
  obtain ⟨k, r, hkr⟩ : ∃ k r, Come.atP l ((a - wf) % tot l) 0 = (k, r) := ⟨_, _, rfl⟩
  have hp := Come.tot_pos hok hn
  have hin := at_in hok (r := (a - wf) % tot l) (Int.emod_nonneg _ (by omega)) (Int.emod_lt_of_pos _ (by omega))
  rw [hkr] at hin
  obtain ⟨hk2, hr0, hr1⟩ := hin
  simp only [] at hk2 hr0 hr1
  have e : lg l k = l[k].2 := by unfold lg; rw [List.getD_eq_getElem?_getD, List.getElem?_eq_getElem hk2]; rfl
  have hx2 := (lg_in hok hk2).2
  rw [e] at hr1 hx2
  have HG : Hid (gOn l wf 4 a ⟨i, rest, half, own, oth⟩ = ⟨k, l[k].2 - r, false, own, oth⟩) := Lib.hid (by
    rw [← e]
    unfold gOn; rw [if_pos rfl, hkr])
  have CA := Lib.hid (fun W (hb : Below w.heap.size w W) => Come.at_any ps A c.c l (a - wf) W (h.st.mono (h.be.trans (hb.mono h.be.size))) hok hn hl ⟨by omega, by omega⟩)
  rw [hkr] at CA
  have HST := Lib.hid (fun W (hb : Below w.heap.size w W) => steps_at (h.st.mono (h.be.trans (hb.mono h.be.size))) k hk2)
  have L1 := h.st.1
  have ha1 : 0 ≤ a - wf := by omega
  have ha2 : a - wf ≤ 345686400000 := by omega
  have hw : IntKind.i64.wrap (a - wf) = a - wf := by rw [IntKind.wrap_i64]; omega
  have hk1 : (k : Int) < l.length := by omega
  clear hkr e hp hok hn hl ha
  have f5 := h.c5.1
  have f10 := h.c10.1
  have f8 := h.c8.1
  clear h
  generalize l[k].1 = x1 at *
  generalize l[k].2 = x2 at *
  have hfd := fld1
  go_enter Tryz.func145, Tryz.ntmps145
  go_upto_region 1 with (fail)
  clear f5 f8 f10
  have HBW : Hid (Below w.heap.size w w.drew) := Lib.hid (B.below_drew (Below.refl _ _) 1)
  refine wp_region_held_drew (S := fun w' => Below w.heap.size w w') (by kernel_rfl) (HBW.out) (fun hHeld => ?_)
  refine wpAnyH_take (i := 0) (v := ?_) At.at0 (by kernel_rfl) (by kernel_rfl) (by kernel_rfl) (fun _ _ _ h => h) (Or.inl ⟨by rfl, ?_⟩) (by assumption) ?_
  rotate_left
  · (intro w9 hSw; (try dsimp only at hSw); go_simp; try (with_reducible rfl))
  try simp only [Act.put, List.setIfInBounds_toArray, List.set_cons_zero, List.set_cons_succ]
  refine wpAnyH_take (i := 1) (v := ?_) At.at1 (by kernel_rfl) (by kernel_rfl) (by kernel_rfl) (fun _ _ _ h => h) (Or.inl ⟨by rfl, ?_⟩) (by assumption) ?_
  rotate_left
  · (intro w9 hSw; (try dsimp only at hSw); go_simp; try (with_reducible rfl))
  try simp only [Act.put, List.setIfInBounds_toArray, List.set_cons_zero, List.set_cons_succ]
  refine wpAnyH_take (i := 2) (v := ?_) At.at2 (by kernel_rfl) (by kernel_rfl) (by kernel_rfl) (fun _ _ _ h => h) (Or.inl ⟨by rfl, ?_⟩) (by assumption) ?_
  rotate_left
  · (intro w9 hSw; (try dsimp only at hSw); go_simp; try (with_reducible rfl))
  try simp only [Act.put, List.setIfInBounds_toArray, List.set_cons_zero, List.set_cons_succ]
  refine wpAnyH_take (i := 3) (v := ?_) At.at3 (by kernel_rfl) (by kernel_rfl) (by kernel_rfl) (fun _ _ _ h => h) (Or.inl ⟨by rfl, ?_⟩) (by assumption) ?_
  rotate_left
  · (intro w9 hSw; (try dsimp only at hSw); have hc0 := (HP.out.below hSw).c0.1; have hc1 := (HP.out.below hSw).c1.1; have hc2 := (HP.out.below hSw).c2.1; go_simp; try (with_reducible rfl))
  try simp only [Act.put, List.setIfInBounds_toArray, List.set_cons_zero, List.set_cons_succ]
  refine wpAnyH_take (i := 4) (v := ?_) At.at4 (by kernel_rfl) (by kernel_rfl) (by kernel_rfl) (fun _ _ _ h => h) (Or.inl ⟨by rfl, ?_⟩) (by assumption) ?_
  rotate_left
  · (intro w9 hSw; (try dsimp only at hSw); go_simp; try (with_reducible rfl))
  try simp only [Act.put, List.setIfInBounds_toArray, List.set_cons_zero, List.set_cons_succ]
  refine wpAnyH_take (i := 5) (v := ?_) At.at5 (by kernel_rfl) (by kernel_rfl) (by kernel_rfl) (fun _ _ _ h => h) (Or.inl ⟨by rfl, ?_⟩) (by assumption) ?_
  rotate_left
  · (intro w9 hSw; (try dsimp only at hSw); go_simp; try (with_reducible rfl))
  try simp only [Act.put, List.setIfInBounds_toArray, List.set_cons_zero, List.set_cons_succ]
  refine wpAnyH_take (i := 6) (v := ?_) At.at6 (by kernel_rfl) (by kernel_rfl) (by kernel_rfl) (fun _ _ _ h => h) (Or.inl ⟨by rfl, ?_⟩) (by assumption) ?_
  rotate_left
  · (intro w9 hSw; (try dsimp only at hSw); go_simp; try (with_reducible rfl))
  try simp only [Act.put, List.setIfInBounds_toArray, List.set_cons_zero, List.set_cons_succ]
  refine wpAnyH_take (i := 7) (v := ?_) At.at7 (by kernel_rfl) (by kernel_rfl) (by kernel_rfl) (fun _ _ _ h => h) (Or.inl ⟨by rfl, ?_⟩) (by assumption) ?_
  rotate_left
  · (intro w9 hSw; (try dsimp only at hSw); go_simp; try (with_reducible rfl))
  try simp only [Act.put, List.setIfInBounds_toArray, List.set_cons_zero, List.set_cons_succ]
  refine wpAnyH_take (i := 8) (v := ?_) At.at8 (by kernel_rfl) (by kernel_rfl) (by kernel_rfl) (fun _ _ _ h => h) (Or.inl ⟨by rfl, ?_⟩) (by assumption) ?_
  rotate_left
  · (intro w9 hSw; (try dsimp only at hSw); go_simp; try (with_reducible rfl))
  try simp only [Act.put, List.setIfInBounds_toArray, List.set_cons_zero, List.set_cons_succ]
  refine wpAnyH_take (i := 9) (v := ?_) At.at9 (by kernel_rfl) (by kernel_rfl) (by kernel_rfl) (fun _ _ _ h => h) (Or.inl ⟨by rfl, ?_⟩) (by assumption) ?_
  rotate_left
  · (intro w9 hSw; (try dsimp only at hSw); have hc3 := (HP.out.below hSw).c3.1; go_simp; try (with_reducible rfl))
  try simp only [Act.put, List.setIfInBounds_toArray, List.set_cons_zero, List.set_cons_succ]
  refine wpAnyH_take (i := 10) (v := ?_) At.at10 (by kernel_rfl) (by kernel_rfl) (by kernel_rfl) (fun _ _ _ h => h) (Or.inl ⟨by rfl, ?_⟩) (by assumption) ?_
  rotate_left
  · (intro w9 hSw; (try dsimp only at hSw); go_simp; try (with_reducible rfl))
  try simp only [Act.put, List.setIfInBounds_toArray, List.set_cons_zero, List.set_cons_succ]
  refine wpAnyH_ready (rs := [11]) (by kernel_rfl) (by simp) ?_
  refine AllReadyH.cons At.at11 (fun K hK => ?_) AllReadyH.nil
  go_simp
  go_at_call 50; refine (CA.out _ HBW.out).mono ?_; rintro e w1 ⟨hR, hB1⟩; unfold Come.AtRes at hR; obtain rfl := hR; have HB2 := Lib.hid (B.below_trans HBW.out hB1); clear hB1
  go_simp
  refine hK.out _ _ (HB2.out) (fun hHeld => ?_)
  clear hK K
  try simp only [Act.put, List.setIfInBounds_toArray, List.set_cons_zero, List.set_cons_succ]
  refine wpAnyH_take (i := 12) (v := ?_) At.at12 (by kernel_rfl) (by kernel_rfl) (by kernel_rfl) (fun _ _ _ h => h) (Or.inl ⟨by rfl, ?_⟩) (by assumption) ?_
  rotate_left
  · (intro w9 hSw; (try dsimp only at hSw); go_simp; try (with_reducible rfl))
  try simp only [Act.put, List.setIfInBounds_toArray, List.set_cons_zero, List.set_cons_succ]
  refine wpAnyH_take (i := 13) (v := ?_) At.at13 (by kernel_rfl) (by kernel_rfl) (by kernel_rfl) (fun _ _ _ h => h) (Or.inl ⟨by rfl, ?_⟩) (by assumption) ?_
  rotate_left
  · (intro w9 hSw; (try dsimp only at hSw); go_simp; try (with_reducible rfl))
  try simp only [Act.put, List.setIfInBounds_toArray, List.set_cons_zero, List.set_cons_succ]
  refine wpAnyH_take (i := 14) (v := ?_) At.at14 (by kernel_rfl) (by kernel_rfl) (by kernel_rfl) (fun _ _ _ h => h) (Or.inl ⟨by rfl, ?_⟩) (by assumption) ?_
  rotate_left
  · (intro w9 hSw; (try dsimp only at hSw); go_simp; try (with_reducible rfl))
  try simp only [Act.put, List.setIfInBounds_toArray, List.set_cons_zero, List.set_cons_succ]
  refine wpAnyH_take (i := 15) (v := ?_) At.at15 (by kernel_rfl) (by kernel_rfl) (by kernel_rfl) (fun _ _ _ h => h) (Or.inl ⟨by rfl, ?_⟩) (by assumption) ?_
  rotate_left
  · (intro w9 hSw; (try dsimp only at hSw); go_simp; try (with_reducible rfl))
  try simp only [Act.put, List.setIfInBounds_toArray, List.set_cons_zero, List.set_cons_succ]
  refine wpAnyH_take (i := 16) (v := ?_) At.at16 (by kernel_rfl) (by kernel_rfl) (by kernel_rfl) (fun _ _ _ h => h) (Or.inl ⟨by rfl, ?_⟩) (by assumption) ?_
  rotate_left
  · (intro w9 hSw; (try dsimp only at hSw); go_simp; try (with_reducible rfl))
  try simp only [Act.put, List.setIfInBounds_toArray, List.set_cons_zero, List.set_cons_succ]
  refine wpAnyH_done (by kernel_rfl) ?_ _
  have HP1 := Lib.hid (HP.out.below HB2.out)
  have g1 := HP1.out.c1.1
  obtain ⟨b1, o1, rfl, s0, s1⟩ := HST.out _ HB2.out
  have y8 := HP1.out.c8.1
  have z8 := HP1.out.c8.2
  have y9 := HP1.out.c9.1
  have z9 := HP1.out.c9.2
  have y10 := HP1.out.c10.1
  have z10 := HP1.out.c10.2
  clear CA HST
  go_wp2
  go_end0
  exact ⟨rfl, by rw [HG.out]; exact ((HP1.out.set8 k).set9 _).set10 false⟩
theorem goOn {w0 w : World} {b : Nat} {A : Option Addr} {c : Cx} {l : List Step} {ps wf wt af : Int} {vO vX : Value} {s : PS} (h : Pw w0 w b A c l ps wf wt af vO vX s) (hok : Ok l) (hl : l.length ≤ 5000) (hi : s.i < l.length) (a : Int) (ha : 0 ≤ wf ∧ wf ≤ a ∧ a ≤ 345686400000) (haf : 1 ≤ af ∧ af ≤ 4) :
    Calls Tryz.prog 145 #[.pointer (some ⟨b, 0, none⟩), .int .i64 a] w fun e w' => e = .returned (.tuple #[]) ∧ Pw w0 w' b A c l ps wf wt af vO vX (gOn l wf af a s) := by
  obtain ⟨i, rest, half, own, oth⟩ := s
  by_cases h4 : af = 4
  · subst h4; exact goOn_4 h hok hl hi a ha
  · cases half with
    | false => exact goOn_f h hok hl hi a ha (by simpa using h4)
    | true =>
      rcases (by omega : af = 1 ∨ af = 2 ∨ af = 3) with rfl | rfl | rfl
      · exact goOn_1 h hok hl hi a ha
      · exact goOn_2 h hok hl hi a ha
      · exact goOn_3 h hok hl hi a ha
end Go.Proofs.YtfillnkebohciaaGreatDoor.Rn
namespace Go.Proofs.YtfillnkebohciaaGreatDoor.Rn
open Go.RowKit
open F (Fr Cl)
open T (Step stK steps_at)
open Come (tot Ok)

theorem gpl_zero (l : List Step) (to : Int) (n : Nat) (f : Int) (s : PS) (h : ¬ (f < to ∧ s.cnt ≤ 3000)) : gpl l to n f s = s := by
  cases n with
  | zero => rfl
  | succ n => rw [gpl, if_neg h]
theorem gpl_next (l : List Step) (to : Int) (n : Nat) (f : Int) (s : PS) (h : f < to ∧ s.cnt ≤ 3000) (hn : (to - f).toNat ≤ n) (d : Int) (hd : min s.rest (to - f) = d) (h1 : 1 ≤ d) : ∃ m, gpl l to n f s = gpl l to m (f + d) (gst l to f s) ∧ (to - (f + d)).toNat ≤ m := by
  cases n with
  | zero => exact absurd hn (by omega)
  | succ n => exact ⟨n, by rw [gpl, if_pos h, hd], by omega⟩
/-- What gap does. -/
def GapRes (w0 : World) (b : Nat) (A : Option Addr) (c : Cx) (l : List Step) (ps wf wt af : Int) (vX : Value) (s : PS) (e : Ending) (w' : World) : Prop := e = .returned (.tuple #[]) ∧ ∃ vO', Pw w0 w' b A c l ps wf wt af vO' vX s
set_option maxHeartbeats 8000000 in
set_option maxRecDepth 100000 in
theorem gap_any {w0 w : World} {b : Nat} {A : Option Addr} {c : Cx} {l : List Step} {ps wf wt af : Int} {vO vX : Value} {s : PS} (h : Pw w0 w b A c l ps wf wt af vO vX s) (hok : Ok l) (hl : l.length ≤ 5000) (hi : s.i < l.length) (hcn : s.cnt ≤ 10000) (f0 to : Int) (ha : 0 ≤ wf ∧ wf ≤ f0 ∧ f0 ≤ 345686400000) (hto : 0 ≤ to ∧ to ≤ 345686400000) (haf : 1 ≤ af ∧ af ≤ 4)
    (hg : f0 < to → G l ((gOn l wf af f0 s).i, (gOn l wf af f0 s).rest)) :
    Calls Tryz.prog 117 #[.pointer (some ⟨b, 0, none⟩), .int .i64 f0, .int .i64 to] w (GapRes w0 b A c l ps wf wt af vX (gap l wf af f0 to s)) := by
  have hn : l ≠ [] := fun e => by rw [e] at hi; simp at hi
  by_cases hft : ¬ f0 < to
  · have HG : Hid (gap l wf af f0 to s = s) := Lib.hid (by unfold gap; rw [if_neg hft])
    have HP := Lib.hid h
    have hft' : to ≤ f0 := by omega
    clear h hg hft
    go_enter Tryz.func117, Tryz.ntmps117
    go_wp2
    refine bodyPost_ret (results_none rfl _ _ _) rfl ?_
    exact ⟨rfl, vO, by rw [HG.out]; exact HP.out⟩
  · have hft : f0 < to := Decidable.not_not.1 hft
    have HC := Lib.hid (goOn h hok hl hi f0 ha haf)
    have HG : Hid (gap l wf af f0 to s = gpl l to (to - f0).toNat f0 (gOn l wf af f0 s)) := Lib.hid (by unfold gap; rw [if_pos hft])
    have HGG := Lib.hid (hg hft)
    have hc2 : (gOn l wf af f0 s).cnt ≤ 10000 := by rw [(gOn_cnt wf af f0 s).1]; exact hcn
    generalize gOn l wf af f0 s = s1 at *
    generalize gap l wf af f0 to s = R at *
    have HL := Lib.hid hl
    have HOK := Lib.hid hok
    have HNE := Lib.hid hn
    have HCN1 := Lib.hid hc2
    obtain ⟨ha0, ha1, ha2⟩ := ha
    clear h hg hok hl hi hcn hn hc2
    go_enter Tryz.func117, Tryz.ntmps117
    go_wp2_with (go_at_call 145; refine HC.out.mono ?_; rintro e w1 ⟨rfl, hP1⟩; have HP1 := Lib.hid hP1; clear hP1)
    go_loopw [1] (fun s1 wr => ∃ (f : Int) (s' : PS) (v : Value) (n : Nat), s1 = .int .i64 f ∧ 0 ≤ f ∧ f ≤ 345686400000 ∧ Hid (G l (s'.i, s'.rest)) ∧ Hid (s'.cnt ≤ 10000) ∧ Hid (Pw w0 wr b A c l ps wf wt af v vX s') ∧ Hid (R = gpl l to n f s') ∧ Hid ((to - f).toNat ≤ n)) (fun s1 _ => (to - intOf s1).toNat)
    case atStart => exact ⟨f0, s1, vO, _, rfl, by omega, by omega, HGG, HCN1, HP1, HG, Lib.hid (Nat.le_refl _)⟩
    case round =>
      obtain ⟨f, s', v, n, rfl, hf0, hf1, HGr, HCr, HPr, HR, HN⟩ := hrel
      clear HG HP1 HGG HCN1 HC
      by_cases hlt : f < to
      · by_cases hcl : ¬ s'.cnt ≤ 3000
        · have HE : Hid (R = s') := Lib.hid (by rw [HR.out]; exact gpl_zero l to n f s' (fun h => hcl h.2))
          have cf := full HPr.out HCr.out true (decide_eq_true (by omega))
          clear hcl
          go_wp2_with (go_at_call 87; refine cf.mono ?_; rintro e w2 ⟨rfl, q, rfl⟩)
          go_end0
          exact ⟨rfl, v, by rw [HE.out]; exact HPr.out.drew q⟩
        · have hcl : s'.cnt ≤ 3000 := Decidable.not_not.1 hcl
          have cf := full HPr.out HCr.out false (decide_eq_false (by omega))
          obtain ⟨i, r, half, own, oth⟩ := s'
          obtain ⟨hi, hr1, hr2⟩ := HGr.out
          simp only [] at hi hr1 hr2
          have hlg := (lg_in HOK.out hi).2
          have HCN : Hid (own.length ≤ 3000) := Lib.hid (by unfold PS.cnt at hcl; simp only [] at hcl; omega)
          obtain ⟨d, hd⟩ : ∃ d, min r (to - f) = d := ⟨_, rfl⟩
          have hd1 : 1 ≤ d := by omega
          have hd2 : d ≤ to - f := by omega
          have hd3 : d ≤ r := by omega
          have hd4 : r ≤ 3600000 := by omega
          have HX := Lib.hid (gpl_next l to n f ⟨i, r, half, own, oth⟩ ⟨hlt, hcl⟩ HN.out d hd hd1)
          have HCC : Hid ((⟨i, r, half, own, oth⟩ : PS).cnt ≤ 3000) := Lib.hid hcl
          obtain ⟨j, hj, hj2⟩ : ∃ j, nx l i = j ∧ j < l.length := ⟨_, rfl, nx_lt HNE.out i⟩
          obtain ⟨x1, hx1⟩ : ∃ x1, itm l i = x1 := ⟨_, rfl⟩
          have hli : l[i].1 = x1 := by rw [← hx1]; unfold itm; rw [List.getD_eq_getElem?_getD, List.getElem?_eq_getElem hi]; rfl
          have hi5 : (i : Int) + 1 ≤ 5000 := by have := HL.out; omega
          have HGN := Lib.hid (G_nx HOK.out HNE.out i)
          rw [hj] at HGN
          have hlj : lg l j = l[j].2 := by unfold lg; rw [List.getD_eq_getElem?_getD, List.getElem?_eq_getElem hj2]; rfl
          rw [hlj] at HGN
          have hw : IntKind.i64.wrap ((i : Int) + 1) = (i : Int) + 1 := by rw [IntKind.wrap_i64]; omega
          have hjj : (((i : Int) + 1) % (l.length : Int)) = (j : Int) := by rw [← hj]; unfold nx; push_cast; rfl
          have hm1 : ((i : Int) + 1).tmod (l.length : Int) = (j : Int) := by rw [Int.tmod_eq_emod_of_nonneg (by omega)]; exact hjj
          have hnz2 : ¬ ((l.length : Int) = 0) := by omega
          have hnz : ¬ (l = []) := HNE.out
          have CS := Lib.hid (fun W (hb : Below wr.heap.size wr W) => step (HPr.out.below hb) i hi)
          rw [hli] at CS
          clear hcl hlg HGr hli
          generalize l[i].2 = x2 at CS
          have hfd0 := fld0
          have hfd1 := fld1
          by_cases m1 : r ≤ to - f
          · have hdr := Lib.hid (show d = r by omega)
            have hnd : ¬ (0 < r - d) := by have := hdr.out; omega
            have hnd2 : ¬ d < r := by omega
            have HGS : Hid (gst l to f ⟨i, r, half, own, oth⟩ = ⟨j, l[j].2, false, own ++ [(x1, f, d)], oth⟩) := Lib.hid (by
              unfold gst
              simp only []
              rw [hd, hx1, hj, if_neg hnd, hlj])
            clear hx1 hj hlj m1
            have r9 := fun q => (HPr.out.drew q).c9.1
            simp only [] at r9
            go_upto_region 4 with (go_at_call 87; refine cf.mono ?_; rintro e w2 ⟨rfl, q, rfl⟩)
            clear r9
            have HBD : Hid (Below wr.heap.size wr (wr.drewN q).drew) := Lib.hid (B.below_drew (B.below_drew (Below.refl _ _) q) 1)
            have HPD := Lib.hid (HPr.out.below HBD.out)
            obtain ⟨AO, cO, eO⟩ := Copy.shape HPr.out.O
            obtain rfl := eO
            change Hid (Below wr.heap.size wr (wr.drewN q).drew) at HBD
            apply wp_mid (R := fun A7 k7 _ w7 => Hid (Pw w0 (w7.setCell ⟨b, 6, none⟩ (.slice A7 (own.length + 1) k7)) b A c l ps wf wt af (.slice A7 (own.length + 1) k7) vX ⟨i, r, half, own ++ [(x1, f, d)], oth⟩)) (V := fun A7 k7 w7 => w7.setCell ⟨b, 6, none⟩ (.slice A7 (own.length + 1) k7))
            case walk =>
              refine wp_region_held_drew (S := fun w' => w'.cell? ⟨b, 8, none⟩ = some (.int .i64 i)) (by kernel_rfl) (HPD.out.c8.1) (fun hHeld => ?_)
              refine wpAnyH_take (i := 0) (v := ?_) At.at0 (by kernel_rfl) (by kernel_rfl) (by kernel_rfl) (fun _ _ _ h => by cases h.1) (Or.inl ⟨by rfl, ?_⟩) (by assumption) ?_
              rotate_left
              · (intro w9 hSw; (try dsimp only at hSw); go_simp; try (with_reducible rfl))
              try simp only [Act.put, List.setIfInBounds_toArray, List.set_cons_zero, List.set_cons_succ]
              refine wpAnyH_take (i := 1) (v := ?_) At.at1 (by kernel_rfl) (by kernel_rfl) (by kernel_rfl) (fun _ _ _ h => by cases h.1) (Or.inl ⟨by rfl, ?_⟩) (by assumption) ?_
              rotate_left
              · (intro w9 hSw; (try dsimp only at hSw); go_simp; try (with_reducible rfl))
              try simp only [Act.put, List.setIfInBounds_toArray, List.set_cons_zero, List.set_cons_succ]
              refine wpAnyH_take (i := 2) (v := ?_) At.at2 (by kernel_rfl) (by kernel_rfl) (by kernel_rfl) (fun _ _ _ h => by cases h.1) (Or.inl ⟨by rfl, ?_⟩) (by assumption) ?_
              rotate_left
              · (intro w9 hSw; (try dsimp only at hSw); go_simp; try (with_reducible rfl))
              try simp only [Act.put, List.setIfInBounds_toArray, List.set_cons_zero, List.set_cons_succ]
              refine wpAnyH_take (i := 3) (v := ?_) At.at3 (by kernel_rfl) (by kernel_rfl) (by kernel_rfl) (fun _ _ _ h => by cases h.1) (Or.inl ⟨by rfl, ?_⟩) (by assumption) ?_
              rotate_left
              · (intro w9 hSw; (try dsimp only at hSw); go_simp; try (with_reducible rfl))
              try simp only [Act.put, List.setIfInBounds_toArray, List.set_cons_zero, List.set_cons_succ]
              refine wpAnyH_take (i := 5) (v := ?_) At.at5 (by kernel_rfl) (by kernel_rfl) (by kernel_rfl) (fun _ _ _ h => by cases h.1) (Or.inl ⟨by rfl, ?_⟩) (by assumption) ?_
              rotate_left
              · (intro w9 hSw; (try dsimp only at hSw); go_simp; try (with_reducible rfl))
              try simp only [Act.put, List.setIfInBounds_toArray, List.set_cons_zero, List.set_cons_succ]
              refine wpAnyH_take (i := 6) (v := ?_) At.at6 (by kernel_rfl) (by kernel_rfl) (by kernel_rfl) (fun _ _ _ h => by cases h.1) (Or.inl ⟨by rfl, ?_⟩) (by assumption) ?_
              rotate_left
              · (intro w9 hSw; (try dsimp only at hSw); go_simp; try (with_reducible rfl))
              try simp only [Act.put, List.setIfInBounds_toArray, List.set_cons_zero, List.set_cons_succ]
              refine wpAnyH_take (i := 7) (v := ?_) At.at7 (by kernel_rfl) (by kernel_rfl) (by kernel_rfl) (fun _ _ _ h => by cases h.1) (Or.inl ⟨by rfl, ?_⟩) (by assumption) ?_
              rotate_left
              · (intro w9 hSw; (try dsimp only at hSw); go_simp; try (with_reducible rfl))
              try simp only [Act.put, List.setIfInBounds_toArray, List.set_cons_zero, List.set_cons_succ]
              refine wpAnyH_take (i := 8) (v := ?_) At.at8 (by kernel_rfl) (by kernel_rfl) (by kernel_rfl) (fun _ _ _ h => by cases h.1) (Or.inl ⟨by rfl, ?_⟩) (by assumption) ?_
              rotate_left
              · (intro w9 hSw; (try dsimp only at hSw); go_simp; try (with_reducible rfl))
              try simp only [Act.put, List.setIfInBounds_toArray, List.set_cons_zero, List.set_cons_succ]
              refine wpAnyH_take (i := 9) (v := ?_) At.at9 (by kernel_rfl) (by kernel_rfl) (by kernel_rfl) (fun _ _ _ h => by cases h.1) (Or.inl ⟨by rfl, ?_⟩) (by assumption) ?_
              rotate_left
              · (intro w9 hSw; (try dsimp only at hSw); go_simp; try (with_reducible rfl))
              try simp only [Act.put, List.setIfInBounds_toArray, List.set_cons_zero, List.set_cons_succ]
              refine wpAnyH_take (i := 12) (v := ?_) At.at12 (by kernel_rfl) (by kernel_rfl) (by kernel_rfl) (fun _ _ _ h => by cases h.1) (Or.inl ⟨by rfl, ?_⟩) (by assumption) ?_
              rotate_left
              · (intro w9 hSw; (try dsimp only at hSw); go_simp; try (with_reducible rfl))
              try simp only [Act.put, List.setIfInBounds_toArray, List.set_cons_zero, List.set_cons_succ]
              refine wpAnyH_take (i := 13) (v := ?_) At.at13 (by kernel_rfl) (by kernel_rfl) (by kernel_rfl) (fun _ _ _ h => by cases h.1) (Or.inl ⟨by rfl, ?_⟩) (by assumption) ?_
              rotate_left
              · (intro w9 hSw; (try dsimp only at hSw); go_simp; try (with_reducible rfl))
              try simp only [Act.put, List.setIfInBounds_toArray, List.set_cons_zero, List.set_cons_succ]
              refine wpAnyH_ready (rs := [4, 10]) (by kernel_rfl) (by simp) ?_
              refine AllReadyH.cons At.at4 (fun K hK => ?_) (AllReadyH.cons At.at10 (fun K hK => ?_) AllReadyH.nil)
              · have e6 := HPr.out.c6.1
                go_simp
                refine hK.out _ _ (by assumption) (fun hHeld => ?_)
                clear hK K
                try simp only [Act.put, List.setIfInBounds_toArray, List.set_cons_zero, List.set_cons_succ]
                refine wpAnyH_ready (rs := [10]) (by kernel_rfl) (by simp) ?_
                refine AllReadyH.cons At.at10 (fun K hK => ?_) AllReadyH.nil
                go_simp
                go_at_call 146; refine (CS.out _ HBD.out).mono ?_; rintro e w5 ⟨rfl, hB5⟩; obtain ⟨n5, hn5⟩ : ∃ n5, w5.heap.size = n5 := ⟨_, rfl⟩; have HP5 := Lib.hid ((HPD.out).below hB5); have e6 := HP5.out.c6.1; clear hB5
                go_simp
                refine hK.out _ _ (HP5.out.c8.1) (fun hHeld => ?_)
                clear hK K
                try simp only [Act.put, List.setIfInBounds_toArray, List.set_cons_zero, List.set_cons_succ]
                refine wpAnyH_take (i := 11) (v := ?_) At.at11 (by kernel_rfl) (by kernel_rfl) (by kernel_rfl) (fun _ _ _ h => by cases h.1) (Or.inl ⟨by rfl, ?_⟩) (by assumption) ?_
                rotate_left
                · (intro w9 hSw; (try dsimp only at hSw); go_simp; try (with_reducible rfl))
                try simp only [Act.put, List.setIfInBounds_toArray, List.set_cons_zero, List.set_cons_succ]
                refine wpAnyH_take (i := 14) (v := ?_) At.at14 (by kernel_rfl) (by kernel_rfl) (by kernel_rfl) (fun _ _ _ h => by cases h.1) (Or.inl ⟨by rfl, ?_⟩) (by assumption) ?_
                rotate_left
                · (intro w9 hSw; (try dsimp only at hSw); go_simp; try (with_reducible rfl))
                try simp only [Act.put, List.setIfInBounds_toArray, List.set_cons_zero, List.set_cons_succ]
                refine wpAnyH_ready (rs := [15]) (by kernel_rfl) (by simp) ?_
                refine AllReadyH.cons At.at15 (fun K hK => ?_) AllReadyH.nil
                go_simp
                refine hK.out _ _ (((HP5.out.below ((Below.refl _ _).alloc (Nat.le_refl _) _)).c8.1)) (fun hHeld => ?_)
                clear hK K
                try simp only [Act.put, List.setIfInBounds_toArray, List.set_cons_zero, List.set_cons_succ]
                refine wpAnyH_ready (rs := [16]) (by kernel_rfl) (by simp) ?_
                refine AllReadyH.cons At.at16 (fun K hK => ?_) AllReadyH.nil
                refine Copy.step_append_s w0.heap.size rfl _ _ 68 77 (.agg #[.string ⟨#[]⟩, .string ⟨#[]⟩, .int .i64 0, .int .i64 0]) 4 48 rfl Tryz.underlying68 info_pl rfl (by decide) (by decide) plE (fun _ => rfl) plE1 _ _ (x1, f, d) _ rfl HP5.out.O rfl n5 hn5.symm rfl HP5.out.be.size (by have := HCN.out; show (own.length + 1) * 48 ≤ 140737488355328; omega) ?_; intro v7 w7 hO7 ha7 hg7; obtain ⟨A7, k7, rfl⟩ : ∃ A7 k7, v7 = .slice A7 (own.length + 1) k7 := (by obtain ⟨A7, k7, e⟩ := Copy.shape hO7; exact ⟨A7, k7, by rw [e, List.length_append, List.length_singleton]⟩); have HP7 := Lib.hid (HP5.out.growO hO7 ha7 hg7); have e6 := HP7.out.1.1; have z6 := HP7.out.1.2; clear hO7 ha7 hg7
                refine hK.out _ _ (HP7.out.2.1.1) (fun hHeld => ?_)
                clear hK K
                try simp only [Act.put, List.setIfInBounds_toArray, List.set_cons_zero, List.set_cons_succ]
                refine wpAnyH_take (i := 17) (v := ?_) At.at17 (by kernel_rfl) (by kernel_rfl) (by kernel_rfl) (fun _ _ _ h => by cases h.1) (Or.inl ⟨by rfl, ?_⟩) (by assumption) ?_
                rotate_left
                · (intro w9 hSw; (try dsimp only at hSw); go_simp; try (with_reducible rfl))
                try simp only [Act.put, List.setIfInBounds_toArray, List.set_cons_zero, List.set_cons_succ]
                refine wpAnyH_take (i := 18) (v := ?_) At.at18 (by kernel_rfl) (by kernel_rfl) (by kernel_rfl) (fun _ _ _ h => by cases h.1) (Or.inl ⟨by rfl, ?_⟩) (by assumption) ?_
                rotate_left
                · (intro w9 hSw; (try dsimp only at hSw); go_simp; try (with_reducible rfl))
                try simp only [Act.put, List.setIfInBounds_toArray, List.set_cons_zero, List.set_cons_succ]
                refine wpAnyH_ready (rs := [19]) (by kernel_rfl) (by simp) ?_
                refine AllReadyH.cons At.at19 (fun K hK => ?_) AllReadyH.nil
                go_simp
                refine hK.out _ _ (HP7.out.2.2.1) (fun hHeld => ?_)
                clear hK K
                try simp only [Act.put, List.setIfInBounds_toArray, List.set_cons_zero, List.set_cons_succ]
                refine wpAnyH_done (by kernel_rfl) ?_ _
                exact ⟨rfl, A7, k7, n5, w7, Lib.hid HP7.out.2.2.2, rfl, rfl⟩
              · go_simp; go_at_call 146; refine (CS.out _ HBD.out).mono ?_; rintro e w5 ⟨rfl, hB5⟩; obtain ⟨n5, hn5⟩ : ∃ n5, w5.heap.size = n5 := ⟨_, rfl⟩; have HP5 := Lib.hid ((HPD.out).below hB5); have e6 := HP5.out.c6.1; clear hB5
                go_simp
                refine hK.out _ _ (HP5.out.c8.1) (fun hHeld => ?_)
                clear hK K
                try simp only [Act.put, List.setIfInBounds_toArray, List.set_cons_zero, List.set_cons_succ]
                refine wpAnyH_take (i := 11) (v := ?_) At.at11 (by kernel_rfl) (by kernel_rfl) (by kernel_rfl) (fun _ _ _ h => by cases h.1) (Or.inl ⟨by rfl, ?_⟩) (by assumption) ?_
                rotate_left
                · (intro w9 hSw; (try dsimp only at hSw); go_simp; try (with_reducible rfl))
                try simp only [Act.put, List.setIfInBounds_toArray, List.set_cons_zero, List.set_cons_succ]
                refine wpAnyH_take (i := 14) (v := ?_) At.at14 (by kernel_rfl) (by kernel_rfl) (by kernel_rfl) (fun _ _ _ h => by cases h.1) (Or.inl ⟨by rfl, ?_⟩) (by assumption) ?_
                rotate_left
                · (intro w9 hSw; (try dsimp only at hSw); go_simp; try (with_reducible rfl))
                try simp only [Act.put, List.setIfInBounds_toArray, List.set_cons_zero, List.set_cons_succ]
                refine wpAnyH_ready (rs := [4, 15]) (by kernel_rfl) (by simp) ?_
                refine AllReadyH.cons At.at4 (fun K hK => ?_) (AllReadyH.cons At.at15 (fun K hK => ?_) AllReadyH.nil)
                · go_simp
                  refine hK.out _ _ (HP5.out.c8.1) (fun hHeld => ?_)
                  clear hK K
                  try simp only [Act.put, List.setIfInBounds_toArray, List.set_cons_zero, List.set_cons_succ]
                  refine wpAnyH_ready (rs := [15]) (by kernel_rfl) (by simp) ?_
                  refine AllReadyH.cons At.at15 (fun K hK => ?_) AllReadyH.nil
                  go_simp
                  refine hK.out _ _ (((HP5.out.below ((Below.refl _ _).alloc (Nat.le_refl _) _)).c8.1)) (fun hHeld => ?_)
                  clear hK K
                  try simp only [Act.put, List.setIfInBounds_toArray, List.set_cons_zero, List.set_cons_succ]
                  refine wpAnyH_ready (rs := [16]) (by kernel_rfl) (by simp) ?_
                  refine AllReadyH.cons At.at16 (fun K hK => ?_) AllReadyH.nil
                  refine Copy.step_append_s w0.heap.size rfl _ _ 68 77 (.agg #[.string ⟨#[]⟩, .string ⟨#[]⟩, .int .i64 0, .int .i64 0]) 4 48 rfl Tryz.underlying68 info_pl rfl (by decide) (by decide) plE (fun _ => rfl) plE1 _ _ (x1, f, d) _ rfl HP5.out.O rfl n5 hn5.symm rfl HP5.out.be.size (by have := HCN.out; show (own.length + 1) * 48 ≤ 140737488355328; omega) ?_; intro v7 w7 hO7 ha7 hg7; obtain ⟨A7, k7, rfl⟩ : ∃ A7 k7, v7 = .slice A7 (own.length + 1) k7 := (by obtain ⟨A7, k7, e⟩ := Copy.shape hO7; exact ⟨A7, k7, by rw [e, List.length_append, List.length_singleton]⟩); have HP7 := Lib.hid (HP5.out.growO hO7 ha7 hg7); have e6 := HP7.out.1.1; have z6 := HP7.out.1.2; clear hO7 ha7 hg7
                  refine hK.out _ _ (HP7.out.2.1.1) (fun hHeld => ?_)
                  clear hK K
                  try simp only [Act.put, List.setIfInBounds_toArray, List.set_cons_zero, List.set_cons_succ]
                  refine wpAnyH_take (i := 17) (v := ?_) At.at17 (by kernel_rfl) (by kernel_rfl) (by kernel_rfl) (fun _ _ _ h => by cases h.1) (Or.inl ⟨by rfl, ?_⟩) (by assumption) ?_
                  rotate_left
                  · (intro w9 hSw; (try dsimp only at hSw); go_simp; try (with_reducible rfl))
                  try simp only [Act.put, List.setIfInBounds_toArray, List.set_cons_zero, List.set_cons_succ]
                  refine wpAnyH_take (i := 18) (v := ?_) At.at18 (by kernel_rfl) (by kernel_rfl) (by kernel_rfl) (fun _ _ _ h => by cases h.1) (Or.inl ⟨by rfl, ?_⟩) (by assumption) ?_
                  rotate_left
                  · (intro w9 hSw; (try dsimp only at hSw); go_simp; try (with_reducible rfl))
                  try simp only [Act.put, List.setIfInBounds_toArray, List.set_cons_zero, List.set_cons_succ]
                  refine wpAnyH_ready (rs := [19]) (by kernel_rfl) (by simp) ?_
                  refine AllReadyH.cons At.at19 (fun K hK => ?_) AllReadyH.nil
                  go_simp
                  refine hK.out _ _ (HP7.out.2.2.1) (fun hHeld => ?_)
                  clear hK K
                  try simp only [Act.put, List.setIfInBounds_toArray, List.set_cons_zero, List.set_cons_succ]
                  refine wpAnyH_done (by kernel_rfl) ?_ _
                  exact ⟨rfl, A7, k7, n5, w7, Lib.hid HP7.out.2.2.2, rfl, rfl⟩
                · go_simp
                  refine hK.out _ _ (((HP5.out.below ((Below.refl _ _).alloc (Nat.le_refl _) _)).c8.1)) (fun hHeld => ?_)
                  clear hK K
                  try simp only [Act.put, List.setIfInBounds_toArray, List.set_cons_zero, List.set_cons_succ]
                  refine wpAnyH_ready (rs := [4]) (by kernel_rfl) (by simp) ?_
                  refine AllReadyH.cons At.at4 (fun K hK => ?_) AllReadyH.nil
                  have e6' := fun o => (HP5.out.below ((Below.refl _ _).alloc (Nat.le_refl _) o)).c6.1; go_simp
                  refine hK.out _ _ (((HP5.out.below ((Below.refl _ _).alloc (Nat.le_refl _) _)).c8.1)) (fun hHeld => ?_)
                  clear hK K
                  try simp only [Act.put, List.setIfInBounds_toArray, List.set_cons_zero, List.set_cons_succ]
                  refine wpAnyH_ready (rs := [16]) (by kernel_rfl) (by simp) ?_
                  refine AllReadyH.cons At.at16 (fun K hK => ?_) AllReadyH.nil
                  refine Copy.step_append_s w0.heap.size rfl _ _ 68 77 (.agg #[.string ⟨#[]⟩, .string ⟨#[]⟩, .int .i64 0, .int .i64 0]) 4 48 rfl Tryz.underlying68 info_pl rfl (by decide) (by decide) plE (fun _ => rfl) plE1 _ _ (x1, f, d) _ rfl HP5.out.O rfl n5 hn5.symm rfl HP5.out.be.size (by have := HCN.out; show (own.length + 1) * 48 ≤ 140737488355328; omega) ?_; intro v7 w7 hO7 ha7 hg7; obtain ⟨A7, k7, rfl⟩ : ∃ A7 k7, v7 = .slice A7 (own.length + 1) k7 := (by obtain ⟨A7, k7, e⟩ := Copy.shape hO7; exact ⟨A7, k7, by rw [e, List.length_append, List.length_singleton]⟩); have HP7 := Lib.hid (HP5.out.growO hO7 ha7 hg7); have e6 := HP7.out.1.1; have z6 := HP7.out.1.2; clear hO7 ha7 hg7
                  refine hK.out _ _ (HP7.out.2.1.1) (fun hHeld => ?_)
                  clear hK K
                  try simp only [Act.put, List.setIfInBounds_toArray, List.set_cons_zero, List.set_cons_succ]
                  refine wpAnyH_take (i := 17) (v := ?_) At.at17 (by kernel_rfl) (by kernel_rfl) (by kernel_rfl) (fun _ _ _ h => by cases h.1) (Or.inl ⟨by rfl, ?_⟩) (by assumption) ?_
                  rotate_left
                  · (intro w9 hSw; (try dsimp only at hSw); go_simp; try (with_reducible rfl))
                  try simp only [Act.put, List.setIfInBounds_toArray, List.set_cons_zero, List.set_cons_succ]
                  refine wpAnyH_take (i := 18) (v := ?_) At.at18 (by kernel_rfl) (by kernel_rfl) (by kernel_rfl) (fun _ _ _ h => by cases h.1) (Or.inl ⟨by rfl, ?_⟩) (by assumption) ?_
                  rotate_left
                  · (intro w9 hSw; (try dsimp only at hSw); go_simp; try (with_reducible rfl))
                  try simp only [Act.put, List.setIfInBounds_toArray, List.set_cons_zero, List.set_cons_succ]
                  refine wpAnyH_ready (rs := [19]) (by kernel_rfl) (by simp) ?_
                  refine AllReadyH.cons At.at19 (fun K hK => ?_) AllReadyH.nil
                  go_simp
                  refine hK.out _ _ (HP7.out.2.2.1) (fun hHeld => ?_)
                  clear hK K
                  try simp only [Act.put, List.setIfInBounds_toArray, List.set_cons_zero, List.set_cons_succ]
                  refine wpAnyH_done (by kernel_rfl) ?_ _
                  exact ⟨rfl, A7, k7, n5, w7, Lib.hid HP7.out.2.2.2, rfl, rfl⟩
            case cont =>
              intro A7 k7 n5 w7 HP7
              have y9 := HP7.out.c9.1
              have z9 := HP7.out.c9.2
              have y10 := HP7.out.c10.1
              have z10 := HP7.out.c10.2
              generalize w7.setCell ⟨b, 6, none⟩ (.slice A7 (own.length + 1) k7) = W8 at *
              have HP8 := Lib.hid ((HP7.out.set9 (r - d)).set10 (decide (d < r)))
              go_upto_region 9 with (fail)
              rotate_left
              · exfalso; have h9 : (!decide (d < r)) = false := by assumption
                simp at h9; omega
              generalize (W8.setCell ⟨b, 9, none⟩ (.int .i64 (r - d))).setCell ⟨b, 10, none⟩ (.bool (decide (d < r))) = W9 at *
              have hp8 := HP8.out
              rw [decide_eq_false (show ¬ d < r by omega)] at hp8
              have HP8 := Lib.hid hp8
              clear hp8
              clear y9 z9 y10 z10
              have g1 := HP8.out.c1.1
              have g8 : W9.cell? ⟨b, 8, none⟩ = some (.int .i64 i) := HP8.out.c8.1
              have z8 := HP8.out.c8.2
              go_still_tail 15, (by kernel_rfl)
              have HP9 := Lib.hid (HP8.out.below (B.below_drew (Below.refl _ W9) 1))
              have y8 : W9.drew.cell? ⟨b, 8, none⟩ = some (.int .i64 i) := g8
              have x8 : W9.drew.frozen? ⟨b, 8, none⟩ = false := z8
              change wpList _ _ _ _ _ W9.drew
              change Hid (Pw w0 W9.drew _ _ _ _ _ _ _ _ _ _ _) at HP9
              clear g1 g8 z8
              generalize W9.drew = W10 at *
              go_upto_region 10 with (fail)
              have HPA := Lib.hid (HP9.out.set8 j)
              clear y8 x8
              generalize W10.setCell ⟨b, 8, none⟩ (.int .i64 j) = W11 at *
              have g8 : W11.cell? ⟨b, 8, none⟩ = some (.int .i64 j) := HPA.out.c8.1
              have cj := step HPA.out j hj2
              generalize l[j].1 = xj1 at cj
              generalize hxj : l[j].2 = xj2 at *
              go_wp2_with (go_at_call 146; refine cj.mono ?_; rintro e w13 ⟨rfl, hB13⟩; have HPB := Lib.hid (HPA.out.below hB13); have y9 := HPB.out.c9.1; have z9 := HPB.out.c9.2; clear hB13)
              go_roundw
              case rel => exact ⟨f + d, _, _, _, rfl, by omega, by omega, HGN, Lib.hid (by have := HCC.out; unfold PS.cnt at *; simp at *; omega), Lib.hid (HPB.out.set9 xj2), Lib.hid (by rw [HR.out]; exact (HGS.out ▸ HX.out.choose_spec.1)), Lib.hid HX.out.choose_spec.2⟩
              case measure => simp [intOf]; omega
          · have m1' : to - f < r := by omega
            have hdr := Lib.hid (show d = to - f by omega)
            have hnd : 0 < r - d := by have := hdr.out; omega
            have hnd2 : d < r := by omega
            have HGS : Hid (gst l to f ⟨i, r, half, own, oth⟩ = ⟨i, r - d, true, own ++ [(x1, f, d)], oth⟩) := Lib.hid (by
              unfold gst
              simp only []
              rw [hd, hx1, if_pos hnd])
            clear hx1 hj hlj m1
            have r9 := fun q => (HPr.out.drew q).c9.1
            simp only [] at r9
            go_upto_region 4 with (go_at_call 87; refine cf.mono ?_; rintro e w2 ⟨rfl, q, rfl⟩)
            clear r9
            have HBD : Hid (Below wr.heap.size wr (wr.drewN q).drew) := Lib.hid (B.below_drew (B.below_drew (Below.refl _ _) q) 1)
            have HPD := Lib.hid (HPr.out.below HBD.out)
            obtain ⟨AO, cO, eO⟩ := Copy.shape HPr.out.O
            obtain rfl := eO
            change Hid (Below wr.heap.size wr (wr.drewN q).drew) at HBD
            apply wp_mid (R := fun A7 k7 _ w7 => Hid (Pw w0 (w7.setCell ⟨b, 6, none⟩ (.slice A7 (own.length + 1) k7)) b A c l ps wf wt af (.slice A7 (own.length + 1) k7) vX ⟨i, r, half, own ++ [(x1, f, d)], oth⟩)) (V := fun A7 k7 w7 => w7.setCell ⟨b, 6, none⟩ (.slice A7 (own.length + 1) k7))
            case walk =>
              refine wp_region_held_drew (S := fun w' => w'.cell? ⟨b, 8, none⟩ = some (.int .i64 i)) (by kernel_rfl) (HPD.out.c8.1) (fun hHeld => ?_)
              refine wpAnyH_take (i := 0) (v := ?_) At.at0 (by kernel_rfl) (by kernel_rfl) (by kernel_rfl) (fun _ _ _ h => by cases h.1) (Or.inl ⟨by rfl, ?_⟩) (by assumption) ?_
              rotate_left
              · (intro w9 hSw; (try dsimp only at hSw); go_simp; try (with_reducible rfl))
              try simp only [Act.put, List.setIfInBounds_toArray, List.set_cons_zero, List.set_cons_succ]
              refine wpAnyH_take (i := 1) (v := ?_) At.at1 (by kernel_rfl) (by kernel_rfl) (by kernel_rfl) (fun _ _ _ h => by cases h.1) (Or.inl ⟨by rfl, ?_⟩) (by assumption) ?_
              rotate_left
              · (intro w9 hSw; (try dsimp only at hSw); go_simp; try (with_reducible rfl))
              try simp only [Act.put, List.setIfInBounds_toArray, List.set_cons_zero, List.set_cons_succ]
              refine wpAnyH_take (i := 2) (v := ?_) At.at2 (by kernel_rfl) (by kernel_rfl) (by kernel_rfl) (fun _ _ _ h => by cases h.1) (Or.inl ⟨by rfl, ?_⟩) (by assumption) ?_
              rotate_left
              · (intro w9 hSw; (try dsimp only at hSw); go_simp; try (with_reducible rfl))
              try simp only [Act.put, List.setIfInBounds_toArray, List.set_cons_zero, List.set_cons_succ]
              refine wpAnyH_take (i := 3) (v := ?_) At.at3 (by kernel_rfl) (by kernel_rfl) (by kernel_rfl) (fun _ _ _ h => by cases h.1) (Or.inl ⟨by rfl, ?_⟩) (by assumption) ?_
              rotate_left
              · (intro w9 hSw; (try dsimp only at hSw); go_simp; try (with_reducible rfl))
              try simp only [Act.put, List.setIfInBounds_toArray, List.set_cons_zero, List.set_cons_succ]
              refine wpAnyH_take (i := 5) (v := ?_) At.at5 (by kernel_rfl) (by kernel_rfl) (by kernel_rfl) (fun _ _ _ h => by cases h.1) (Or.inl ⟨by rfl, ?_⟩) (by assumption) ?_
              rotate_left
              · (intro w9 hSw; (try dsimp only at hSw); go_simp; try (with_reducible rfl))
              try simp only [Act.put, List.setIfInBounds_toArray, List.set_cons_zero, List.set_cons_succ]
              refine wpAnyH_take (i := 6) (v := ?_) At.at6 (by kernel_rfl) (by kernel_rfl) (by kernel_rfl) (fun _ _ _ h => by cases h.1) (Or.inl ⟨by rfl, ?_⟩) (by assumption) ?_
              rotate_left
              · (intro w9 hSw; (try dsimp only at hSw); go_simp; try (with_reducible rfl))
              try simp only [Act.put, List.setIfInBounds_toArray, List.set_cons_zero, List.set_cons_succ]
              refine wpAnyH_take (i := 7) (v := ?_) At.at7 (by kernel_rfl) (by kernel_rfl) (by kernel_rfl) (fun _ _ _ h => by cases h.1) (Or.inl ⟨by rfl, ?_⟩) (by assumption) ?_
              rotate_left
              · (intro w9 hSw; (try dsimp only at hSw); go_simp; try (with_reducible rfl))
              try simp only [Act.put, List.setIfInBounds_toArray, List.set_cons_zero, List.set_cons_succ]
              refine wpAnyH_take (i := 8) (v := ?_) At.at8 (by kernel_rfl) (by kernel_rfl) (by kernel_rfl) (fun _ _ _ h => by cases h.1) (Or.inl ⟨by rfl, ?_⟩) (by assumption) ?_
              rotate_left
              · (intro w9 hSw; (try dsimp only at hSw); go_simp; try (with_reducible rfl))
              try simp only [Act.put, List.setIfInBounds_toArray, List.set_cons_zero, List.set_cons_succ]
              refine wpAnyH_take (i := 9) (v := ?_) At.at9 (by kernel_rfl) (by kernel_rfl) (by kernel_rfl) (fun _ _ _ h => by cases h.1) (Or.inl ⟨by rfl, ?_⟩) (by assumption) ?_
              rotate_left
              · (intro w9 hSw; (try dsimp only at hSw); go_simp; try (with_reducible rfl))
              try simp only [Act.put, List.setIfInBounds_toArray, List.set_cons_zero, List.set_cons_succ]
              refine wpAnyH_take (i := 12) (v := ?_) At.at12 (by kernel_rfl) (by kernel_rfl) (by kernel_rfl) (fun _ _ _ h => by cases h.1) (Or.inl ⟨by rfl, ?_⟩) (by assumption) ?_
              rotate_left
              · (intro w9 hSw; (try dsimp only at hSw); go_simp; try (with_reducible rfl))
              try simp only [Act.put, List.setIfInBounds_toArray, List.set_cons_zero, List.set_cons_succ]
              refine wpAnyH_take (i := 13) (v := ?_) At.at13 (by kernel_rfl) (by kernel_rfl) (by kernel_rfl) (fun _ _ _ h => by cases h.1) (Or.inl ⟨by rfl, ?_⟩) (by assumption) ?_
              rotate_left
              · (intro w9 hSw; (try dsimp only at hSw); go_simp; try (with_reducible rfl))
              try simp only [Act.put, List.setIfInBounds_toArray, List.set_cons_zero, List.set_cons_succ]
              refine wpAnyH_ready (rs := [4, 10]) (by kernel_rfl) (by simp) ?_
              refine AllReadyH.cons At.at4 (fun K hK => ?_) (AllReadyH.cons At.at10 (fun K hK => ?_) AllReadyH.nil)
              · have e6 := HPr.out.c6.1
                go_simp
                refine hK.out _ _ (by assumption) (fun hHeld => ?_)
                clear hK K
                try simp only [Act.put, List.setIfInBounds_toArray, List.set_cons_zero, List.set_cons_succ]
                refine wpAnyH_ready (rs := [10]) (by kernel_rfl) (by simp) ?_
                refine AllReadyH.cons At.at10 (fun K hK => ?_) AllReadyH.nil
                go_simp
                go_at_call 146; refine (CS.out _ HBD.out).mono ?_; rintro e w5 ⟨rfl, hB5⟩; obtain ⟨n5, hn5⟩ : ∃ n5, w5.heap.size = n5 := ⟨_, rfl⟩; have HP5 := Lib.hid ((HPD.out).below hB5); have e6 := HP5.out.c6.1; clear hB5
                go_simp
                refine hK.out _ _ (HP5.out.c8.1) (fun hHeld => ?_)
                clear hK K
                try simp only [Act.put, List.setIfInBounds_toArray, List.set_cons_zero, List.set_cons_succ]
                refine wpAnyH_take (i := 11) (v := ?_) At.at11 (by kernel_rfl) (by kernel_rfl) (by kernel_rfl) (fun _ _ _ h => by cases h.1) (Or.inl ⟨by rfl, ?_⟩) (by assumption) ?_
                rotate_left
                · (intro w9 hSw; (try dsimp only at hSw); go_simp; try (with_reducible rfl))
                try simp only [Act.put, List.setIfInBounds_toArray, List.set_cons_zero, List.set_cons_succ]
                refine wpAnyH_take (i := 14) (v := ?_) At.at14 (by kernel_rfl) (by kernel_rfl) (by kernel_rfl) (fun _ _ _ h => by cases h.1) (Or.inl ⟨by rfl, ?_⟩) (by assumption) ?_
                rotate_left
                · (intro w9 hSw; (try dsimp only at hSw); go_simp; try (with_reducible rfl))
                try simp only [Act.put, List.setIfInBounds_toArray, List.set_cons_zero, List.set_cons_succ]
                refine wpAnyH_ready (rs := [15]) (by kernel_rfl) (by simp) ?_
                refine AllReadyH.cons At.at15 (fun K hK => ?_) AllReadyH.nil
                go_simp
                refine hK.out _ _ (((HP5.out.below ((Below.refl _ _).alloc (Nat.le_refl _) _)).c8.1)) (fun hHeld => ?_)
                clear hK K
                try simp only [Act.put, List.setIfInBounds_toArray, List.set_cons_zero, List.set_cons_succ]
                refine wpAnyH_ready (rs := [16]) (by kernel_rfl) (by simp) ?_
                refine AllReadyH.cons At.at16 (fun K hK => ?_) AllReadyH.nil
                refine Copy.step_append_s w0.heap.size rfl _ _ 68 77 (.agg #[.string ⟨#[]⟩, .string ⟨#[]⟩, .int .i64 0, .int .i64 0]) 4 48 rfl Tryz.underlying68 info_pl rfl (by decide) (by decide) plE (fun _ => rfl) plE1 _ _ (x1, f, d) _ rfl HP5.out.O rfl n5 hn5.symm rfl HP5.out.be.size (by have := HCN.out; show (own.length + 1) * 48 ≤ 140737488355328; omega) ?_; intro v7 w7 hO7 ha7 hg7; obtain ⟨A7, k7, rfl⟩ : ∃ A7 k7, v7 = .slice A7 (own.length + 1) k7 := (by obtain ⟨A7, k7, e⟩ := Copy.shape hO7; exact ⟨A7, k7, by rw [e, List.length_append, List.length_singleton]⟩); have HP7 := Lib.hid (HP5.out.growO hO7 ha7 hg7); have e6 := HP7.out.1.1; have z6 := HP7.out.1.2; clear hO7 ha7 hg7
                refine hK.out _ _ (HP7.out.2.1.1) (fun hHeld => ?_)
                clear hK K
                try simp only [Act.put, List.setIfInBounds_toArray, List.set_cons_zero, List.set_cons_succ]
                refine wpAnyH_take (i := 17) (v := ?_) At.at17 (by kernel_rfl) (by kernel_rfl) (by kernel_rfl) (fun _ _ _ h => by cases h.1) (Or.inl ⟨by rfl, ?_⟩) (by assumption) ?_
                rotate_left
                · (intro w9 hSw; (try dsimp only at hSw); go_simp; try (with_reducible rfl))
                try simp only [Act.put, List.setIfInBounds_toArray, List.set_cons_zero, List.set_cons_succ]
                refine wpAnyH_take (i := 18) (v := ?_) At.at18 (by kernel_rfl) (by kernel_rfl) (by kernel_rfl) (fun _ _ _ h => by cases h.1) (Or.inl ⟨by rfl, ?_⟩) (by assumption) ?_
                rotate_left
                · (intro w9 hSw; (try dsimp only at hSw); go_simp; try (with_reducible rfl))
                try simp only [Act.put, List.setIfInBounds_toArray, List.set_cons_zero, List.set_cons_succ]
                refine wpAnyH_ready (rs := [19]) (by kernel_rfl) (by simp) ?_
                refine AllReadyH.cons At.at19 (fun K hK => ?_) AllReadyH.nil
                go_simp
                refine hK.out _ _ (HP7.out.2.2.1) (fun hHeld => ?_)
                clear hK K
                try simp only [Act.put, List.setIfInBounds_toArray, List.set_cons_zero, List.set_cons_succ]
                refine wpAnyH_done (by kernel_rfl) ?_ _
                exact ⟨rfl, A7, k7, n5, w7, Lib.hid HP7.out.2.2.2, rfl, rfl⟩
              · go_simp; go_at_call 146; refine (CS.out _ HBD.out).mono ?_; rintro e w5 ⟨rfl, hB5⟩; obtain ⟨n5, hn5⟩ : ∃ n5, w5.heap.size = n5 := ⟨_, rfl⟩; have HP5 := Lib.hid ((HPD.out).below hB5); have e6 := HP5.out.c6.1; clear hB5
                go_simp
                refine hK.out _ _ (HP5.out.c8.1) (fun hHeld => ?_)
                clear hK K
                try simp only [Act.put, List.setIfInBounds_toArray, List.set_cons_zero, List.set_cons_succ]
                refine wpAnyH_take (i := 11) (v := ?_) At.at11 (by kernel_rfl) (by kernel_rfl) (by kernel_rfl) (fun _ _ _ h => by cases h.1) (Or.inl ⟨by rfl, ?_⟩) (by assumption) ?_
                rotate_left
                · (intro w9 hSw; (try dsimp only at hSw); go_simp; try (with_reducible rfl))
                try simp only [Act.put, List.setIfInBounds_toArray, List.set_cons_zero, List.set_cons_succ]
                refine wpAnyH_take (i := 14) (v := ?_) At.at14 (by kernel_rfl) (by kernel_rfl) (by kernel_rfl) (fun _ _ _ h => by cases h.1) (Or.inl ⟨by rfl, ?_⟩) (by assumption) ?_
                rotate_left
                · (intro w9 hSw; (try dsimp only at hSw); go_simp; try (with_reducible rfl))
                try simp only [Act.put, List.setIfInBounds_toArray, List.set_cons_zero, List.set_cons_succ]
                refine wpAnyH_ready (rs := [4, 15]) (by kernel_rfl) (by simp) ?_
                refine AllReadyH.cons At.at4 (fun K hK => ?_) (AllReadyH.cons At.at15 (fun K hK => ?_) AllReadyH.nil)
                · go_simp
                  refine hK.out _ _ (HP5.out.c8.1) (fun hHeld => ?_)
                  clear hK K
                  try simp only [Act.put, List.setIfInBounds_toArray, List.set_cons_zero, List.set_cons_succ]
                  refine wpAnyH_ready (rs := [15]) (by kernel_rfl) (by simp) ?_
                  refine AllReadyH.cons At.at15 (fun K hK => ?_) AllReadyH.nil
                  go_simp
                  refine hK.out _ _ (((HP5.out.below ((Below.refl _ _).alloc (Nat.le_refl _) _)).c8.1)) (fun hHeld => ?_)
                  clear hK K
                  try simp only [Act.put, List.setIfInBounds_toArray, List.set_cons_zero, List.set_cons_succ]
                  refine wpAnyH_ready (rs := [16]) (by kernel_rfl) (by simp) ?_
                  refine AllReadyH.cons At.at16 (fun K hK => ?_) AllReadyH.nil
                  refine Copy.step_append_s w0.heap.size rfl _ _ 68 77 (.agg #[.string ⟨#[]⟩, .string ⟨#[]⟩, .int .i64 0, .int .i64 0]) 4 48 rfl Tryz.underlying68 info_pl rfl (by decide) (by decide) plE (fun _ => rfl) plE1 _ _ (x1, f, d) _ rfl HP5.out.O rfl n5 hn5.symm rfl HP5.out.be.size (by have := HCN.out; show (own.length + 1) * 48 ≤ 140737488355328; omega) ?_; intro v7 w7 hO7 ha7 hg7; obtain ⟨A7, k7, rfl⟩ : ∃ A7 k7, v7 = .slice A7 (own.length + 1) k7 := (by obtain ⟨A7, k7, e⟩ := Copy.shape hO7; exact ⟨A7, k7, by rw [e, List.length_append, List.length_singleton]⟩); have HP7 := Lib.hid (HP5.out.growO hO7 ha7 hg7); have e6 := HP7.out.1.1; have z6 := HP7.out.1.2; clear hO7 ha7 hg7
                  refine hK.out _ _ (HP7.out.2.1.1) (fun hHeld => ?_)
                  clear hK K
                  try simp only [Act.put, List.setIfInBounds_toArray, List.set_cons_zero, List.set_cons_succ]
                  refine wpAnyH_take (i := 17) (v := ?_) At.at17 (by kernel_rfl) (by kernel_rfl) (by kernel_rfl) (fun _ _ _ h => by cases h.1) (Or.inl ⟨by rfl, ?_⟩) (by assumption) ?_
                  rotate_left
                  · (intro w9 hSw; (try dsimp only at hSw); go_simp; try (with_reducible rfl))
                  try simp only [Act.put, List.setIfInBounds_toArray, List.set_cons_zero, List.set_cons_succ]
                  refine wpAnyH_take (i := 18) (v := ?_) At.at18 (by kernel_rfl) (by kernel_rfl) (by kernel_rfl) (fun _ _ _ h => by cases h.1) (Or.inl ⟨by rfl, ?_⟩) (by assumption) ?_
                  rotate_left
                  · (intro w9 hSw; (try dsimp only at hSw); go_simp; try (with_reducible rfl))
                  try simp only [Act.put, List.setIfInBounds_toArray, List.set_cons_zero, List.set_cons_succ]
                  refine wpAnyH_ready (rs := [19]) (by kernel_rfl) (by simp) ?_
                  refine AllReadyH.cons At.at19 (fun K hK => ?_) AllReadyH.nil
                  go_simp
                  refine hK.out _ _ (HP7.out.2.2.1) (fun hHeld => ?_)
                  clear hK K
                  try simp only [Act.put, List.setIfInBounds_toArray, List.set_cons_zero, List.set_cons_succ]
                  refine wpAnyH_done (by kernel_rfl) ?_ _
                  exact ⟨rfl, A7, k7, n5, w7, Lib.hid HP7.out.2.2.2, rfl, rfl⟩
                · go_simp
                  refine hK.out _ _ (((HP5.out.below ((Below.refl _ _).alloc (Nat.le_refl _) _)).c8.1)) (fun hHeld => ?_)
                  clear hK K
                  try simp only [Act.put, List.setIfInBounds_toArray, List.set_cons_zero, List.set_cons_succ]
                  refine wpAnyH_ready (rs := [4]) (by kernel_rfl) (by simp) ?_
                  refine AllReadyH.cons At.at4 (fun K hK => ?_) AllReadyH.nil
                  have e6' := fun o => (HP5.out.below ((Below.refl _ _).alloc (Nat.le_refl _) o)).c6.1; go_simp
                  refine hK.out _ _ (((HP5.out.below ((Below.refl _ _).alloc (Nat.le_refl _) _)).c8.1)) (fun hHeld => ?_)
                  clear hK K
                  try simp only [Act.put, List.setIfInBounds_toArray, List.set_cons_zero, List.set_cons_succ]
                  refine wpAnyH_ready (rs := [16]) (by kernel_rfl) (by simp) ?_
                  refine AllReadyH.cons At.at16 (fun K hK => ?_) AllReadyH.nil
                  refine Copy.step_append_s w0.heap.size rfl _ _ 68 77 (.agg #[.string ⟨#[]⟩, .string ⟨#[]⟩, .int .i64 0, .int .i64 0]) 4 48 rfl Tryz.underlying68 info_pl rfl (by decide) (by decide) plE (fun _ => rfl) plE1 _ _ (x1, f, d) _ rfl HP5.out.O rfl n5 hn5.symm rfl HP5.out.be.size (by have := HCN.out; show (own.length + 1) * 48 ≤ 140737488355328; omega) ?_; intro v7 w7 hO7 ha7 hg7; obtain ⟨A7, k7, rfl⟩ : ∃ A7 k7, v7 = .slice A7 (own.length + 1) k7 := (by obtain ⟨A7, k7, e⟩ := Copy.shape hO7; exact ⟨A7, k7, by rw [e, List.length_append, List.length_singleton]⟩); have HP7 := Lib.hid (HP5.out.growO hO7 ha7 hg7); have e6 := HP7.out.1.1; have z6 := HP7.out.1.2; clear hO7 ha7 hg7
                  refine hK.out _ _ (HP7.out.2.1.1) (fun hHeld => ?_)
                  clear hK K
                  try simp only [Act.put, List.setIfInBounds_toArray, List.set_cons_zero, List.set_cons_succ]
                  refine wpAnyH_take (i := 17) (v := ?_) At.at17 (by kernel_rfl) (by kernel_rfl) (by kernel_rfl) (fun _ _ _ h => by cases h.1) (Or.inl ⟨by rfl, ?_⟩) (by assumption) ?_
                  rotate_left
                  · (intro w9 hSw; (try dsimp only at hSw); go_simp; try (with_reducible rfl))
                  try simp only [Act.put, List.setIfInBounds_toArray, List.set_cons_zero, List.set_cons_succ]
                  refine wpAnyH_take (i := 18) (v := ?_) At.at18 (by kernel_rfl) (by kernel_rfl) (by kernel_rfl) (fun _ _ _ h => by cases h.1) (Or.inl ⟨by rfl, ?_⟩) (by assumption) ?_
                  rotate_left
                  · (intro w9 hSw; (try dsimp only at hSw); go_simp; try (with_reducible rfl))
                  try simp only [Act.put, List.setIfInBounds_toArray, List.set_cons_zero, List.set_cons_succ]
                  refine wpAnyH_ready (rs := [19]) (by kernel_rfl) (by simp) ?_
                  refine AllReadyH.cons At.at19 (fun K hK => ?_) AllReadyH.nil
                  go_simp
                  refine hK.out _ _ (HP7.out.2.2.1) (fun hHeld => ?_)
                  clear hK K
                  try simp only [Act.put, List.setIfInBounds_toArray, List.set_cons_zero, List.set_cons_succ]
                  refine wpAnyH_done (by kernel_rfl) ?_ _
                  exact ⟨rfl, A7, k7, n5, w7, Lib.hid HP7.out.2.2.2, rfl, rfl⟩
            case cont =>
              intro A7 k7 n5 w7 HP7
              have y9 := HP7.out.c9.1
              have z9 := HP7.out.c9.2
              have y10 := HP7.out.c10.1
              have z10 := HP7.out.c10.2
              generalize w7.setCell ⟨b, 6, none⟩ (.slice A7 (own.length + 1) k7) = W8 at *
              go_wp2
              go_roundw
              case rel => exact ⟨f + d, _, _, _, rfl, by omega, by have := hdr.out; omega, Lib.hid ⟨hi, by show 1 ≤ r - d; omega, by show r - d ≤ lg l i; omega⟩, Lib.hid (by have := HCC.out; unfold PS.cnt at *; simp at *; omega), Lib.hid ((HP7.out.set9 (r - d)).set10 true), Lib.hid (by rw [HR.out]; exact (HGS.out ▸ HX.out.choose_spec.1)), Lib.hid HX.out.choose_spec.2⟩
              case measure => simp [intOf]; omega
      · have HE : Hid (R = s') := Lib.hid (by rw [HR.out]; exact gpl_zero l to n f s' (fun h => hlt h.1))
        go_wp2
        go_end0
        exact ⟨rfl, v, by rw [HE.out]; exact HPr.out⟩
end Go.Proofs.YtfillnkebohciaaGreatDoor.Rn
namespace Go.Proofs.YtfillnkebohciaaGreatDoor.Rn
open Go.RowKit
open F (Fr Cl)
open T (Step stK steps_at)
open Come (tot Ok)

theorem rnP_skip (l : List Step) (wf wt af : Int) (b : Bk) (bs : List Bk) (a : Int) (s : PS) (h : min b.2.2 wt ≤ max b.2.1 wf ∨ 3000 < s.cnt) : rnP l wf wt af (b :: bs) a s = rnP l wf wt af bs a s := by rw [rnP, if_pos h]
theorem rnP_take (l : List Step) (wf wt af : Int) (b : Bk) (bs : List Bk) (a : Int) (s : PS) (F T : Int) (hF : max b.2.1 wf = F) (hT : min b.2.2 wt = T) (h : ¬ (T ≤ F ∨ 3000 < s.cnt)) : rnP l wf wt af (b :: bs) a s = rnP l wf wt af bs T { gap l wf af a F s with oth := (gap l wf af a F s).oth ++ [(b.1, F, T - F)] } := by
  subst hF hT
  rw [rnP, if_neg h]
/-- Room for what comes behind a gap. -/
theorem cnt_oth (s : PS) (p : Pl) : ({ s with oth := s.oth ++ [p] } : PS).cnt = s.cnt + 1 := by unfold PS.cnt; simp; omega
set_option maxHeartbeats 8000000 in
set_option maxRecDepth 100000 in
theorem run_any {w0 w : World} {b : Nat} {A : Option Addr} {cc : Nat} {l : List Step} {ps wf wt af : Int} {vO vX : Value} {s : PS} (h : Pw w0 w b A ⟨cc, fun _ => False, w0⟩ l ps wf wt af vO vX s) (hok : Ok l) (hl : l.length ≤ 5000) (hK : Kp l s) (hcn : s.cnt ≤ 3002) (ha : 0 ≤ wf ∧ wf ≤ wt ∧ wt ≤ 345686400000) (haf : 1 ≤ af ∧ af ≤ 4)
    (A2 : Option Addr) (c2 : Nat) (bs : List Bk) (hC : bkK.C w0 A2 bs) (hbs : ∀ x ∈ bs, 0 ≤ x.2.1 ∧ x.2.1 < x.2.2 ∧ x.2.2 ≤ 345686400000) :
    Calls Tryz.prog 86 #[.pointer (some ⟨b, 0, none⟩), .slice A2 bs.length c2] w fun e w' => e = .returned (.tuple #[]) ∧ ∃ vO' vX', Pw w0 w' b A ⟨cc, fun _ => False, w0⟩ l ps wf wt af vO' vX' (rnP l wf wt af bs wf s) := by
  have hn : l ≠ [] := fun e => by have := hK.1; rw [e] at this; simp at this
  obtain ⟨ha0, ha1, ha2⟩ := ha
  have HP := Lib.hid h
  have HK := Lib.hid hK
  have HCN1 := Lib.hid hcn
  have HL := Lib.hid hl
  have HOK := Lib.hid hok
  have HNE := Lib.hid hn
  have HBS := Lib.hid hbs
  have L2 := hC.1
  have f3 := h.c3.1
  have HCB := Lib.hid (fun W (hb : Below w0.heap.size w0 W) k hk => bk_at (hC.mono hb) k hk)
  obtain ⟨R, hR⟩ : ∃ R, rnP l wf wt af bs wf s = R := ⟨_, rfl⟩
  rw [hR]
  have HR := Lib.hid hR.symm
  have HAF := Lib.hid haf
  clear h hK hcn hl hok hn hbs hR hC haf
  go_enter Tryz.func86, Tryz.ntmps86
  go_wp2
  clear f3
  go_loopw [4, 16] (fun s4 s16 wr => ∃ (k : Nat) (a : Int) (s' : PS) (v vx : Value), s16 = .int .i64 k ∧ k ≤ bs.length ∧ s4 = .int .i64 a ∧ wf ≤ a ∧ a ≤ 345686400000 ∧ Hid (Kp l s') ∧ Hid (s'.cnt ≤ 3002) ∧ Hid (Pw w0 wr b A ⟨cc, fun _ => False, w0⟩ l ps wf wt af v vx s') ∧ Hid (R = rnP l wf wt af (bs.drop k) a s')) (fun _ s16 _ => bs.length - (intOf s16).toNat)
  case atStart => exact ⟨0, wf, s, vO, vX, rfl, Nat.zero_le _, rfl, by omega, by omega, HK, HCN1, HP, HR⟩
  case round =>
    obtain ⟨k, a, s', v, vx, rfl, hk, rfl, hw1, hw2, HKr, HCr, HPr, HRr⟩ := hrel
    clear HP HK HCN1 HR
    by_cases hlt : k < bs.length
    · obtain ⟨b1', o1, rfl, g0, g1, g2⟩ := HCB.out wr HPr.out.be k hlt
      have hk1 : (k : Int) < bs.length := by omega
      obtain ⟨q1, q2, q3⟩ := HBS.out _ (List.getElem_mem hlt)
      have HD : Hid (bs.drop k = bs[k] :: bs.drop (k + 1)) := Lib.hid (List.drop_eq_getElem_cons hlt)
      generalize hbk : bs[k] = bk at *
      obtain ⟨b1, bf, bt⟩ := bk
      simp only [] at g0 g1 g2 q1 q2 q3
      obtain ⟨F, hF⟩ : ∃ F, max bf wf = F := ⟨_, rfl⟩
      obtain ⟨T, hT⟩ : ∃ T, min bt wt = T := ⟨_, rfl⟩
      have HF : Hid (max bf wf = F) := Lib.hid hF
      have HT : Hid (min bt wt = T) := Lib.hid hT
      have hF1 : wf ≤ F := by have := HF.out; omega
      have hF2 : F ≤ 345686400000 := by have := HF.out; omega
      have hT1 : T ≤ 345686400000 := by have := HT.out; omega
      have hT2 : 0 ≤ T := by have := HT.out; omega
      have HBA := Lib.hid (fun c o => ((Below.refl _ wr).alloc (Nat.le_refl _) (.cells c o)))
      have HN2 : Hid (∀ (c : Array Value) (o : TypeId) (i : Nat) (u : Value), c[i]? = some u → (wr.alloc (.cells c o)).cell? ⟨wr.heap.size, i, none⟩ = some u) := Lib.hid (fun c o i u hc => by rw [World.cell?_alloc_new]; exact hc)
      have f3 := fun c o => (HPr.out.below (HBA.out c o)).c3.1
      have f4 := fun c o => (HPr.out.below (HBA.out c o)).c4.1
      clear hbk
      by_cases hsk : T ≤ F
      · have HE : Hid (R = rnP l wf wt af (bs.drop (k + 1)) a s') := Lib.hid (by rw [HRr.out, HD.out]; exact rnP_skip l wf wt af _ _ a s' (.inl (by rw [HF.out, HT.out]; exact hsk)))
        go_wp2
        have i1 := HN2.out #[.string b1, .int .i64 bf, .int .i64 bt] 34 1 _ rfl
        have i2 := HN2.out #[.string b1, .int .i64 bf, .int .i64 bt] 34 2 _ rfl
        go_quiet (fail)
        go_wp2
        go_roundw
        case rel => exact ⟨k + 1, a, s', v, vx, by go_num, by omega, rfl, by omega, by omega, HKr, HCr, Lib.hid (HPr.out.below (B.below_drew (HBA.out _ _) _)), HE⟩
        case measure => simp [intOf]; omega
      · by_cases hfu : 3000 < s'.cnt
        · have HE : Hid (R = rnP l wf wt af (bs.drop (k + 1)) a s') := Lib.hid (by rw [HRr.out, HD.out]; exact rnP_skip l wf wt af _ _ a s' (.inr hfu))
          have cf := fun W (hb : Below wr.heap.size wr W) => full (HPr.out.below hb) (by have := HCr.out; omega) true (decide_eq_true hfu)
          have CF := Lib.hid cf
          clear cf hfu
          go_wp2
          have i1 := HN2.out #[.string b1, .int .i64 bf, .int .i64 bt] 34 1 _ rfl
          have i2 := HN2.out #[.string b1, .int .i64 bf, .int .i64 bt] 34 2 _ rfl
          go_quiet (fail)
          go_wp2_with (go_at_call 87; refine (CF.out _ (B.below_drew (HBA.out _ _) _)).mono ?_; rintro e w2 ⟨rfl, q, rfl⟩)
          go_roundw
          case rel => exact ⟨k + 1, a, s', v, vx, by go_num, by omega, rfl, by omega, by omega, HKr, HCr, Lib.hid (HPr.out.below (B.below_drew (HBA.out _ _) _)), HE⟩
          case measure => simp [intOf]; omega
        · have HE := Lib.hid (show R = rnP l wf wt af (bs.drop (k + 1)) T { gap l wf af a F s' with oth := (gap l wf af a F s').oth ++ [(b1, F, T - F)] } by rw [HRr.out, HD.out]; exact rnP_take l wf wt af (b1, bf, bt) _ a s' F T HF.out HT.out (by omega))
          have CF := Lib.hid (fun W (hb : Below wr.heap.size wr W) => full (HPr.out.below hb) (by have := HCr.out; omega) false (decide_eq_false hfu))
          have HLT := Lib.hid (HPr.out.lt)
          have HVX := Lib.hid (fun g (e : vx.ownBlock = some g) => ((World.ownsRow.lt (HPr.out.X : wr.ownsRow _ _ _ _ _ _) g e).2))
          have HVO := Lib.hid (fun g (e : v.ownBlock = some g) => ((World.ownsRow.lt (HPr.out.O : wr.ownsRow _ _ _ _ _ _) g e).2))
          have CG := Lib.hid (fun W (hb : Below wr.heap.size wr W) (hW : wr.heap.size < W.heap.size) => gap_any ((HPr.out.below hb).keep wr.heap.size hW (by have := HLT.out; omega) (fun e => by have := HVO.out _ e; omega) (fun e => by have := HVX.out _ e; omega)) HOK.out HL.out HKr.out.1 (by have := HCr.out; omega) a F ⟨ha0, hw1, hw2⟩ ⟨by omega, hF2⟩ HAF.out (fun _ => (gOn_G HOK.out HNE.out HKr.out).1))
          have HK2 := Lib.hid (gap_K HOK.out HNE.out (wf := wf) (af := af) (f := a) (to := F) HKr.out)
          have HC2 : Hid ((gap l wf af a F s').cnt ≤ 3001) := Lib.hid (by have := gap_cnt (l := l) wf af a F s'; omega)
          generalize gap l wf af a F s' = sG at *
          have HCN : Hid (sG.oth.length ≤ 3001) := Lib.hid (by have := HC2.out; unfold PS.cnt at this; omega)
          have hTF1 : 0 ≤ T - F := by omega
          have hTF2 : T - F ≤ 345686400000 := by omega
          have hTW : IntKind.i64.wrap (T - F) = T - F := by rw [IntKind.wrap_i64]; omega
          have hsk' : F < T := by omega
          clear hfu hsk
          go_wp2
          have i1 := HN2.out #[.string b1, .int .i64 bf, .int .i64 bt] 34 1 _ rfl
          have i2 := HN2.out #[.string b1, .int .i64 bf, .int .i64 bt] 34 2 _ rfl
          go_quiet (fail)
          go_upto_region 7 with (first
            | (go_at_call 87; refine (CF.out _ (B.below_drew (HBA.out _ _) _)).mono ?_; rintro e w2 ⟨rfl, q, rfl⟩)
            | (go_at_call 117; refine (CG.out _ (B.below_drew (HBA.out _ _) _) (by simp)).mono ?_; rintro e w3 ⟨rfl, vO3, hP3⟩; have HP3 := Lib.hid hP3; clear hP3))
          have HX3 : Hid (w3.heap[wr.heap.size]? = some (.cells #[.string b1, .int .i64 bf, .int .i64 bt] 34 (0, 0))) := Lib.hid ((HP3.out.kp _ rfl).2.trans (heap_alloc_new wr _))
          clear i1 i2 f3 f4 g0 g1 g2
          have HPD : Hid (Pw w0 w3.drew b A ⟨cc, fun _ => False, w0⟩ l ps wf wt af vO3 vx sG) := Lib.hid ((HP3.out.below (B.below_drew (Below.refl _ _) 1)).forget)
          have HBX0 : Hid (w3.drew.cell? ⟨wr.heap.size, 0, none⟩ = some (.string b1)) := Lib.hid ((cell_of_row w3 _ 0 _ _ _ HX3.out).trans rfl)
          have HBL : Hid (∀ o, (w3.drew.alloc o).cell? ⟨wr.heap.size, 0, none⟩ = some (.string b1)) := Lib.hid (fun o => B.cell_below ((Below.refl _ _).alloc (Nat.le_refl _) o) HBX0.out)
          have HBX : Hid (∀ w7, Fr (fun j => vx.ownBlock = some j) w3.drew w7 → w7.cell? ⟨wr.heap.size, 0, none⟩ = some (.string b1) ∧ ∀ u, (w7.setCell ⟨b, 7, none⟩ u).cell? ⟨wr.heap.size, 0, none⟩ = some (.string b1)) := Lib.hid (fun w7 hf => by
            have h1 := hf.cell (fun (e : vx.ownBlock = some wr.heap.size) => by have := HVX.out _ e; omega) HBX0.out
            exact ⟨h1, fun u => by rw [World.cell?_setCell_other _ _ _ _ (by simp)]; exact h1⟩)
          apply wp_mid (R := fun A7 k7 _ w7 => Hid (Pw w0 (w7.setCell ⟨b, 7, none⟩ (.slice A7 (sG.oth.length + 1) k7)) b A ⟨cc, fun _ => False, w0⟩ l ps wf wt af vO3 (.slice A7 (sG.oth.length + 1) k7) { sG with oth := sG.oth ++ [(b1, F, T - F)] })) (V := fun A7 k7 w7 => w7.setCell ⟨b, 7, none⟩ (.slice A7 (sG.oth.length + 1) k7))
          case walk =>
            obtain ⟨n5, hn5⟩ : ∃ n5, w3.heap.size = n5 := ⟨_, rfl⟩
            refine wp_region_held_drew (S := fun w' => w'.cell? ⟨wr.heap.size, 0, none⟩ = some (.string b1)) (by kernel_rfl) (HBX0.out) (fun hHeld => ?_)
            refine wpAnyH_take (i := 0) (v := ?_) At.at0 (by kernel_rfl) (by kernel_rfl) (by kernel_rfl) (fun _ _ _ h => by cases h.1) (Or.inl ⟨by rfl, ?_⟩) (by assumption) ?_
            rotate_left
            · (intro w9 hSw; (try dsimp only at hSw); go_simp; try (with_reducible rfl))
            try simp only [Act.put, List.setIfInBounds_toArray, List.set_cons_zero, List.set_cons_succ]
            refine wpAnyH_take (i := 1) (v := ?_) At.at1 (by kernel_rfl) (by kernel_rfl) (by kernel_rfl) (fun _ _ _ h => by cases h.1) (Or.inl ⟨by rfl, ?_⟩) (by assumption) ?_
            rotate_left
            · (intro w9 hSw; (try dsimp only at hSw); go_simp; try (with_reducible rfl))
            try simp only [Act.put, List.setIfInBounds_toArray, List.set_cons_zero, List.set_cons_succ]
            refine wpAnyH_take (i := 2) (v := ?_) At.at2 (by kernel_rfl) (by kernel_rfl) (by kernel_rfl) (fun _ _ _ h => by cases h.1) (Or.inl ⟨by rfl, ?_⟩) (by assumption) ?_
            rotate_left
            · (intro w9 hSw; (try dsimp only at hSw); go_simp; try (with_reducible rfl))
            try simp only [Act.put, List.setIfInBounds_toArray, List.set_cons_zero, List.set_cons_succ]
            refine wpAnyH_take (i := 3) (v := ?_) At.at3 (by kernel_rfl) (by kernel_rfl) (by kernel_rfl) (fun _ _ _ h => by cases h.1) (Or.inl ⟨by rfl, ?_⟩) (by assumption) ?_
            rotate_left
            · (intro w9 hSw; (try dsimp only at hSw); go_simp; try (with_reducible rfl))
            try simp only [Act.put, List.setIfInBounds_toArray, List.set_cons_zero, List.set_cons_succ]
            refine wpAnyH_take (i := 5) (v := ?_) At.at5 (by kernel_rfl) (by kernel_rfl) (by kernel_rfl) (fun _ _ _ h => by cases h.1) (Or.inl ⟨by rfl, ?_⟩) (by assumption) ?_
            rotate_left
            · (intro w9 hSw; (try dsimp only at hSw); go_simp; try (with_reducible rfl))
            try simp only [Act.put, List.setIfInBounds_toArray, List.set_cons_zero, List.set_cons_succ]
            refine wpAnyH_take (i := 6) (v := ?_) At.at6 (by kernel_rfl) (by kernel_rfl) (by kernel_rfl) (fun _ _ _ h => by cases h.1) (Or.inl ⟨by rfl, ?_⟩) (by assumption) ?_
            rotate_left
            · (intro w9 hSw; (try dsimp only at hSw); go_simp; try (with_reducible rfl))
            try simp only [Act.put, List.setIfInBounds_toArray, List.set_cons_zero, List.set_cons_succ]
            refine wpAnyH_take (i := 7) (v := ?_) At.at7 (by kernel_rfl) (by kernel_rfl) (by kernel_rfl) (fun _ _ _ h => by cases h.1) (Or.inl ⟨by rfl, ?_⟩) (by assumption) ?_
            rotate_left
            · (intro w9 hSw; (try dsimp only at hSw); go_simp; try (with_reducible rfl))
            try simp only [Act.put, List.setIfInBounds_toArray, List.set_cons_zero, List.set_cons_succ]
            refine wpAnyH_take (i := 8) (v := ?_) At.at8 (by kernel_rfl) (by kernel_rfl) (by kernel_rfl) (fun _ _ _ h => by cases h.1) (Or.inl ⟨by rfl, ?_⟩) (by assumption) ?_
            rotate_left
            · (intro w9 hSw; (try dsimp only at hSw); go_simp; try (with_reducible rfl))
            try simp only [Act.put, List.setIfInBounds_toArray, List.set_cons_zero, List.set_cons_succ]
            refine wpAnyH_take (i := 9) (v := ?_) At.at9 (by kernel_rfl) (by kernel_rfl) (by kernel_rfl) (fun _ _ _ h => by cases h.1) (Or.inl ⟨by rfl, ?_⟩) (by assumption) ?_
            rotate_left
            · (intro w9 hSw; (try dsimp only at hSw); go_simp; try (with_reducible rfl))
            try simp only [Act.put, List.setIfInBounds_toArray, List.set_cons_zero, List.set_cons_succ]
            refine wpAnyH_take (i := 10) (v := ?_) At.at10 (by kernel_rfl) (by kernel_rfl) (by kernel_rfl) (fun _ _ _ h => by cases h.1) (Or.inl ⟨by rfl, ?_⟩) (by assumption) ?_
            rotate_left
            · (intro w9 hSw; (try dsimp only at hSw); go_simp; try (with_reducible rfl))
            try simp only [Act.put, List.setIfInBounds_toArray, List.set_cons_zero, List.set_cons_succ]
            refine wpAnyH_take (i := 11) (v := ?_) At.at11 (by kernel_rfl) (by kernel_rfl) (by kernel_rfl) (fun _ _ _ h => by cases h.1) (Or.inl ⟨by rfl, ?_⟩) (by assumption) ?_
            rotate_left
            · (intro w9 hSw; (try dsimp only at hSw); go_simp; try (with_reducible rfl))
            try simp only [Act.put, List.setIfInBounds_toArray, List.set_cons_zero, List.set_cons_succ]
            refine wpAnyH_ready (rs := [4, 12]) (by kernel_rfl) (by simp) ?_
            refine AllReadyH.cons At.at4 (fun K hK => ?_) (AllReadyH.cons At.at12 (fun K hK => ?_) AllReadyH.nil)
            · have e7 := HP3.out.c7.1
              go_simp
              refine hK.out _ _ (HBX0.out) (fun hHeld => ?_)
              clear hK K
              try simp only [Act.put, List.setIfInBounds_toArray, List.set_cons_zero, List.set_cons_succ]
              refine wpAnyH_ready (rs := [12]) (by kernel_rfl) (by simp) ?_
              refine AllReadyH.cons At.at12 (fun K hK => ?_) AllReadyH.nil
              go_simp
              refine hK.out _ _ ((HBL.out _)) (fun hHeld => ?_)
              clear hK K
              try simp only [Act.put, List.setIfInBounds_toArray, List.set_cons_zero, List.set_cons_succ]
              refine wpAnyH_ready (rs := [13]) (by kernel_rfl) (by simp) ?_
              refine AllReadyH.cons At.at13 (fun K hK => ?_) AllReadyH.nil
              refine Copy.step_append_s w0.heap.size rfl _ _ 68 77 (.agg #[.string ⟨#[]⟩, .string ⟨#[]⟩, .int .i64 0, .int .i64 0]) 4 48 rfl Tryz.underlying68 info_pl rfl (by decide) (by decide) plE (fun _ => rfl) plE1 _ _ (b1, F, T - F) _ rfl HPD.out.X rfl n5 hn5.symm rfl HPD.out.be.size (by have := HCN.out; omega) ?_; intro v7 w7 hO7 ha7 hg7; obtain ⟨A7, k7, rfl⟩ : ∃ A7 k7, v7 = .slice A7 (sG.oth.length + 1) k7 := (by obtain ⟨A7, k7, e⟩ := Copy.shape hO7; exact ⟨A7, k7, by rw [e, List.length_append, List.length_singleton]⟩); have HP7 := Lib.hid (HPD.out.growX hO7 ha7 hg7); have e7 := HP7.out.1.1; have z7 := HP7.out.1.2; have HB7 := Lib.hid (HBX.out _ HP7.out.2.1); clear hO7 ha7 hg7
              refine hK.out _ _ (HB7.out.1) (fun hHeld => ?_)
              clear hK K
              try simp only [Act.put, List.setIfInBounds_toArray, List.set_cons_zero, List.set_cons_succ]
              refine wpAnyH_take (i := 14) (v := ?_) At.at14 (by kernel_rfl) (by kernel_rfl) (by kernel_rfl) (fun _ _ _ h => by cases h.1) (Or.inl ⟨by rfl, ?_⟩) (by assumption) ?_
              rotate_left
              · (intro w9 hSw; (try dsimp only at hSw); go_simp; try (with_reducible rfl))
              try simp only [Act.put, List.setIfInBounds_toArray, List.set_cons_zero, List.set_cons_succ]
              refine wpAnyH_take (i := 15) (v := ?_) At.at15 (by kernel_rfl) (by kernel_rfl) (by kernel_rfl) (fun _ _ _ h => by cases h.1) (Or.inl ⟨by rfl, ?_⟩) (by assumption) ?_
              rotate_left
              · (intro w9 hSw; (try dsimp only at hSw); go_simp; try (with_reducible rfl))
              try simp only [Act.put, List.setIfInBounds_toArray, List.set_cons_zero, List.set_cons_succ]
              refine wpAnyH_ready (rs := [16]) (by kernel_rfl) (by simp) ?_
              refine AllReadyH.cons At.at16 (fun K hK => ?_) AllReadyH.nil
              go_simp
              refine hK.out _ _ (HB7.out.2 _) (fun hHeld => ?_)
              clear hK K
              try simp only [Act.put, List.setIfInBounds_toArray, List.set_cons_zero, List.set_cons_succ]
              refine wpAnyH_done (by kernel_rfl) ?_ _
              exact ⟨rfl, A7, k7, n5, w7, Lib.hid HP7.out.2.2, rfl, rfl⟩
            · go_simp
              refine hK.out _ _ ((HBL.out _)) (fun hHeld => ?_)
              clear hK K
              try simp only [Act.put, List.setIfInBounds_toArray, List.set_cons_zero, List.set_cons_succ]
              refine wpAnyH_ready (rs := [4]) (by kernel_rfl) (by simp) ?_
              refine AllReadyH.cons At.at4 (fun K hK => ?_) AllReadyH.nil
              have e7' := fun o => (HP3.out.below ((Below.refl _ _).alloc (Nat.le_refl _) o)).c7.1; have e7a : ∀ o, (w3.alloc o).drew.cell? ⟨b, 7, none⟩ = some vx := e7'; have e7b : ∀ o, (w3.drew.alloc o).cell? ⟨b, 7, none⟩ = some vx := fun o => (HPD.out.below ((Below.refl _ _).alloc (Nat.le_refl _) o)).c7.1; go_simp
              refine hK.out _ _ ((HBL.out _)) (fun hHeld => ?_)
              clear hK K
              try simp only [Act.put, List.setIfInBounds_toArray, List.set_cons_zero, List.set_cons_succ]
              refine wpAnyH_ready (rs := [13]) (by kernel_rfl) (by simp) ?_
              refine AllReadyH.cons At.at13 (fun K hK => ?_) AllReadyH.nil
              refine Copy.step_append_s w0.heap.size rfl _ _ 68 77 (.agg #[.string ⟨#[]⟩, .string ⟨#[]⟩, .int .i64 0, .int .i64 0]) 4 48 rfl Tryz.underlying68 info_pl rfl (by decide) (by decide) plE (fun _ => rfl) plE1 _ _ (b1, F, T - F) _ rfl HPD.out.X rfl n5 hn5.symm rfl HPD.out.be.size (by have := HCN.out; omega) ?_; intro v7 w7 hO7 ha7 hg7; obtain ⟨A7, k7, rfl⟩ : ∃ A7 k7, v7 = .slice A7 (sG.oth.length + 1) k7 := (by obtain ⟨A7, k7, e⟩ := Copy.shape hO7; exact ⟨A7, k7, by rw [e, List.length_append, List.length_singleton]⟩); have HP7 := Lib.hid (HPD.out.growX hO7 ha7 hg7); have e7 := HP7.out.1.1; have z7 := HP7.out.1.2; have HB7 := Lib.hid (HBX.out _ HP7.out.2.1); clear hO7 ha7 hg7
              refine hK.out _ _ (HB7.out.1) (fun hHeld => ?_)
              clear hK K
              try simp only [Act.put, List.setIfInBounds_toArray, List.set_cons_zero, List.set_cons_succ]
              refine wpAnyH_take (i := 14) (v := ?_) At.at14 (by kernel_rfl) (by kernel_rfl) (by kernel_rfl) (fun _ _ _ h => by cases h.1) (Or.inl ⟨by rfl, ?_⟩) (by assumption) ?_
              rotate_left
              · (intro w9 hSw; (try dsimp only at hSw); go_simp; try (with_reducible rfl))
              try simp only [Act.put, List.setIfInBounds_toArray, List.set_cons_zero, List.set_cons_succ]
              refine wpAnyH_take (i := 15) (v := ?_) At.at15 (by kernel_rfl) (by kernel_rfl) (by kernel_rfl) (fun _ _ _ h => by cases h.1) (Or.inl ⟨by rfl, ?_⟩) (by assumption) ?_
              rotate_left
              · (intro w9 hSw; (try dsimp only at hSw); go_simp; try (with_reducible rfl))
              try simp only [Act.put, List.setIfInBounds_toArray, List.set_cons_zero, List.set_cons_succ]
              refine wpAnyH_ready (rs := [16]) (by kernel_rfl) (by simp) ?_
              refine AllReadyH.cons At.at16 (fun K hK => ?_) AllReadyH.nil
              go_simp
              refine hK.out _ _ (HB7.out.2 _) (fun hHeld => ?_)
              clear hK K
              try simp only [Act.put, List.setIfInBounds_toArray, List.set_cons_zero, List.set_cons_succ]
              refine wpAnyH_done (by kernel_rfl) ?_ _
              exact ⟨rfl, A7, k7, n5, w7, Lib.hid HP7.out.2.2, rfl, rfl⟩
          case cont =>
            intro A7 k7 n7 w7 HP7
            go_wp2
            go_roundw
            case rel => exact ⟨k + 1, T, ({ sG with oth := sG.oth ++ [(b1, F, T - F)] } : PS), vO3, _, by go_num, by omega, rfl, by omega, by omega, Lib.hid HK2.out, Lib.hid (by rw [cnt_oth]; have := HC2.out; omega), HP7, HE⟩
            case measure => simp [intOf]; omega
    · obtain rfl : k = bs.length := by omega
      have HE : Hid (R = gap l wf af a wt s') := Lib.hid (by rw [HRr.out, List.drop_length]; rfl)
      have cg := gap_any HPr.out HOK.out HL.out HKr.out.1 (by have := HCr.out; omega) a wt ⟨ha0, hw1, hw2⟩ ⟨by omega, by omega⟩ HAF.out (fun _ => (gOn_G HOK.out HNE.out HKr.out).1)
      have CG := Lib.hid cg
      have f4 := HPr.out.c4.1
      clear cg HRr
      go_wp2_with (go_at_call 117; refine CG.out.mono ?_; rintro e w3 ⟨rfl, vO3, hP3⟩; have HP3 := Lib.hid hP3; clear hP3)
      go_end0
      exact ⟨rfl, vO3, vx, by rw [HE.out]; exact HP3.out⟩
end Go.Proofs.YtfillnkebohciaaGreatDoor.Rn
