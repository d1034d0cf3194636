/- A pass of a tree: the program's. -/
import Derived.Test.YtfillnkebohciaaGreatDoorPlay
import Derived.Deep.RegionLaw
import Derived.StillTailTactics
namespace Go.Proofs.YtfillnkebohciaaGreatDoor.T
open Go.RowKit
open L (Lp row row1 At AtR lv kdL kid_at)
open F (Fr Cl)

def stE (s : Step) : List Value := [.string s.1, .int .i64 s.2]
theorem stE1 : ∀ x : Step, ∀ v ∈ stE x, v.oneCell' = true := by intro x v hv; simp [stE] at hv; rcases hv with rfl | rfl <;> rfl
theorem info_step : (Tryz.prog.info? 48).map (fun i => (i.zero, i.size, i.bytes)) = some (some (.agg #[.string ⟨#[]⟩, .int .i64 0]), 2, 24) := by kernel_rfl
/-- Where what was played is: the variable, and from where on its row lies. -/
structure Ob where
  o : Nat
  bs : Nat
/-- What was played, in a variable at ob. -/
def OutV (tst : Bool) (w : World) (ob : Ob) (v : Value) (l : List Step) : Prop := Cl w ob.o 0 v ∧ (tst = true → Cl w ob.o 1 (.int .i64 5000)) ∧ B.Own w ob.bs 48 2 stE v l ∧ ob.bs ≤ w.heap.size
def NewV (w : World) (v v' : Value) : Prop := v'.ownBlock = v.ownBlock ∨ ∀ g, v'.ownBlock = some g → w.heap.size ≤ g
theorem NewV.trans {w w' : World} {v v' v'' : Value} (h : NewV w v v') (h' : NewV w' v' v'') (hs : w.heap.size ≤ w'.heap.size) : NewV w v v'' := by
  rcases h' with h' | h'
  · rcases h with h | h
    · exact .inl (h'.trans h)
    · exact .inr fun g e => h g (h' ▸ e)
  · exact .inr fun g e => Nat.le_trans hs (h' g e)
theorem OutV.fr {tst : Bool} {w w' : World} {ob : Ob} {v : Value} {l : List Step} {S : Nat → Prop} (h : OutV tst w ob v l) (hf : Fr S w w') (h1 : ¬ S ob.o) (h2 : ∀ g, v.ownBlock = some g → ¬ S g) : OutV tst w' ob v l := by
  refine ⟨h.1.fr hf h1, fun ht => (h.2.1 ht).fr hf h1, ?_⟩
  have hlt := World.ownsRow.lt h.2.2.1
  refine ⟨⟨h.2.2.1.1, ?_⟩, Nat.le_trans h.2.2.2 hf.size⟩
  rcases h.2.2.1.2 with hn | ⟨g, cap, cur, rfl, h3, h4, rest⟩
  · exact Or.inl hn
  · exact Or.inr ⟨g, cap, cur, rfl, h3, (hf.block g (hlt g rfl).2 (h2 g rfl)).trans h4, rest⟩
theorem OutV.below {tst : Bool} {w w' : World} {ob : Ob} {v : Value} {l : List Step} (h : OutV tst w ob v l) (hb : Below w.heap.size w w') : OutV tst w' ob v l := h.fr (S := fun _ => False) (Fr.of_below hb) (fun h => h) (fun _ _ h => h)
/-- A node's number changes. -/
theorem Nd.setHad {tst : Bool} {w0 w : World} {lo hi : Nat} {x : Lp} {b : Nat} {had : Int} {cnt : List Int} {f : Fm} (h : Nd tst w0 w lo hi x b had cnt f) (n : Int) : Nd tst w0 (w.setCell ⟨b, 7, none⟩ (.int .i64 n)) lo hi x b n cnt f :=
  have hf : Fr (fun k => k = b) w (w.setCell ⟨b, 7, none⟩ (.int .i64 n)) := Fr.set (p := ⟨b, 7, none⟩) (Fr.refl (fun k => k = b) w) (fun _ => rfl) _
  { h with
    hiw := Nat.le_trans h.hiw hf.size
    rw := fun i u hi => (h.rw i u hi).set_ne (by
      have hl : i < 6 := (List.getElem?_eq_some_iff.1 hi).1
      intro e
      cases e
      omega) _
    c6 := h.c6.set_ne (by intro e; cases e) _
    c7 := h.c7.set _
    c8 := h.c8.set_ne (by intro e; cases e) _
    c9 := fun ht => (h.c9 ht).set_ne (by intro e; cases e) _
    oe := fun j hj => (h.oe j hj).fr hf h.go.2.2
    ke := fun j hj => hf.cell (h.gk (by rw [← h.kl]; omega)).2.2.2.1 (h.ke j hj) }
set_option maxHeartbeats 4000000 in
set_option maxRecDepth 100000 in
theorem pass_item (w0 w : World) (lo hi : Nat) (x : Lp) (b : Nat) (had : Int) (cnt : List Int) (f : Fm) (h : Nd true w0 w lo hi x b had cnt f) (hk : x.kind = 1) (ob : Ob) (v : Value) (l : List Step) (hob : ((ob.o < lo ∨ hi ≤ ob.o) ∧ hi ≤ ob.bs ∧ ob.o < ob.bs)) (ho : OutV true w ob v l) (hl : l.length ≤ 5000) :
    Calls Tryz.prog 80 #[.pointer (some ⟨b, 0, none⟩), .pointer (some ⟨ob.o, 0, none⟩)] w fun e w' => e = .returned (.tuple #[]) ∧ ∃ v', NewV w v v' ∧ OutV true w' ob v' (l ++ [(x.item, x.long)]) ∧ Nd true w0 w' lo hi x b (w64 (had + 1)) cnt f ∧ Fr (fun k => k = b ∨ k = ob.o ∨ v.ownBlock = some k) w w' := by
  obtain ⟨A, n, c, rfl⟩ : ∃ A n c, v = .slice A n c := by obtain ⟨A, c, e⟩ := Copy.shape ho.2.2.1; exact ⟨A, _, c, e⟩
  have HN : Hid (n = l.length) := Lib.hid (by obtain ⟨A', c', e⟩ := Copy.shape ho.2.2.1; cases e; rfl)
  have HH := Lib.hid h
  have HO := Lib.hid ho
  have HL := Lib.hid hl
  have HOB := Lib.hid hob
  have g0 := ho.1.1
  have z0 := ho.1.2
  have g0' : ∀ q o, ((w.drewN q).alloc o).cell? ⟨ob.o, 0, none⟩ = some (.slice A n c) := fun q o => B.cell_below (B.below_trans (B.below_drew (Below.refl _ w) q) ((Below.refl _ _).alloc (Nat.le_refl _) o)) ho.1.1
  have g1 := (ho.2.1 rfl).1
  have f0 : w.cell? ⟨b, 0, none⟩ = some (.int .i64 1) := by rw [← hk]; exact (h.rw 0 _ rfl).1
  have f1 := (h.rw 1 _ rfl).1
  have f2 := (h.rw 2 _ rfl).1
  have f7 := h.c7.1
  have z7 := h.c7.2
  have cf := full ob.o A n c 5000 w g0 g1
  have hle : decide ((5000 : Int) < n) = false := decide_eq_false (by rw [HN.out]; omega)
  have HQ : Hid (∀ (W w8 : World), Below w.heap.size w W → Fr (fun k => (Value.slice A n c).ownBlock = some k) W w8 → Cl w8 ob.o 0 (.slice A n c)) := Lib.hid (fun W w8 hb hf => (ho.1.below hb).fr hf (fun e => by have := (World.ownsRow.lt ho.2.2.1 _ e).1; have := hob; omega))
  clear h ho hl hob hk
  go_enter Tryz.func80, Tryz.ntmps80
  go_wp2_with (go_at_call 81; refine cf.mono ?_; rintro e w1 ⟨rfl, q, rfl⟩)
  go_region_law (first
    | (refine Copy.step_append_s ob.bs (by rfl) _ _ 44 48 (.agg #[.string ⟨#[]⟩, .int .i64 0]) 2 24 (by rfl) Tryz.underlying44 info_step rfl (by decide) (by decide) stE (fun _ => rfl) stE1 (.slice A n c) l (x.item, x.long) _ (by rfl) HO.out.2.2.1 (by rfl) _ (by rfl) (by rfl) (by have := HO.out.2.2.2; simpa using this) (by have := HL.out; omega) ?_; intro v8 w8 hO8 hOB8 HG8; obtain ⟨A8, c8, rfl⟩ : ∃ A8 c8, v8 = .slice A8 (l.length + 1) c8 := (by obtain ⟨A8, c8, e⟩ := Copy.shape hO8; exact ⟨A8, c8, by rw [e, List.length_append]; rfl⟩); have HO8 := Lib.hid hO8; have HOB8 := Lib.hid hOB8; clear hO8 hOB8; have HF8 := Lib.hid (((Fr.refl (fun b => (Value.slice A n c).ownBlock = some b) _).alloc _).grown HG8 (fun g e _ => e)); clear HG8; have Z8 := (HQ.out _ w8 (by first | exact B.below_drew (B.below_drew (Below.refl _ _) _) 1 | exact B.below_drew (Below.refl _ _) _) HF8.out).1; have Z9 := (HQ.out _ w8 (by first | exact B.below_drew (B.below_drew (Below.refl _ _) _) 1 | exact B.below_drew (Below.refl _ _) _) HF8.out).2))
  all_goals
    have HFW : Hid (Fr (fun k => k = ob.o ∨ (Value.slice A n c).ownBlock = some k) w (w8.setCell ⟨ob.o, 0, none⟩ (.slice A8 (l.length + 1) c8))) := Lib.hid (Fr.set (p := ⟨ob.o, 0, none⟩) ((Fr.of_below (S := fun k => k = ob.o ∨ (Value.slice A n c).ownBlock = some k) (B.below_drew (Below.refl _ w) _)).trans HF8.out (fun _ _ h => .inr h)) (fun _ => .inl rfl) _)
    have HLT : Hid (∀ g, (Value.slice A n c).ownBlock = some g → ob.bs ≤ g ∧ g < w.heap.size) := Lib.hid (fun g e => World.ownsRow.lt HO.out.2.2.1 g e)
    have HND : Hid (Nd true w0 (w8.setCell ⟨ob.o, 0, none⟩ (.slice A8 (l.length + 1) c8)) lo hi x b had cnt f) := Lib.hid (HH.out.fr HFW.out
      (fun h => by have := HH.out.bhi; have := HH.out.lob; have := HOB.out; rcases h with h | h; omega; have := (HLT.out _ h).1; omega)
      (fun h => by have := HH.out.go.2.1; have := HH.out.go.1; have := HOB.out; rcases h with h | h; omega; have := (HLT.out _ h).1; omega)
      (fun hp h => by have := (HH.out.gk hp).2.2.1; have := (HH.out.gk hp).2.1; have := HOB.out; rcases h with h | h; omega; have := (HLT.out _ h).1; omega))
    have y7 := HND.out.c7.1
    have x7 := HND.out.c7.2
    have HO9 : Hid (OutV true (w8.setCell ⟨ob.o, 0, none⟩ (.slice A8 (l.length + 1) c8)) ob (.slice A8 (l.length + 1) c8) (l ++ [(x.item, x.long)])) := Lib.hid ⟨(HQ.out _ w8 (B.below_drew (Below.refl _ _) _) HF8.out).set _, fun _ => ((((HO.out.2.1 rfl).below (B.below_drew (Below.refl _ w) _)).fr HF8.out (fun e => by have := (HLT.out _ e).1; have := HOB.out; omega)).set_ne (by intro e; cases e) _), ⟨HO8.out.setCell (p := ⟨ob.o, 0, none⟩) (by show ob.o < ob.bs; have := HOB.out; omega) _, Nat.le_trans HO.out.2.2.2 HFW.out.size⟩⟩
    have HNV : Hid (NewV w (.slice A n c) (.slice A8 (l.length + 1) c8)) := Lib.hid (HOB8.out.elim .inl (fun h => .inr fun g e => by have := h g e; simpa using this))
    clear HF8 HO8 HOB8 Z8 Z9 HQ g0' g0 z0 f7 z7 f0 f1 f2
    go_wp2
    go_end0
    refine ⟨rfl, _, HNV.out, HO9.out.fr (S := fun k => k = b) (Fr.set (p := ⟨b, 7, none⟩) (Fr.refl (fun k => k = b) _) (fun _ => rfl) _) (by have := HH.out.bhi; have := HH.out.lob; have := HOB.out; omega) (fun g e => ?_), ?_, ?_⟩
    · have := HH.out.bhi
      have := HOB.out
      have := (World.ownsRow.lt HO9.out.2.2.1 g e).1
      omega
    · rw [w64_eq]; exact HND.out.setHad _
    · exact Fr.set (p := ⟨b, 7, none⟩) (Fr.weak HFW.out (fun _ _ h => .inr h)) (fun _ => .inl rfl) _
theorem pass_full (w : World) (b : Nat) (ob : Ob) (v : Value) (l : List Step) (ho : OutV true w ob v l) (hl : 5000 < l.length ∧ l.length ≤ 5001) :
    Calls Tryz.prog 80 #[.pointer (some ⟨b, 0, none⟩), .pointer (some ⟨ob.o, 0, none⟩)] w fun e w' => e = .returned (.tuple #[]) ∧ Below w.heap.size w w' := by
  obtain ⟨A, n, c, rfl⟩ : ∃ A n c, v = .slice A n c := by obtain ⟨A, c, e⟩ := Copy.shape ho.2.2.1; exact ⟨A, _, c, e⟩
  have hn : n = l.length := by obtain ⟨A', c', e⟩ := Copy.shape ho.2.2.1; cases e; rfl
  have cf := full ob.o A n c 5000 w ho.1.1 (ho.2.1 rfl).1
  have hle : decide ((5000 : Int) < n) = true := decide_eq_true (by omega)
  clear ho hl hn
  go_enter Tryz.func80, Tryz.ntmps80
  go_wp2_with (go_at_call 81; refine cf.mono ?_; rintro e w1 ⟨rfl, q, rfl⟩)
  (try simp only [Exit.inBlock, Exit.then]); refine bodyPost_ret (results_none rfl _ _ _) rfl ?_
  exact ⟨rfl, B.below_drew (Below.refl _ _) _⟩
/-! ### the kids of a pass -/
def Sx (lo hi : Nat) (ob : Ob) (v : Value) (k : Nat) : Prop := (lo ≤ k ∧ k < hi) ∨ k = ob.o ∨ v.ownBlock = some k
def Sk (ki : List KI) (ob : Ob) (v : Value) (k : Nat) : Prop := (∃ q ∈ ki, q.lo ≤ k ∧ k < q.hi) ∨ k = ob.o ∨ v.ownBlock = some k
def Fine (tst : Bool) (w0 : World) (n : Nat) (w : World) (lo hi : Nat) (x : Lp) (b : Nat) (ob : Ob) (v' : Value) (l : List Step) (r : St × List Step) : Prop := l.length + r.2.length ≤ 5000 ∧ OutV tst w ob v' (l ++ r.2) ∧ Tr tst w0 n w lo hi x b r.1
def Over (tst : Bool) (w : World) (ob : Ob) (v' : Value) (m : Nat) : Prop := 5000 < m ∧ ∃ l' : List Step, 5000 < l'.length ∧ l'.length ≤ 5001 ∧ OutV tst w ob v' l'
/-- What comes of a pass. -/
def PassPost (tst : Bool) (w0 w : World) (n lo hi : Nat) (x : Lp) (b : Nat) (st : St) (ob : Ob) (v : Value) (l : List Step) (w' : World) : Prop :=
  ∃ v', NewV w v v' ∧ Fr (Sx lo hi ob v) w w' ∧ (Fine tst w0 n w' lo hi x b ob v' l (passS (n + 1) x st) ∨ Over tst w' ob v' (l.length + (passS (n + 1) x st).2.length))
structure Pre (tst : Bool) (w0 w : World) (n lo hi : Nat) (x : Lp) (b : Nat) (st : St) (ob : Ob) (v : Value) (l : List Step) : Prop where
  tr : Tr tst w0 n w lo hi x b st
  gd : Gd n x
  bd : Bd l.length n x st
  hob : ((ob.o < lo ∨ hi ≤ ob.o) ∧ hi ≤ ob.bs ∧ ob.o < ob.bs)
  out : OutV tst w ob v l
  le : l.length ≤ 5000
  hw0 : Below w0.heap.size w0 w
  hlo : w0.heap.size ≤ lo
  how0 : w0.heap.size ≤ ob.o
def PassAt (n : Nat) : Prop := ∀ x b st lo hi ob v l w0 w, Pre true w0 w n lo hi x b st ob v l →
  Calls Tryz.prog 80 #[.pointer (some ⟨b, 0, none⟩), .pointer (some ⟨ob.o, 0, none⟩)] w fun e w' => e = .returned (.tuple #[]) ∧ PassPost true w0 w n lo hi x b st ob v l w'
/-- The state between kids, all fine so far. -/
def RunA (tst : Bool) (w0 : World) (n : Nat) (wr : World) (x : Lp) (ki : List KI) (ob : Ob) (v : Value) (m : List Step) (T : List St × List Step) (is : List Nat) (ks : List St) (l : List Step) : Prop :=
  ks.length = x.kids.length ∧ (∀ j (h1 : j < x.kids.length) (h2 : j < ki.length) (h3 : j < ks.length), Tr tst w0 n wr ki[j].lo ki[j].hi x.kids[j] ki[j].b ks[j] ∧ Bd l.length n x.kids[j] ks[j]) ∧ l.length ≤ 5000 ∧ OutV tst wr ob v l ∧ (runs (kf (n + 1) x) is ks).1 = T.1 ∧ l ++ (runs (kf (n + 1) x) is ks).2 = m ++ T.2
def Run (tst : Bool) (w0 : World) (n : Nat) (W0 wr : World) (x : Lp) (ki : List KI) (ob : Ob) (v0 : Value) (m : List Step) (T : List St × List Step) (is : List Nat) : Prop :=
  ∃ v, NewV W0 v0 v ∧ Fr (Sk ki ob v0) W0 wr ∧ ((∃ ks l, RunA tst w0 n wr x ki ob v m T is ks l) ∨ Over tst wr ob v (m.length + T.2.length))
/-- What holds of the kids of a node all the while. -/
structure KiOk (w0 W0 : World) (n : Nat) (x : Lp) (ki : List KI) (ob : Ob) : Prop where
  len : ki.length = x.kids.length
  dis : ki.Pairwise fun a b => a.hi ≤ b.lo
  hob : ∀ q ∈ ki, (ob.o < q.lo ∨ q.hi ≤ ob.o) ∧ q.hi ≤ ob.bs ∧ ob.o < ob.bs
  hlo : ∀ q ∈ ki, w0.heap.size ≤ q.lo
  hw0 : Below w0.heap.size w0 W0
  obw : w0.heap.size ≤ ob.o
  hbs : ob.o < ob.bs
  gd : ∀ k ∈ x.kids, Gd n k
theorem Fr.sk {w0 W0 wr : World} {n : Nat} {x : Lp} {ki : List KI} {ob : Ob} {v0 : Value} (hk : KiOk w0 W0 n x ki ob) (hv : ∀ g, v0.ownBlock = some g → ob.bs ≤ g) (h : Fr (Sk ki ob v0) W0 wr) : Below w0.heap.size w0 wr :=
  hk.hw0.trans (h.below hk.hw0.size (fun k hS => by
    rcases hS with ⟨q, hq, h1, _⟩ | h1 | h1
    · have := hk.hlo q hq; omega
    · have := hk.obw; omega
    · have := hv k h1; have := hk.obw; have := hk.hbs; omega))
/-- One kid has passed. -/
theorem run_step {tst : Bool} {w0 W0 wr w' : World} {n : Nat} {x : Lp} {ki : List KI} {ob : Ob} {v0 v : Value} {m : List Step} {T : List St × List Step} {i : Nat} {is : List Nat} {ks : List St} {l : List Step}
    (hk : KiOk w0 W0 n x ki ob) (hn : NewV W0 v0 v) (hf : Fr (Sk ki ob v0) W0 wr) (h : RunA tst w0 n wr x ki ob v m T (i :: is) ks l) (hi : i < x.kids.length) (h2 : i < ki.length) (h3 : i < ks.length)
    (hp : PassPost tst w0 wr n ki[i].lo ki[i].hi x.kids[i] ki[i].b ks[i] ob v l w') :
    ∃ v', NewV W0 v0 v' ∧ Fr (Sk ki ob v0) W0 w' ∧ (((∃ ks l, RunA tst w0 n w' x ki ob v' m T is ks l) ∧ l.length + (passS (n + 1) x.kids[i] ks[i]).2.length ≤ 5000) ∨ (Over tst w' ob v' (m.length + T.2.length) ∧ 5000 < l.length + (passS (n + 1) x.kids[i] ks[i]).2.length)) := by
  obtain ⟨v', hn', hf', hr⟩ := hp
  obtain ⟨a1, a2, a3, a4, a5, a6⟩ := h
  rw [runs_cons _ _ _ _ h3, kf_at hi] at a5 a6
  have pb := pass_bd n _ l.length _ (hk.gd _ (List.getElem_mem hi)) (a2 i hi h2 h3).2
  have hvl : ∀ g, v.ownBlock = some g → ob.bs ≤ g := fun g e => (World.ownsRow.lt a4.2.2.1 g e).1
  refine ⟨v', hn.trans hn' hf.size, hf.trans hf' (fun k hkl hS => ?_), ?_⟩
  · rcases hS with hS | hS | hS
    · exact .inl ⟨ki[i], List.getElem_mem h2, hS⟩
    · exact .inr (.inl hS)
    · rcases hn with hn | hn
      · exact .inr (.inr (hn ▸ hS))
      · have := hn k hS; omega
  · rcases hr with ⟨b1, b2, b3⟩ | hov
    · generalize passS (n + 1) x.kids[i] ks[i] = r at *
      refine .inl ⟨⟨ks.set i r.1, l ++ r.2, by rw [List.length_set]; exact a1, fun j h1 h2' h3' => ?_, by rw [List.length_append]; exact b1, b2, a5, by rw [List.append_assoc]; exact a6⟩, b1⟩
      have hh : Tr tst w0 n w' ki[j].lo ki[j].hi x.kids[j] ki[j].b ((ks.set i r.1)[j]'h3') ∧ Bd (l.length + r.2.length) n x.kids[j] ((ks.set i r.1)[j]'h3') := by
        rw [List.getElem_set]
        split
        · rename_i e; subst e; exact ⟨b3, pb.2 b1⟩
        · rename_i e
          have hj3 : j < ks.length := by simpa using h3'
          obtain ⟨c1, c2⟩ := a2 j h1 h2' hj3
          refine ⟨c1.fr hf' (fun k k1 k2 hS => ?_), c2.le (by omega)⟩
          have hobj := hk.hob _ (List.getElem_mem h2')
          rcases hS with hS | hS | hS
          · rcases Nat.lt_or_ge i j with hij | hij
            · have := (List.pairwise_iff_getElem.1 hk.dis) i j h2 h2' hij; omega
            · have := (List.pairwise_iff_getElem.1 hk.dis) j i h2' h2 (by omega); omega
          · omega
          · have := hvl k hS; omega
      rw [List.length_append]
      exact hh
    · refine .inr ⟨⟨?_, hov.2⟩, hov.1⟩
      have e := congrArg List.length a6
      simp only [List.length_append] at e
      have := hov.1
      omega
theorem Tr.out {tst : Bool} {w0 W0 wr : World} {n : Nat} {x : Lp} {ki : List KI} {ob : Ob} {v : Value} {m : List Step} {T : List St × List Step} {is : List Nat} {ks : List St} {l : List Step} (hk : KiOk w0 W0 n x ki ob) (hb : Below w0.heap.size w0 wr) (h : RunA tst w0 n wr x ki ob v m T is ks l) (i : Nat) (hi : i < x.kids.length) (h2 : i < ki.length) (h3 : i < ks.length) :
    Pre tst w0 wr n ki[i].lo ki[i].hi x.kids[i] ki[i].b ks[i] ob v l :=
  ⟨(h.2.1 i hi h2 h3).1, hk.gd _ (List.getElem_mem hi), (h.2.1 i hi h2 h3).2, hk.hob _ (List.getElem_mem h2), h.2.2.2.1, h.2.2.1, hb, hk.hlo _ (List.getElem_mem h2), hk.obw⟩
theorem NewV.lo {w : World} {v v' : Value} (h : NewV w v v') {m : Nat} (hv : ∀ g, v.ownBlock = some g → m ≤ g) (hm : m ≤ w.heap.size) : ∀ g, v'.ownBlock = some g → m ≤ g := fun g e => by
  rcases h with h | h
  · exact hv g (h ▸ e)
  · have := h g e; omega
/-- One kid passes, or all is full. -/
theorem call_kid {w0 W0 wr : World} {n : Nat} (ih : PassAt n) {x : Lp} {ki : List KI} {ob : Ob} {v0 : Value} {m : List Step} {T : List St × List Step} {i : Nat} {is : List Nat} (hk : KiOk w0 W0 n x ki ob) (hv : ∀ g, v0.ownBlock = some g → ob.bs ≤ g)
    (h : Run true w0 n W0 wr x ki ob v0 m T (i :: is)) (hi : i < x.kids.length) (h2 : i < ki.length) :
    Calls Tryz.prog 80 #[.pointer (some ⟨ki[i].b, 0, none⟩), .pointer (some ⟨ob.o, 0, none⟩)] wr fun e w' => e = .returned (.tuple #[]) ∧ Run true w0 n W0 w' x ki ob v0 m T is := by
  obtain ⟨v, hn, hf, h⟩ := h
  have hb := Fr.sk hk hv hf
  rcases h with ⟨ks, l, hA⟩ | hov
  · have h3 : i < ks.length := by rw [hA.1]; exact hi
    refine (ih _ _ _ _ _ _ _ _ _ _ (Tr.out hk hb hA i hi h2 h3)).mono fun e w' he => ⟨he.1, ?_⟩
    obtain ⟨v', hn', hf', hr⟩ := run_step hk hn hf hA hi h2 h3 he.2
    exact ⟨v', hn', hf', hr.elim (fun h => .inl h.1) (fun h => .inr h.1)⟩
  · obtain ⟨l', q1, q2, q3⟩ := hov.2
    refine (pass_full wr _ ob v l' q3 ⟨q1, q2⟩).mono fun e w' he => ⟨he.1, v, hn, hf.then_below he.2, .inr ⟨hov.1, l', q1, q2, q3.below he.2⟩⟩
end Go.Proofs.YtfillnkebohciaaGreatDoor.T
