/- A pass of a tree: the reference's. A pass of a tree: parts with kids, the reference's. Passes and PassesOf. -/
import Derived.Test.YtfillnkebohciaaGreatDoorPassK
namespace Go.Proofs.YtfillnkebohciaaGreatDoor.T
open Go.RowKit
open L (Lp row row1 At AtR lv kdL kid_at)
open F (Fr Cl)

set_option maxHeartbeats 4000000 in
set_option maxRecDepth 100000 in
theorem pass_itemR (w0 w : World) (lo hi : Nat) (x : Lp) (b : Nat) (had : Int) (cnt : List Int) (f : Fm) (h : Nd false w0 w lo hi x b had cnt f) (hk : x.kind = 1) (ob : Ob) (v : Value) (l : List Step) (hob : ((ob.o < lo ∨ hi ≤ ob.o) ∧ hi ≤ ob.bs ∧ ob.o < ob.bs)) (ho : OutV false w ob v l) (hl : l.length ≤ 5000) :
    Calls Tryz.prog 71 #[.pointer (some ⟨b, 0, none⟩), .pointer (some ⟨ob.o, 0, none⟩), .int .i64 5000] w fun e w' => e = .returned (.bool (decide (l.length + 1 ≤ 5000))) ∧ ∃ v', NewV w v v' ∧ OutV false w' ob v' (l ++ [(x.item, x.long)]) ∧ Nd false w0 w' lo hi x b (w64 (had + 1)) cnt f ∧ Fr (fun k => k = b ∨ k = ob.o ∨ v.ownBlock = some k) w w' := by
  obtain ⟨A, n, c, rfl⟩ : ∃ A n c, v = .slice A n c := by obtain ⟨A, c, e⟩ := Copy.shape ho.2.2.1; exact ⟨A, _, c, e⟩
  have HN : Hid (n = l.length) := Lib.hid (by obtain ⟨A', c', e⟩ := Copy.shape ho.2.2.1; cases e; rfl)
  have HH := Lib.hid h
  have HO := Lib.hid ho
  have HL := Lib.hid hl
  have HOB := Lib.hid hob
  have g0 := ho.1.1
  have z0 := ho.1.2
  have g0' : ∀ o, (w.alloc o).cell? ⟨ob.o, 0, none⟩ = some (.slice A n c) := fun o => B.cell_below ((Below.refl _ _).alloc (Nat.le_refl _) o) ho.1.1
  have f0 : w.cell? ⟨b, 0, none⟩ = some (.int .i64 1) := by rw [← hk]; exact (h.rw 0 _ rfl).1
  have f1 := (h.rw 1 _ rfl).1
  have f2 := (h.rw 2 _ rfl).1
  have f7 := h.c7.1
  have z7 := h.c7.2
  have HQ : Hid (∀ (W w8 : World), Below w.heap.size w W → Fr (fun k => (Value.slice A n c).ownBlock = some k) W w8 → Cl w8 ob.o 0 (.slice A n c)) := Lib.hid (fun W w8 hb hf => (ho.1.below hb).fr hf (fun e => by have := (World.ownsRow.lt ho.2.2.1 _ e).1; have := hob; omega))
  clear h ho hl hob hk
  go_enter Tryz.func71, Tryz.ntmps71
  go_wp2
  go_region_law (first
    | (refine Copy.step_append_s (W := w.drew) ob.bs (by rfl) _ _ 44 48 (.agg #[.string ⟨#[]⟩, .int .i64 0]) 2 24 (by rfl) Tryz.underlying44 info_step rfl (by decide) (by decide) stE (fun _ => rfl) stE1 (.slice A n c) l (x.item, x.long) _ (by rfl) HO.out.2.2.1 (by rfl) _ (by rfl) (by rfl) HO.out.2.2.2 (by have := HL.out; omega) ?_; intro v8 w8 hO8 hOB8 HG8; obtain ⟨A8, c8, rfl⟩ : ∃ A8 c8, v8 = .slice A8 (l.length + 1) c8 := (by obtain ⟨A8, c8, e⟩ := Copy.shape hO8; exact ⟨A8, c8, by rw [e, List.length_append]; rfl⟩); have HO8 := Lib.hid hO8; have HOB8 := Lib.hid hOB8; clear hO8 hOB8; have HF8 := Lib.hid (((Fr.refl (fun b => (Value.slice A n c).ownBlock = some b) _).alloc _).grown HG8 (fun g e _ => e)); clear HG8; have Z8 := (HQ.out _ w8 (by exact B.below_drew (Below.refl _ _) 1) HF8.out).1; have Z9 := (HQ.out _ w8 (by exact B.below_drew (Below.refl _ _) 1) HF8.out).2))
  all_goals
    have HFW : Hid (Fr (fun k => k = ob.o ∨ (Value.slice A n c).ownBlock = some k) w (w8.setCell ⟨ob.o, 0, none⟩ (.slice A8 (l.length + 1) c8))) := Lib.hid (Fr.set (p := ⟨ob.o, 0, none⟩) ((Fr.of_below (S := fun k => k = ob.o ∨ (Value.slice A n c).ownBlock = some k) (B.below_drew (Below.refl _ w) 1)).trans HF8.out (fun _ _ h => .inr h)) (fun _ => .inl rfl) _)
    have HLT : Hid (∀ g, (Value.slice A n c).ownBlock = some g → ob.bs ≤ g ∧ g < w.heap.size) := Lib.hid (fun g e => World.ownsRow.lt HO.out.2.2.1 g e)
    have HND : Hid (Nd false w0 (w8.setCell ⟨ob.o, 0, none⟩ (.slice A8 (l.length + 1) c8)) lo hi x b had cnt f) := Lib.hid (HH.out.fr HFW.out
      (fun h => by have := HH.out.bhi; have := HH.out.lob; have := HOB.out; rcases h with h | h; omega; have := (HLT.out _ h).1; omega)
      (fun h => by have := HH.out.go.2.1; have := HH.out.go.1; have := HOB.out; rcases h with h | h; omega; have := (HLT.out _ h).1; omega)
      (fun hp h => by have := (HH.out.gk hp).2.2.1; have := (HH.out.gk hp).2.1; have := HOB.out; rcases h with h | h; omega; have := (HLT.out _ h).1; omega))
    have y7 := HND.out.c7.1
    have x7 := HND.out.c7.2
    have HO9 : Hid (OutV false (w8.setCell ⟨ob.o, 0, none⟩ (.slice A8 (l.length + 1) c8)) ob (.slice A8 (l.length + 1) c8) (l ++ [(x.item, x.long)])) := Lib.hid ⟨(HQ.out _ w8 (B.below_drew (Below.refl _ _) 1) HF8.out).set _, (fun h => by cases h), ⟨HO8.out.setCell (p := ⟨ob.o, 0, none⟩) (by show ob.o < ob.bs; have := HOB.out; omega) _, Nat.le_trans HO.out.2.2.2 HFW.out.size⟩⟩
    have HNV : Hid (NewV w (.slice A n c) (.slice A8 (l.length + 1) c8)) := Lib.hid (HOB8.out.elim .inl (fun h => .inr fun g e => by have := h g e; simpa using this))
    clear HF8 HO8 HOB8 Z8 Z9 HQ g0' g0 z0 f7 z7 f0 f1 f2
    generalize w8.setCell ⟨ob.o, 0, none⟩ (.slice A8 (l.length + 1) c8) = W9 at *
    go_wp2
    go_loopw [79] (fun s wr => s = .int .i64 0 ∧ Hid (W9 = wr)) (fun s _ => 0)
    case atStart => exact ⟨rfl, Lib.hid rfl⟩
    case round =>
      obtain ⟨rfl, HWW⟩ := hrel
      obtain rfl := HWW.out
      clear HWW
      have y0 := (HO9.out.fr (S := fun k => k = b) (Fr.set (p := ⟨b, 7, none⟩) (Fr.refl (fun k => k = b) _) (fun _ => rfl) (.int .i64 (wrap64 (had + 1)))) (by have := HH.out.bhi; have := HH.out.lob; have := HOB.out; omega) (fun g e => by have := HH.out.bhi; have := HH.out.lob; have := HOB.out; have := (World.ownsRow.lt HO9.out.2.2.1 g e).1; omega)).1.1
      go_wp2
      go_ret
      refine ⟨?_, _, HNV.out, HO9.out.fr (S := fun k => k = b) (Fr.set (p := ⟨b, 7, none⟩) (Fr.refl (fun k => k = b) _) (fun _ => rfl) _) (by have := HH.out.bhi; have := HH.out.lob; have := HOB.out; omega) (fun g e => ?_), ?_, ?_⟩
      · exact congrArg (fun b => Ending.returned (.bool b)) (decide_eq_decide.2 (by omega))
      · have := HH.out.bhi
        have := HH.out.lob
        have := HOB.out
        have := (World.ownsRow.lt HO9.out.2.2.1 g e).1
        omega
      · rw [w64_eq]; exact HND.out.setHad _
      · exact Fr.set (p := ⟨b, 7, none⟩) (Fr.weak HFW.out (fun _ _ h => .inr h)) (fun _ => .inl rfl) _
/-! ### the kids of a pass -/
def RefAt (n : Nat) : Prop := ∀ x b st lo hi ob v l w0 w, Pre false w0 w n lo hi x b st ob v l →
  Calls Tryz.prog 71 #[.pointer (some ⟨b, 0, none⟩), .pointer (some ⟨ob.o, 0, none⟩), .int .i64 5000] w fun e w' => e = .returned (.bool (decide (l.length + (passS (n + 1) x st).2.length ≤ 5000))) ∧ PassPost false w0 w n lo hi x b st ob v l w'
/-- Between the kids; W0: before the first. -/
structure RS (w0 W0 wr : World) (n lo hi : Nat) (x : Lp) (b : Nat) (had : Int) (cnt : List Int) (f : Fm) (ob : Ob) (v0 : Value) (m : List Step) (T : List St × List Step) (is : List Nat) (os : List Int) (v : Value) (ks : List St) (l : List Step) : Prop where
  nd : Nd false w0 wr lo hi x b had cnt { f with os := os }
  nv : NewV W0 v0 v
  fr : Fr (Sx lo hi ob v0) W0 wr
  ra : RunA false w0 n wr x f.ki ob v m T is ks l
theorem sk_sx {tst : Bool} {w0 W : World} {lo hi : Nat} {x : Lp} {b : Nat} {had : Int} {cnt : List Int} {f : Fm} {ob : Ob} {v : Value} (nd : Nd tst w0 W lo hi x b had cnt f) {k : Nat} (hS : Sk f.ki ob v k) : Sx lo hi ob v k := by
  rcases hS with ⟨q, hq, h1, h2⟩ | h1 | h1
  · obtain ⟨j, hj', rfl⟩ := List.getElem_of_mem hq
    have := (nd.kin j hj').1
    have := (nd.kin j hj').2.1
    exact .inl ⟨by omega, by omega⟩
  · exact .inr (.inl h1)
  · exact .inr (.inr h1)
/-- The next kid passes. -/
theorem call_kidR {w0 W0 wr : World} {n lo hi : Nat} (ih : RefAt n) {x : Lp} {b : Nat} {had : Int} {cnt : List Int} {f : Fm} {ob : Ob} {v0 v : Value} {m : List Step} {T : List St × List Step} {i : Nat} {is : List Nat} {os : List Int} {ks : List St} {l : List Step} (hk : KiOk w0 W0 n x f.ki ob) (hob : ((ob.o < lo ∨ hi ≤ ob.o) ∧ hi ≤ ob.bs ∧ ob.o < ob.bs)) (hlo : w0.heap.size ≤ lo) (hv : ∀ g, v0.ownBlock = some g → ob.bs ≤ g)
    (h : RS w0 W0 wr n lo hi x b had cnt f ob v0 m T (i :: is) os v ks l) (how : ob.bs ≤ W0.heap.size) (hix : i < x.kids.length) (h2 : i < f.ki.length) (h3 : i < ks.length) :
    Calls Tryz.prog 71 #[.pointer (some ⟨f.ki[i].b, 0, none⟩), .pointer (some ⟨ob.o, 0, none⟩), .int .i64 5000] wr fun e w' => e = .returned (.bool (decide (l.length + (passS (n + 1) (x.kids[i]'hix) ks[i]).2.length ≤ 5000))) ∧
      (l.length + (passS (n + 1) (x.kids[i]'hix) ks[i]).2.length ≤ 5000 → ∃ v' ks' l', RS w0 W0 w' n lo hi x b had cnt f ob v0 m T is os v' ks' l') ∧
      (5000 < l.length + (passS (n + 1) (x.kids[i]'hix) ks[i]).2.length → ∃ v', NewV W0 v0 v' ∧ Fr (Sx lo hi ob v0) W0 w' ∧ Over false w' ob v' (m.length + T.2.length)) := by
  obtain ⟨nd, nv, fr, ra⟩ := h
  have hb : Below w0.heap.size w0 wr := hk.hw0.trans (fr.below hk.hw0.size (fun k hS => by
    rcases hS with h1 | h1 | h1
    · omega
    · have := hk.obw; have := hk.hbs; omega
    · have := hv k h1; have := hk.obw; have := hk.hbs; omega))
  have hk' : KiOk w0 wr n x f.ki ob := ⟨hk.len, hk.dis, hk.hob, hk.hlo, hb, hk.obw, hk.hbs, hk.gd⟩
  refine (ih _ _ _ _ _ _ _ _ _ _ (Tr.out hk hb ra i hix h2 h3)).mono fun e w' he => ⟨he.1, ?_⟩
  obtain ⟨v', hn', hf', hr⟩ := run_step hk' (.inl rfl) (Fr.refl (Sk f.ki ob v) wr) ra hix h2 h3 he.2
  have hvl := nv.lo hv (show ob.bs ≤ W0.heap.size by omega)
  have hF : Fr (Sx lo hi ob v0) W0 w' := fr.trans hf' (fun k hkl hS => by
    rcases sk_sx nd hS with h1 | h1 | h1
    · exact .inl h1
    · exact .inr (.inl h1)
    · rcases nv with hn | hn
      · exact .inr (.inr (hn ▸ h1))
      · have := hn k h1; omega)
  have hN : NewV W0 v0 v' := nv.trans hn' fr.size
  have nd2 := nd_run (T := T) (is := is) (m := m) nd hob hvl ⟨v', hn', hf', hr.elim (fun h => .inl h.1) (fun h => .inr h.1)⟩
  refine ⟨fun hle => ?_, fun hgt => ?_⟩
  · rcases hr with ⟨⟨ks', l', hA⟩, -⟩ | ⟨-, h⟩
    · exact ⟨v', ks', l', nd2, hN, hF, hA⟩
    · omega
  · rcases hr with ⟨-, h⟩ | ⟨h, -⟩
    · omega
    · exact ⟨v', hN, hF, h⟩
/-- A count of a kid changes. -/
theorem RS.setOf {w0 W0 wr : World} {n lo hi : Nat} {x : Lp} {b : Nat} {had : Int} {cnt cnt' : List Int} {f : Fm} {ob : Ob} {v0 v : Value} {m : List Step} {T : List St × List Step} {is : List Nat} {os : List Int} {ks : List St} {l : List Step} (h : RS w0 W0 wr n lo hi x b had cnt f ob v0 m T is os v ks l) (hob : ((ob.o < lo ∨ hi ≤ ob.o) ∧ hi ≤ ob.bs ∧ ob.o < ob.bs)) (i : Nat) (u : Int) (hc : x.kind = 4 → os.set i u = cnt') :
    RS w0 W0 (wr.setCell ⟨f.go, i, none⟩ (.int .i64 u)) n lo hi x b had cnt' f ob v0 m T is (os.set i u) v ks l := by
  obtain ⟨nd, nv, fr, a1, a2, a3, a4, a5⟩ := h
  have hgo : lo ≤ f.go ∧ f.go < hi ∧ f.go ≠ b := nd.go
  have hF : Fr (fun k => k = f.go) wr (wr.setCell ⟨f.go, i, none⟩ (.int .i64 u)) := Fr.set (p := ⟨f.go, i, none⟩) (Fr.refl (fun k => k = f.go) wr) (fun _ => rfl) _
  refine ⟨nd.setOf i u hc, nv, fr.trans hF (fun k _ e => .inl ⟨by omega, by omega⟩), a1, fun j h1 h2 h3 => ⟨(a2 j h1 h2 h3).1.fr hF (fun k k1 k2 e => ((nd.kin j h2).2.2 k k1 k2).2.1 e), (a2 j h1 h2 h3).2⟩, a3, a4.fr hF (by omega) (fun g e e2 => ?_), a5⟩
  have := (World.ownsRow.lt a4.2.2.1 g e).1
  omega
/-- All kids have passed. -/
theorem ref_done {w0 w W0 wr : World} {n lo hi : Nat} {x : Lp} {b : Nat} {st : St} {ob : Ob} {v0 v : Value} {l l' : List Step} {cnt' : List Int} {f : Fm} {T : List St × List Step} {os : List Int} {ks : List St} (hob : ((ob.o < lo ∨ hi ≤ ob.o) ∧ hi ≤ ob.bs ∧ ob.o < ob.bs)) (hv : ∀ g, v0.ownBlock = some g → ob.bs ≤ g) (hobw : ob.bs ≤ w.heap.size)
    (hf : Fr (Sx lo hi ob v0) w W0) (h : RS w0 W0 wr n lo hi x b st.had cnt' f ob v0 l T [] os v ks l') (hp : passS (n + 2) x st = (.mk (w64 (st.had + 1)) cnt' T.1, T.2)) :
    PassPost false w0 w (n + 1) lo hi x b st ob v0 l (wr.setCell ⟨b, 7, none⟩ (.int .i64 (wrap64 (st.had + 1)))) ∧ l.length + T.2.length = l'.length := by
  obtain ⟨nd, nv, fr, a1, a2, a3, a4, a5, a6⟩ := h
  have a5' : ks = T.1 := a5
  have a6' : l' ++ [] = l ++ T.2 := a6
  rw [List.append_nil] at a6'
  have hlob := nd.lob
  have hbh := nd.bhi
  have hFs : Fr (fun k => k = b) wr (wr.setCell ⟨b, 7, none⟩ (.int .i64 (wrap64 (st.had + 1)))) := Fr.set (p := ⟨b, 7, none⟩) (Fr.refl (fun k => k = b) _) (fun _ => rfl) _
  have hN : NewV w v0 v := by
    rcases nv with hn | hn
    · exact .inl hn
    · exact .inr fun g e => Nat.le_trans hf.size (hn g e)
  have hvl := hN.lo hv (show ob.bs ≤ w.heap.size by omega)
  refine ⟨⟨v, hN, (hf.trans fr (fun k _ h => h)).trans hFs (fun k _ e => .inl ⟨by omega, by omega⟩), ?_⟩, by rw [a6', List.length_append]⟩
  rw [hp]
  refine .inl ⟨by show l.length + T.2.length ≤ 5000; rw [← List.length_append, ← a6']; exact a3, by show OutV _ _ _ _ (l ++ T.2); rw [← a6']; exact a4.fr hFs (by omega) (fun g e => by have := hvl g e; omega), ?_⟩
  refine ⟨by show T.1.length = _; rw [← a5', a1], { f with os := os }, by rw [w64_eq]; exact nd.setHad _, fun j h1 h2 h3 => ?_⟩
  have h3' : j < ks.length := by rw [a5']; exact h3
  have e : ks[j]'h3' = (St.mk (w64 (st.had + 1)) cnt' T.1).kids[j]'h3 := by subst a5'; rfl
  rw [← e]
  exact (a2 j h1 h2 h3').1.fr hFs (fun k k1 k2 e => ((nd.kin j h2).2.2 k k1 k2).1 e)
end Go.Proofs.YtfillnkebohciaaGreatDoor.T
namespace Go.Proofs.YtfillnkebohciaaGreatDoor.T
open Go.RowKit
open L (Lp row row1 At AtR lv kdL kid_at)
open F (Fr Cl)

def ntE (i : Nat) : List Value := [.int .i64 i]
theorem ntE1 : ∀ x : Nat, ∀ v ∈ ntE x, v.oneCell' = true := by intro x v hv; simp [ntE] at hv; subst hv; rfl
/-- What is known ahead of the walk of a part whose kids are played in this order. -/
structure Rd (w0 w : World) (n lo hi : Nat) (x : Lp) (b : Nat) (st : St) (ob : Ob) (v : Value) (l : List Step) (f : Fm) (is : List Nat) (cnt' : List Int) : Prop where
  pre : Pre false w0 w (n + 1) lo hi x b st ob v l
  kl : st.kids.length = x.kids.length
  tr : ∀ j (h1 : j < x.kids.length) (h2 : j < f.ki.length) (h3 : j < st.kids.length), Tr false w0 n w f.ki[j].lo f.ki[j].hi x.kids[j] f.ki[j].b st.kids[j]
  nd : Nd false w0 w lo hi x b st.had st.cnt f
  ok : is ≠ [] ∧ ∀ i ∈ is, i < x.kids.length
  cnt : x.kind = 4 → ∃ N, is = [N] ∧ cnt' = bump st.cnt N
  eq : passS (n + 2) x st = (.mk (w64 (st.had + 1)) cnt' (runs (kf (n + 1) x) is st.kids).1, (runs (kf (n + 1) x) is st.kids).2)
theorem Rd.hv {w0 w : World} {n lo hi : Nat} {x : Lp} {b : Nat} {st : St} {ob : Ob} {v : Value} {l : List Step} {f : Fm} {is : List Nat} {cnt' : List Int} (h : Rd w0 w n lo hi x b st ob v l f is cnt') : ∀ g, v.ownBlock = some g → ob.bs ≤ g := fun g e => (World.ownsRow.lt h.pre.out.2.2.1 g e).1
theorem Rd.start {w0 w : World} {n lo hi : Nat} {x : Lp} {b : Nat} {st : St} {ob : Ob} {v : Value} {l : List Step} {f : Fm} {is : List Nat} {cnt' : List Int} (h : Rd w0 w n lo hi x b st ob v l f is cnt') {W : World} (hb : Below w.heap.size w W) :
    RS w0 W W n lo hi x b st.had st.cnt f ob v l (runs (kf (n + 1) x) is st.kids) is f.os v st.kids l :=
  ⟨h.nd.later hb, .inl rfl, Fr.refl _ _, h.kl, fun j h1 h2 h3 => ⟨(h.tr j h1 h2 h3).fr (S := fun _ => False) (Fr.of_below hb) (fun _ _ _ h => h), h.pre.bd.2.2 j h1 h3⟩, h.pre.le, h.pre.out.below hb, rfl, rfl⟩
theorem Rd.kiok {w0 w : World} {n lo hi : Nat} {x : Lp} {b : Nat} {st : St} {ob : Ob} {v : Value} {l : List Step} {f : Fm} {is : List Nat} {cnt' : List Int} (h : Rd w0 w n lo hi x b st ob v l f is cnt') {W : World} (hb : Below w.heap.size w W) : KiOk w0 W n x f.ki ob :=
  ki_ok h.pre h.nd (h.pre.hw0.trans (hb.mono h.pre.hw0.size))
/-- The index that comes next is as written. -/
theorem RS.keep {w0 w W0 wr : World} {n lo hi : Nat} {x : Lp} {b : Nat} {had : Int} {cnt : List Int} {f : Fm} {ob : Ob} {v0 v : Value} {m : List Step} {T : List St × List Step} {is : List Nat} {os : List Int} {ks : List St} {l : List Step} (h : RS w0 W0 wr n lo hi x b had cnt f ob v0 m T is os v ks l) (how : ob.o < w.heap.size) (hhi : hi ≤ w.heap.size) (hv : ∀ g, v0.ownBlock = some g → g < w.heap.size) {g q : Nat} {u : Value} (hg : w.heap.size ≤ g) (hc : W0.cell? ⟨g, q, none⟩ = some u) : wr.cell? ⟨g, q, none⟩ = some u :=
  h.fr.cell (fun hS => by
    rcases hS with h1 | h1 | h1
    · have h2 : g < hi := h1.2
      omega
    · have h2 : g = ob.o := h1
      omega
    · have := hv g h1; omega) hc
theorem RS.idx {w0 W0 wr : World} {n lo hi : Nat} {x : Lp} {b : Nat} {had : Int} {cnt : List Int} {f : Fm} {ob : Ob} {v0 v : Value} {m : List Step} {T : List St × List Step} {is : List Nat} {os : List Int} {ks : List St} {l : List Step} (h : RS w0 W0 wr n lo hi x b had cnt f ob v0 m T is os v ks l) {i : Nat} (hi : i < x.kids.length) :
    ∃ (h2 : i < f.ki.length) (_ : i < os.length), i < ks.length ∧ wr.cell? ⟨b, 6, none⟩ = some (.slice (some ⟨f.gk, 0, none⟩) x.kids.length f.ck) ∧ wr.cell? ⟨f.gk, i, none⟩ = some (.pointer (some ⟨f.ki[i].b, 0, none⟩)) := by
  have e6 : f.Ak = some ⟨f.gk, 0, none⟩ := (h.nd.gk (by omega)).1
  have hk : f.ki.length = x.kids.length := h.nd.kl
  have ho : os.length = x.kids.length := h.nd.ol
  refine ⟨by omega, by omega, by rw [h.ra.1]; exact hi, by rw [← e6]; exact h.nd.c6.1, h.nd.ke i (by show i < f.ki.length; omega)⟩
theorem cells1 (w : World) (i : Nat) (e : TypeId) : ∀ k (hk : k < [i].length), (w.alloc (.cells #[.int .i64 i] e)).cell? ⟨w.heap.size, k, none⟩ = some (.int .i64 ([i][k] : Nat)) := fun k hk => by
  have hk0 : k = 0 := by simp at hk; exact hk
  subst hk0
  rw [World.cell?_alloc_new]; rfl
set_option maxHeartbeats 8000000 in
set_option maxRecDepth 100000 in
theorem passR_rep (n : Nat) (ih : RefAt n) (x : Lp) (b : Nat) (st : St) (lo hi : Nat) (ob : Ob) (v : Value) (l : List Step) (w0 w : World) (f : Fm) (is : List Nat) (cnt' : List Int) (h : Rd w0 w n lo hi x b st ob v l f is cnt') (hk : x.kind = 5) (M : Nat) (hM : x.many = M) (his : is = List.replicate M 0) :
    Calls Tryz.prog 71 #[.pointer (some ⟨b, 0, none⟩), .pointer (some ⟨ob.o, 0, none⟩), .int .i64 5000] w fun e w' => e = .returned (.bool (decide (l.length + (passS (n + 2) x st).2.length ≤ 5000))) ∧ PassPost false w0 w (n + 1) lo hi x b st ob v l w' := by
  have HR := Lib.hid h
  have HT : Hid (runs (kf (n + 1) x) is st.kids = ((passS (n + 2) x st).1.kids, (passS (n + 2) x st).2)) := Lib.hid (by rw [h.eq]; rfl)
  have LK : x.kids.length ≤ 1048576 := h.nd.ok.2.2.1
  have f0 : w.cell? ⟨b, 0, none⟩ = some (.int .i64 5) := by rw [← hk]; exact (h.nd.rw 0 _ rfl).1
  have LM : M ≤ 100 := by have := ((own_ok h.pre.gd.own).2.2.2.1 hk).2.2; omega
  have f3 : w.cell? ⟨b, 3, none⟩ = some (.int .i64 M) := by rw [← hM]; exact (h.nd.rw 3 _ rfl).1
  have hmk := fun W => run_make_row' (P := Tryz.prog) 23 3 (.int .i64 0) 8 Tryz.underlying23 L.info_int rfl .i64 .i64 M (by omega) (by omega) W
  have HB9 := Lib.hid ((Below.refl _ w).alloc (Nat.le_refl _) (.cells (madeCells #[Value.int IntKind.i64 0] M) 3))
  have HI : Hid (∀ k (hk : k < is.length), (w.alloc (.cells (madeCells #[Value.int IntKind.i64 0] M) 3)).cell? ⟨w.heap.size, k, none⟩ = some (.int .i64 (is[k] : Nat))) := Lib.hid (fun k hk => by subst his; rw [World.cell?_alloc_new, made0 (by simpa using hk)]; simp)
  have HKN : Hid (M = is.length) := Lib.hid (by rw [his]; simp)
  clear h hk hM his
  go_enter Tryz.func71, Tryz.ntmps71
  go_wp2
  generalize (w.alloc (.cells (madeCells #[Value.int IntKind.i64 0] M) 3)) = W9 at *
  generalize hg9 : w.heap.size = g9 at HI ⊢
  have HG9 : Hid (w.heap.size ≤ g9) := Lib.hid (Nat.le_of_eq hg9)
  clear hg9 hmk f0 f3
  go_loopw [79] (fun s wr => ∃ (k : Nat) (os : List Int) (v' : Value) (ks : List St) (lk : List Step), s = .int .i64 k ∧ k ≤ M ∧ Hid (RS w0 W9 wr n lo hi x b st.had (if k = 0 then st.cnt else cnt') f ob v l (runs (kf (n + 1) x) is st.kids) (is.drop k) os v' ks lk)) (fun s _ => M - (intOf s).toNat)
  case atStart => exact ⟨0, f.os, v, st.kids, l, rfl, by omega, Lib.hid (by rw [List.drop_zero, if_pos rfl]; exact HR.out.start HB9.out)⟩
  case round =>
    obtain ⟨k, os, v1, ks, lk, rfl, hk, HRS⟩ := hrel
    have HOB : Hid (((ob.o < lo ∨ hi ≤ ob.o) ∧ hi ≤ ob.bs ∧ ob.o < ob.bs) ∧ ob.o < w.heap.size ∧ w.heap.size ≤ W9.heap.size ∧ lo ≤ b ∧ b < hi) := Lib.hid ⟨HR.out.pre.hob, HR.out.pre.out.1.lt, HB9.out.size, HR.out.nd.lob, HR.out.nd.bhi⟩
    by_cases hlt : k < M
    · have hi' := HR.out.ok.2 (is[k]'(HKN.out ▸ hlt)) (List.getElem_mem _)
      have hr := HRS.out
      rw [List.drop_eq_getElem_cons (HKN.out ▸ hlt)] at hr
      have cg := hr.keep HOB.out.2.1 HR.out.nd.hiw (fun g e => (World.ownsRow.lt HR.out.pre.out.2.2.1 g e).2) (g := g9) (q := k) HG9.out (HI.out k (HKN.out ▸ hlt))
      have HCN : Hid (x.kind = 4 → k = 0 ∧ os = st.cnt ∧ cnt' = bump st.cnt (is[k]'(HKN.out ▸ hlt))) := Lib.hid (fun hk4 => by
        obtain ⟨N, e1, e2⟩ := HR.out.cnt hk4
        have e3 : is.length = 1 := by rw [e1]; rfl
        have hk0 : k = 0 := by have := HKN.out; omega
        subst hk0
        exact ⟨rfl, hr.nd.oc hk4, by subst e1; exact e2⟩)
      generalize is[k]'(HKN.out ▸ hlt) = i at hi' hr cg HCN
      obtain ⟨h2, h3, h4, c6, cp⟩ := hr.idx hi'
      have cc := call_kidR ih (HR.out.kiok HB9.out) HOB.out.1 HR.out.pre.hlo HR.out.hv hr (Nat.le_trans HR.out.pre.out.2.2.2 HB9.out.size) hi' h2 h4
      have hi2 : (i : Int) < x.kids.length := by omega
      have hk1 : (k : Int) < M := by omega
      obtain ⟨U, hU⟩ : ∃ U, os.getD i 0 = U := ⟨_, rfl⟩
      have HU := Lib.hid hU
      have HI3 := Lib.hid h3
      have HST : Hid (∀ W v2 ks2 l2, RS w0 W9 W n lo hi x b st.had (if k = 0 then st.cnt else cnt') f ob v l (runs (kf (n + 1) x) is st.kids) (is.drop (k + 1)) os v2 ks2 l2 → W.cell? ⟨b, 8, none⟩ = some (.slice (some ⟨f.go, 0, none⟩) x.kids.length f.co) ∧ W.cell? ⟨f.go, i, none⟩ = some (.int .i64 U) ∧ W.frozen? ⟨f.go, i, none⟩ = false ∧
          RS w0 W9 (W.setCell ⟨f.go, i, none⟩ (.int .i64 (wrap64 (U + 1)))) n lo hi x b st.had cnt' f ob v l (runs (kf (n + 1) x) is st.kids) (is.drop (k + 1)) (os.set i (wrap64 (U + 1))) v2 ks2 l2) := Lib.hid (fun W v2 ks2 l2 hw => by
        have hoe : Cl W f.go i (.int .i64 (os[i]'HI3.out)) := hw.nd.oe i HI3.out
        rw [← getD_at HI3.out, HU.out] at hoe
        refine ⟨hw.nd.c8.1, hoe.1, hoe.2, hw.setOf HOB.out.1 i _ (fun hk4 => ?_)⟩
        obtain ⟨a1, a2, a3⟩ := HCN.out hk4
        rw [a3, bump, w64_eq, ← a2, HU.out])
      generalize (f.ki[i]'h2).b = pb at cp cc
      generalize (passS (n + 1) (x.kids[i]'hi') (ks[i]'h4)).2.length = z at cc
      clear hr h3 h4 hU hi'
      by_cases hf : lk.length + z ≤ 5000
      · have cc' := cc.mono (R' := fun e w' => e = .returned (.bool true) ∧ _) fun e w' he => ⟨by rw [he.1, decide_eq_true hf], he.2.1 hf⟩
        clear cc hf
        go_wp2_with (go_at_call 71; refine cc'.mono ?_; rintro e w2 ⟨rfl, v2, ks2, l2, hR2⟩; obtain ⟨y8, yo, zo, hS⟩ := HST.out _ _ _ _ hR2; have HS := Lib.hid hS; clear hS hR2)
        go_roundw
        case rel => exact ⟨k + 1, os.set i (wrap64 (U + 1)), v2, ks2, l2, by go_num, by omega, Lib.hid (by rw [if_neg (by omega)]; exact HS.out)⟩
        case measure => simp [intOf]; omega
      · have cc' := cc.mono (R' := fun e w' => e = .returned (.bool false) ∧ _) fun e w' he => ⟨by rw [he.1, decide_eq_false hf], he.2.2 (by omega)⟩
        clear cc hf
        go_wp2_with (go_at_call 71; refine cc'.mono ?_; rintro e w2 ⟨rfl, v2, hN2, hF2, hO2⟩; have HN2 := Lib.hid hN2; have HF2 := Lib.hid hF2; have HO2 := Lib.hid hO2; clear hN2 hF2 hO2)
        go_ret
        have hov := HO2.out
        rw [HT.out] at hov
        refine ⟨congrArg (fun b => Ending.returned (.bool b)) (decide_eq_false (by have h1 : 5000 < l.length + (passS (n + 2) x st).2.length := hov.1; omega)).symm, v2, ?_, (Fr.of_below HB9.out).trans HF2.out (fun _ _ h => h), .inr hov⟩
        rcases HN2.out with h | h
        · exact .inl h
        · exact .inr fun g e => Nat.le_trans HB9.out.size (h g e)
    · obtain rfl : k = M := by omega
      have hr := HRS.out
      rw [List.drop_eq_nil_of_le (by rw [← HKN.out]; exact Nat.le_refl _), if_neg (by have := List.length_pos_iff.2 HR.out.ok.1; have := HKN.out; omega)] at hr
      have HRN := Lib.hid hr
      have y7 := hr.nd.c7.1
      have x7 := hr.nd.c7.2
      obtain ⟨A1, n1, c1, rfl⟩ : ∃ A n c, v1 = .slice A n c := by obtain ⟨A, c, e⟩ := Copy.shape hr.ra.2.2.2.1.2.2.1; exact ⟨A, _, c, e⟩
      have HN1 : Hid (n1 = lk.length) := Lib.hid (by obtain ⟨A', c', e⟩ := Copy.shape hr.ra.2.2.2.1.2.2.1; cases e; rfl)
      have y0 : (wr.setCell ⟨b, 7, none⟩ (.int .i64 (wrap64 (st.had + 1)))).cell? ⟨ob.o, 0, none⟩ = some (.slice A1 n1 c1) := (hr.ra.2.2.2.1.1.set_ne (by intro e; cases e) _).1
      clear hr
      go_wp2
      go_ret
      obtain ⟨hP, hL⟩ := ref_done HOB.out.1 HR.out.hv HR.out.pre.out.2.2.2 (Fr.of_below HB9.out) HRN.out HR.out.eq
      refine ⟨congrArg (fun b => Ending.returned (.bool b)) (decide_eq_decide.2 ?_), hP⟩
      rw [HT.out] at hL
      have hL' : l.length + (passS (n + 2) x st).2.length = lk.length := hL
      rw [hL', HN1.out]
      omega
set_option maxHeartbeats 8000000 in
set_option maxRecDepth 100000 in
theorem passR_row (n : Nat) (ih : RefAt n) (x : Lp) (b : Nat) (st : St) (lo hi : Nat) (ob : Ob) (v : Value) (l : List Step) (w0 w : World) (f : Fm) (is : List Nat) (cnt' : List Int) (h : Rd w0 w n lo hi x b st ob v l f is cnt') (hk : x.kind = 2) (his : is = List.range x.kids.length) :
    Calls Tryz.prog 71 #[.pointer (some ⟨b, 0, none⟩), .pointer (some ⟨ob.o, 0, none⟩), .int .i64 5000] w fun e w' => e = .returned (.bool (decide (l.length + (passS (n + 2) x st).2.length ≤ 5000))) ∧ PassPost false w0 w (n + 1) lo hi x b st ob v l w' := by
  have HR := Lib.hid h
  have HT : Hid (runs (kf (n + 1) x) is st.kids = ((passS (n + 2) x st).1.kids, (passS (n + 2) x st).2)) := Lib.hid (by rw [h.eq]; rfl)
  have LK : x.kids.length ≤ 1048576 := h.nd.ok.2.2.1
  have f0 : w.cell? ⟨b, 0, none⟩ = some (.int .i64 2) := by rw [← hk]; exact (h.nd.rw 0 _ rfl).1
  have hp := (own_ok h.pre.gd.own).2.2.1 (by omega)
  have e6 : f.Ak = some ⟨f.gk, 0, none⟩ := (h.nd.gk hp).1
  have f6 : w.cell? ⟨b, 6, none⟩ = some (.slice (some ⟨f.gk, 0, none⟩) x.kids.length f.ck) := by rw [← e6]; exact h.nd.c6.1
  have HPL : Hid (0 < x.kids.length) := Lib.hid hp
  have HIS := Lib.hid his
  clear h hk hp e6 his
  go_enter Tryz.func71, Tryz.ntmps71
  go_wp2
  go_loopw [7, 43] (fun s7 s43 wr => ∃ k : Nat, s43 = .int .i64 k ∧ k ≤ x.kids.length ∧ Hid (B.Own wr w.heap.size 3 1 ntE s7 (List.range k)) ∧ Hid (Below w.heap.size w wr)) (fun _ s _ => x.kids.length - (intOf s).toNat)
  case atStart => exact ⟨0, rfl, by omega, Lib.hid (B.Own.nil _ _ _ _ _), Lib.hid (Below.refl _ _)⟩
  case round =>
  obtain ⟨k, rfl, hk, HO, HB⟩ := hrel
  by_cases hlt : k < x.kids.length
  · have hk1 : (k : Int) < x.kids.length := by omega
    go_wp2_with (at_builtin; (refine B.wpl_append (w0 := w) w.heap.size rfl _ _ 23 3 (.int .i64 0) 1 8 rfl Tryz.underlying23 L.info_int rfl (by decide) (by decide) ntE (fun _ => rfl) ntE1 _ (List.range k) k _ rfl HO.out rfl rfl HB.out HB.out.size (by rw [List.length_range]; omega) ?_); intro v1 w1 HO1 HB1 _; rw [← List.range_succ] at HO1; have HO2 := Lib.hid HO1; have HB2 := Lib.hid HB1; clear HO1 HB1)
    go_roundw
    case rel => exact ⟨k + 1, by go_num, by omega, HO2, HB2⟩
    case measure => simp [intOf]; omega
  obtain rfl : k = x.kids.length := by omega
  obtain ⟨A9, c9, e9⟩ := Copy.shape HO.out
  rw [List.length_range] at e9
  subst e9
  have ho : B.Own wr w.heap.size 3 1 ntE (.slice A9 (List.range x.kids.length).length c9) (List.range x.kids.length) := by rw [List.length_range]; exact HO.out
  obtain ⟨g9, rfl, hg9, -⟩ := L.own_blk ho (by rw [List.length_range]; exact HPL.out)
  have HI : Hid (∀ k (hk : k < is.length), wr.cell? ⟨g9, k, none⟩ = some (.int .i64 (is[k] : Nat))) := Lib.hid (fun k hk => by
    have e := HIS.out
    subst e
    have := World.ownsRow.cells (show wr.ownsRow w.heap.size 3 1 (.slice (some ⟨g9, 0, none⟩) (List.range x.kids.length).length c9) (List.range x.kids.length).length ((List.range x.kids.length).flatMap ntE) from ho) (g := g9) rfl (k * 1 + 0) _ (B.flatMap_at (k := 1) (enc := ntE) (fun _ => rfl) k hk 0 (by simp [ntE]))
    rw [Lib.add_plain] at this
    simpa [ntE] using this)
  have HG9 : Hid (w.heap.size ≤ g9) := Lib.hid hg9
  have HB9 := Lib.hid HB.out
  have HKN : Hid (x.kids.length = is.length) := Lib.hid (by rw [HIS.out, List.length_range])
  clear ho hg9 hk hlt f6 f0 HB HO
  generalize hwr : wr = W9 at *
  clear hwr
  go_wp2
  go_loopw [79] (fun s wr => ∃ (k : Nat) (os : List Int) (v' : Value) (ks : List St) (lk : List Step), s = .int .i64 k ∧ k ≤ x.kids.length ∧ Hid (RS w0 W9 wr n lo hi x b st.had (if k = 0 then st.cnt else cnt') f ob v l (runs (kf (n + 1) x) is st.kids) (is.drop k) os v' ks lk)) (fun s _ => x.kids.length - (intOf s).toNat)
  case atStart => exact ⟨0, f.os, v, st.kids, l, rfl, by omega, Lib.hid (by rw [List.drop_zero, if_pos rfl]; exact HR.out.start HB9.out)⟩
  case round =>
    obtain ⟨k, os, v1, ks, lk, rfl, hk, HRS⟩ := hrel
    have HOB : Hid (((ob.o < lo ∨ hi ≤ ob.o) ∧ hi ≤ ob.bs ∧ ob.o < ob.bs) ∧ ob.o < w.heap.size ∧ w.heap.size ≤ W9.heap.size ∧ lo ≤ b ∧ b < hi) := Lib.hid ⟨HR.out.pre.hob, HR.out.pre.out.1.lt, HB9.out.size, HR.out.nd.lob, HR.out.nd.bhi⟩
    by_cases hlt : k < x.kids.length
    · have hi' := HR.out.ok.2 (is[k]'(HKN.out ▸ hlt)) (List.getElem_mem _)
      have hr := HRS.out
      rw [List.drop_eq_getElem_cons (HKN.out ▸ hlt)] at hr
      have cg := hr.keep HOB.out.2.1 HR.out.nd.hiw (fun g e => (World.ownsRow.lt HR.out.pre.out.2.2.1 g e).2) (g := g9) (q := k) HG9.out (HI.out k (HKN.out ▸ hlt))
      have HCN : Hid (x.kind = 4 → k = 0 ∧ os = st.cnt ∧ cnt' = bump st.cnt (is[k]'(HKN.out ▸ hlt))) := Lib.hid (fun hk4 => by
        obtain ⟨N, e1, e2⟩ := HR.out.cnt hk4
        have e3 : is.length = 1 := by rw [e1]; rfl
        have hk0 : k = 0 := by have := HKN.out; omega
        subst hk0
        exact ⟨rfl, hr.nd.oc hk4, by subst e1; exact e2⟩)
      generalize is[k]'(HKN.out ▸ hlt) = i at hi' hr cg HCN
      obtain ⟨h2, h3, h4, c6, cp⟩ := hr.idx hi'
      have cc := call_kidR ih (HR.out.kiok HB9.out) HOB.out.1 HR.out.pre.hlo HR.out.hv hr (Nat.le_trans HR.out.pre.out.2.2.2 HB9.out.size) hi' h2 h4
      have hi2 : (i : Int) < x.kids.length := by omega
      have hk1 : (k : Int) < x.kids.length := by omega
      obtain ⟨U, hU⟩ : ∃ U, os.getD i 0 = U := ⟨_, rfl⟩
      have HU := Lib.hid hU
      have HI3 := Lib.hid h3
      have HST : Hid (∀ W v2 ks2 l2, RS w0 W9 W n lo hi x b st.had (if k = 0 then st.cnt else cnt') f ob v l (runs (kf (n + 1) x) is st.kids) (is.drop (k + 1)) os v2 ks2 l2 → W.cell? ⟨b, 8, none⟩ = some (.slice (some ⟨f.go, 0, none⟩) x.kids.length f.co) ∧ W.cell? ⟨f.go, i, none⟩ = some (.int .i64 U) ∧ W.frozen? ⟨f.go, i, none⟩ = false ∧
          RS w0 W9 (W.setCell ⟨f.go, i, none⟩ (.int .i64 (wrap64 (U + 1)))) n lo hi x b st.had cnt' f ob v l (runs (kf (n + 1) x) is st.kids) (is.drop (k + 1)) (os.set i (wrap64 (U + 1))) v2 ks2 l2) := Lib.hid (fun W v2 ks2 l2 hw => by
        have hoe : Cl W f.go i (.int .i64 (os[i]'HI3.out)) := hw.nd.oe i HI3.out
        rw [← getD_at HI3.out, HU.out] at hoe
        refine ⟨hw.nd.c8.1, hoe.1, hoe.2, hw.setOf HOB.out.1 i _ (fun hk4 => ?_)⟩
        obtain ⟨a1, a2, a3⟩ := HCN.out hk4
        rw [a3, bump, w64_eq, ← a2, HU.out])
      generalize (f.ki[i]'h2).b = pb at cp cc
      generalize (passS (n + 1) (x.kids[i]'hi') (ks[i]'h4)).2.length = z at cc
      clear hr h3 h4 hU hi'
      by_cases hf : lk.length + z ≤ 5000
      · have cc' := cc.mono (R' := fun e w' => e = .returned (.bool true) ∧ _) fun e w' he => ⟨by rw [he.1, decide_eq_true hf], he.2.1 hf⟩
        clear cc hf
        go_wp2_with (go_at_call 71; refine cc'.mono ?_; rintro e w2 ⟨rfl, v2, ks2, l2, hR2⟩; obtain ⟨y8, yo, zo, hS⟩ := HST.out _ _ _ _ hR2; have HS := Lib.hid hS; clear hS hR2)
        go_roundw
        case rel => exact ⟨k + 1, os.set i (wrap64 (U + 1)), v2, ks2, l2, by go_num, by omega, Lib.hid (by rw [if_neg (by omega)]; exact HS.out)⟩
        case measure => simp [intOf]; omega
      · have cc' := cc.mono (R' := fun e w' => e = .returned (.bool false) ∧ _) fun e w' he => ⟨by rw [he.1, decide_eq_false hf], he.2.2 (by omega)⟩
        clear cc hf
        go_wp2_with (go_at_call 71; refine cc'.mono ?_; rintro e w2 ⟨rfl, v2, hN2, hF2, hO2⟩; have HN2 := Lib.hid hN2; have HF2 := Lib.hid hF2; have HO2 := Lib.hid hO2; clear hN2 hF2 hO2)
        go_ret
        have hov := HO2.out
        rw [HT.out] at hov
        refine ⟨congrArg (fun b => Ending.returned (.bool b)) (decide_eq_false (by have h1 : 5000 < l.length + (passS (n + 2) x st).2.length := hov.1; omega)).symm, v2, ?_, (Fr.of_below HB9.out).trans HF2.out (fun _ _ h => h), .inr hov⟩
        rcases HN2.out with h | h
        · exact .inl h
        · exact .inr fun g e => Nat.le_trans HB9.out.size (h g e)
    · obtain rfl : k = x.kids.length := by omega
      have hr := HRS.out
      rw [List.drop_eq_nil_of_le (by rw [← HKN.out]; exact Nat.le_refl _), if_neg (by have := List.length_pos_iff.2 HR.out.ok.1; have := HKN.out; omega)] at hr
      have HRN := Lib.hid hr
      have y7 := hr.nd.c7.1
      have x7 := hr.nd.c7.2
      obtain ⟨A1, n1, c1, rfl⟩ : ∃ A n c, v1 = .slice A n c := by obtain ⟨A, c, e⟩ := Copy.shape hr.ra.2.2.2.1.2.2.1; exact ⟨A, _, c, e⟩
      have HN1 : Hid (n1 = lk.length) := Lib.hid (by obtain ⟨A', c', e⟩ := Copy.shape hr.ra.2.2.2.1.2.2.1; cases e; rfl)
      have y0 : (wr.setCell ⟨b, 7, none⟩ (.int .i64 (wrap64 (st.had + 1)))).cell? ⟨ob.o, 0, none⟩ = some (.slice A1 n1 c1) := (hr.ra.2.2.2.1.1.set_ne (by intro e; cases e) _).1
      clear hr
      go_wp2
      go_ret
      obtain ⟨hP, hL⟩ := ref_done HOB.out.1 HR.out.hv HR.out.pre.out.2.2.2 (Fr.of_below HB9.out) HRN.out HR.out.eq
      refine ⟨congrArg (fun b => Ending.returned (.bool b)) (decide_eq_decide.2 ?_), hP⟩
      rw [HT.out] at hL
      have hL' : l.length + (passS (n + 2) x st).2.length = lk.length := hL
      rw [hL', HN1.out]
      omega
set_option maxHeartbeats 8000000 in
set_option maxRecDepth 100000 in
theorem passR_turn (n : Nat) (ih : RefAt n) (x : Lp) (b : Nat) (st : St) (lo hi : Nat) (ob : Ob) (v : Value) (l : List Step) (w0 w : World) (f : Fm) (is : List Nat) (cnt' : List Int) (h : Rd w0 w n lo hi x b st ob v l f is cnt') (hk : x.kind = 3) (q3 : Nat) (hq3 : st.had.tmod x.kids.length = q3) (his : is = [q3]) :
    Calls Tryz.prog 71 #[.pointer (some ⟨b, 0, none⟩), .pointer (some ⟨ob.o, 0, none⟩), .int .i64 5000] w fun e w' => e = .returned (.bool (decide (l.length + (passS (n + 2) x st).2.length ≤ 5000))) ∧ PassPost false w0 w (n + 1) lo hi x b st ob v l w' := by
  have HR := Lib.hid h
  have HT : Hid (runs (kf (n + 1) x) is st.kids = ((passS (n + 2) x st).1.kids, (passS (n + 2) x st).2)) := Lib.hid (by rw [h.eq]; rfl)
  have LK : x.kids.length ≤ 1048576 := h.nd.ok.2.2.1
  have f0 : w.cell? ⟨b, 0, none⟩ = some (.int .i64 3) := by rw [← hk]; exact (h.nd.rw 0 _ rfl).1
  have hp := (own_ok h.pre.gd.own).2.2.1 (by omega)
  have e6 : f.Ak = some ⟨f.gk, 0, none⟩ := (h.nd.gk hp).1
  have f6 : w.cell? ⟨b, 6, none⟩ = some (.slice (some ⟨f.gk, 0, none⟩) x.kids.length f.ck) := by rw [← e6]; exact h.nd.c6.1
  have f7 := h.nd.c7.1
  have hnz : ¬ (x.kids = []) := fun e => by rw [e] at hp; simp at hp
  have HB9 : Hid (Below w.heap.size w (w.alloc (.cells #[.int .i64 q3] 3)).drew) := Lib.hid (B.below_drew ((Below.refl _ w).alloc (Nat.le_refl _) _) 1)
  have HI : Hid (∀ k (hk : k < is.length), (w.alloc (.cells #[.int .i64 q3] 3)).drew.cell? ⟨w.heap.size, k, none⟩ = some (.int .i64 (is[k] : Nat))) := Lib.hid (fun k hk => by subst his; exact cells1 w q3 3 k hk)
  have HKN : Hid (1 = is.length) := Lib.hid (by rw [his]; rfl)
  clear h hk hp his e6
  go_enter Tryz.func71, Tryz.ntmps71
  go_wp2
  go_still_tail 10, (by kernel_rfl)
  change wpList _ _ _ _ _ w.drew
  go_wp2
  generalize (w.alloc (.cells #[.int .i64 q3] 3)).drew = W9 at *
  generalize hg9 : w.heap.size = g9 at HI ⊢
  have HG9 : Hid (w.heap.size ≤ g9) := Lib.hid (Nat.le_of_eq hg9)
  clear hg9 f0 f6 f7 hnz hq3
  go_loopw [79] (fun s wr => ∃ (k : Nat) (os : List Int) (v' : Value) (ks : List St) (lk : List Step), s = .int .i64 k ∧ k ≤ 1 ∧ Hid (RS w0 W9 wr n lo hi x b st.had (if k = 0 then st.cnt else cnt') f ob v l (runs (kf (n + 1) x) is st.kids) (is.drop k) os v' ks lk)) (fun s _ => 1 - (intOf s).toNat)
  case atStart => exact ⟨0, f.os, v, st.kids, l, rfl, by omega, Lib.hid (by rw [List.drop_zero, if_pos rfl]; exact HR.out.start HB9.out)⟩
  case round =>
    obtain ⟨k, os, v1, ks, lk, rfl, hk, HRS⟩ := hrel
    have HOB : Hid (((ob.o < lo ∨ hi ≤ ob.o) ∧ hi ≤ ob.bs ∧ ob.o < ob.bs) ∧ ob.o < w.heap.size ∧ w.heap.size ≤ W9.heap.size ∧ lo ≤ b ∧ b < hi) := Lib.hid ⟨HR.out.pre.hob, HR.out.pre.out.1.lt, HB9.out.size, HR.out.nd.lob, HR.out.nd.bhi⟩
    by_cases hlt : k < 1
    · obtain rfl : k = 0 := by omega
      have hi' := HR.out.ok.2 (is[0]'(HKN.out ▸ hlt)) (List.getElem_mem _)
      have hr := HRS.out
      rw [List.drop_eq_getElem_cons (HKN.out ▸ hlt)] at hr
      have cg := hr.keep HOB.out.2.1 HR.out.nd.hiw (fun g e => (World.ownsRow.lt HR.out.pre.out.2.2.1 g e).2) (g := g9) (q := 0) HG9.out (HI.out 0 (HKN.out ▸ hlt))
      have HCN : Hid (x.kind = 4 → 0 = 0 ∧ os = st.cnt ∧ cnt' = bump st.cnt (is[0]'(HKN.out ▸ hlt))) := Lib.hid (fun hk4 => by
        obtain ⟨N, e1, e2⟩ := HR.out.cnt hk4
        have e3 : is.length = 1 := by rw [e1]; rfl
        exact ⟨rfl, hr.nd.oc hk4, by subst e1; exact e2⟩)
      generalize is[0]'(HKN.out ▸ hlt) = i at hi' hr cg HCN
      obtain ⟨h2, h3, h4, c6, cp⟩ := hr.idx hi'
      have cc := call_kidR ih (HR.out.kiok HB9.out) HOB.out.1 HR.out.pre.hlo HR.out.hv hr (Nat.le_trans HR.out.pre.out.2.2.2 HB9.out.size) hi' h2 h4
      have hi2 : (i : Int) < x.kids.length := by omega
      obtain ⟨U, hU⟩ : ∃ U, os.getD i 0 = U := ⟨_, rfl⟩
      have HU := Lib.hid hU
      have HI3 := Lib.hid h3
      have HST : Hid (∀ W v2 ks2 l2, RS w0 W9 W n lo hi x b st.had (if 0 = 0 then st.cnt else cnt') f ob v l (runs (kf (n + 1) x) is st.kids) (is.drop 1) os v2 ks2 l2 → W.cell? ⟨b, 8, none⟩ = some (.slice (some ⟨f.go, 0, none⟩) x.kids.length f.co) ∧ W.cell? ⟨f.go, i, none⟩ = some (.int .i64 U) ∧ W.frozen? ⟨f.go, i, none⟩ = false ∧
          RS w0 W9 (W.setCell ⟨f.go, i, none⟩ (.int .i64 (wrap64 (U + 1)))) n lo hi x b st.had cnt' f ob v l (runs (kf (n + 1) x) is st.kids) (is.drop 1) (os.set i (wrap64 (U + 1))) v2 ks2 l2) := Lib.hid (fun W v2 ks2 l2 hw => by
        have hoe : Cl W f.go i (.int .i64 (os[i]'HI3.out)) := hw.nd.oe i HI3.out
        rw [← getD_at HI3.out, HU.out] at hoe
        refine ⟨hw.nd.c8.1, hoe.1, hoe.2, hw.setOf HOB.out.1 i _ (fun hk4 => ?_)⟩
        obtain ⟨a1, a2, a3⟩ := HCN.out hk4
        rw [a3, bump, w64_eq, ← a2, HU.out])
      generalize (f.ki[i]'h2).b = pb at cp cc
      generalize (passS (n + 1) (x.kids[i]'hi') (ks[i]'h4)).2.length = z at cc
      clear hr h3 h4 hU hi'
      by_cases hf : lk.length + z ≤ 5000
      · have cc' := cc.mono (R' := fun e w' => e = .returned (.bool true) ∧ _) fun e w' he => ⟨by rw [he.1, decide_eq_true hf], he.2.1 hf⟩
        clear cc hf
        go_wp2_with (go_at_call 71; refine cc'.mono ?_; rintro e w2 ⟨rfl, v2, ks2, l2, hR2⟩; obtain ⟨y8, yo, zo, hS⟩ := HST.out _ _ _ _ hR2; have HS := Lib.hid hS; clear hS hR2)
        go_roundw
        case rel => exact ⟨1, os.set i (wrap64 (U + 1)), v2, ks2, l2, by first | rfl | go_num, by omega, Lib.hid (by rw [if_neg (by omega)]; exact HS.out)⟩
        case measure => simp [intOf]
      · have cc' := cc.mono (R' := fun e w' => e = .returned (.bool false) ∧ _) fun e w' he => ⟨by rw [he.1, decide_eq_false hf], he.2.2 (by omega)⟩
        clear cc hf
        go_wp2_with (go_at_call 71; refine cc'.mono ?_; rintro e w2 ⟨rfl, v2, hN2, hF2, hO2⟩; have HN2 := Lib.hid hN2; have HF2 := Lib.hid hF2; have HO2 := Lib.hid hO2; clear hN2 hF2 hO2)
        go_ret
        have hov := HO2.out
        rw [HT.out] at hov
        refine ⟨congrArg (fun b => Ending.returned (.bool b)) (decide_eq_false (by have h1 : 5000 < l.length + (passS (n + 2) x st).2.length := hov.1; omega)).symm, v2, ?_, (Fr.of_below HB9.out).trans HF2.out (fun _ _ h => h), .inr hov⟩
        rcases HN2.out with h | h
        · exact .inl h
        · exact .inr fun g e => Nat.le_trans HB9.out.size (h g e)
    · obtain rfl : k = 1 := by omega
      have hr := HRS.out
      rw [List.drop_eq_nil_of_le (by rw [← HKN.out]; exact Nat.le_refl _), if_neg (by have := List.length_pos_iff.2 HR.out.ok.1; have := HKN.out; omega)] at hr
      have HRN := Lib.hid hr
      have y7 := hr.nd.c7.1
      have x7 := hr.nd.c7.2
      obtain ⟨A1, n1, c1, rfl⟩ : ∃ A n c, v1 = .slice A n c := by obtain ⟨A, c, e⟩ := Copy.shape hr.ra.2.2.2.1.2.2.1; exact ⟨A, _, c, e⟩
      have HN1 : Hid (n1 = lk.length) := Lib.hid (by obtain ⟨A', c', e⟩ := Copy.shape hr.ra.2.2.2.1.2.2.1; cases e; rfl)
      have y0 : (wr.setCell ⟨b, 7, none⟩ (.int .i64 (wrap64 (st.had + 1)))).cell? ⟨ob.o, 0, none⟩ = some (.slice A1 n1 c1) := (hr.ra.2.2.2.1.1.set_ne (by intro e; cases e) _).1
      clear hr
      go_wp2
      go_ret
      obtain ⟨hP, hL⟩ := ref_done HOB.out.1 HR.out.hv HR.out.pre.out.2.2.2 (Fr.of_below HB9.out) HRN.out HR.out.eq
      refine ⟨congrArg (fun b => Ending.returned (.bool b)) (decide_eq_decide.2 ?_), hP⟩
      rw [HT.out] at hL
      have hL' : l.length + (passS (n + 2) x st).2.length = lk.length := hL
      rw [hL', HN1.out]
      omega
set_option maxHeartbeats 8000000 in
set_option maxRecDepth 100000 in
theorem passR_share (n : Nat) (ih : RefAt n) (x : Lp) (b : Nat) (st : St) (lo hi : Nat) (ob : Ob) (v : Value) (l : List Step) (w0 w : World) (f : Fm) (is : List Nat) (cnt' : List Int) (h : Rd w0 w n lo hi x b st ob v l f is cnt') (hk : x.kind = 4) (his : is = [next x st.had st.cnt]) :
    Calls Tryz.prog 71 #[.pointer (some ⟨b, 0, none⟩), .pointer (some ⟨ob.o, 0, none⟩), .int .i64 5000] w fun e w' => e = .returned (.bool (decide (l.length + (passS (n + 2) x st).2.length ≤ 5000))) ∧ PassPost false w0 w (n + 1) lo hi x b st ob v l w' := by
  have HR := Lib.hid h
  have HT : Hid (runs (kf (n + 1) x) is st.kids = ((passS (n + 2) x st).1.kids, (passS (n + 2) x st).2)) := Lib.hid (by rw [h.eq]; rfl)
  have LK : x.kids.length ≤ 1048576 := h.nd.ok.2.2.1
  have f0 : w.cell? ⟨b, 0, none⟩ = some (.int .i64 4) := by rw [← hk]; exact (h.nd.rw 0 _ rfl).1
  have hs5 := (own_ok h.pre.gd.own).2.2.2.2.1 hk
  have hp := (own_ok h.pre.gd.own).2.2.1 (by omega)
  have cb := next_any w0 w lo hi x b st.had st.cnt f h.nd h.pre.hw0 hk hs5 (by omega)
  generalize next x st.had st.cnt = q3 at his cb
  have HKN : Hid (1 = is.length) := Lib.hid (by rw [his]; rfl)
  have HIS := Lib.hid his
  clear h hk hp his hs5
  go_enter Tryz.func71, Tryz.ntmps71
  go_wp2_with (go_at_call 97; refine cb.mono ?_; rintro e w2 ⟨rfl, hB2⟩; have HB2 := Lib.hid hB2; clear hB2)
  have HB9 : Hid (Below w.heap.size w (w2.alloc (.cells #[.int .i64 q3] 3))) := Lib.hid (B.below_trans HB2.out ((Below.refl _ _).alloc (Nat.le_refl _) _))
  have HI : Hid (∀ k (hk : k < is.length), (w2.alloc (.cells #[.int .i64 q3] 3)).cell? ⟨w2.heap.size, k, none⟩ = some (.int .i64 (is[k] : Nat))) := Lib.hid (fun k hk => by have his := HIS.out; subst his; exact cells1 w2 q3 3 k hk)
  have HG9 : Hid (w.heap.size ≤ w2.heap.size) := Lib.hid HB2.out.size
  generalize (w2.alloc (.cells #[.int .i64 q3] 3)) = W9 at *
  generalize w2.heap.size = g9 at *
  clear f0
  go_loopw [79] (fun s wr => ∃ (k : Nat) (os : List Int) (v' : Value) (ks : List St) (lk : List Step), s = .int .i64 k ∧ k ≤ 1 ∧ Hid (RS w0 W9 wr n lo hi x b st.had (if k = 0 then st.cnt else cnt') f ob v l (runs (kf (n + 1) x) is st.kids) (is.drop k) os v' ks lk)) (fun s _ => 1 - (intOf s).toNat)
  case atStart => exact ⟨0, f.os, v, st.kids, l, rfl, by omega, Lib.hid (by rw [List.drop_zero, if_pos rfl]; exact HR.out.start HB9.out)⟩
  case round =>
    obtain ⟨k, os, v1, ks, lk, rfl, hk, HRS⟩ := hrel
    have HOB : Hid (((ob.o < lo ∨ hi ≤ ob.o) ∧ hi ≤ ob.bs ∧ ob.o < ob.bs) ∧ ob.o < w.heap.size ∧ w.heap.size ≤ W9.heap.size ∧ lo ≤ b ∧ b < hi) := Lib.hid ⟨HR.out.pre.hob, HR.out.pre.out.1.lt, HB9.out.size, HR.out.nd.lob, HR.out.nd.bhi⟩
    by_cases hlt : k < 1
    · obtain rfl : k = 0 := by omega
      have hi' := HR.out.ok.2 (is[0]'(HKN.out ▸ hlt)) (List.getElem_mem _)
      have hr := HRS.out
      rw [List.drop_eq_getElem_cons (HKN.out ▸ hlt)] at hr
      have cg := hr.keep HOB.out.2.1 HR.out.nd.hiw (fun g e => (World.ownsRow.lt HR.out.pre.out.2.2.1 g e).2) (g := g9) (q := 0) HG9.out (HI.out 0 (HKN.out ▸ hlt))
      have HCN : Hid (x.kind = 4 → 0 = 0 ∧ os = st.cnt ∧ cnt' = bump st.cnt (is[0]'(HKN.out ▸ hlt))) := Lib.hid (fun hk4 => by
        obtain ⟨N, e1, e2⟩ := HR.out.cnt hk4
        have e3 : is.length = 1 := by rw [e1]; rfl
        exact ⟨rfl, hr.nd.oc hk4, by subst e1; exact e2⟩)
      generalize is[0]'(HKN.out ▸ hlt) = i at hi' hr cg HCN
      obtain ⟨h2, h3, h4, c6, cp⟩ := hr.idx hi'
      have cc := call_kidR ih (HR.out.kiok HB9.out) HOB.out.1 HR.out.pre.hlo HR.out.hv hr (Nat.le_trans HR.out.pre.out.2.2.2 HB9.out.size) hi' h2 h4
      have hi2 : (i : Int) < x.kids.length := by omega
      obtain ⟨U, hU⟩ : ∃ U, os.getD i 0 = U := ⟨_, rfl⟩
      have HU := Lib.hid hU
      have HI3 := Lib.hid h3
      have HST : Hid (∀ W v2 ks2 l2, RS w0 W9 W n lo hi x b st.had (if 0 = 0 then st.cnt else cnt') f ob v l (runs (kf (n + 1) x) is st.kids) (is.drop 1) os v2 ks2 l2 → W.cell? ⟨b, 8, none⟩ = some (.slice (some ⟨f.go, 0, none⟩) x.kids.length f.co) ∧ W.cell? ⟨f.go, i, none⟩ = some (.int .i64 U) ∧ W.frozen? ⟨f.go, i, none⟩ = false ∧
          RS w0 W9 (W.setCell ⟨f.go, i, none⟩ (.int .i64 (wrap64 (U + 1)))) n lo hi x b st.had cnt' f ob v l (runs (kf (n + 1) x) is st.kids) (is.drop 1) (os.set i (wrap64 (U + 1))) v2 ks2 l2) := Lib.hid (fun W v2 ks2 l2 hw => by
        have hoe : Cl W f.go i (.int .i64 (os[i]'HI3.out)) := hw.nd.oe i HI3.out
        rw [← getD_at HI3.out, HU.out] at hoe
        refine ⟨hw.nd.c8.1, hoe.1, hoe.2, hw.setOf HOB.out.1 i _ (fun hk4 => ?_)⟩
        obtain ⟨a1, a2, a3⟩ := HCN.out hk4
        rw [a3, bump, w64_eq, ← a2, HU.out])
      generalize (f.ki[i]'h2).b = pb at cp cc
      generalize (passS (n + 1) (x.kids[i]'hi') (ks[i]'h4)).2.length = z at cc
      clear hr h3 h4 hU hi'
      by_cases hf : lk.length + z ≤ 5000
      · have cc' := cc.mono (R' := fun e w' => e = .returned (.bool true) ∧ _) fun e w' he => ⟨by rw [he.1, decide_eq_true hf], he.2.1 hf⟩
        clear cc hf
        go_wp2_with (go_at_call 71; refine cc'.mono ?_; rintro e w2 ⟨rfl, v2, ks2, l2, hR2⟩; obtain ⟨y8, yo, zo, hS⟩ := HST.out _ _ _ _ hR2; have HS := Lib.hid hS; clear hS hR2)
        go_roundw
        case rel => exact ⟨1, os.set i (wrap64 (U + 1)), v2, ks2, l2, by first | rfl | go_num, by omega, Lib.hid (by rw [if_neg (by omega)]; exact HS.out)⟩
        case measure => simp [intOf]
      · have cc' := cc.mono (R' := fun e w' => e = .returned (.bool false) ∧ _) fun e w' he => ⟨by rw [he.1, decide_eq_false hf], he.2.2 (by omega)⟩
        clear cc hf
        go_wp2_with (go_at_call 71; refine cc'.mono ?_; rintro e w2 ⟨rfl, v2, hN2, hF2, hO2⟩; have HN2 := Lib.hid hN2; have HF2 := Lib.hid hF2; have HO2 := Lib.hid hO2; clear hN2 hF2 hO2)
        go_ret
        have hov := HO2.out
        rw [HT.out] at hov
        refine ⟨congrArg (fun b => Ending.returned (.bool b)) (decide_eq_false (by have h1 : 5000 < l.length + (passS (n + 2) x st).2.length := hov.1; omega)).symm, v2, ?_, (Fr.of_below HB9.out).trans HF2.out (fun _ _ h => h), .inr hov⟩
        rcases HN2.out with h | h
        · exact .inl h
        · exact .inr fun g e => Nat.le_trans HB9.out.size (h g e)
    · obtain rfl : k = 1 := by omega
      have hr := HRS.out
      rw [List.drop_eq_nil_of_le (by rw [← HKN.out]; exact Nat.le_refl _), if_neg (by have := List.length_pos_iff.2 HR.out.ok.1; have := HKN.out; omega)] at hr
      have HRN := Lib.hid hr
      have y7 := hr.nd.c7.1
      have x7 := hr.nd.c7.2
      obtain ⟨A1, n1, c1, rfl⟩ : ∃ A n c, v1 = .slice A n c := by obtain ⟨A, c, e⟩ := Copy.shape hr.ra.2.2.2.1.2.2.1; exact ⟨A, _, c, e⟩
      have HN1 : Hid (n1 = lk.length) := Lib.hid (by obtain ⟨A', c', e⟩ := Copy.shape hr.ra.2.2.2.1.2.2.1; cases e; rfl)
      have y0 : (wr.setCell ⟨b, 7, none⟩ (.int .i64 (wrap64 (st.had + 1)))).cell? ⟨ob.o, 0, none⟩ = some (.slice A1 n1 c1) := (hr.ra.2.2.2.1.1.set_ne (by intro e; cases e) _).1
      clear hr
      go_wp2
      go_ret
      obtain ⟨hP, hL⟩ := ref_done HOB.out.1 HR.out.hv HR.out.pre.out.2.2.2 (Fr.of_below HB9.out) HRN.out HR.out.eq
      refine ⟨congrArg (fun b => Ending.returned (.bool b)) (decide_eq_decide.2 ?_), hP⟩
      rw [HT.out] at hL
      have hL' : l.length + (passS (n + 2) x st).2.length = lk.length := hL
      rw [hL', HN1.out]
      omega
/-- Every pass. -/
theorem passR : ∀ n, RefAt n := by
  intro n
  have item : ∀ (n : Nat) (x : Lp) (b : Nat) (st : St) (lo hi : Nat) (ob : Ob) (v : Value) (l : List Step) (w0 w : World), Pre false w0 w n lo hi x b st ob v l → x.kind = 1 →
      Calls Tryz.prog 71 #[.pointer (some ⟨b, 0, none⟩), .pointer (some ⟨ob.o, 0, none⟩), .int .i64 5000] w fun e w' => e = .returned (.bool (decide (l.length + (passS (n + 1) x st).2.length ≤ 5000))) ∧ PassPost false w0 w n lo hi x b st ob v l w' := fun n x b st lo hi ob v l w0 w h hk => by
    have hkl := (own_ok h.gd.own).2.1 hk
    have hlen := h.bd.len
    obtain ⟨f, nd⟩ : ∃ f, Nd false w0 w lo hi x b st.had st.cnt f := by
      have := h.tr
      cases n with
      | zero => exact this.1
      | succ n => obtain ⟨-, f, nd, -⟩ := this; exact ⟨f, nd⟩
    rw [show (passS (n + 1) x st).2.length = 1 by rw [passS_item hk]; rfl]
    refine (pass_itemR w0 w lo hi x b st.had st.cnt f nd hk ob v l h.hob h.out h.le).mono fun e w' ⟨he, v', h1, h2, h3, h4⟩ => ⟨he, v', h1, Fr.weak h4 (fun k _ hS => ?_), ?_⟩
    · rcases hS with hS | hS | hS
      · exact .inl ⟨by have := nd.lob; omega, by have := nd.bhi; omega⟩
      · exact .inr (.inl hS)
      · exact .inr (.inr hS)
    · rw [passS_item hk]
      rcases Nat.lt_or_ge l.length 5000 with hlt | hge
      · refine .inl ⟨by show l.length + 1 ≤ 5000; omega, h2, ?_⟩
        cases n with
        | zero => exact ⟨⟨f, h3⟩, hkl, by show st.kids.length = 0; omega⟩
        | succ n => exact ⟨hlen, f, h3, fun j h1 h2 h3 => by omega⟩
      · exact .inr ⟨by show 5000 < l.length + 1; omega, _, by rw [List.length_append]; show 5000 < l.length + 1; omega, by rw [List.length_append]; show l.length + 1 ≤ 5001; have := h.le; omega, h2⟩
  induction n with
  | zero =>
    intro x b st lo hi ob v l w0 w h
    refine item 0 x b st lo hi ob v l w0 w h ?_
    by_cases hk : x.kind = 1
    · exact hk
    · have := (own_ok h.gd.own).2.2.1 hk
      have := h.gd.2
      omega
  | succ n ih =>
    intro x b st lo hi ob v l w0 w h
    obtain ⟨h1, h5⟩ := (own_ok h.gd.own).1
    by_cases hk1 : x.kind = 1
    · exact item (n + 1) x b st lo hi ob v l w0 w h hk1
    obtain ⟨hl, f, nd, htr⟩ := h.tr
    have hok := idx_ok (cnt := st.cnt) h.gd.own hk1 h.bd.had.1
    rcases (by omega : x.kind = 2 ∨ x.kind = 3 ∨ x.kind = 4 ∨ x.kind = 5) with hk | hk | hk | hk
    · have e := idx_row hk st.had st.cnt
      exact passR_row n ih x b st lo hi ob v l w0 w f _ st.cnt ⟨h, hl, htr, nd, e ▸ hok, fun h4 => by omega, passS_eq hk1 st.cnt (by rw [if_neg (by omega)]) _ e⟩ hk rfl
    · have e := idx_turn hk st.had st.cnt
      have hq := Int.tmod_nonneg (x.kids.length : Int) h.bd.had.1
      exact passR_turn n ih x b st lo hi ob v l w0 w f _ st.cnt ⟨h, hl, htr, nd, e ▸ hok, fun h4 => by omega, passS_eq hk1 st.cnt (by rw [if_neg (by omega)]) _ e⟩ hk (st.had.tmod x.kids.length).toNat (Int.toNat_of_nonneg hq).symm rfl
    · have e := idx_share hk st.had st.cnt
      exact passR_share n ih x b st lo hi ob v l w0 w f _ (bump st.cnt (next x st.had st.cnt)) ⟨h, hl, htr, nd, e ▸ hok, fun h4 => ⟨_, rfl, rfl⟩, passS_eq hk1 _ (by rw [if_pos hk]) _ e⟩ hk rfl
    · have e := idx_rep hk st.had st.cnt
      have hm := ((own_ok h.gd.own).2.2.2.1 hk).2.1
      exact passR_rep n ih x b st lo hi ob v l w0 w f _ st.cnt ⟨h, hl, htr, nd, e ▸ hok, fun h4 => by omega, passS_eq hk1 st.cnt (by rw [if_neg (by omega)]) _ e⟩ hk x.many.toNat (by omega) rfl
end Go.Proofs.YtfillnkebohciaaGreatDoor.T
namespace Go.Proofs.YtfillnkebohciaaGreatDoor.T
open Go.RowKit
open L (Lp row row1 At AtR lv kdL kid_at)
open F (Fr Cl)

/-- So many passes. -/
def playN (n : Nat) (x : Lp) : Nat → St → St × List Step
  | 0, st => (st, [])
  | k + 1, st => ((playN n x k (passS n x st).1).1, (passS n x st).2 ++ (playN n x k (passS n x st).1).2)
def stK : B.Kd Step := .flat 2 stE (fun _ => rfl) stE1
def PRun (tst : Bool) (w0 : World) (n lo hi : Nat) (x : Lp) (b : Nat) (ob : Ob) (tot : List Step) (wr : World) (j : Nat) : Prop :=
  (∃ st v l, Pre tst w0 wr n lo hi x b st ob v l ∧ l ++ (playN (n + 1) x j st).2 = tot) ∨ (∃ v, Over tst wr ob v tot.length)
theorem prun_step {tst : Bool} {w0 wr w' : World} {n lo hi : Nat} {x : Lp} {b : Nat} {st : St} {ob : Ob} {v : Value} {l tot : List Step} {j : Nat} {B : Nat} (h : Pre tst w0 wr n lo hi x b st ob v l) (ht : l ++ (playN (n + 1) x (j + 1) st).2 = tot) (hp : PassPost tst w0 wr n lo hi x b st ob v l w') (h1 : B ≤ lo) (h2 : B ≤ ob.o) (h3 : B ≤ wr.heap.size) :
    (((∃ st v l, Pre tst w0 w' n lo hi x b st ob v l ∧ l ++ (playN (n + 1) x j st).2 = tot) ∧ l.length + (passS (n + 1) x st).2.length ≤ 5000) ∨ ((∃ v, Over tst w' ob v tot.length) ∧ 5000 < l.length + (passS (n + 1) x st).2.length)) ∧ Below B wr w' := by
  obtain ⟨v', hn, hf, hr⟩ := hp
  have hv : ∀ g, v.ownBlock = some g → ob.bs ≤ g := fun g e => (World.ownsRow.lt h.out.2.2.1 g e).1
  have hb : ∀ B, B ≤ lo → B ≤ ob.o → B ≤ wr.heap.size → Below B wr w' := fun B h1 h2 h3 => hf.below h3 (fun k hS => by
    rcases hS with hS | hS | hS
    · omega
    · omega
    · have := hv k hS; have := h.hob; omega)
  refine ⟨?_, hb B h1 h2 h3⟩
  rw [playN] at ht
  rcases hr with ⟨a1, a2, a3⟩ | ⟨a1, a2⟩
  · refine .inl ⟨⟨_, v', _, ⟨a3, h.gd, ?_, h.hob, a2, by rw [List.length_append]; exact a1, h.hw0.trans (hb _ h.hlo h.how0 h.hw0.size), h.hlo, h.how0⟩, by rw [List.append_assoc]; exact ht⟩, a1⟩
    rw [List.length_append]
    exact (pass_bd n x l.length st h.gd h.bd).2 a1
  · refine .inr ⟨⟨v', ?_, a2⟩, a1⟩
    have e := congrArg List.length ht
    simp only [List.length_append] at e
    omega
theorem prun_call {w0 wr : World} {n lo hi : Nat} {x : Lp} {b : Nat} {ob : Ob} {tot : List Step} {j : Nat} {B : Nat} (h : PRun true w0 n lo hi x b ob tot wr (j + 1)) (h1 : B ≤ lo) (h2 : B ≤ ob.o) (h3 : B ≤ wr.heap.size) :
    Calls Tryz.prog 80 #[.pointer (some ⟨b, 0, none⟩), .pointer (some ⟨ob.o, 0, none⟩)] wr fun e w' => e = .returned (.tuple #[]) ∧ PRun true w0 n lo hi x b ob tot w' j ∧ Below B wr w' := by
  rcases h with ⟨st, v, l, hp, ht⟩ | ⟨v, hov⟩
  · refine (pass n _ _ _ _ _ _ _ _ _ _ hp).mono fun e w' he => ⟨he.1, ?_⟩
    obtain ⟨h5, h6⟩ := prun_step hp ht he.2 h1 h2 h3
    exact ⟨h5.elim (fun h => .inl h.1) (fun h => .inr h.1), h6⟩
  · obtain ⟨l', q1, q2, q3⟩ := hov.2
    refine (pass_full wr b ob v l' q3 ⟨q1, q2⟩).mono fun e w' he => ⟨he.1, .inr ⟨v, hov.1, l', q1, q2, q3.below he.2⟩, he.2.mono h3⟩
/-- Where nothing was played yet. -/
theorem pre_start {tst : Bool} {w0 w : World} {n lo hi : Nat} {x : Lp} {b : Nat} {ob : Ob} {A As : Option Addr} (ht : Tr tst w0 n w lo hi x b (st0 n x)) (hat : At n w0 x A As) (hg : L.pf (n + 1) x = 0) (hob : (ob.o < lo ∨ hi ≤ ob.o) ∧ hi ≤ ob.bs ∧ ob.o < ob.bs) (h0 : Cl w ob.o 0 (.slice none 0 0)) (h1 : tst = true → Cl w ob.o 1 (.int .i64 5000)) (hbs : ob.bs ≤ w.heap.size)
    (hb : Below w0.heap.size w0 w) (h2 : w0.heap.size ≤ lo) (h3 : w0.heap.size ≤ ob.o) : Pre tst w0 w n lo hi x b (st0 n x) ob (.slice none 0 0) [] :=
  ⟨ht, gd_at n w0 x A As hat hg, bd_st0 n x (gd_at n w0 x A As hat hg), hob, ⟨h0, h1, B.Own.nil _ _ _ _ _, hbs⟩, Nat.zero_le _, hb, h2, h3⟩
def tot (n : Nat) (x : Lp) (k : Nat) : List Step := (playN (n + 1) x k (st0 n x)).2
def psE (n : Nat) (x : Lp) (many : Int) : Int := if L.lf (n + 1) x ≠ 0 then L.lf (n + 1) x else if L.bad many 0 5000 = true then 1 else if 5000 < (tot n x many.toNat).length then 2 else 0
def psL (n : Nat) (x : Lp) (many : Int) : List Step := if psE n x many = 0 then tot n x many.toNat else []
/-- Steps and an error. -/
def Res2 (l : List Step) (q : Int) (e : Ending) (w' : World) : Prop := ∃ A c, e = .returned (.tuple #[.slice A l.length c, .int .i64 q]) ∧ stK.C w' A l
theorem res_none (q : Int) (w' : World) : Res2 [] q (.returned (.tuple #[.slice none 0 0, .int .i64 q])) w' := ⟨none, 0, rfl, B.Kd.C_nil _ _ _⟩
theorem lf_pf {n : Nat} {x : Lp} (h : L.lf (n + 1) x = 0) : L.pf (n + 1) x = 0 := by
  unfold L.lf at h
  split at h
  · omega
  · exact h
/-! ### PassesOf -/
def PRunA (w0 : World) (n lo hi : Nat) (x : Lp) (b : Nat) (ob : Ob) (tot : List Step) (wr : World) (j : Nat) (st : St) (v : Value) (l : List Step) : Prop := Pre false w0 wr n lo hi x b st ob v l ∧ l ++ (playN (n + 1) x j st).2 = tot
theorem prun_callR {w0 wr : World} {n lo hi : Nat} {x : Lp} {b : Nat} {ob : Ob} {tot : List Step} {j : Nat} {st : St} {v : Value} {l : List Step} {B : Nat} (h : PRunA w0 n lo hi x b ob tot wr (j + 1) st v l) (h1 : B ≤ lo) (h2 : B ≤ ob.o) (h3 : B ≤ wr.heap.size) :
    Calls Tryz.prog 71 #[.pointer (some ⟨b, 0, none⟩), .pointer (some ⟨ob.o, 0, none⟩), .int .i64 5000] wr fun e w' => e = .returned (.bool (decide (l.length + (passS (n + 1) x st).2.length ≤ 5000))) ∧ (l.length + (passS (n + 1) x st).2.length ≤ 5000 → ∃ st v l, PRunA w0 n lo hi x b ob tot w' j st v l) ∧ (5000 < l.length + (passS (n + 1) x st).2.length → 5000 < tot.length) ∧ Below B wr w' := by
  refine (passR n _ _ _ _ _ _ _ _ _ _ h.1).mono fun e w' he => ⟨he.1, ?_⟩
  obtain ⟨h5, h6⟩ := prun_step h.1 h.2 he.2 h1 h2 h3
  refine ⟨fun hf => ?_, fun hf => ?_, h6⟩
  · rcases h5 with h | h
    · exact h.1
    · omega
  · rcases h5 with h | ⟨⟨v, hov⟩, _⟩
    · omega
    · exact hov.1
end Go.Proofs.YtfillnkebohciaaGreatDoor.T
