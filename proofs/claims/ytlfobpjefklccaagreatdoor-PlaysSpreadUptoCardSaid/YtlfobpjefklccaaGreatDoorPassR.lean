/- A pass of a tree: the reference's. -/
import Derived.Test.YtlfobpjefklccaaGreatDoorPassK
namespace Go.Proofs.YtlfobpjefklccaaGreatDoor.T
open Go.RowKit
open L (Lp row row1 At AtR lv kdL kid_at)
open F (Fr Cl)

set_option maxHeartbeats 4000000 in
set_option maxRecDepth 100000 in
theorem pass_itemR (w0 w : World) (lo hi : Nat) (x : Lp) (b : Nat) (had : Int) (cnt : List Int) (f : Fm) (h : Nd false w0 w lo hi x b had cnt f) (hk : x.kind = 1) (ob : Ob) (v : Value) (l : List Step) (hob : ((ob.o < lo ∨ hi ≤ ob.o) ∧ hi ≤ ob.bs ∧ ob.o < ob.bs)) (ho : OutV false w ob v l) (hl : l.length ≤ 5000) :
    Calls Tryz.prog 68 #[.pointer (some ⟨b, 0, none⟩), .pointer (some ⟨ob.o, 0, none⟩), .int .i64 5000] w fun e w' => e = .returned (.bool (decide (l.length + 1 ≤ 5000))) ∧ ∃ v', NewV w v v' ∧ OutV false w' ob v' (l ++ [(x.item, x.long)]) ∧ Nd false w0 w' lo hi x b (w64 (had + 1)) cnt f ∧ Fr (fun k => k = b ∨ k = ob.o ∨ v.ownBlock = some k) w w' := by
  obtain ⟨A, n, c, rfl⟩ : ∃ A n c, v = .slice A n c := by obtain ⟨A, c, e⟩ := Copy.shape ho.2.2.1; exact ⟨A, _, c, e⟩
  have HN : Hid (n = l.length) := Lib.hid (by obtain ⟨A', c', e⟩ := Copy.shape ho.2.2.1; cases e; rfl)
  have HH := Lib.hid h
  have HO := Lib.hid ho
  have HL := Lib.hid hl
  have HOB := Lib.hid hob
  have g0 := ho.1.1
  have z0 := ho.1.2
  have g0' : ∀ o, (w.alloc o).cell? ⟨ob.o, 0, none⟩ = some (.slice A n c) := fun o => B.cell_below ((Below.refl _ _).alloc (Nat.le_refl _) o) ho.1.1
  have f0 : w.cell? ⟨b, 0, none⟩ = some (.int .i64 1) := by rw [← hk]; exact (h.rw 0 _ rfl).1
  have f1 := (h.rw 1 _ rfl).1
  have f2 := (h.rw 2 _ rfl).1
  have f7 := h.c7.1
  have z7 := h.c7.2
  have HQ : Hid (∀ (W w8 : World), Below w.heap.size w W → Fr (fun k => (Value.slice A n c).ownBlock = some k) W w8 → Cl w8 ob.o 0 (.slice A n c)) := Lib.hid (fun W w8 hb hf => (ho.1.below hb).fr hf (fun e => by have := (World.ownsRow.lt ho.2.2.1 _ e).1; have := hob; omega))
  clear h ho hl hob hk
  go_enter Tryz.func68, Tryz.ntmps68
  go_wp2
  go_region_law (first
    | (refine Copy.step_append_s (W := w.drew) ob.bs (by rfl) _ _ 42 46 (.agg #[.string ⟨#[]⟩, .int .i64 0]) 2 24 (by rfl) Tryz.underlying42 info_step rfl (by decide) (by decide) stE (fun _ => rfl) stE1 (.slice A n c) l (x.item, x.long) _ (by rfl) HO.out.2.2.1 (by rfl) _ (by rfl) (by rfl) HO.out.2.2.2 (by have := HL.out; omega) ?_; intro v8 w8 hO8 hOB8 HG8; obtain ⟨A8, c8, rfl⟩ : ∃ A8 c8, v8 = .slice A8 (l.length + 1) c8 := (by obtain ⟨A8, c8, e⟩ := Copy.shape hO8; exact ⟨A8, c8, by rw [e, List.length_append]; rfl⟩); have HO8 := Lib.hid hO8; have HOB8 := Lib.hid hOB8; clear hO8 hOB8; have HF8 := Lib.hid (((Fr.refl (fun b => (Value.slice A n c).ownBlock = some b) _).alloc _).grown HG8 (fun g e _ => e)); clear HG8; have Z8 := (HQ.out _ w8 (by exact B.below_drew (Below.refl _ _) 1) HF8.out).1; have Z9 := (HQ.out _ w8 (by exact B.below_drew (Below.refl _ _) 1) HF8.out).2))
  all_goals
    have HFW : Hid (Fr (fun k => k = ob.o ∨ (Value.slice A n c).ownBlock = some k) w (w8.setCell ⟨ob.o, 0, none⟩ (.slice A8 (l.length + 1) c8))) := Lib.hid (Fr.set (p := ⟨ob.o, 0, none⟩) ((Fr.of_below (S := fun k => k = ob.o ∨ (Value.slice A n c).ownBlock = some k) (B.below_drew (Below.refl _ w) 1)).trans HF8.out (fun _ _ h => .inr h)) (fun _ => .inl rfl) _)
    have HLT : Hid (∀ g, (Value.slice A n c).ownBlock = some g → ob.bs ≤ g ∧ g < w.heap.size) := Lib.hid (fun g e => World.ownsRow.lt HO.out.2.2.1 g e)
    have HND : Hid (Nd false w0 (w8.setCell ⟨ob.o, 0, none⟩ (.slice A8 (l.length + 1) c8)) lo hi x b had cnt f) := Lib.hid (HH.out.fr HFW.out
      (fun h => by have := HH.out.bhi; have := HH.out.lob; have := HOB.out; rcases h with h | h; omega; have := (HLT.out _ h).1; omega)
      (fun h => by have := HH.out.go.2.1; have := HH.out.go.1; have := HOB.out; rcases h with h | h; omega; have := (HLT.out _ h).1; omega)
      (fun hp h => by have := (HH.out.gk hp).2.2.1; have := (HH.out.gk hp).2.1; have := HOB.out; rcases h with h | h; omega; have := (HLT.out _ h).1; omega))
    have y7 := HND.out.c7.1
    have x7 := HND.out.c7.2
    have HO9 : Hid (OutV false (w8.setCell ⟨ob.o, 0, none⟩ (.slice A8 (l.length + 1) c8)) ob (.slice A8 (l.length + 1) c8) (l ++ [(x.item, x.long)])) := Lib.hid ⟨(HQ.out _ w8 (B.below_drew (Below.refl _ _) 1) HF8.out).set _, (fun h => by cases h), ⟨HO8.out.setCell (p := ⟨ob.o, 0, none⟩) (by show ob.o < ob.bs; have := HOB.out; omega) _, Nat.le_trans HO.out.2.2.2 HFW.out.size⟩⟩
    have HNV : Hid (NewV w (.slice A n c) (.slice A8 (l.length + 1) c8)) := Lib.hid (HOB8.out.elim .inl (fun h => .inr fun g e => by have := h g e; simpa using this))
    clear HF8 HO8 HOB8 Z8 Z9 HQ g0' g0 z0 f7 z7 f0 f1 f2
    generalize w8.setCell ⟨ob.o, 0, none⟩ (.slice A8 (l.length + 1) c8) = W9 at *
    go_wp2
    go_loopw [79] (fun s wr => s = .int .i64 0 ∧ Hid (W9 = wr)) (fun s _ => 0)
    case atStart => exact ⟨rfl, Lib.hid rfl⟩
    case round =>
      obtain ⟨rfl, HWW⟩ := hrel
      obtain rfl := HWW.out
      clear HWW
      have y0 := (HO9.out.fr (S := fun k => k = b) (Fr.set (p := ⟨b, 7, none⟩) (Fr.refl (fun k => k = b) _) (fun _ => rfl) (.int .i64 (wrap64 (had + 1)))) (by have := HH.out.bhi; have := HH.out.lob; have := HOB.out; omega) (fun g e => by have := HH.out.bhi; have := HH.out.lob; have := HOB.out; have := (World.ownsRow.lt HO9.out.2.2.1 g e).1; omega)).1.1
      go_wp2
      go_ret
      refine ⟨?_, _, HNV.out, HO9.out.fr (S := fun k => k = b) (Fr.set (p := ⟨b, 7, none⟩) (Fr.refl (fun k => k = b) _) (fun _ => rfl) _) (by have := HH.out.bhi; have := HH.out.lob; have := HOB.out; omega) (fun g e => ?_), ?_, ?_⟩
      · exact congrArg (fun b => Ending.returned (.bool b)) (decide_eq_decide.2 (by omega))
      · have := HH.out.bhi
        have := HH.out.lob
        have := HOB.out
        have := (World.ownsRow.lt HO9.out.2.2.1 g e).1
        omega
      · rw [w64_eq]; exact HND.out.setHad _
      · exact Fr.set (p := ⟨b, 7, none⟩) (Fr.weak HFW.out (fun _ _ h => .inr h)) (fun _ => .inl rfl) _
/-! ### the kids of a pass -/
def RefAt (n : Nat) : Prop := ∀ x b st lo hi ob v l w0 w, Pre false w0 w n lo hi x b st ob v l →
  Calls Tryz.prog 68 #[.pointer (some ⟨b, 0, none⟩), .pointer (some ⟨ob.o, 0, none⟩), .int .i64 5000] w fun e w' => e = .returned (.bool (decide (l.length + (passS (n + 1) x st).2.length ≤ 5000))) ∧ PassPost false w0 w n lo hi x b st ob v l w'
/-- Between the kids; W0: before the first. -/
structure RS (w0 W0 wr : World) (n lo hi : Nat) (x : Lp) (b : Nat) (had : Int) (cnt : List Int) (f : Fm) (ob : Ob) (v0 : Value) (m : List Step) (T : List St × List Step) (is : List Nat) (os : List Int) (v : Value) (ks : List St) (l : List Step) : Prop where
  nd : Nd false w0 wr lo hi x b had cnt { f with os := os }
  nv : NewV W0 v0 v
  fr : Fr (Sx lo hi ob v0) W0 wr
  ra : RunA false w0 n wr x f.ki ob v m T is ks l
theorem sk_sx {tst : Bool} {w0 W : World} {lo hi : Nat} {x : Lp} {b : Nat} {had : Int} {cnt : List Int} {f : Fm} {ob : Ob} {v : Value} (nd : Nd tst w0 W lo hi x b had cnt f) {k : Nat} (hS : Sk f.ki ob v k) : Sx lo hi ob v k := by
  rcases hS with ⟨q, hq, h1, h2⟩ | h1 | h1
  · obtain ⟨j, hj', rfl⟩ := List.getElem_of_mem hq
    have := (nd.kin j hj').1
    have := (nd.kin j hj').2.1
    exact .inl ⟨by omega, by omega⟩
  · exact .inr (.inl h1)
  · exact .inr (.inr h1)
/-- The next kid passes. -/
theorem call_kidR {w0 W0 wr : World} {n lo hi : Nat} (ih : RefAt n) {x : Lp} {b : Nat} {had : Int} {cnt : List Int} {f : Fm} {ob : Ob} {v0 v : Value} {m : List Step} {T : List St × List Step} {i : Nat} {is : List Nat} {os : List Int} {ks : List St} {l : List Step} (hk : KiOk w0 W0 n x f.ki ob) (hob : ((ob.o < lo ∨ hi ≤ ob.o) ∧ hi ≤ ob.bs ∧ ob.o < ob.bs)) (hlo : w0.heap.size ≤ lo) (hv : ∀ g, v0.ownBlock = some g → ob.bs ≤ g)
    (h : RS w0 W0 wr n lo hi x b had cnt f ob v0 m T (i :: is) os v ks l) (how : ob.bs ≤ W0.heap.size) (hix : i < x.kids.length) (h2 : i < f.ki.length) (h3 : i < ks.length) :
    Calls Tryz.prog 68 #[.pointer (some ⟨f.ki[i].b, 0, none⟩), .pointer (some ⟨ob.o, 0, none⟩), .int .i64 5000] wr fun e w' => e = .returned (.bool (decide (l.length + (passS (n + 1) (x.kids[i]'hix) ks[i]).2.length ≤ 5000))) ∧
      (l.length + (passS (n + 1) (x.kids[i]'hix) ks[i]).2.length ≤ 5000 → ∃ v' ks' l', RS w0 W0 w' n lo hi x b had cnt f ob v0 m T is os v' ks' l') ∧
      (5000 < l.length + (passS (n + 1) (x.kids[i]'hix) ks[i]).2.length → ∃ v', NewV W0 v0 v' ∧ Fr (Sx lo hi ob v0) W0 w' ∧ Over false w' ob v' (m.length + T.2.length)) := by
  obtain ⟨nd, nv, fr, ra⟩ := h
  have hb : Below w0.heap.size w0 wr := hk.hw0.trans (fr.below hk.hw0.size (fun k hS => by
    rcases hS with h1 | h1 | h1
    · omega
    · have := hk.obw; have := hk.hbs; omega
    · have := hv k h1; have := hk.obw; have := hk.hbs; omega))
  have hk' : KiOk w0 wr n x f.ki ob := ⟨hk.len, hk.dis, hk.hob, hk.hlo, hb, hk.obw, hk.hbs, hk.gd⟩
  refine (ih _ _ _ _ _ _ _ _ _ _ (Tr.out hk hb ra i hix h2 h3)).mono fun e w' he => ⟨he.1, ?_⟩
  obtain ⟨v', hn', hf', hr⟩ := run_step hk' (.inl rfl) (Fr.refl (Sk f.ki ob v) wr) ra hix h2 h3 he.2
  have hvl := nv.lo hv (show ob.bs ≤ W0.heap.size by omega)
  have hF : Fr (Sx lo hi ob v0) W0 w' := fr.trans hf' (fun k hkl hS => by
    rcases sk_sx nd hS with h1 | h1 | h1
    · exact .inl h1
    · exact .inr (.inl h1)
    · rcases nv with hn | hn
      · exact .inr (.inr (hn ▸ h1))
      · have := hn k h1; omega)
  have hN : NewV W0 v0 v' := nv.trans hn' fr.size
  have nd2 := nd_run (T := T) (is := is) (m := m) nd hob hvl ⟨v', hn', hf', hr.elim (fun h => .inl h.1) (fun h => .inr h.1)⟩
  refine ⟨fun hle => ?_, fun hgt => ?_⟩
  · rcases hr with ⟨⟨ks', l', hA⟩, -⟩ | ⟨-, h⟩
    · exact ⟨v', ks', l', nd2, hN, hF, hA⟩
    · omega
  · rcases hr with ⟨-, h⟩ | ⟨h, -⟩
    · omega
    · exact ⟨v', hN, hF, h⟩
/-- A count of a kid changes. -/
theorem RS.setOf {w0 W0 wr : World} {n lo hi : Nat} {x : Lp} {b : Nat} {had : Int} {cnt cnt' : List Int} {f : Fm} {ob : Ob} {v0 v : Value} {m : List Step} {T : List St × List Step} {is : List Nat} {os : List Int} {ks : List St} {l : List Step} (h : RS w0 W0 wr n lo hi x b had cnt f ob v0 m T is os v ks l) (hob : ((ob.o < lo ∨ hi ≤ ob.o) ∧ hi ≤ ob.bs ∧ ob.o < ob.bs)) (i : Nat) (u : Int) (hc : x.kind = 4 → os.set i u = cnt') :
    RS w0 W0 (wr.setCell ⟨f.go, i, none⟩ (.int .i64 u)) n lo hi x b had cnt' f ob v0 m T is (os.set i u) v ks l := by
  obtain ⟨nd, nv, fr, a1, a2, a3, a4, a5⟩ := h
  have hgo : lo ≤ f.go ∧ f.go < hi ∧ f.go ≠ b := nd.go
  have hF : Fr (fun k => k = f.go) wr (wr.setCell ⟨f.go, i, none⟩ (.int .i64 u)) := Fr.set (p := ⟨f.go, i, none⟩) (Fr.refl (fun k => k = f.go) wr) (fun _ => rfl) _
  refine ⟨nd.setOf i u hc, nv, fr.trans hF (fun k _ e => .inl ⟨by omega, by omega⟩), a1, fun j h1 h2 h3 => ⟨(a2 j h1 h2 h3).1.fr hF (fun k k1 k2 e => ((nd.kin j h2).2.2 k k1 k2).2.1 e), (a2 j h1 h2 h3).2⟩, a3, a4.fr hF (by omega) (fun g e e2 => ?_), a5⟩
  have := (World.ownsRow.lt a4.2.2.1 g e).1
  omega
/-- All kids have passed. -/
theorem ref_done {w0 w W0 wr : World} {n lo hi : Nat} {x : Lp} {b : Nat} {st : St} {ob : Ob} {v0 v : Value} {l l' : List Step} {cnt' : List Int} {f : Fm} {T : List St × List Step} {os : List Int} {ks : List St} (hob : ((ob.o < lo ∨ hi ≤ ob.o) ∧ hi ≤ ob.bs ∧ ob.o < ob.bs)) (hv : ∀ g, v0.ownBlock = some g → ob.bs ≤ g) (hobw : ob.bs ≤ w.heap.size)
    (hf : Fr (Sx lo hi ob v0) w W0) (h : RS w0 W0 wr n lo hi x b st.had cnt' f ob v0 l T [] os v ks l') (hp : passS (n + 2) x st = (.mk (w64 (st.had + 1)) cnt' T.1, T.2)) :
    PassPost false w0 w (n + 1) lo hi x b st ob v0 l (wr.setCell ⟨b, 7, none⟩ (.int .i64 (wrap64 (st.had + 1)))) ∧ l.length + T.2.length = l'.length := by
  obtain ⟨nd, nv, fr, a1, a2, a3, a4, a5, a6⟩ := h
  have a5' : ks = T.1 := a5
  have a6' : l' ++ [] = l ++ T.2 := a6
  rw [List.append_nil] at a6'
  have hlob := nd.lob
  have hbh := nd.bhi
  have hFs : Fr (fun k => k = b) wr (wr.setCell ⟨b, 7, none⟩ (.int .i64 (wrap64 (st.had + 1)))) := Fr.set (p := ⟨b, 7, none⟩) (Fr.refl (fun k => k = b) _) (fun _ => rfl) _
  have hN : NewV w v0 v := by
    rcases nv with hn | hn
    · exact .inl hn
    · exact .inr fun g e => Nat.le_trans hf.size (hn g e)
  have hvl := hN.lo hv (show ob.bs ≤ w.heap.size by omega)
  refine ⟨⟨v, hN, (hf.trans fr (fun k _ h => h)).trans hFs (fun k _ e => .inl ⟨by omega, by omega⟩), ?_⟩, by rw [a6', List.length_append]⟩
  rw [hp]
  refine .inl ⟨by show l.length + T.2.length ≤ 5000; rw [← List.length_append, ← a6']; exact a3, by show OutV _ _ _ _ (l ++ T.2); rw [← a6']; exact a4.fr hFs (by omega) (fun g e => by have := hvl g e; omega), ?_⟩
  refine ⟨by show T.1.length = _; rw [← a5', a1], { f with os := os }, by rw [w64_eq]; exact nd.setHad _, fun j h1 h2 h3 => ?_⟩
  have h3' : j < ks.length := by rw [a5']; exact h3
  have e : ks[j]'h3' = (St.mk (w64 (st.had + 1)) cnt' T.1).kids[j]'h3 := by subst a5'; rfl
  rw [← e]
  exact (a2 j h1 h2 h3').1.fr hFs (fun k k1 k2 e => ((nd.kin j h2).2.2 k k1 k2).1 e)
end Go.Proofs.YtlfobpjefklccaaGreatDoor.T
