/- New trees. -/
import Derived.Test.YtfillnkebohciaaGreatDoorTree
import Derived.Deep.OwnRows
import Derived.Deep.RegionHeld3
import Derived.Deep.RegionLaw
namespace Go.Proofs.YtfillnkebohciaaGreatDoor.T
open Go.RowKit
open L (Lp row row1 At AtR lv kdL kid_at)
open F (Fr Cl)

def ptE (k : KI) : List Value := [.pointer (some ⟨k.b, 0, none⟩)]
theorem ptE1 : ∀ x : KI, ∀ v ∈ ptE x, v.oneCell' = true := by intro x v hv; simp [ptE] at hv; subst hv; rfl
theorem info_part : (Tryz.prog.info? 135).map (fun i => (i.zero, i.size, i.bytes)) = some (some (.pointer none), 1, 8) := by kernel_rfl
theorem info_runner : (Tryz.prog.info? 127).map (fun i => (i.zero, i.size, i.bytes)) = some (some (.pointer none), 1, 8) := by kernel_rfl
/-- The kids made so far. -/
def Ks (tst : Bool) (w0 : World) (n : Nat) (w : World) (x : Lp) (lo : Nat) (v : Value) (ps : List KI) : Prop :=
  ps.Pairwise (fun a b => a.hi ≤ b.lo) ∧ ∀ j (h1 : j < x.kids.length) (h2 : j < ps.length), lo ≤ ps[j].lo ∧ ps[j].hi ≤ w.heap.size ∧ (∀ b, ps[j].lo ≤ b → b < ps[j].hi → v.ownBlock ≠ some b) ∧
    ∃ m, n = m + 1 ∧ Tr tst w0 m w ps[j].lo ps[j].hi x.kids[j] ps[j].b (st0 m x.kids[j])
theorem Ks.nil (tst : Bool) (w0 : World) (n : Nat) (w : World) (x : Lp) (lo : Nat) (v : Value) : Ks tst w0 n w x lo v [] := ⟨List.Pairwise.nil, fun j _ h => absurd h (by simp)⟩
/-- One more kid. -/
theorem Ks.snoc {tst : Bool} {w0 : World} {n : Nat} {w w' : World} {x : Lp} {lo : Nat} {v v' : Value} {ps : List KI} {S : Nat → Prop} (h : Ks tst w0 n w x lo v ps) (hf : Fr S w w') (hs : ∀ b, S b → (b < lo ∨ v.ownBlock = some b ∨ w.heap.size ≤ b)) (hv : v'.ownBlock = v.ownBlock ∨ ∀ g, v'.ownBlock = some g → w.heap.size ≤ g)
    (hlw : lo ≤ w.heap.size) {k m : Nat} (hk : ps.length = k) (hlt : k < x.kids.length) (hn : n = m + 1) (q : KI) (hq : w.heap.size ≤ q.lo ∧ q.hi ≤ w'.heap.size) (hqv : ∀ b, q.lo ≤ b → b < q.hi → v'.ownBlock ≠ some b) (ht : Tr tst w0 m w' q.lo q.hi x.kids[k] q.b (st0 m x.kids[k])) : Ks tst w0 n w' x lo v' (ps ++ [q]) := by
  refine ⟨List.pairwise_append.2 ⟨h.1, List.pairwise_singleton _ _, fun a ha b hb => ?_⟩, fun j h1 h2 => ?_⟩
  · obtain rfl := List.mem_singleton.1 hb
    obtain ⟨j, hj, rfl⟩ := List.getElem_of_mem ha
    have := (h.2 j (by omega) hj).2.1
    omega
  · by_cases hj : j < ps.length
    · simp only [List.getElem_append_left hj]
      obtain ⟨a1, a2, a3, m', e, a4⟩ := h.2 j h1 hj
      refine ⟨a1, Nat.le_trans a2 hf.size, fun b hb1 hb2 e => ?_, m', e, a4.fr hf (fun b hb1 hb2 hS => ?_)⟩
      · rcases hv with hv | hv
        · exact a3 b hb1 hb2 (hv ▸ e)
        · have := hv b e; omega
      · rcases hs b hS with h5 | h5 | h5
        · omega
        · exact a3 b hb1 hb2 h5
        · omega
    · have hjk : j = k := by simp at h2; omega
      subst hjk
      have e1 : (ps ++ [q])[j] = q := by rw [List.getElem_append_right (by omega)]; simp [hk]
      rw [e1]
      exact ⟨by omega, hq.2, hqv, m, hn, ht⟩
theorem Ks.fr {tst : Bool} {w0 : World} {n : Nat} {w w' : World} {x : Lp} {lo : Nat} {v : Value} {ps : List KI} {S : Nat → Prop} (h : Ks tst w0 n w x lo v ps) (hf : Fr S w w') (hs : ∀ b, S b → b < lo) : Ks tst w0 n w' x lo v ps :=
  ⟨h.1, fun j h1 h2 => by
    obtain ⟨a1, a2, a3, m', e, a4⟩ := h.2 j h1 h2
    exact ⟨a1, Nat.le_trans a2 hf.size, a3, m', e, a4.fr hf (fun b hb1 _ hS => by have := hs b hS; omega)⟩⟩
theorem own_fr {α : Type} {w w' : World} {base : Nat} {e : TypeId} {k : Nat} {enc : α → List Value} {v : Value} {xs : List α} {S : Nat → Prop} (h : B.Own w base e k enc v xs) (hf : Fr S w w') (hS : ∀ b, S b → b < base) : B.Own w' base e k enc v xs := by
  have hlt := World.ownsRow.lt h
  refine ⟨h.1, ?_⟩
  rcases h.2 with hn | ⟨g, cap, cur, rfl, h1, h2, rest⟩
  · exact Or.inl hn
  · exact Or.inr ⟨g, cap, cur, rfl, h1, (hf.block g (hlt g rfl).2 (fun hs => by have := hS g hs; omega)).trans h2, rest⟩
/-- A new tree is whole. -/
theorem tr_new {tst : Bool} {n : Nat} {w0 w' : World} {lo bp : Nat} {x : Lp} {A As : Option Addr} {c c' : Nat} {v : Value} {ps : List KI} {tp : TypeId} (hbp : bp = lo + 2) (hC : (kdL n).C w0 A x.kids) (hok : x.ok) (hD : B.Kd.int.C w0 As x.shares)
    (hrow : ∀ i u, (row x A As c c')[i]? = some u → Cl w' bp i u) (h6 : Cl w' bp 6 v) (h7 : Cl w' bp 7 (.int .i64 0)) (h8 : Cl w' bp 8 (.slice (some ⟨lo + 1, 0, none⟩) x.kids.length x.kids.length)) (h9 : tst = true → Cl w' bp 9 (.int .i64 (sumI x.shares 0)))
    (hof : ∀ j, j < x.kids.length → Cl w' (lo + 1) j (.int .i64 0)) (hO : B.Own w' (lo + 3) tp 1 ptE v ps) (hl : ps.length = x.kids.length) (hK : Ks tst w0 n w' x (lo + 3) v ps) (hsz : lo + 3 ≤ w'.heap.size) :
    Tr tst w0 n w' lo w'.heap.size x bp (st0 n x) := by
  subst hbp
  obtain ⟨A8, c8, rfl⟩ := Copy.shape hO
  obtain ⟨gk, hgk⟩ : ∃ gk, 0 < x.kids.length → A8 = some ⟨gk, 0, none⟩ ∧ lo + 3 ≤ gk ∧ (Value.slice A8 ps.length c8).ownBlock = some gk := by
    by_cases hp : 0 < x.kids.length
    · obtain ⟨g, h⟩ := L.own_blk hO (by omega); exact ⟨g, fun _ => h⟩
    · exact ⟨0, fun h => absurd h hp⟩
  have nd : Nd tst w0 w' lo w'.heap.size x (lo + 2) 0 (List.replicate x.kids.length 0) ⟨A, As, A8, c, c', c8, x.kids.length, lo + 1, gk, List.replicate x.kids.length 0, ps⟩ :=
    { lob := by omega
      bhi := by omega
      hiw := Nat.le_refl _
      ok := hok
      rw := hrow
      c6 := by rw [← hl]; exact h6
      c7 := h7
      c8 := h8
      c9 := h9
      sh := hD
      ol := by simp
      oc := fun _ => rfl
      go := ⟨by show lo ≤ lo + 1; omega, by show lo + 1 < _; omega, by show lo + 1 ≠ _; omega⟩
      oe := fun j hj => by
        have hj' : j < x.kids.length := by simpa using hj
        have e : (List.replicate x.kids.length (0 : Int))[j]'hj = 0 := by simp
        show Cl w' (lo + 1) j (.int .i64 ((List.replicate x.kids.length (0 : Int))[j]'hj))
        rw [e]
        exact hof j hj'
      gk := fun hp => by
        obtain ⟨h1, h2, h3⟩ := hgk hp
        have := (World.ownsRow.lt hO gk h3).2
        exact ⟨h1, by show lo ≤ gk; omega, this, by show gk ≠ _; omega, by show gk ≠ lo + 1; omega⟩
      kl := hl
      ke := fun j hj => by
        have hj2 : j < ps.length := hj
        obtain ⟨rfl, h2, h3⟩ := hgk (by omega)
        have hc := World.ownsRow.cells (show w'.ownsRow (lo + 3) tp 1 (.slice (some ⟨gk, 0, none⟩) ps.length c8) ps.length (ps.flatMap ptE) from hO) (g := gk) rfl (j * 1 + 0) _ (B.flatMap_at (k := 1) (enc := ptE) (fun _ => rfl) j hj2 0 (by simp [ptE]))
        rw [Lib.add_plain] at hc
        simpa [ptE] using hc
      kin := fun j hj => by
        have hj2 : j < ps.length := hj
        obtain ⟨a1, a2, a3, -⟩ := hK.2 j (by omega) hj2
        have a1' : lo + 3 ≤ ps[j].lo := a1
        obtain ⟨g1, g2, g3⟩ := hgk (by omega)
        refine ⟨by show lo ≤ ps[j].lo; omega, a2, fun k hk1 hk2 => ?_⟩
        have hk1' : ps[j].lo ≤ k := hk1
        refine ⟨by omega, by show k ≠ lo + 1; omega, fun e => ?_⟩
        have e' : k = gk := e
        exact a3 k hk1 hk2 (by rw [g3, e'])
      kd := hK.1 }
  cases n with
  | zero =>
    have h0 : x.kids.length = 0 := Nat.eq_zero_of_not_pos fun hp => by obtain ⟨_, _, m, _, _, _, _, _, e, _⟩ := kid_at hC 0 hp; omega
    exact ⟨⟨_, by rw [st0_had, st0_cnt]; exact nd⟩, h0, rfl⟩
  | succ n =>
    refine ⟨by simp [st0, St.kids], _, by rw [st0_had, st0_cnt]; exact nd, fun j h1 h2 h3 => ?_⟩
    obtain ⟨-, -, -, m, e, h4⟩ := hK.2 j h1 h2
    obtain rfl : n = m := by omega
    have e3 : (st0 (n + 1) x).kids[j] = st0 n x.kids[j] := by simp [st0, St.kids]
    rw [e3]
    exact h4
/-- Three blocks made one after the other. -/
theorem three (w : World) (a b d : Array Value) (s t u : TypeId) : ((((w.alloc (.cells a s)).alloc (.cells b t)).alloc (.cells d u)).drew.heap.size = w.heap.size + 3) ∧ Below w.heap.size w (((w.alloc (.cells a s)).alloc (.cells b t)).alloc (.cells d u)).drew ∧
    (∀ i v, a[i]? = some v → Cl (((w.alloc (.cells a s)).alloc (.cells b t)).alloc (.cells d u)).drew w.heap.size i v) ∧ (∀ i v, b[i]? = some v → Cl (((w.alloc (.cells a s)).alloc (.cells b t)).alloc (.cells d u)).drew (w.heap.size + 1) i v) ∧
    (∀ i v, d[i]? = some v → Cl (((w.alloc (.cells a s)).alloc (.cells b t)).alloc (.cells d u)).drew (w.heap.size + 1 + 1) i v) := by
  have e1 : (w.alloc (.cells a s)).heap.size = w.heap.size + 1 := by simp
  have e2 : ((w.alloc (.cells a s)).alloc (.cells b t)).heap.size = w.heap.size + 1 + 1 := by simp
  have B1 : Below (w.alloc (.cells a s)).heap.size (w.alloc (.cells a s)) ((w.alloc (.cells a s)).alloc (.cells b t)) := (Below.refl _ _).alloc (Nat.le_refl _) _
  have B2 : Below ((w.alloc (.cells a s)).alloc (.cells b t)).heap.size ((w.alloc (.cells a s)).alloc (.cells b t)) (((w.alloc (.cells a s)).alloc (.cells b t)).alloc (.cells d u)).drew := ((Below.refl _ _).alloc (Nat.le_refl _) _).drew
  refine ⟨by simp, (((Below.refl w.heap.size w).alloc (Nat.le_refl _) (.cells a s)).trans (B1.mono (by simp))).trans (B2.mono (by simp; omega)), fun i v h => ((Cl.new w a s i v h).below B1).below B2, fun i v h => ?_, fun i v h => ?_⟩
  · have := (Cl.new (w.alloc (.cells a s)) b t i v h).below B2
    rwa [e1] at this
  · have := (Cl.new ((w.alloc (.cells a s)).alloc (.cells b t)) d u i v h).below (B.below_drew (Below.refl _ _) 1)
    rwa [e2] at this
theorem made0 {n j : Nat} (h : j < n) : (madeCells #[Value.int IntKind.i64 0] n)[j]? = some (.int .i64 0) := by
  rw [← Array.getElem?_toList, toList_madeCells_one, List.getElem?_replicate, if_pos h]
def NpAt (tst : Bool) (fn : Nat) (n : Nat) : Prop := ∀ (x : Lp) (A As : Option Addr) (c c' : Nat) (w0 w : World), At n w0 x A As → Below w0.heap.size w0 w →
    Calls Tryz.prog fn #[lv x A As c c'] w fun e w' => ∃ b, e = .returned (.pointer (some ⟨b, 0, none⟩)) ∧ Tr tst w0 n w' w.heap.size w'.heap.size x b (st0 n x) ∧ Below w.heap.size w w'
set_option maxHeartbeats 8000000 in
set_option maxRecDepth 100000 in
theorem newPart : ∀ n, NpAt true 78 n := by
  intro n
  induction n using Nat.strongRecOn with
  | ind n ih =>
    intro x A As c c' w0 w h hb
    obtain ⟨C, D, hok⟩ := h
    have LK := C.1
    have LS := D.1
    have HIH := Lib.hid ih
    have HOK := Lib.hid hok
    have HC := Lib.hid C
    have HD := Lib.hid D
    have HB0 := Lib.hid hb
    have hmk := fun W => run_make_row' (P := Tryz.prog) 23 3 (.int .i64 0) 8 Tryz.underlying23 L.info_int rfl .i64 .i64 x.kids.length (by have := hok.2.2.1; omega) (by omega) W
    clear ih C D hb hok
    unfold lv
    go_enter Tryz.func78, Tryz.ntmps78
    go_wp2
    have HX := Lib.hid (fun (o : Obj) => (Below.refl (w.alloc o).heap.size (w.alloc o)))
    go_region_held3 (fun w' => w'.cell? ⟨w.heap.size, 0, none⟩ = some (.int .i64 x.kind) ∧ w'.cell? ⟨w.heap.size, 1, none⟩ = some (.string x.item) ∧ w'.cell? ⟨w.heap.size, 2, none⟩ = some (.int .i64 x.long) ∧ w'.cell? ⟨w.heap.size, 3, none⟩ = some (.int .i64 x.many) ∧ w'.cell? ⟨w.heap.size, 4, none⟩ = some (.slice A x.kids.length c) ∧ w'.cell? ⟨w.heap.size, 5, none⟩ = some (.slice As x.shares.length c'))
      (first | exact L.boxed (Below.refl _ _) | go_keep) (first | fail)
    go_wp2
    have H3 := three w #[.int .i64 x.kind, .string x.item, .int .i64 x.long, .int .i64 x.many, .slice A x.kids.length c, .slice As x.shares.length c'] (madeCells #[Value.int IntKind.i64 0] x.kids.length) #[.int .i64 x.kind, .string x.item, .int .i64 x.long, .int .i64 x.many, .slice A x.kids.length c, .slice As x.shares.length c', .slice none 0 0, .int .i64 0, .slice (some ⟨w.heap.size + 1, 0, none⟩) x.kids.length x.kids.length, .int .i64 0] 25 3 166
    generalize (((w.alloc (Obj.cells #[.int .i64 x.kind, .string x.item, .int .i64 x.long, .int .i64 x.many, .slice A x.kids.length c, .slice As x.shares.length c'] 25)).alloc (Obj.cells (madeCells #[Value.int IntKind.i64 0] x.kids.length) 3)).alloc (Obj.cells #[.int .i64 x.kind, .string x.item, .int .i64 x.long, .int .i64 x.many, .slice A x.kids.length c, .slice As x.shares.length c', .slice none 0 0, .int .i64 0, .slice (some ⟨w.heap.size + 1, 0, none⟩) x.kids.length x.kids.length, .int .i64 0] 166)).drew = W2 at H3 ⊢
    have HS2 := Lib.hid H3.1
    have HB2 := Lib.hid H3.2.1
    have HBX := Lib.hid H3.2.2.1
    have HOF := Lib.hid H3.2.2.2.1
    have HPT := Lib.hid H3.2.2.2.2
    clear H3
    go_loopw [18] (fun s wr => ∃ (k : Nat) (ps : List KI) (v : Value), s = .int .i64 k ∧ k ≤ x.kids.length ∧ Hid (ps.length = k) ∧ Hid (B.Own wr (w.heap.size + 3) 135 1 ptE v ps) ∧ Hid (Cl wr (w.heap.size + 1 + 1) 6 v) ∧ Hid (Fr (fun b => b = w.heap.size + 1 + 1) W2 wr) ∧
      Hid (∀ i u, i ≠ 6 → Cl W2 (w.heap.size + 1 + 1) i u → Cl wr (w.heap.size + 1 + 1) i u) ∧ Hid (Ks true w0 n wr x (w.heap.size + 3) v ps)) (fun s _ => x.kids.length - (intOf s).toNat)
    case atStart => exact ⟨0, [], .slice none 0 0, rfl, by omega, Lib.hid rfl, Lib.hid (B.Own.nil _ _ _ _ _), Lib.hid (HPT.out 6 _ rfl), Lib.hid (Fr.refl _ _), Lib.hid (fun i u _ h => h), Lib.hid (Ks.nil _ _ _ _ _ _ _)⟩
    case round =>
      obtain ⟨k, ps, v, rfl, hk, HN, HO, H6, HF, HP, HK⟩ := hrel
      have HSZ : Hid (w.heap.size + 3 ≤ wr.heap.size) := Lib.hid (by have := HF.out.size; have := HS2.out; omega)
      have HBW : Hid (Below w.heap.size w wr) := Lib.hid (HB2.out.trans (HF.out.below HB2.out.size (fun b e => by omega)))
      have HBW0 : Hid (Below w0.heap.size w0 wr) := Lib.hid (HB0.out.trans (HBW.out.mono HB0.out.size))
      by_cases hlt : k < x.kids.length
      · obtain ⟨b1, o1, m, A2, As2, c2, c2', rfl, rfl, hat, e1⟩ := kid_at HC.out k hlt
        have f0 := B.cell_below HBW0.out (e1 0 _ rfl)
        have f1 := B.cell_below HBW0.out (e1 1 _ rfl)
        have f2 := B.cell_below HBW0.out (e1 2 _ rfl)
        have f3 := B.cell_below HBW0.out (e1 3 _ rfl)
        have f4 := B.cell_below HBW0.out (e1 4 _ rfl)
        have f5 := B.cell_below HBW0.out (e1 5 _ rfl)
        simp only [Nat.add_zero] at f0
        have hk1 : (k : Int) < x.kids.length := by omega
        have HBQ := Lib.hid (fun (o : Obj) (q : Nat) => B.below_drew ((Below.refl wr.heap.size wr).alloc (Nat.le_refl _) o) q)
        have cc := fun o q => HIH.out m (by omega) x.kids[k] A2 As2 c2 c2' w0 _ hat (HBW0.out.trans ((HBQ.out o q).mono HBW0.out.size))
        unfold lv at cc
        have QX := Lib.hid (fun (W : World) e (hb : Below (wr.alloc (.cells #[.int .i64 x.kids[k].kind, .string x.kids[k].item, .int .i64 x.kids[k].long, .int .i64 x.kids[k].many, .slice A2 x.kids[k].kids.length c2, .slice As2 x.kids[k].shares.length c2'] e)).heap.size (wr.alloc (.cells #[.int .i64 x.kids[k].kind, .string x.kids[k].item, .int .i64 x.kids[k].long, .int .i64 x.kids[k].many, .slice A2 x.kids[k].kids.length c2, .slice As2 x.kids[k].shares.length c2'] e)) W) =>
          (⟨(L.boxed hb).1, (L.boxed hb).2.1, (L.boxed hb).2.2.1, (L.boxed hb).2.2.2.1, (L.boxed hb).2.2.2.2.1, (L.boxed hb).2.2.2.2.2, B.cell_below (((Below.refl _ wr).alloc (Nat.le_refl _) _).trans (hb.mono (by simp))) H6.out.1⟩ : _ ∧ _ ∧ _ ∧ _ ∧ _ ∧ _ ∧ W.cell? ⟨w.heap.size + 1 + 1, 6, none⟩ = some v))
        have HLT : Hid (∀ g, v.ownBlock = some g → w.heap.size + 3 ≤ g ∧ g < wr.heap.size) := Lib.hid (fun g hg => World.ownsRow.lt HO.out g hg)
        have HQ8 := Lib.hid (fun (w2 w8 : World) e (hb : Below (wr.alloc (.cells #[.int .i64 x.kids[k].kind, .string x.kids[k].item, .int .i64 x.kids[k].long, .int .i64 x.kids[k].many, .slice A2 x.kids[k].kids.length c2, .slice As2 x.kids[k].shares.length c2'] e)).heap.size (wr.alloc (.cells #[.int .i64 x.kids[k].kind, .string x.kids[k].item, .int .i64 x.kids[k].long, .int .i64 x.kids[k].many, .slice A2 x.kids[k].kids.length c2, .slice As2 x.kids[k].shares.length c2'] e)) w2) (hf : Fr (fun b => v.ownBlock = some b) w2 w8) =>
          have hn : ¬ v.ownBlock = some wr.heap.size := fun e => by have := (HLT.out _ e).2; omega
          have hn2 : ¬ v.ownBlock = some (w.heap.size + 1 + 1) := fun e => by have := (HLT.out _ e).1; omega
          have q := QX.out w2 e hb
          (⟨hf.cell hn q.1, hf.cell hn q.2.1, hf.cell hn q.2.2.1, hf.cell hn q.2.2.2.1, hf.cell hn q.2.2.2.2.1, hf.cell hn q.2.2.2.2.2.1, hf.cell hn2 q.2.2.2.2.2.2⟩ : w8.cell? ⟨wr.heap.size, 0, none⟩ = some (.int .i64 x.kids[k].kind) ∧ w8.cell? ⟨wr.heap.size, 1, none⟩ = some (.string x.kids[k].item) ∧ w8.cell? ⟨wr.heap.size, 2, none⟩ = some (.int .i64 x.kids[k].long) ∧ w8.cell? ⟨wr.heap.size, 3, none⟩ = some (.int .i64 x.kids[k].many) ∧ w8.cell? ⟨wr.heap.size, 4, none⟩ = some (.slice A2 x.kids[k].kids.length c2) ∧ w8.cell? ⟨wr.heap.size, 5, none⟩ = some (.slice As2 x.kids[k].shares.length c2') ∧ w8.cell? ⟨w.heap.size + 1 + 1, 6, none⟩ = some v))
        have HZ8 := Lib.hid (fun (w2 w8 : World) (hb : Below wr.heap.size wr w2) (hf : Fr (fun b => v.ownBlock = some b) w2 w8) => ((H6.out.below hb).fr hf (fun e => by have := (HLT.out _ e).1; omega)).2)
        have HSQ := Lib.hid (fun (o : Obj) => (by simp : ((wr.alloc o).drewN 1).heap.size = wr.heap.size + 1))
        clear e1 hat
        go_wp2
        have p6 := fun o => (H6.out.below ((Below.refl wr.heap.size wr).alloc (Nat.le_refl _) o)).1
        go_region_law (first
          | (go_simp; go_at_call 78; refine (cc _ 1).mono ?_; rintro e w2 ⟨bk, rfl, hT3, HB3⟩; have HT3 := Lib.hid hT3; have HB3' := Lib.hid HB3; clear hT3 HB3; obtain ⟨r0, r1, r2, r3, r4, r5, r6⟩ := QX.out _ _ (B.below_trans (B.below_drew (Below.refl _ _) 1) HB3'.out); have r7 := fun o => B.cell_below ((Below.refl _ w2).alloc (Nat.le_refl _) o) r6)
          | (refine Copy.step_append_s (w.heap.size + 3) (by rfl) _ _ 164 135 (.pointer none) 1 8 (by rfl) Tryz.underlying164 info_part rfl (by decide) (by decide) ptE (fun _ => rfl) ptE1 v ps ⟨wr.heap.size + 1, w2.heap.size, bk⟩ _ (by rfl) ((HO.out.below (HBQ.out _ 1)).below HB3'.out) (by rfl) _ (by rfl) (by rfl) (by have := HSZ.out; have := HB3'.out.size; simp at this; omega) (by have := HN.out; have := HOK.out.2.2.1; omega) ?_; intro v8 w8 hO8 hOB8 HG8; obtain ⟨A8, c8, rfl⟩ : ∃ A8 c8, v8 = .slice A8 (ps.length + 1) c8 := (by obtain ⟨A8, c8, e⟩ := Copy.shape hO8; exact ⟨A8, c8, by rw [e, List.length_append]; rfl⟩); have HO8 := Lib.hid hO8; have HOB8 := Lib.hid hOB8; clear hO8 hOB8; have HF8 := Lib.hid (((Fr.refl (fun b => v.ownBlock = some b) w2).alloc _).grown HG8 (fun g e _ => e)); clear HG8; have Z8 := HZ8.out w2 w8 ((HBQ.out _ 1).trans (HB3'.out.mono (by simp))) HF8.out; obtain ⟨s0, s1, s2, s3, s4, s5, s6⟩ := HQ8.out _ _ _ (B.below_trans (B.below_drew (Below.refl _ _) 1) HB3'.out) HF8.out))
        all_goals
          have HW2 : Hid (Below wr.heap.size wr w2) := Lib.hid ((HBQ.out _ 1).trans (HB3'.out.mono (by simp)))
          have HS3 : Hid (wr.heap.size + 1 ≤ w2.heap.size) := Lib.hid (by have := HB3'.out.size; rw [HSQ.out] at this; exact this)
          have HT4 := HT3.out
          rw [HSQ.out] at HT4
          have HT5 := Lib.hid HT4
          have HC8 := Lib.hid ((H6.out.below HW2.out).fr HF8.out (fun e => by have := (HLT.out _ e).1; omega))
          have HFF := Lib.hid ((((Fr.of_below (S := fun b => b = w.heap.size + 1 + 1 ∨ v.ownBlock = some b) HW2.out).trans HF8.out (fun i _ h => .inr h))).set (p := ⟨w.heap.size + 1 + 1, 6, none⟩) (fun _ => .inl rfl) (.slice A8 (ps.length + 1) c8))
          have HKS := Lib.hid (HK.out.snoc HFF.out (v' := .slice A8 (ps.length + 1) c8) (fun b h => by
              rcases h with h | h
              · exact .inl (by omega)
              · exact .inr (.inl h)) (by
              rcases HOB8.out with h | h
              · exact .inl h
              · exact .inr fun g e => by have := h g e; have := HS3.out; omega) (by have := HSZ.out; omega) HN.out hlt rfl ⟨wr.heap.size + 1, w2.heap.size, bk⟩ ⟨by show _ ≤ wr.heap.size + 1; omega, by have := HF8.out.size; simpa using this⟩ (fun b h1 h2 e => by
              have h1' : wr.heap.size + 1 ≤ b := h1
              have h2' : b < w2.heap.size := h2
              rcases HOB8.out with h | h
              · have := (HLT.out b (h ▸ e)).2; omega
              · have := h b e; omega) (HT5.out.fr ((Fr.weak (T := fun b => b = w.heap.size + 1 + 1 ∨ v.ownBlock = some b) HF8.out (fun i _ h => .inr h)).set (p := ⟨w.heap.size + 1 + 1, 6, none⟩) (fun _ => .inl rfl) _) (fun b h1 h2 h => by
              have h1' : wr.heap.size + 1 ≤ b := h1
              have := HSZ.out
              rcases h with h | h
              · omega
              · have := (HLT.out b h).2; omega)))
          clear HT4 r7 p6 Z8 s0 s1 s2 s3 s4 s5 s6 r0 r1 r2 r3 r4 r5 r6 QX HQ8 HZ8 cc f0 f1 f2 f3 f4 f5
          go_wp2
          go_roundw
          case rel => exact ⟨k + 1, ps ++ [⟨wr.heap.size + 1, w2.heap.size, bk⟩], .slice A8 (ps.length + 1) c8, by go_num, by omega, Lib.hid (by rw [List.length_append, HN.out]; rfl), Lib.hid (HO8.out.setCell (by show w.heap.size + 1 + 1 < _; omega) _), Lib.hid (HC8.out.set _), Lib.hid (HF.out.trans HFF.out (fun i hi h => h.elim id (fun e => by have := (HLT.out i e).1; have := HS2.out; omega))), Lib.hid (fun i u hi h => ((((HP.out i u hi h).below HW2.out).fr HF8.out (fun e => by have := (HLT.out _ e).1; omega)).set_ne (by intro e; cases e; exact hi rfl) _)), HKS⟩
          case measure => simp [intOf]; omega
      · obtain rfl : k = x.kids.length := by omega
        clear hlt hk
        have z5 := ((HBX.out 5 _ rfl).fr HF.out (by omega)).1
        have HR0 : Hid (∀ i u, (row x A As c c')[i]? = some u → Cl wr (w.heap.size + 1 + 1) i u) := Lib.hid (fun i u h => by
          have hi : i < 6 := by obtain ⟨hl, _⟩ := List.getElem?_eq_some_iff.1 h; exact hl
          refine HP.out i u (by omega) (HPT.out i u ?_)
          rcases (by omega : i = 0 ∨ i = 1 ∨ i = 2 ∨ i = 3 ∨ i = 4 ∨ i = 5) with rfl | rfl | rfl | rfl | rfl | rfl <;> exact h)
        have H7 := Lib.hid (HP.out 7 _ (by omega) (HPT.out 7 _ rfl))
        have H8 := Lib.hid (HP.out 8 _ (by omega) (HPT.out 8 _ rfl))
        have HZ := Lib.hid (fun j (hj : j < x.kids.length) => (HOF.out j _ (made0 hj)).fr HF.out (S := fun b => b = w.heap.size + 1 + 1) (by omega))
        have H9 := Lib.hid (HP.out 9 _ (by omega) (HPT.out 9 _ rfl))
        clear HBX HOF HPT
        generalize hW1 : wr = W1 at *
        clear hW1
        go_wp2
        go_loopw [37] (fun s wr => ∃ (k : Nat) (t : Int), s = .int .i64 k ∧ k ≤ x.shares.length ∧ Hid (Cl wr (w.heap.size + 1 + 1) 9 (.int .i64 t)) ∧ Hid (sumI (x.shares.drop k) t = sumI x.shares 0) ∧ Hid (Fr (fun b => b = w.heap.size + 1 + 1) W1 wr) ∧ Hid (∀ i u, i ≠ 9 → Cl W1 (w.heap.size + 1 + 1) i u → Cl wr (w.heap.size + 1 + 1) i u)) (fun s _ => x.shares.length - (intOf s).toNat)
        case atStart => exact ⟨0, 0, rfl, by omega, H9, Lib.hid (by rw [List.drop_zero]), Lib.hid (Fr.refl _ _), Lib.hid (fun i u _ h => h)⟩
        case round =>
          obtain ⟨k, t, rfl, hk, HC9, HT, HFS, HPS⟩ := hrel
          by_cases hlt : k < x.shares.length
          · obtain ⟨b2, o2, cs2, e2, K2, hcs2⟩ := HD.out.at k hlt
            have K2' : cs2 = [.int .i64 x.shares[k]] := K2
            subst K2'
            subst e2
            have f0 : wr.cell? ⟨b2, o2 + k, none⟩ = some (.int .i64 x.shares[k]) := by
              have := B.cell_below (HBW0.out.trans (HFS.out.below HBW0.out.size (fun b e => by have := HSZ.out; have := HB0.out.size; omega))) (hcs2 0 (by simp))
              simpa [B.Kd.int, B.Kd.flat] using this
            have hk1 : (k : Int) < x.shares.length := by omega
            have f9 := HC9.out.1
            have z9 := HC9.out.2
            have HT2 := HT.out
            rw [sumI_drop hlt] at HT2
            have HT3 := Lib.hid HT2
            clear HT2 hcs2 K2
            have hw : IntKind.i64.wrap (t + x.shares[k]) = w64 (t + x.shares[k]) := rfl
            go_wp2
            go_roundw
            case rel => exact ⟨k + 1, w64 (t + x.shares[k]), by go_num, by omega, Lib.hid (HC9.out.set _), HT3, Lib.hid (HFS.out.set (fun _ => rfl) _), Lib.hid (fun i u hi h => (HPS.out i u hi h).set_ne (by intro e; cases e; exact hi rfl) _)⟩
            case measure => simp [intOf]; omega
          · obtain rfl : k = x.shares.length := by omega
            have HT2 := HT.out
            rw [List.drop_length, sumI] at HT2
            have HT3 := Lib.hid HT2
            clear HT2
            go_wp2
            go_ret
            have e : wr.heap.size = wr.heap.size := rfl
            exact ⟨_, rfl, tr_new (tst := true) (v := v) (ps := ps) (by omega) HC.out HOK.out HD.out (fun i u h => HPS.out i u (by have : i < 6 := by { obtain ⟨hl, _⟩ := List.getElem?_eq_some_iff.1 h; exact hl }; omega) (HR0.out i u h)) (HPS.out 6 _ (by omega) H6.out) (HPS.out 7 _ (by omega) H7.out) (HPS.out 8 _ (by omega) H8.out) (fun _ => by rw [← HT3.out]; exact HC9.out) (fun j hj => (HZ.out j hj).fr HFS.out (by omega)) (own_fr HO.out HFS.out (fun b e => by omega)) HN.out (HK.out.fr HFS.out (fun b e => by omega)) (Nat.le_trans HSZ.out HFS.out.size), HBW.out.trans (HFS.out.below HBW.out.size (fun b e => by omega))⟩
set_option maxHeartbeats 8000000 in
set_option maxRecDepth 100000 in
theorem newRunner : ∀ n, NpAt false 70 n := by
  intro n
  induction n using Nat.strongRecOn with
  | ind n ih =>
    intro x A As c c' w0 w h hb
    obtain ⟨C, D, hok⟩ := h
    have LK := C.1
    have LS := D.1
    have HIH := Lib.hid ih
    have HOK := Lib.hid hok
    have HC := Lib.hid C
    have HD := Lib.hid D
    have HB0 := Lib.hid hb
    have hmk := fun W => run_make_row' (P := Tryz.prog) 23 3 (.int .i64 0) 8 Tryz.underlying23 L.info_int rfl .i64 .i64 x.kids.length (by have := hok.2.2.1; omega) (by omega) W
    clear ih C D hb hok
    unfold lv
    go_enter Tryz.func70, Tryz.ntmps70
    go_wp2
    have HX := Lib.hid (fun (o : Obj) => (Below.refl (w.alloc o).heap.size (w.alloc o)))
    go_region_held3 (fun w' => w'.cell? ⟨w.heap.size, 0, none⟩ = some (.int .i64 x.kind) ∧ w'.cell? ⟨w.heap.size, 1, none⟩ = some (.string x.item) ∧ w'.cell? ⟨w.heap.size, 2, none⟩ = some (.int .i64 x.long) ∧ w'.cell? ⟨w.heap.size, 3, none⟩ = some (.int .i64 x.many) ∧ w'.cell? ⟨w.heap.size, 4, none⟩ = some (.slice A x.kids.length c) ∧ w'.cell? ⟨w.heap.size, 5, none⟩ = some (.slice As x.shares.length c'))
      (first | exact L.boxed (Below.refl _ _) | go_keep) (first | fail)
    go_wp2
    have H3 := three w #[.int .i64 x.kind, .string x.item, .int .i64 x.long, .int .i64 x.many, .slice A x.kids.length c, .slice As x.shares.length c'] (madeCells #[Value.int IntKind.i64 0] x.kids.length) #[.int .i64 x.kind, .string x.item, .int .i64 x.long, .int .i64 x.many, .slice A x.kids.length c, .slice As x.shares.length c', .slice none 0 0, .int .i64 0, .slice (some ⟨w.heap.size + 1, 0, none⟩) x.kids.length x.kids.length] 25 3 157
    generalize (((w.alloc (Obj.cells #[.int .i64 x.kind, .string x.item, .int .i64 x.long, .int .i64 x.many, .slice A x.kids.length c, .slice As x.shares.length c'] 25)).alloc (Obj.cells (madeCells #[Value.int IntKind.i64 0] x.kids.length) 3)).alloc (Obj.cells #[.int .i64 x.kind, .string x.item, .int .i64 x.long, .int .i64 x.many, .slice A x.kids.length c, .slice As x.shares.length c', .slice none 0 0, .int .i64 0, .slice (some ⟨w.heap.size + 1, 0, none⟩) x.kids.length x.kids.length] 157)).drew = W2 at H3 ⊢
    have HS2 := Lib.hid H3.1
    have HB2 := Lib.hid H3.2.1
    have HBX := Lib.hid H3.2.2.1
    have HOF := Lib.hid H3.2.2.2.1
    have HPT := Lib.hid H3.2.2.2.2
    clear H3
    go_loopw [16] (fun s wr => ∃ (k : Nat) (ps : List KI) (v : Value), s = .int .i64 k ∧ k ≤ x.kids.length ∧ Hid (ps.length = k) ∧ Hid (B.Own wr (w.heap.size + 3) 127 1 ptE v ps) ∧ Hid (Cl wr (w.heap.size + 1 + 1) 6 v) ∧ Hid (Fr (fun b => b = w.heap.size + 1 + 1) W2 wr) ∧
      Hid (∀ i u, i ≠ 6 → Cl W2 (w.heap.size + 1 + 1) i u → Cl wr (w.heap.size + 1 + 1) i u) ∧ Hid (Ks false w0 n wr x (w.heap.size + 3) v ps)) (fun s _ => x.kids.length - (intOf s).toNat)
    case atStart => exact ⟨0, [], .slice none 0 0, rfl, by omega, Lib.hid rfl, Lib.hid (B.Own.nil _ _ _ _ _), Lib.hid (HPT.out 6 _ rfl), Lib.hid (Fr.refl _ _), Lib.hid (fun i u _ h => h), Lib.hid (Ks.nil _ _ _ _ _ _ _)⟩
    case round =>
      obtain ⟨k, ps, v, rfl, hk, HN, HO, H6, HF, HP, HK⟩ := hrel
      have HSZ : Hid (w.heap.size + 3 ≤ wr.heap.size) := Lib.hid (by have := HF.out.size; have := HS2.out; omega)
      have HBW : Hid (Below w.heap.size w wr) := Lib.hid (HB2.out.trans (HF.out.below HB2.out.size (fun b e => by omega)))
      have HBW0 : Hid (Below w0.heap.size w0 wr) := Lib.hid (HB0.out.trans (HBW.out.mono HB0.out.size))
      by_cases hlt : k < x.kids.length
      · obtain ⟨b1, o1, m, A2, As2, c2, c2', rfl, rfl, hat, e1⟩ := kid_at HC.out k hlt
        have f0 := B.cell_below HBW0.out (e1 0 _ rfl)
        have f1 := B.cell_below HBW0.out (e1 1 _ rfl)
        have f2 := B.cell_below HBW0.out (e1 2 _ rfl)
        have f3 := B.cell_below HBW0.out (e1 3 _ rfl)
        have f4 := B.cell_below HBW0.out (e1 4 _ rfl)
        have f5 := B.cell_below HBW0.out (e1 5 _ rfl)
        simp only [Nat.add_zero] at f0
        have hk1 : (k : Int) < x.kids.length := by omega
        have HBQ := Lib.hid (fun (o : Obj) (q : Nat) => B.below_drew ((Below.refl wr.heap.size wr).alloc (Nat.le_refl _) o) q)
        have cc := fun o q => HIH.out m (by omega) x.kids[k] A2 As2 c2 c2' w0 _ hat (HBW0.out.trans ((HBQ.out o q).mono HBW0.out.size))
        unfold lv at cc
        have QX := Lib.hid (fun (W : World) e (hb : Below (wr.alloc (.cells #[.int .i64 x.kids[k].kind, .string x.kids[k].item, .int .i64 x.kids[k].long, .int .i64 x.kids[k].many, .slice A2 x.kids[k].kids.length c2, .slice As2 x.kids[k].shares.length c2'] e)).heap.size (wr.alloc (.cells #[.int .i64 x.kids[k].kind, .string x.kids[k].item, .int .i64 x.kids[k].long, .int .i64 x.kids[k].many, .slice A2 x.kids[k].kids.length c2, .slice As2 x.kids[k].shares.length c2'] e)) W) =>
          (⟨(L.boxed hb).1, (L.boxed hb).2.1, (L.boxed hb).2.2.1, (L.boxed hb).2.2.2.1, (L.boxed hb).2.2.2.2.1, (L.boxed hb).2.2.2.2.2, B.cell_below (((Below.refl _ wr).alloc (Nat.le_refl _) _).trans (hb.mono (by simp))) H6.out.1⟩ : _ ∧ _ ∧ _ ∧ _ ∧ _ ∧ _ ∧ W.cell? ⟨w.heap.size + 1 + 1, 6, none⟩ = some v))
        have HLT : Hid (∀ g, v.ownBlock = some g → w.heap.size + 3 ≤ g ∧ g < wr.heap.size) := Lib.hid (fun g hg => World.ownsRow.lt HO.out g hg)
        have HQ8 := Lib.hid (fun (w2 w8 : World) e (hb : Below (wr.alloc (.cells #[.int .i64 x.kids[k].kind, .string x.kids[k].item, .int .i64 x.kids[k].long, .int .i64 x.kids[k].many, .slice A2 x.kids[k].kids.length c2, .slice As2 x.kids[k].shares.length c2'] e)).heap.size (wr.alloc (.cells #[.int .i64 x.kids[k].kind, .string x.kids[k].item, .int .i64 x.kids[k].long, .int .i64 x.kids[k].many, .slice A2 x.kids[k].kids.length c2, .slice As2 x.kids[k].shares.length c2'] e)) w2) (hf : Fr (fun b => v.ownBlock = some b) w2 w8) =>
          have hn : ¬ v.ownBlock = some wr.heap.size := fun e => by have := (HLT.out _ e).2; omega
          have hn2 : ¬ v.ownBlock = some (w.heap.size + 1 + 1) := fun e => by have := (HLT.out _ e).1; omega
          have q := QX.out w2 e hb
          (⟨hf.cell hn q.1, hf.cell hn q.2.1, hf.cell hn q.2.2.1, hf.cell hn q.2.2.2.1, hf.cell hn q.2.2.2.2.1, hf.cell hn q.2.2.2.2.2.1, hf.cell hn2 q.2.2.2.2.2.2⟩ : w8.cell? ⟨wr.heap.size, 0, none⟩ = some (.int .i64 x.kids[k].kind) ∧ w8.cell? ⟨wr.heap.size, 1, none⟩ = some (.string x.kids[k].item) ∧ w8.cell? ⟨wr.heap.size, 2, none⟩ = some (.int .i64 x.kids[k].long) ∧ w8.cell? ⟨wr.heap.size, 3, none⟩ = some (.int .i64 x.kids[k].many) ∧ w8.cell? ⟨wr.heap.size, 4, none⟩ = some (.slice A2 x.kids[k].kids.length c2) ∧ w8.cell? ⟨wr.heap.size, 5, none⟩ = some (.slice As2 x.kids[k].shares.length c2') ∧ w8.cell? ⟨w.heap.size + 1 + 1, 6, none⟩ = some v))
        have HZ8 := Lib.hid (fun (w2 w8 : World) (hb : Below wr.heap.size wr w2) (hf : Fr (fun b => v.ownBlock = some b) w2 w8) => ((H6.out.below hb).fr hf (fun e => by have := (HLT.out _ e).1; omega)).2)
        have HSQ := Lib.hid (fun (o : Obj) => (by simp : ((wr.alloc o).drewN 1).heap.size = wr.heap.size + 1))
        clear e1 hat
        go_wp2
        have p6 := fun o => (H6.out.below ((Below.refl wr.heap.size wr).alloc (Nat.le_refl _) o)).1
        go_region_law (first
          | (go_simp; go_at_call 70; refine (cc _ 1).mono ?_; rintro e w2 ⟨bk, rfl, hT3, HB3⟩; have HT3 := Lib.hid hT3; have HB3' := Lib.hid HB3; clear hT3 HB3; obtain ⟨r0, r1, r2, r3, r4, r5, r6⟩ := QX.out _ _ (B.below_trans (B.below_drew (Below.refl _ _) 1) HB3'.out); have r7 := fun o => B.cell_below ((Below.refl _ w2).alloc (Nat.le_refl _) o) r6)
          | (refine Copy.step_append_s (w.heap.size + 3) (by rfl) _ _ 155 127 (.pointer none) 1 8 (by rfl) Tryz.underlying155 info_runner rfl (by decide) (by decide) ptE (fun _ => rfl) ptE1 v ps ⟨wr.heap.size + 1, w2.heap.size, bk⟩ _ (by rfl) ((HO.out.below (HBQ.out _ 1)).below HB3'.out) (by rfl) _ (by rfl) (by rfl) (by have := HSZ.out; have := HB3'.out.size; simp at this; omega) (by have := HN.out; have := HOK.out.2.2.1; omega) ?_; intro v8 w8 hO8 hOB8 HG8; obtain ⟨A8, c8, rfl⟩ : ∃ A8 c8, v8 = .slice A8 (ps.length + 1) c8 := (by obtain ⟨A8, c8, e⟩ := Copy.shape hO8; exact ⟨A8, c8, by rw [e, List.length_append]; rfl⟩); have HO8 := Lib.hid hO8; have HOB8 := Lib.hid hOB8; clear hO8 hOB8; have HF8 := Lib.hid (((Fr.refl (fun b => v.ownBlock = some b) w2).alloc _).grown HG8 (fun g e _ => e)); clear HG8; have Z8 := HZ8.out w2 w8 ((HBQ.out _ 1).trans (HB3'.out.mono (by simp))) HF8.out; obtain ⟨s0, s1, s2, s3, s4, s5, s6⟩ := HQ8.out _ _ _ (B.below_trans (B.below_drew (Below.refl _ _) 1) HB3'.out) HF8.out))
        all_goals
          have HW2 : Hid (Below wr.heap.size wr w2) := Lib.hid ((HBQ.out _ 1).trans (HB3'.out.mono (by simp)))
          have HS3 : Hid (wr.heap.size + 1 ≤ w2.heap.size) := Lib.hid (by have := HB3'.out.size; rw [HSQ.out] at this; exact this)
          have HT4 := HT3.out
          rw [HSQ.out] at HT4
          have HT5 := Lib.hid HT4
          have HC8 := Lib.hid ((H6.out.below HW2.out).fr HF8.out (fun e => by have := (HLT.out _ e).1; omega))
          have HFF := Lib.hid ((((Fr.of_below (S := fun b => b = w.heap.size + 1 + 1 ∨ v.ownBlock = some b) HW2.out).trans HF8.out (fun i _ h => .inr h))).set (p := ⟨w.heap.size + 1 + 1, 6, none⟩) (fun _ => .inl rfl) (.slice A8 (ps.length + 1) c8))
          have HKS := Lib.hid (HK.out.snoc HFF.out (v' := .slice A8 (ps.length + 1) c8) (fun b h => by
              rcases h with h | h
              · exact .inl (by omega)
              · exact .inr (.inl h)) (by
              rcases HOB8.out with h | h
              · exact .inl h
              · exact .inr fun g e => by have := h g e; have := HS3.out; omega) (by have := HSZ.out; omega) HN.out hlt rfl ⟨wr.heap.size + 1, w2.heap.size, bk⟩ ⟨by show _ ≤ wr.heap.size + 1; omega, by have := HF8.out.size; simpa using this⟩ (fun b h1 h2 e => by
              have h1' : wr.heap.size + 1 ≤ b := h1
              have h2' : b < w2.heap.size := h2
              rcases HOB8.out with h | h
              · have := (HLT.out b (h ▸ e)).2; omega
              · have := h b e; omega) (HT5.out.fr ((Fr.weak (T := fun b => b = w.heap.size + 1 + 1 ∨ v.ownBlock = some b) HF8.out (fun i _ h => .inr h)).set (p := ⟨w.heap.size + 1 + 1, 6, none⟩) (fun _ => .inl rfl) _) (fun b h1 h2 h => by
              have h1' : wr.heap.size + 1 ≤ b := h1
              have := HSZ.out
              rcases h with h | h
              · omega
              · have := (HLT.out b h).2; omega)))
          clear HT4 r7 p6 Z8 s0 s1 s2 s3 s4 s5 s6 r0 r1 r2 r3 r4 r5 r6 QX HQ8 HZ8 cc f0 f1 f2 f3 f4 f5
          go_wp2
          go_roundw
          case rel => exact ⟨k + 1, ps ++ [⟨wr.heap.size + 1, w2.heap.size, bk⟩], .slice A8 (ps.length + 1) c8, by go_num, by omega, Lib.hid (by rw [List.length_append, HN.out]; rfl), Lib.hid (HO8.out.setCell (by show w.heap.size + 1 + 1 < _; omega) _), Lib.hid (HC8.out.set _), Lib.hid (HF.out.trans HFF.out (fun i hi h => h.elim id (fun e => by have := (HLT.out i e).1; have := HS2.out; omega))), Lib.hid (fun i u hi h => ((((HP.out i u hi h).below HW2.out).fr HF8.out (fun e => by have := (HLT.out _ e).1; omega)).set_ne (by intro e; cases e; exact hi rfl) _)), HKS⟩
          case measure => simp [intOf]; omega
      · obtain rfl : k = x.kids.length := by omega
        clear hlt hk
        have z5 := ((HBX.out 5 _ rfl).fr HF.out (by omega)).1
        have HR0 : Hid (∀ i u, (row x A As c c')[i]? = some u → Cl wr (w.heap.size + 1 + 1) i u) := Lib.hid (fun i u h => by
          have hi : i < 6 := by obtain ⟨hl, _⟩ := List.getElem?_eq_some_iff.1 h; exact hl
          refine HP.out i u (by omega) (HPT.out i u ?_)
          rcases (by omega : i = 0 ∨ i = 1 ∨ i = 2 ∨ i = 3 ∨ i = 4 ∨ i = 5) with rfl | rfl | rfl | rfl | rfl | rfl <;> exact h)
        have H7 := Lib.hid (HP.out 7 _ (by omega) (HPT.out 7 _ rfl))
        have H8 := Lib.hid (HP.out 8 _ (by omega) (HPT.out 8 _ rfl))
        have HZ := Lib.hid (fun j (hj : j < x.kids.length) => (HOF.out j _ (made0 hj)).fr HF.out (S := fun b => b = w.heap.size + 1 + 1) (by omega))
        clear HBX HOF HPT
        go_wp2
        go_ret
        exact ⟨_, rfl, tr_new (tst := false) (by omega) HC.out HOK.out HD.out HR0.out H6.out H7.out H8.out (fun h => by cases h) HZ.out HO.out HN.out HK.out HSZ.out, HBW.out⟩
end Go.Proofs.YtfillnkebohciaaGreatDoor.T
