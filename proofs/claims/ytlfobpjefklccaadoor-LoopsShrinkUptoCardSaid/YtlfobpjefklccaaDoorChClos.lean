/- Are all kids the first one: the closures of changed, the program's and the reference's. Printed by wip/gen/chclosgen.py. -/
import Derived.Test.YtlfobpjefklccaaDoorGathR
import Derived.StillTailTactics
namespace Go.Proofs.YtlfobpjefklccaaDoor.H
open Go.RowKit
open L (Lp row row1 At AtR lv kdL kid_at rowR set6)
open F (Fr Cl)

set_option maxRecDepth 100000 in
theorem chclosP {R R' : Nat → Prop} (y k : Lp) (A As Ak Aks : Option Addr) (c c' d d' : Nat) (g bk ok n cc : Nat) (w : World) (h : LR R w y A As) (hk : LR R' w k Ak Aks) (hg : w.cell? ⟨g, 4, none⟩ = some (.slice (some ⟨bk, ok, none⟩) n cc)) (hn : 0 < n) (hrow : ∀ i u, (row k Ak Aks d d')[i]? = some u → w.cell? ⟨bk, ok + i, none⟩ = some u) :
    Calls Tryd.prog 60 #[lv y A As c c', .pointer (some ⟨g, 0, none⟩)] w fun e w' => e = .returned (.bool (!(decide (y = k) && plain y))) ∧ Below w.heap.size w w' := by
  have HBX := Lib.hid (fun (e : TypeId) => (Below.refl _ w).alloc (Nat.le_refl _) (.cells #[.int .i64 y.kind, .string y.item, .int .i64 y.long, .int .i64 y.many, .slice A y.kids.length c, .slice As y.shares.length c'] e))
  have HX := Lib.hid (fun W (hb : Below w.heap.size w W) => (⟨B.cell_below hb hg, B.cell_below hb (hrow 0 _ rfl), B.cell_below hb (hrow 1 _ rfl), B.cell_below hb (hrow 2 _ rfl), B.cell_below hb (hrow 3 _ rfl), B.cell_below hb (hrow 4 _ rfl), B.cell_below hb (hrow 5 _ rfl)⟩ : _ ∧ _ ∧ _ ∧ _ ∧ _ ∧ _ ∧ _))
  have HY := Lib.hid (fun (W : World) => @L.boxed y A As c c' w W 25)
  have ce := fun W (hb : Below w.heap.size w W) => equalP y k A As Ak Aks c c' d d' W (h.below hb) (hk.below hb)
  have cp := fun W (hb : Below w.heap.size w W) => isPlain _ y (Nat.le_refl _) R A As c c' W (h.below hb)
  have hnn : (0 : Int) < n := by omega
  unfold lv at ce cp ⊢
  clear h hk hrow hg
  have e1 := HX.out _ (HBX.out 25)
  have e2 := HY.out _ (Below.refl _ _)
  obtain ⟨e0, e3, e4, e5, e6, e7, e8⟩ := e1
  obtain ⟨y0, y1, y2, y3, y4, y5⟩ := e2
  simp only [Nat.add_zero] at e3
  generalize hp : decide (y = k) = p at ce ⊢
  generalize plain y = q at cp ⊢
  clear hp
  have cb := HBX.out 25
  cases p with
  | false =>
    go_enter Tryd.func60, Tryd.ntmps60
    go_wp2
    have HB1 := Lib.hid cb
    clear cb HX HY HBX cp
    generalize (w.alloc (.cells #[.int .i64 y.kind, .string y.item, .int .i64 y.long, .int .i64 y.many, .slice A y.kids.length c, .slice As y.shares.length c'] 25)) = W at *
    have HB2 : Hid (Below w.heap.size w W.drew) := Lib.hid (B.below_drew HB1.out 1)
    have ce2 := ce _ HB2.out
    go_still_tail 5, (by kernel_rfl)
    change wpList _ _ _ _ _ W.drew
    generalize W.drew = W1 at *
    go_wp2_with (go_at_call 58; refine ce2.mono ?_; rintro e w3 ⟨rfl, hB3⟩; have HB3 := Lib.hid (B.below_trans HB2.out hB3); clear hB3)
    go_ret
    exact ⟨rfl, HB3.out⟩
  | true =>
    go_enter Tryd.func60, Tryd.ntmps60
    go_wp2
    have HB1 := Lib.hid cb
    clear cb HX HBX
    have HYB := Lib.hid (fun (W2 : World) (hb : Below (w.alloc (.cells #[.int .i64 y.kind, .string y.item, .int .i64 y.long, .int .i64 y.many, .slice A y.kids.length c, .slice As y.shares.length c'] 25)).heap.size (w.alloc (.cells #[.int .i64 y.kind, .string y.item, .int .i64 y.long, .int .i64 y.many, .slice A y.kids.length c, .slice As y.shares.length c'] 25)) W2) => HY.out W2 hb)
    clear HY
    generalize (w.alloc (.cells #[.int .i64 y.kind, .string y.item, .int .i64 y.long, .int .i64 y.many, .slice A y.kids.length c, .slice As y.shares.length c'] 25)) = W at *
    have HB2 : Hid (Below w.heap.size w W.drew) := Lib.hid (B.below_drew HB1.out 1)
    have HB4 : Hid (Below W.heap.size W W.drew) := Lib.hid (B.below_drew (Below.refl _ _) 1)
    have ce2 := ce _ HB2.out
    clear ce
    go_still_tail 5, (by kernel_rfl)
    change wpList _ _ _ _ _ W.drew
    generalize W.drew = W1 at *
    go_wp2_with (first | (go_at_call 58; refine ce2.mono ?_; rintro e w3 ⟨rfl, hB3⟩; have HB3 := Lib.hid (B.below_trans HB2.out hB3); have HZ := Lib.hid (HYB.out w3 (B.below_trans HB4.out hB3)); have z0 := HZ.out.1; have z1 := HZ.out.2.1; have z2 := HZ.out.2.2.1; have z3 := HZ.out.2.2.2.1; have z4 := HZ.out.2.2.2.2.1; have z5 := HZ.out.2.2.2.2.2; clear hB3) | (go_at_call 61; refine (cp _ HB3.out).mono ?_; rintro e w4 ⟨rfl, hB5⟩; have HB5 := Lib.hid (B.below_trans HB3.out hB5); clear hB5))
    go_ret
    exact ⟨by simp, HB5.out⟩
set_option maxRecDepth 100000 in
theorem chidxP {R R' : Nat → Prop} (xs : List Lp) (k : Lp) (A Ak Aks : Option Addr) (c d d' : Nat) (g bk ok n cc : Nat) (w : World) (h : SR R w A xs) (hk : LR R' w k Ak Aks) (hg : w.cell? ⟨g, 4, none⟩ = some (.slice (some ⟨bk, ok, none⟩) n cc)) (hn : 0 < n) (hrow : ∀ i u, (row k Ak Aks d d')[i]? = some u → w.cell? ⟨bk, ok + i, none⟩ = some u) :
    Calls Tryd.prog 63 #[.slice A xs.length c, .func (.func 60) #[] #[.pointer (some ⟨g, 0, none⟩)]] w fun e w' => (∃ i : Int, e = .returned (.int .i64 i) ∧ decide (0 ≤ i) = !(xs.all (fun y => decide (y = k) && plain y))) ∧ Below w.heap.size w w' := by
  have LX := h.1
  have HH := Lib.hid h
  have HK := Lib.hid hk
  have HRW := Lib.hid hrow
  obtain ⟨P, hP⟩ : ∃ P, xs.all (fun y => decide (y = k) && plain y) = P := ⟨_, rfl⟩
  rw [hP]
  have HP := Lib.hid hP
  clear h hk hrow hP
  go_enter Tryd.func63, Tryd.ntmps63
  go_wp2
  go_loopw [8] (fun s wr => ∃ k' : Nat, s = .int .i64 k' ∧ k' ≤ xs.length ∧ Hid ((xs.drop k').all (fun y => decide (y = k) && plain y) = P) ∧ Hid (Below w.heap.size w wr)) (fun s _ => xs.length - (intOf s).toNat)
  case atStart => exact ⟨0, rfl, by omega, Lib.hid (by rw [List.drop_zero]; exact HP.out), Lib.hid (Below.refl _ _)⟩
  case round =>
    obtain ⟨q, rfl, hq, HN, HB⟩ := hrel
    by_cases hlt : q < xs.length
    · obtain ⟨b1, o1, A2, As2, c2, c2', rfl, -, e1, hat⟩ := HH.out.at q hlt
      have f0 := B.cell_below HB.out (e1 0 _ rfl)
      have f1 := B.cell_below HB.out (e1 1 _ rfl)
      have f2 := B.cell_below HB.out (e1 2 _ rfl)
      have f3 := B.cell_below HB.out (e1 3 _ rfl)
      have f4 := B.cell_below HB.out (e1 4 _ rfl)
      have f5 := B.cell_below HB.out (e1 5 _ rfl)
      simp only [Nat.add_zero] at f0
      have hk1 : (q : Int) < xs.length := by omega
      have cc1 := chclosP xs[q] k A2 As2 Ak Aks c2 c2' d d' g bk ok n cc wr (hat.below HB.out) (HK.out.below HB.out) (B.cell_below HB.out hg) hn (fun i u hu => B.cell_below HB.out (HRW.out i u hu))
      unfold lv at cc1
      have HN2 := HN.out
      rw [List.drop_eq_getElem_cons hlt, List.all_cons] at HN2
      generalize hpp : (decide (xs[q] = k) && plain xs[q]) = p at cc1 HN2
      have HN3 := Lib.hid HN2
      clear HN2 HN e1 hat hpp
      generalize xs[q] = y at *
      cases p with
      | false =>
        have HR2 : Hid (P = false) := Lib.hid (by rw [← HN3.out]; rfl)
        go_wp2_with (go_at_call 60; refine cc1.mono ?_; rintro e w2 ⟨rfl, hB5⟩)
        go_ret
        exact ⟨⟨q, rfl, by rw [HR2.out]; simp⟩, B.below_trans HB.out hB5⟩
      | true =>
        have HN4 : Hid ((xs.drop (q + 1)).all (fun y => decide (y = k) && plain y) = P) := Lib.hid (by rw [← HN3.out]; rfl)
        go_wp2_with (go_at_call 60; refine cc1.mono ?_; rintro e w2 ⟨rfl, hB5⟩; have HB5 := Lib.hid (B.below_trans HB.out hB5); clear hB5)
        go_roundw
        case rel => exact ⟨q + 1, by go_num, by omega, HN4, HB5⟩
        case measure => simp [intOf]; omega
    · have hkl : q = xs.length := by omega
      have HR2 : Hid (P = true) := Lib.hid (by rw [← HN.out, List.drop_eq_nil_of_le (by omega)]; rfl)
      subst hkl
      go_wp2
      go_ret
      exact ⟨⟨-1, rfl, by rw [HR2.out]; rfl⟩, HB.out⟩
set_option maxRecDepth 100000 in
theorem chanyP {R R' : Nat → Prop} (xs : List Lp) (k : Lp) (A Ak Aks : Option Addr) (c d d' : Nat) (g bk ok n cc : Nat) (w : World) (h : SR R w A xs) (hk : LR R' w k Ak Aks) (hg : w.cell? ⟨g, 4, none⟩ = some (.slice (some ⟨bk, ok, none⟩) n cc)) (hn : 0 < n) (hrow : ∀ i u, (row k Ak Aks d d')[i]? = some u → w.cell? ⟨bk, ok + i, none⟩ = some u) :
    Calls Tryd.prog 38 #[.slice A xs.length c, .func (.func 60) #[] #[.pointer (some ⟨g, 0, none⟩)]] w fun e w' => e = .returned (.bool (!(xs.all (fun y => decide (y = k) && plain y)))) ∧ Below w.heap.size w w' := by
  have ci := chidxP xs k A Ak Aks c d d' g bk ok n cc w h hk hg hn hrow
  generalize xs.all (fun y => decide (y = k) && plain y) = r at ci ⊢
  clear h hk hrow
  go_enter Tryd.func38, Tryd.ntmps38
  go_wp2_with (go_at_call 63; refine ci.mono ?_; rintro e w3 ⟨⟨i, rfl, hi⟩, HB⟩; have HI := Lib.hid hi; clear hi)
  go_ret
  exact ⟨by rw [← HI.out]; rfl, HB⟩
set_option maxRecDepth 100000 in
theorem chclosR {R R' : Nat → Prop} (y k : Lp) (A As Ak Aks : Option Addr) (c c' d d' : Nat) (g : Nat) (w : World) (h : LR R w y A As) (hk : LR R' w k Ak Aks) (hrow : ∀ i u, (row k Ak Aks d d')[i]? = some u → w.cell? ⟨g, i, none⟩ = some u) :
    Calls Tryd.prog 39 #[lv y A As c c', .pointer (some ⟨g, 0, none⟩)] w fun e w' => e = .returned (.bool (!decide (y = k))) ∧ Below w.heap.size w w' := by
  have HBX := Lib.hid (fun (e : TypeId) => (Below.refl _ w).alloc (Nat.le_refl _) (.cells #[.int .i64 y.kind, .string y.item, .int .i64 y.long, .int .i64 y.many, .slice A y.kids.length c, .slice As y.shares.length c'] e))
  have HX := Lib.hid (fun W (hb : Below w.heap.size w W) => (⟨B.cell_below hb (hrow 0 _ rfl), B.cell_below hb (hrow 1 _ rfl), B.cell_below hb (hrow 2 _ rfl), B.cell_below hb (hrow 3 _ rfl), B.cell_below hb (hrow 4 _ rfl), B.cell_below hb (hrow 5 _ rfl)⟩ : _ ∧ _ ∧ _ ∧ _ ∧ _ ∧ _))
  have HY := Lib.hid (fun (W : World) => @L.boxed y A As c c' w W 25)
  have ce := fun W (hb : Below w.heap.size w W) => equalR y k A As Ak Aks c c' d d' W (h.below hb) (hk.below hb)
  unfold lv at ce  ⊢
  clear h hk hrow 
  have e1 := HX.out _ (HBX.out 25)
  have e2 := HY.out _ (Below.refl _ _)
  obtain ⟨e3, e4, e5, e6, e7, e8⟩ := e1
  obtain ⟨y0, y1, y2, y3, y4, y5⟩ := e2
  have cb := HBX.out 25
  have ce2 := ce _ cb
  clear ce HX HY HBX
  go_enter Tryd.func39, Tryd.ntmps39
  go_wp2_with (go_at_call 10; refine ce2.mono ?_; rintro e w3 ⟨rfl, hB3⟩; have HB3 := Lib.hid (B.below_trans cb hB3); clear hB3)
  go_ret
  exact ⟨rfl, HB3.out⟩
set_option maxRecDepth 100000 in
theorem chidxR {R R' : Nat → Prop} (xs : List Lp) (k : Lp) (A Ak Aks : Option Addr) (c d d' : Nat) (g : Nat) (w : World) (h : SR R w A xs) (hk : LR R' w k Ak Aks) (hrow : ∀ i u, (row k Ak Aks d d')[i]? = some u → w.cell? ⟨g, i, none⟩ = some u) :
    Calls Tryd.prog 63 #[.slice A xs.length c, .func (.func 39) #[] #[.pointer (some ⟨g, 0, none⟩)]] w fun e w' => (∃ i : Int, e = .returned (.int .i64 i) ∧ decide (0 ≤ i) = !(xs.all (fun y => decide (y = k)))) ∧ Below w.heap.size w w' := by
  have LX := h.1
  have HH := Lib.hid h
  have HK := Lib.hid hk
  have HRW := Lib.hid hrow
  obtain ⟨P, hP⟩ : ∃ P, xs.all (fun y => decide (y = k)) = P := ⟨_, rfl⟩
  rw [hP]
  have HP := Lib.hid hP
  clear h hk hrow hP
  go_enter Tryd.func63, Tryd.ntmps63
  go_wp2
  go_loopw [8] (fun s wr => ∃ k' : Nat, s = .int .i64 k' ∧ k' ≤ xs.length ∧ Hid ((xs.drop k').all (fun y => decide (y = k)) = P) ∧ Hid (Below w.heap.size w wr)) (fun s _ => xs.length - (intOf s).toNat)
  case atStart => exact ⟨0, rfl, by omega, Lib.hid (by rw [List.drop_zero]; exact HP.out), Lib.hid (Below.refl _ _)⟩
  case round =>
    obtain ⟨q, rfl, hq, HN, HB⟩ := hrel
    by_cases hlt : q < xs.length
    · obtain ⟨b1, o1, A2, As2, c2, c2', rfl, -, e1, hat⟩ := HH.out.at q hlt
      have f0 := B.cell_below HB.out (e1 0 _ rfl)
      have f1 := B.cell_below HB.out (e1 1 _ rfl)
      have f2 := B.cell_below HB.out (e1 2 _ rfl)
      have f3 := B.cell_below HB.out (e1 3 _ rfl)
      have f4 := B.cell_below HB.out (e1 4 _ rfl)
      have f5 := B.cell_below HB.out (e1 5 _ rfl)
      simp only [Nat.add_zero] at f0
      have hk1 : (q : Int) < xs.length := by omega
      have cc1 := chclosR xs[q] k A2 As2 Ak Aks c2 c2' d d' g wr (hat.below HB.out) (HK.out.below HB.out) (fun i u hu => B.cell_below HB.out (HRW.out i u hu))
      unfold lv at cc1
      have HN2 := HN.out
      rw [List.drop_eq_getElem_cons hlt, List.all_cons] at HN2
      generalize hpp : decide (xs[q] = k) = p at cc1 HN2
      have HN3 := Lib.hid HN2
      clear HN2 HN e1 hat hpp
      generalize xs[q] = y at *
      cases p with
      | false =>
        have HR2 : Hid (P = false) := Lib.hid (by rw [← HN3.out]; rfl)
        go_wp2_with (go_at_call 39; refine cc1.mono ?_; rintro e w2 ⟨rfl, hB5⟩)
        go_ret
        exact ⟨⟨q, rfl, by rw [HR2.out]; simp⟩, B.below_trans HB.out hB5⟩
      | true =>
        have HN4 : Hid ((xs.drop (q + 1)).all (fun y => decide (y = k)) = P) := Lib.hid (by rw [← HN3.out]; rfl)
        go_wp2_with (go_at_call 39; refine cc1.mono ?_; rintro e w2 ⟨rfl, hB5⟩; have HB5 := Lib.hid (B.below_trans HB.out hB5); clear hB5)
        go_roundw
        case rel => exact ⟨q + 1, by go_num, by omega, HN4, HB5⟩
        case measure => simp [intOf]; omega
    · have hkl : q = xs.length := by omega
      have HR2 : Hid (P = true) := Lib.hid (by rw [← HN.out, List.drop_eq_nil_of_le (by omega)]; rfl)
      subst hkl
      go_wp2
      go_ret
      exact ⟨⟨-1, rfl, by rw [HR2.out]; rfl⟩, HB.out⟩
set_option maxRecDepth 100000 in
theorem chanyR {R R' : Nat → Prop} (xs : List Lp) (k : Lp) (A Ak Aks : Option Addr) (c d d' : Nat) (g : Nat) (w : World) (h : SR R w A xs) (hk : LR R' w k Ak Aks) (hrow : ∀ i u, (row k Ak Aks d d')[i]? = some u → w.cell? ⟨g, i, none⟩ = some u) :
    Calls Tryd.prog 38 #[.slice A xs.length c, .func (.func 39) #[] #[.pointer (some ⟨g, 0, none⟩)]] w fun e w' => e = .returned (.bool (!(xs.all (fun y => decide (y = k))))) ∧ Below w.heap.size w w' := by
  have ci := chidxR xs k A Ak Aks c d d' g w h hk hrow
  generalize xs.all (fun y => decide (y = k)) = r at ci ⊢
  clear h hk hrow
  go_enter Tryd.func38, Tryd.ntmps38
  go_wp2_with (go_at_call 63; refine ci.mono ?_; rintro e w3 ⟨⟨i, rfl, hi⟩, HB⟩; have HI := Lib.hid hi; clear hi)
  go_ret
  exact ⟨by rw [← HI.out]; rfl, HB⟩
end Go.Proofs.YtlfobpjefklccaaDoor.H
