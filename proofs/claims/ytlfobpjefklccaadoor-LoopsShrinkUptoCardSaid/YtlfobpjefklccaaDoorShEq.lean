/- The program's equal; both as equality. Printed by wip/gen/shgen.py. -/
import Derived.Test.YtlfobpjefklccaaDoorLR
namespace Go.Proofs.YtlfobpjefklccaaDoor.L
open Go.RowKit

def SmAtP (n : Nat) : Prop := ∀ (x y : Lp) (A As A' As' : Option Addr) (c1 c2 c3 c4 : Nat) (w : World), At n w x A As → At n w y A' As' →
    Calls Tryd.prog 58 #[lv x A As c1 c2, lv y A' As' c3 c4] w fun e w' => e = .returned (.bool (sm (n + 1) x y)) ∧ Below w.heap.size w w'
set_option maxHeartbeats 4000000 in
set_option maxRecDepth 100000 in
theorem eqLoopsP (n : Nat) (ih : ∀ m, m < n → SmAtP m) (xs ys : List Lp) (A1 A2 : Option Addr) (c1 c2 : Nat) (w : World) (C1 : (kdL n).C w A1 xs) (C2 : (kdL n).C w A2 ys) :
    Calls Tryd.prog 24 #[.slice A1 xs.length c1, .slice A2 ys.length c2, .func (.func 58) #[] #[]] w fun e w' => e = .returned (.bool (eqL (sm n) xs ys)) ∧ Below w.heap.size w w' := by
  have L1 := C1.1
  have L2 := C2.1
  have HIH := Lib.hid ih
  clear ih
  by_cases hl : xs.length = ys.length
  · obtain ⟨R, hr⟩ : ∃ R, eqL (sm n) xs ys = R := ⟨_, rfl⟩
    rw [hr]
    have HR := Lib.hid hr
    have HL := Lib.hid hl
    clear hr
    go_enter Tryd.func24, Tryd.ntmps24
    go_wp2
    go_loopw [17] (fun s17 wr => ∃ (k : Nat), s17 = .int .i64 k ∧ k ≤ xs.length ∧ Hid (eqL (sm n) (xs.drop k) (ys.drop k) = R) ∧ Hid (Below w.heap.size w wr)) (fun s17 _ => xs.length - (intOf s17).toNat)
    case atStart => exact ⟨0, rfl, by omega, Lib.hid (by rw [List.drop_zero, List.drop_zero]; exact HR.out), Lib.hid (Below.refl _ _)⟩
    case round =>
      obtain ⟨k, rfl, hk, HT, HB⟩ := hrel
      by_cases hlt : k < xs.length
      · have hlt2 : k < ys.length := HL.out ▸ hlt
        obtain ⟨b1, o1, m, A3, B3, c3, d3, rfl, rfl, hat1, e1⟩ := kid_at (C1.mono HB.out) k hlt
        obtain ⟨b2, o2, m', A4, B4, c4, d4, rfl, hm', hat2, e2⟩ := kid_at (C2.mono HB.out) k hlt2
        obtain rfl : m = m' := by omega
        clear hm'
        have f0 := e1 0 _ rfl
        have f1 := e1 1 _ rfl
        have f2 := e1 2 _ rfl
        have f3 := e1 3 _ rfl
        have f4 := e1 4 _ rfl
        have f5 := e1 5 _ rfl
        simp only [Nat.add_zero] at f0
        have g0 := fun o => B.cell_below ((Below.refl _ wr).alloc (Nat.le_refl _) o) (e2 0 _ rfl)
        have g1 := fun o => B.cell_below ((Below.refl _ wr).alloc (Nat.le_refl _) o) (e2 1 _ rfl)
        have g2 := fun o => B.cell_below ((Below.refl _ wr).alloc (Nat.le_refl _) o) (e2 2 _ rfl)
        have g3 := fun o => B.cell_below ((Below.refl _ wr).alloc (Nat.le_refl _) o) (e2 3 _ rfl)
        have g4 := fun o => B.cell_below ((Below.refl _ wr).alloc (Nat.le_refl _) o) (e2 4 _ rfl)
        have g5 := fun o => B.cell_below ((Below.refl _ wr).alloc (Nat.le_refl _) o) (e2 5 _ rfl)
        simp only [Nat.add_zero] at g0
        have hk1 : (k : Int) < xs.length := by omega
        have hk2 : (k : Int) < ys.length := by omega
        have HA := Lib.hid (fun (c c' : Array Value) (o o' : TypeId) => (HB.out.alloc (show w.heap.size ≤ wr.heap.size from HB.out.size) (.cells c o)).alloc (by have := HB.out.size; simp; omega) (.cells c' o'))
        have HA2 := Lib.hid (fun (c c' : Array Value) (o o' : TypeId) => ((Below.refl wr.heap.size wr).alloc (Nat.le_refl _) (.cells c o)).alloc (by simp) (.cells c' o'))
        have sf := fun c c' o o' => HIH.out m (by omega) xs[k] ys[k] A3 B3 A4 B4 c3 d3 c4 d4 _ (hat1.mono (HA2.out c c' o o')) (hat2.mono (HA2.out c c' o o'))
        unfold lv at sf
        have HT2 := HT.out
        rw [eqL_drop _ hlt hlt2] at HT2
        generalize sm (m + 1) xs[k] ys[k] = q at sf HT2
        clear e1 e2 hat1 hat2 HT hl
        cases q with
        | true =>
          rw [Bool.true_and] at HT2
          have HT3 := Lib.hid HT2
          clear HT2
          go_wp2_with (go_at_call 58; refine (sf _ _ _ _).mono ?_; rintro e w2 ⟨rfl, HB2⟩)
          go_roundw
          case rel => exact ⟨k + 1, by go_num, by omega, HT3, Lib.hid (B.below_trans (HA.out _ _ _ _) HB2)⟩
          case measure => simp [intOf]; omega
        | false =>
          rw [Bool.false_and] at HT2
          have HT3 := Lib.hid HT2
          clear HT2
          go_wp2_with (go_at_call 58; refine (sf _ _ _ _).mono ?_; rintro e w2 ⟨rfl, HB2⟩)
          go_ret
          exact ⟨by rw [← HT3.out]; rfl, B.below_trans (HA.out _ _ _ _) HB2⟩
      · obtain rfl : k = xs.length := by omega
        have HT2 := HT.out
        rw [List.drop_length, List.drop_of_length_le (by rw [HL.out]; exact Nat.le_refl _), eqL] at HT2
        subst HT2
        go_wp2
        go_ret
        exact ⟨rfl, HB.out⟩
  · have HR : Hid (eqL (sm n) xs ys = false) := Lib.hid (by
      cases hq : eqL (sm n) xs ys with
      | false => rfl
      | true => exact absurd (eqL_len _ hq) hl)
    go_enter Tryd.func24, Tryd.ntmps24
    go_wp2
    go_ret
    exact ⟨by rw [HR.out]; rfl, Below.refl _ _⟩
theorem bytes_beqP {a b : ByteArray} : (a.toList == b.toList) = true ↔ a = b := by
  rw [beq_iff_eq]
  exact ⟨fun e => ByteArray.ext (Array.toList_inj.1 (by simpa [ByteArray.toList_eq] using e)), fun e => by rw [e]⟩
set_option maxHeartbeats 4000000 in
set_option maxRecDepth 100000 in
theorem sameLoopP : ∀ n, SmAtP n := by
  intro n
  induction n using Nat.strongRecOn with
  | ind n ih =>
    intro x y A As A' As' c1 c2 c3 c4 w h h'
    have HA := Lib.hid (fun (c c' : Array Value) (o o' : TypeId) => ((Below.refl w.heap.size w).alloc (Nat.le_refl _) (.cells c o)).alloc (by simp) (.cells c' o'))
    have ci := fun W hb => eqInt x.shares y.shares As As' c2 c4 W (h.2.1.mono hb) (h'.2.1.mono hb)
    have ck := fun W hb => eqLoopsP n ih x.kids y.kids A A' c1 c3 W (h.1.mono hb) (h'.1.mono hb)
    have HX0 := Lib.hid (fun (c c' : Array Value) (o o' : TypeId) (W : World) (hb : Below ((w.alloc (.cells c o)).alloc (.cells c' o')).heap.size ((w.alloc (.cells c o)).alloc (.cells c' o')) W) (i : Nat) (v : Value) =>
      (⟨fun hi => B.cell_below hb (B.cell_below ((Below.refl _ _).alloc (Nat.le_refl _) _) (by rw [World.cell?_alloc_new]; exact hi : (w.alloc (.cells c o)).cell? ⟨w.heap.size, i, none⟩ = some v)),
        fun hi => B.cell_below hb (by have := (F.Cl.new (w.alloc (.cells c o)) c' o' i v hi).1; simpa using this)⟩ : (c[i]? = some v → W.cell? ⟨w.heap.size, i, none⟩ = some v) ∧ (c'[i]? = some v → W.cell? ⟨w.heap.size + 1, i, none⟩ = some v)))
    obtain ⟨R, hr⟩ : ∃ R, sm (n + 1) x y = R := ⟨_, rfl⟩
    rw [hr]
    have HR := Lib.hid hr
    unfold sm at HR
    clear h h' ih hr
    unfold lv
    by_cases e0 : x.kind = y.kind
    case neg =>
      have b0 : (x.kind == y.kind) = false := beq_eq_false_iff_ne.2 e0
      clear e0
      have HR2 : Hid (R = false) := Lib.hid (by rw [← HR.out, b0]; simp)
      clear HR
      go_enter Tryd.func58, Tryd.ntmps58
      go_wp2
      go_ret
      exact ⟨by rw [HR2.out]; rfl, HA.out _ _ _ _⟩
    have b0 : (x.kind == y.kind) = true := beq_iff_eq.2 e0
    by_cases e1 : x.item.toList = y.item.toList
    case neg =>
      have b1 : (x.item.toList == y.item.toList) = false := beq_eq_false_iff_ne.2 e1
      clear e1
      have HR2 : Hid (R = false) := Lib.hid (by rw [← HR.out, b1]; simp)
      clear HR
      go_enter Tryd.func58, Tryd.ntmps58
      go_wp2
      go_ret
      exact ⟨by rw [HR2.out]; rfl, HA.out _ _ _ _⟩
    have b1 : (x.item.toList == y.item.toList) = true := beq_iff_eq.2 e1
    by_cases e2 : x.long = y.long
    case neg =>
      have b2 : (x.long == y.long) = false := beq_eq_false_iff_ne.2 e2
      clear e2
      have HR2 : Hid (R = false) := Lib.hid (by rw [← HR.out, b2]; simp)
      clear HR
      go_enter Tryd.func58, Tryd.ntmps58
      go_wp2
      go_ret
      exact ⟨by rw [HR2.out]; rfl, HA.out _ _ _ _⟩
    have b2 : (x.long == y.long) = true := beq_iff_eq.2 e2
    by_cases e3 : x.many = y.many
    case neg =>
      have b3 : (x.many == y.many) = false := beq_eq_false_iff_ne.2 e3
      clear e3
      have HR2 : Hid (R = false) := Lib.hid (by rw [← HR.out, b3]; simp)
      clear HR
      go_enter Tryd.func58, Tryd.ntmps58
      go_wp2
      go_ret
      exact ⟨by rw [HR2.out]; rfl, HA.out _ _ _ _⟩
    have b3 : (x.many == y.many) = true := beq_iff_eq.2 e3
    have HR2 := HR.out
    rw [b0, b1, b2, b3, Bool.and_self, Bool.and_self, Bool.and_self, Bool.true_and] at HR2
    clear HR
    generalize decide (x.shares = y.shares) = q at ci HR2
    generalize eqL (sm n) x.kids y.kids = r at ck HR2
    have HR3 := Lib.hid HR2
    clear HR2
    cases q with
    | false =>
      go_enter Tryd.func58, Tryd.ntmps58
      go_wp2_with (go_at_call 23; refine (ci _ (HA.out _ _ _ _)).mono ?_; rintro e w2 ⟨rfl, HB2⟩)
      go_ret
      exact ⟨by rw [← HR3.out]; rfl, B.below_trans (HA.out _ _ _ _) HB2⟩
    | true =>
      go_enter Tryd.func58, Tryd.ntmps58
      go_wp2_with (first
        | (go_at_call 23; refine (ci _ (HA.out _ _ _ _)).mono ?_; rintro e w2 ⟨rfl, HB2⟩; have y4 := (HX0.out _ _ _ _ _ HB2 4 _).1 rfl; have z4 := (HX0.out _ _ _ _ _ HB2 4 _).2 rfl)
        | (go_at_call 24; refine (ck _ (B.below_trans (HA.out _ _ _ _) HB2)).mono ?_; rintro e w3 ⟨rfl, HB3⟩))
      go_ret
      exact ⟨by rw [← HR3.out]; rfl, B.below_trans (B.below_trans (HA.out _ _ _ _) HB2) HB3⟩
end Go.Proofs.YtlfobpjefklccaaDoor.L
namespace Go.Proofs.YtlfobpjefklccaaDoor.H
open Go.RowKit
open L (Lp row row1 At AtR lv kdL kid_at rowR)
open F (Fr Cl)
theorem two_at {R R' : Nat → Prop} {w : World} {x y : Lp} {A As A' As' : Option Addr} (h : LR R w x A As) (h' : LR R' w y A' As') : ∃ n, At n w x A As ∧ At n w y A' As' := by
  obtain ⟨n, h⟩ := h
  obtain ⟨m, h'⟩ := h'
  exact ⟨max n m, (atr_le (Nat.le_max_left _ _) h).at, (atr_le (Nat.le_max_right _ _) h').at⟩
theorem equalP {R R' : Nat → Prop} (x y : Lp) (A As A' As' : Option Addr) (c1 c2 c3 c4 : Nat) (w : World) (h : LR R w x A As) (h' : LR R' w y A' As') :
    Calls Tryd.prog 58 #[lv x A As c1 c2, lv y A' As' c3 c4] w fun e w' => e = .returned (.bool (decide (x = y))) ∧ Below w.heap.size w w' := by
  obtain ⟨n, h1, h2⟩ := two_at h h'
  have := L.sameLoopP n x y A As A' As' c1 c2 c3 c4 w h1 h2
  rw [sm_eq n x y (at_dp n w x A As h1) (at_dp n w y A' As' h2)] at this
  exact this
theorem equalR {R R' : Nat → Prop} (x y : Lp) (A As A' As' : Option Addr) (c1 c2 c3 c4 : Nat) (w : World) (h : LR R w x A As) (h' : LR R' w y A' As') :
    Calls Tryd.prog 10 #[lv x A As c1 c2, lv y A' As' c3 c4] w fun e w' => e = .returned (.bool (decide (x = y))) ∧ Below w.heap.size w w' := by
  obtain ⟨n, h1, h2⟩ := two_at h h'
  have := L.sameLoop n x y A As A' As' c1 c2 c3 c4 w h1 h2
  rw [sm_eq n x y (at_dp n w x A As h1) (at_dp n w y A' As' h2)] at this
  exact this
theorem kids_at {R R' : Nat → Prop} {w : World} {xs ys : List Lp} {A A' : Option Addr} (h : SR R w A xs) (h' : SR R' w A' ys) : ∃ n, (kdL n).C w A xs ∧ (kdL n).C w A' ys := by
  obtain ⟨n, h⟩ := h.C
  obtain ⟨m, h'⟩ := h'.C
  exact ⟨max n m, L.C_lift (by rw [L.kdL_sz, L.kdL_sz]) (L.kdL_le (Nat.le_max_left _ _)) h, L.C_lift (by rw [L.kdL_sz, L.kdL_sz]) (L.kdL_le (Nat.le_max_right _ _)) h'⟩
theorem kd_dp {n : Nat} {w : World} {A : Option Addr} {xs : List Lp} (h : (kdL n).C w A xs) : ∀ x ∈ xs, ∃ m, n = m + 1 ∧ Dp m x := fun x hx => by
  obtain ⟨j, hj, rfl⟩ := List.getElem_of_mem hx
  obtain ⟨_, _, m, A', As', _, _, _, e, hat, _⟩ := kid_at h j hj
  exact ⟨m, e, at_dp m w _ A' As' hat⟩
theorem eqAll {R R' : Nat → Prop} (xs ys : List Lp) (A A' : Option Addr) (c c' : Nat) (w : World) (h : SR R w A xs) (h' : SR R' w A' ys) :
    Calls Tryd.prog 24 #[.slice A xs.length c, .slice A' ys.length c', .func (.func 58) #[] #[]] w fun e w' => e = .returned (.bool (decide (xs = ys))) ∧ Below w.heap.size w w' := by
  obtain ⟨n, h1, h2⟩ := kids_at h h'
  have := L.eqLoopsP n (fun m _ => L.sameLoopP m) xs ys A A' c c' w h1 h2
  rw [eqL_dec (f := L.sm n) (fun x hx y hy => by
    obtain ⟨m, e, hm⟩ := kd_dp h1 x hx
    obtain ⟨m', e', hm'⟩ := kd_dp h2 y hy
    subst e
    obtain rfl : m = m' := by omega
    exact sm_eq m x y hm hm')] at this
  exact this
end Go.Proofs.YtlfobpjefklccaaDoor.H
