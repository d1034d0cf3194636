/- The reference's SameLoop. -/
import Derived.Test.YtfillnkebohciaaGreatDoorLpSize
import Derived.Test.YtfillnkebohciaaGreatDoorEqInt
namespace Go.Proofs.YtfillnkebohciaaGreatDoor.L
open Go.RowKit

def eqL (f : Lp → Lp → Bool) : List Lp → List Lp → Bool
  | [], [] => true
  | x :: xs, y :: ys => f x y && eqL f xs ys
  | _, _ => false
theorem eqL_len (f : Lp → Lp → Bool) : ∀ {xs ys : List Lp}, eqL f xs ys = true → xs.length = ys.length
  | [], [], _ => rfl
  | [], _ :: _, h => by simp [eqL] at h
  | _ :: _, [], h => by simp [eqL] at h
  | x :: xs, y :: ys, h => by
    simp only [eqL, Bool.and_eq_true] at h
    rw [List.length_cons, List.length_cons, eqL_len f h.2]
theorem eqL_drop (f : Lp → Lp → Bool) {xs ys : List Lp} {k : Nat} (h1 : k < xs.length) (h2 : k < ys.length) : eqL f (xs.drop k) (ys.drop k) = (f xs[k] ys[k] && eqL f (xs.drop (k + 1)) (ys.drop (k + 1))) := by
  rw [List.drop_eq_getElem_cons h1, List.drop_eq_getElem_cons h2, eqL]
/-- Whether two loops are the same, down to so many floors. -/
def sm : Nat → Lp → Lp → Bool
  | 0, _, _ => true
  | n + 1, x, y => (x.kind == y.kind && x.item.toList == y.item.toList && x.long == y.long && x.many == y.many) && (decide (x.shares = y.shares) && eqL (sm n) x.kids y.kids)
theorem sm_refl : ∀ (n : Nat) (x : Lp), sm n x x = true := by
  intro n
  induction n with
  | zero => intro x; rfl
  | succ n ih =>
    intro x
    have : ∀ xs : List Lp, eqL (sm n) xs xs = true := by
      intro xs
      induction xs with
      | nil => rfl
      | cons k ks ih2 => rw [eqL, ih, ih2]; rfl
    simp [sm, this]
theorem eqInt (xs ys : List Int) (A1 A2 : Option Addr) (c1 c2 : Nat) (w : World) (h1 : B.Kd.int.C w A1 xs) (h2 : B.Kd.int.C w A2 ys) :
    Calls Tryz.prog 55 #[.slice A1 xs.length c1, .slice A2 ys.length c2] w fun e w' => e = .returned (.bool (decide (xs = ys))) ∧ Below w.heap.size w w' := Eq.eq_int _ _ xs ys w ⟨A1, c1, rfl, h1⟩ ⟨A2, c2, rfl, h2⟩ _ rfl
def SmAt (n : Nat) : Prop := ∀ (x y : Lp) (A As A' As' : Option Addr) (c1 c2 c3 c4 : Nat) (w : World), At n w x A As → At n w y A' As' →
    Calls Tryz.prog 27 #[lv x A As c1 c2, lv y A' As' c3 c4] w fun e w' => e = .returned (.bool (sm (n + 1) x y)) ∧ Below w.heap.size w w'
set_option maxHeartbeats 4000000 in
set_option maxRecDepth 100000 in
theorem eqLoops (n : Nat) (ih : ∀ m, m < n → SmAt m) (xs ys : List Lp) (A1 A2 : Option Addr) (c1 c2 : Nat) (w : World) (C1 : (kdL n).C w A1 xs) (C2 : (kdL n).C w A2 ys) :
    Calls Tryz.prog 56 #[.slice A1 xs.length c1, .slice A2 ys.length c2, .func (.func 27) #[] #[]] w fun e w' => e = .returned (.bool (eqL (sm n) xs ys)) ∧ Below w.heap.size w w' := by
  have L1 := C1.1
  have L2 := C2.1
  have HIH := Lib.hid ih
  clear ih
  by_cases hl : xs.length = ys.length
  · obtain ⟨R, hr⟩ : ∃ R, eqL (sm n) xs ys = R := ⟨_, rfl⟩
    rw [hr]
    have HR := Lib.hid hr
    have HL := Lib.hid hl
    clear hr
    go_enter Tryz.func56, Tryz.ntmps56
    go_wp2
    go_loopw [17] (fun s17 wr => ∃ (k : Nat), s17 = .int .i64 k ∧ k ≤ xs.length ∧ Hid (eqL (sm n) (xs.drop k) (ys.drop k) = R) ∧ Hid (Below w.heap.size w wr)) (fun s17 _ => xs.length - (intOf s17).toNat)
    case atStart => exact ⟨0, rfl, by omega, Lib.hid (by rw [List.drop_zero, List.drop_zero]; exact HR.out), Lib.hid (Below.refl _ _)⟩
    case round =>
      obtain ⟨k, rfl, hk, HT, HB⟩ := hrel
      by_cases hlt : k < xs.length
      · have hlt2 : k < ys.length := HL.out ▸ hlt
        obtain ⟨b1, o1, m, A3, B3, c3, d3, rfl, rfl, hat1, e1⟩ := kid_at (C1.mono HB.out) k hlt
        obtain ⟨b2, o2, m', A4, B4, c4, d4, rfl, hm', hat2, e2⟩ := kid_at (C2.mono HB.out) k hlt2
        obtain rfl : m = m' := by omega
        clear hm'
        have f0 := e1 0 _ rfl
        have f1 := e1 1 _ rfl
        have f2 := e1 2 _ rfl
        have f3 := e1 3 _ rfl
        have f4 := e1 4 _ rfl
        have f5 := e1 5 _ rfl
        simp only [Nat.add_zero] at f0
        have g0 := fun o => B.cell_below ((Below.refl _ wr).alloc (Nat.le_refl _) o) (e2 0 _ rfl)
        have g1 := fun o => B.cell_below ((Below.refl _ wr).alloc (Nat.le_refl _) o) (e2 1 _ rfl)
        have g2 := fun o => B.cell_below ((Below.refl _ wr).alloc (Nat.le_refl _) o) (e2 2 _ rfl)
        have g3 := fun o => B.cell_below ((Below.refl _ wr).alloc (Nat.le_refl _) o) (e2 3 _ rfl)
        have g4 := fun o => B.cell_below ((Below.refl _ wr).alloc (Nat.le_refl _) o) (e2 4 _ rfl)
        have g5 := fun o => B.cell_below ((Below.refl _ wr).alloc (Nat.le_refl _) o) (e2 5 _ rfl)
        simp only [Nat.add_zero] at g0
        have hk1 : (k : Int) < xs.length := by omega
        have hk2 : (k : Int) < ys.length := by omega
        have HA := Lib.hid (fun (c c' : Array Value) (o o' : TypeId) => (HB.out.alloc (show w.heap.size ≤ wr.heap.size from HB.out.size) (.cells c o)).alloc (by have := HB.out.size; simp; omega) (.cells c' o'))
        have HA2 := Lib.hid (fun (c c' : Array Value) (o o' : TypeId) => ((Below.refl wr.heap.size wr).alloc (Nat.le_refl _) (.cells c o)).alloc (by simp) (.cells c' o'))
        have sf := fun c c' o o' => HIH.out m (by omega) xs[k] ys[k] A3 B3 A4 B4 c3 d3 c4 d4 _ (hat1.mono (HA2.out c c' o o')) (hat2.mono (HA2.out c c' o o'))
        unfold lv at sf
        have HT2 := HT.out
        rw [eqL_drop _ hlt hlt2] at HT2
        generalize sm (m + 1) xs[k] ys[k] = q at sf HT2
        clear e1 e2 hat1 hat2 HT hl
        cases q with
        | true =>
          rw [Bool.true_and] at HT2
          have HT3 := Lib.hid HT2
          clear HT2
          go_wp2_with (go_at_call 27; refine (sf _ _ _ _).mono ?_; rintro e w2 ⟨rfl, HB2⟩)
          go_roundw
          case rel => exact ⟨k + 1, by go_num, by omega, HT3, Lib.hid (B.below_trans (HA.out _ _ _ _) HB2)⟩
          case measure => simp [intOf]; omega
        | false =>
          rw [Bool.false_and] at HT2
          have HT3 := Lib.hid HT2
          clear HT2
          go_wp2_with (go_at_call 27; refine (sf _ _ _ _).mono ?_; rintro e w2 ⟨rfl, HB2⟩)
          go_ret
          exact ⟨by rw [← HT3.out]; rfl, B.below_trans (HA.out _ _ _ _) HB2⟩
      · obtain rfl : k = xs.length := by omega
        have HT2 := HT.out
        rw [List.drop_length, List.drop_of_length_le (by rw [HL.out]; exact Nat.le_refl _), eqL] at HT2
        subst HT2
        go_wp2
        go_ret
        exact ⟨rfl, HB.out⟩
  · have HR : Hid (eqL (sm n) xs ys = false) := Lib.hid (by
      cases hq : eqL (sm n) xs ys with
      | false => rfl
      | true => exact absurd (eqL_len _ hq) hl)
    go_enter Tryz.func56, Tryz.ntmps56
    go_wp2
    go_ret
    exact ⟨by rw [HR.out]; rfl, Below.refl _ _⟩
theorem bytes_beq {a b : ByteArray} : (a.toList == b.toList) = true ↔ a = b := by
  rw [beq_iff_eq]
  exact ⟨fun e => ByteArray.ext (Array.toList_inj.1 (by simpa [ByteArray.toList_eq] using e)), fun e => by rw [e]⟩
set_option maxHeartbeats 4000000 in
set_option maxRecDepth 100000 in
theorem sameLoop : ∀ n, SmAt n := by
  intro n
  induction n using Nat.strongRecOn with
  | ind n ih =>
    intro x y A As A' As' c1 c2 c3 c4 w h h'
    have HA := Lib.hid (fun (c c' : Array Value) (o o' : TypeId) => ((Below.refl w.heap.size w).alloc (Nat.le_refl _) (.cells c o)).alloc (by simp) (.cells c' o'))
    have ci := fun W hb => eqInt x.shares y.shares As As' c2 c4 W (h.2.1.mono hb) (h'.2.1.mono hb)
    have ck := fun W hb => eqLoops n ih x.kids y.kids A A' c1 c3 W (h.1.mono hb) (h'.1.mono hb)
    have HX0 := Lib.hid (fun (c c' : Array Value) (o o' : TypeId) (W : World) (hb : Below ((w.alloc (.cells c o)).alloc (.cells c' o')).heap.size ((w.alloc (.cells c o)).alloc (.cells c' o')) W) (i : Nat) (v : Value) =>
      (⟨fun hi => B.cell_below hb (B.cell_below ((Below.refl _ _).alloc (Nat.le_refl _) _) (by rw [World.cell?_alloc_new]; exact hi : (w.alloc (.cells c o)).cell? ⟨w.heap.size, i, none⟩ = some v)),
        fun hi => B.cell_below hb (by have := (F.Cl.new (w.alloc (.cells c o)) c' o' i v hi).1; simpa using this)⟩ : (c[i]? = some v → W.cell? ⟨w.heap.size, i, none⟩ = some v) ∧ (c'[i]? = some v → W.cell? ⟨w.heap.size + 1, i, none⟩ = some v)))
    obtain ⟨R, hr⟩ : ∃ R, sm (n + 1) x y = R := ⟨_, rfl⟩
    rw [hr]
    have HR := Lib.hid hr
    unfold sm at HR
    clear h h' ih hr
    unfold lv
    by_cases e0 : x.kind = y.kind
    case neg =>
      have b0 : (x.kind == y.kind) = false := beq_eq_false_iff_ne.2 e0
      clear e0
      have HR2 : Hid (R = false) := Lib.hid (by rw [← HR.out, b0]; simp)
      clear HR
      go_enter Tryz.func27, Tryz.ntmps27
      go_wp2
      go_ret
      exact ⟨by rw [HR2.out]; rfl, HA.out _ _ _ _⟩
    have b0 : (x.kind == y.kind) = true := beq_iff_eq.2 e0
    by_cases e1 : x.item.toList = y.item.toList
    case neg =>
      have b1 : (x.item.toList == y.item.toList) = false := beq_eq_false_iff_ne.2 e1
      clear e1
      have HR2 : Hid (R = false) := Lib.hid (by rw [← HR.out, b1]; simp)
      clear HR
      go_enter Tryz.func27, Tryz.ntmps27
      go_wp2
      go_ret
      exact ⟨by rw [HR2.out]; rfl, HA.out _ _ _ _⟩
    have b1 : (x.item.toList == y.item.toList) = true := beq_iff_eq.2 e1
    by_cases e2 : x.long = y.long
    case neg =>
      have b2 : (x.long == y.long) = false := beq_eq_false_iff_ne.2 e2
      clear e2
      have HR2 : Hid (R = false) := Lib.hid (by rw [← HR.out, b2]; simp)
      clear HR
      go_enter Tryz.func27, Tryz.ntmps27
      go_wp2
      go_ret
      exact ⟨by rw [HR2.out]; rfl, HA.out _ _ _ _⟩
    have b2 : (x.long == y.long) = true := beq_iff_eq.2 e2
    by_cases e3 : x.many = y.many
    case neg =>
      have b3 : (x.many == y.many) = false := beq_eq_false_iff_ne.2 e3
      clear e3
      have HR2 : Hid (R = false) := Lib.hid (by rw [← HR.out, b3]; simp)
      clear HR
      go_enter Tryz.func27, Tryz.ntmps27
      go_wp2
      go_ret
      exact ⟨by rw [HR2.out]; rfl, HA.out _ _ _ _⟩
    have b3 : (x.many == y.many) = true := beq_iff_eq.2 e3
    have HR2 := HR.out
    rw [b0, b1, b2, b3, Bool.and_self, Bool.and_self, Bool.and_self, Bool.true_and] at HR2
    clear HR
    generalize decide (x.shares = y.shares) = q at ci HR2
    generalize eqL (sm n) x.kids y.kids = r at ck HR2
    have HR3 := Lib.hid HR2
    clear HR2
    cases q with
    | false =>
      go_enter Tryz.func27, Tryz.ntmps27
      go_wp2_with (go_at_call 55; refine (ci _ (HA.out _ _ _ _)).mono ?_; rintro e w2 ⟨rfl, HB2⟩)
      go_ret
      exact ⟨by rw [← HR3.out]; rfl, B.below_trans (HA.out _ _ _ _) HB2⟩
    | true =>
      go_enter Tryz.func27, Tryz.ntmps27
      go_wp2_with (first
        | (go_at_call 55; refine (ci _ (HA.out _ _ _ _)).mono ?_; rintro e w2 ⟨rfl, HB2⟩; have y4 := (HX0.out _ _ _ _ _ HB2 4 _).1 rfl; have z4 := (HX0.out _ _ _ _ _ HB2 4 _).2 rfl)
        | (go_at_call 56; refine (ck _ (B.below_trans (HA.out _ _ _ _) HB2)).mono ?_; rintro e w3 ⟨rfl, HB3⟩))
      go_ret
      exact ⟨by rw [← HR3.out]; rfl, B.below_trans (B.below_trans (HA.out _ _ _ _) HB2) HB3⟩
end Go.Proofs.YtfillnkebohciaaGreatDoor.L
