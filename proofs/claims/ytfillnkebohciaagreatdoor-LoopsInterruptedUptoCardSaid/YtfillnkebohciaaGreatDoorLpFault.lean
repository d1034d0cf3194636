/- What is wrong with a part of a loop, and with all in it: loop.partFault and the reference's. Printed by wip/gen/lpfaultgen.py. -/
import Derived.Test.YtfillnkebohciaaGreatDoorLpForm
namespace Go.Proofs.YtfillnkebohciaaGreatDoor.L
open Go.RowKit

/-- A loop that lies at these addresses, of at most n + 1 floors. -/
def At (n : Nat) (w : World) (x : Lp) (A As : Option Addr) : Prop := (kdL n).C w A x.kids ∧ B.Kd.int.C w As x.shares ∧ x.ok
theorem At.mono {n : Nat} {w w' : World} {x : Lp} {A As : Option Addr} (h : At n w x A As) (hb : Below w.heap.size w w') : At n w' x A As := ⟨h.1.mono hb, h.2.1.mono hb, h.2.2⟩
theorem kid_at {n : Nat} {w : World} {A : Option Addr} {xs : List Lp} (C : (kdL n).C w A xs) (k : Nat) (hk : k < xs.length) :
    ∃ b off m A' As' c c', A = some ⟨b, off, none⟩ ∧ n = m + 1 ∧ At m w xs[k] A' As' ∧ ∀ i u, (row xs[k] A' As' c c')[i]? = some u → w.cell? ⟨b, off + k * 6 + i, none⟩ = some u := by
  obtain ⟨b, off, cs, rfl, K, hc⟩ := C.at k hk
  cases n with
  | zero => exact K.elim
  | succ m =>
    obtain ⟨A', As', c, c', rfl, h1, h2, h3⟩ := K
    refine ⟨b, off, m, A', As', c, c', rfl, rfl, ⟨h1, h2, h3⟩, fun i u hi => ?_⟩
    obtain ⟨hl, he⟩ := List.getElem?_eq_some_iff.1 hi
    have := hc i hl
    rw [kdL_sz] at this
    rw [this, he]
def own (x : Lp) : Int :=
  if bad x.kind 1 5 = true then 4 else if fb x = true then 3 else if x.kind = 1 ∧ Key.keyB x.item = false then 5 else if x.kind = 1 ∧ bad x.long 1 3600000 = true then 1
  else if x.kind = 5 ∧ bad x.many 1 100 = true then 1 else if x.shares.any (fun n => bad n 1 1000) = true then 1 else 0
def first (f : Lp → Int) : List Lp → Int
  | [] => 0
  | k :: ks => if f k ≠ 0 then f k else first f ks
def pf : Nat → Lp → Int
  | 0, _ => 0
  | n + 1, x => if own x ≠ 0 then own x else first (pf n) x.kids
theorem first_drop (f : Lp → Int) {l : List Lp} {k : Nat} (h : k < l.length) : first f (l.drop k) = if f l[k] ≠ 0 then f l[k] else first f (l.drop (k + 1)) := by rw [List.drop_eq_getElem_cons h, first]
theorem any_drop {l : List Int} {k : Nat} (h : k < l.length) : (l.drop k).any (fun n => bad n 1 1000) = (bad l[k] 1 1000 || (l.drop (k + 1)).any (fun n => bad n 1 1000)) := by rw [List.drop_eq_getElem_cons h, List.any_cons]
theorem outB (n lo hi : Int) (w : World) : Calls Tryz.prog 85 #[.int .i64 n, .int .i64 lo, .int .i64 hi] w fun e w' => e = .returned (.bool (bad n lo hi)) ∧ w' = w := Cut.outside n lo hi _ rfl w
theorem inB (n lo hi : Int) (w : World) : Calls Tryz.prog 52 #[.int .i64 n, .int .i64 lo, .int .i64 hi] w fun e w' => e = .returned (.bool (!bad n lo hi)) ∧ w' = w := Cut.within n lo hi _ (by
  unfold bad
  by_cases h : n < lo ∨ hi < n
  · rw [decide_eq_true h, decide_eq_false (by omega)]; rfl
  · rw [decide_eq_false h, decide_eq_true (by omega)]; rfl) w
theorem isKey (s : ByteArray) (hs : s.size ≤ 1048576) (w : World) : Calls Tryz.prog 51 #[.string s] w fun e w' => e = .returned (.bool (Key.keyB s)) ∧ w' = w := Key.isKey s _ rfl (by omega) w
theorem refKey (s : ByteArray) (hs : s.size ≤ 1048576) (w : World) : Calls Tryz.prog 53 #[.string s] w fun e w' => e = .returned (.bool (Key.keyB s)) ∧ Below w.heap.size w w' := Key.refKey s _ rfl (by omega) w
/-- What lies in a block made for this loop. -/
theorem boxed {x : Lp} {A As : Option Addr} {c c' : Nat} {w W : World} {e : TypeId} (hb : Below (w.alloc (.cells #[.int .i64 x.kind, .string x.item, .int .i64 x.long, .int .i64 x.many, .slice A x.kids.length c, .slice As x.shares.length c'] e)).heap.size (w.alloc (.cells #[.int .i64 x.kind, .string x.item, .int .i64 x.long, .int .i64 x.many, .slice A x.kids.length c, .slice As x.shares.length c'] e)) W) :
    W.cell? ⟨w.heap.size, 0, none⟩ = some (.int .i64 x.kind) ∧ W.cell? ⟨w.heap.size, 1, none⟩ = some (.string x.item) ∧ W.cell? ⟨w.heap.size, 2, none⟩ = some (.int .i64 x.long) ∧ W.cell? ⟨w.heap.size, 3, none⟩ = some (.int .i64 x.many) ∧ W.cell? ⟨w.heap.size, 4, none⟩ = some (.slice A x.kids.length c) ∧ W.cell? ⟨w.heap.size, 5, none⟩ = some (.slice As x.shares.length c') :=
  ⟨B.cell_below hb (by rw [World.cell?_alloc_new]; rfl), B.cell_below hb (by rw [World.cell?_alloc_new]; rfl), B.cell_below hb (by rw [World.cell?_alloc_new]; rfl), B.cell_below hb (by rw [World.cell?_alloc_new]; rfl), B.cell_below hb (by rw [World.cell?_alloc_new]; rfl), B.cell_below hb (by rw [World.cell?_alloc_new]; rfl)⟩

set_option maxHeartbeats 8000000 in
set_option maxRecDepth 100000 in
theorem partFault : ∀ (n : Nat) (x : Lp) (A As : Option Addr) (c c' : Nat) (w : World), At n w x A As →
    Calls Tryz.prog 76 #[lv x A As c c'] w fun e w' => e = .returned (.int .i64 (pf (n + 1) x)) ∧ Below w.heap.size w w' := by
  intro n
  induction n using Nat.strongRecOn with
  | ind n ih =>
    intro x A As c c' w h
    obtain ⟨C, D, hok⟩ := h
    have HIH := Lib.hid ih
    clear ih
    have HP := Lib.hid (show pf (n + 1) x = if own x ≠ 0 then own x else first (pf n) x.kids from rfl)
    generalize pf (n + 1) x = p at HP ⊢
    have HA := Lib.hid (fun (e : TypeId) => (Below.refl _ w).alloc (Nat.le_refl _) (.cells #[.int .i64 x.kind, .string x.item, .int .i64 x.long, .int .i64 x.many, .slice A x.kids.length c, .slice As x.shares.length c'] e))
    have HX0 := Lib.hid (fun (e : TypeId) (W : World) => @boxed x A As c c' w W e)
    have LK := C.1
    have LS := D.1
    have HC := Lib.hid C
    have HD := Lib.hid D
    have ck := isKey x.item hok.2.1
    clear C D hok
    unfold lv
    have ff := fun W => formFault x A As c c' W
    unfold lv at ff
    have HOW := Lib.hid (show own x = _ from rfl)
    unfold own at HOW
    cases hk : bad x.kind 1 5 with
    | true =>
      have HF : Hid (p = 4) := Lib.hid (by have h4 : own x = 4 := (by unfold own; rw [if_pos hk]); rw [HP.out, h4]; rfl)
      go_enter Tryz.func76, Tryz.ntmps76
      go_wp2_with (go_at_call 85; refine (outB _ _ _ _).mono ?_; rintro e w2 ⟨rfl, rfl⟩)
      go_ret
      exact ⟨by rw [HF.out]; rfl, HA.out _⟩
    | false =>
      cases hf : fb x with
      | true =>
        rw [hf] at ff
        have HF : Hid (p = 3) := Lib.hid (by have h4 : own x = 3 := (by unfold own; rw [if_neg (by rw [hk]; decide), if_pos hf]); rw [HP.out, h4]; rfl)
        clear hf
        go_enter Tryz.func76, Tryz.ntmps76
        go_wp2_with (first | (go_at_call 85; refine (outB _ _ _ _).mono ?_; rintro e w2 ⟨rfl, rfl⟩) | (go_at_call 104; refine (ff _).mono ?_; rintro e w2 ⟨rfl, HB⟩))
        go_ret
        exact ⟨by rw [HF.out]; rfl, B.below_trans (HA.out _) HB⟩
      | false =>
        rw [hf] at ff
        have hown : own x = if x.kind = 1 ∧ Key.keyB x.item = false then 5 else if x.kind = 1 ∧ bad x.long 1 3600000 = true then 1 else if x.kind = 5 ∧ bad x.many 1 100 = true then 1 else if x.shares.any (fun n => bad n 1 1000) = true then 1 else 0 := by
          unfold own; rw [if_neg (by rw [hk]; decide), if_neg (by rw [hf]; decide)]
        clear hf HOW
        by_cases h1 : x.kind = 1
        · have k1 : (x.kind == 1) = true := beq_iff_eq.2 h1
          have k5 : (x.kind == 5) = false := beq_eq_false_iff_ne.2 (by omega)
          cases hb : Key.keyB x.item with
          | false =>
            rw [hb] at ck
            have HF : Hid (p = 5) := Lib.hid (by have h4 : own x = 5 := (by rw [hown, if_pos ⟨h1, hb⟩]); rw [HP.out, h4]; rfl)
            rw [h1] at hk ff HA HX0 ⊢
            clear hown hb h1 k1 k5
            go_enter Tryz.func76, Tryz.ntmps76
            go_wp2_with (first | (go_at_call 85; refine (outB _ _ _ _).mono ?_; rintro e w2 ⟨rfl, rfl⟩) | (go_at_call 104; refine (ff _).mono ?_; rintro e w2 ⟨rfl, HB⟩; obtain ⟨q0, q1, q2, q3, q4, q5⟩ := HX0.out _ _ HB) | (go_at_call 51; refine (ck _).mono ?_; rintro e w2 ⟨rfl, rfl⟩))
            go_ret
            exact ⟨by rw [HF.out]; rfl, B.below_trans (HA.out _) HB⟩
          | true =>
            rw [hb] at ck
            cases hl : bad x.long 1 3600000 with
            | true =>
              have HF : Hid (p = 1) := Lib.hid (by have h4 : own x = 1 := (by rw [hown, if_neg (by rw [hb]; simp), if_pos ⟨h1, hl⟩]); rw [HP.out, h4]; rfl)
              rw [h1] at hk ff HA HX0 ⊢
              clear hown hb h1 k1 k5
              go_enter Tryz.func76, Tryz.ntmps76
              go_wp2_with (first | (go_at_call 85; refine (outB _ _ _ _).mono ?_; rintro e w2 ⟨rfl, rfl⟩) | (go_at_call 104; refine (ff _).mono ?_; rintro e w2 ⟨rfl, HB⟩; obtain ⟨q0, q1, q2, q3, q4, q5⟩ := HX0.out _ _ HB) | (go_at_call 51; refine (ck _).mono ?_; rintro e w2 ⟨rfl, rfl⟩))
              go_ret
              exact ⟨by rw [HF.out]; rfl, B.below_trans (HA.out _) HB⟩
            | false =>
              rw [if_neg (by rw [hb]; simp), if_neg (by rw [hl]; simp), if_neg (by omega)] at hown
              rw [h1] at hk ff HA HX0 ⊢
              clear hb h1 k1 k5
              have HW := Lib.hid hown
              clear hown
              go_enter Tryz.func76, Tryz.ntmps76
              go_wp2_with (first | (go_at_call 85; refine (outB _ _ _ _).mono ?_; rintro e w2 ⟨rfl, rfl⟩) | (go_at_call 104; refine (ff _).mono ?_; rintro e w2 ⟨rfl, HB⟩; obtain ⟨q0, q1, q2, q3, q4, q5⟩ := HX0.out _ _ HB) | (go_at_call 51; refine (ck _).mono ?_; rintro e w2 ⟨rfl, rfl⟩))
              have HBA := Lib.hid (B.below_trans (HA.out _) HB)
              have HD2 := Lib.hid (HD.out.mono HBA.out)
              have HC2 := Lib.hid (HC.out.mono HBA.out)
              clear HB
              go_loop [44] (fun s => ∃ k : Nat, s = .int .i64 k ∧ k ≤ x.shares.length ∧ Hid (x.shares.any (fun n => bad n 1 1000) = (x.shares.drop k).any (fun n => bad n 1 1000))) (fun s => x.shares.length - (intOf s).toNat)
              case atStart => exact ⟨0, rfl, by omega, Lib.hid (by rw [List.drop_zero])⟩
              case round =>
                obtain ⟨k, rfl, hk, HN⟩ := hrel
                by_cases hlt : k < x.shares.length
                · obtain ⟨b1, o1, cs1, rfl, K1, e1⟩ := HD2.out.at k hlt
                  obtain rfl : cs1 = [.int .i64 x.shares[k]] := K1
                  have f0 : w2.cell? ⟨b1, o1 + k, none⟩ = some (.int .i64 x.shares[k]) := by simpa [B.Kd.int, B.Kd.flat] using e1 0 (by simp)
                  have hk1 : (k : Int) < x.shares.length := by omega
                  have HN2 := HN.out
                  rw [any_drop hlt] at HN2
                  clear e1 HN
                  cases hb : bad x.shares[k] 1 1000 with
                  | true =>
                    have HF : Hid (p = 1) := Lib.hid (by have h4 : own x = 1 := (by rw [HW.out, if_pos (by rw [HN2, hb]; rfl)]); rw [HP.out, h4]; rfl)
                    clear HN2
                    go_wp2_with (go_at_call 85; refine (outB _ _ _ _).mono ?_; rintro e w3 ⟨rfl, rfl⟩)
                    go_ret
                    exact ⟨by rw [HF.out]; rfl, HBA.out⟩
                  | false =>
                    rw [hb, Bool.false_or] at HN2
                    have HN3 := Lib.hid HN2
                    clear HN2
                    go_wp2_with (go_at_call 85; refine (outB _ _ _ _).mono ?_; rintro e w3 ⟨rfl, rfl⟩)
                    exact ⟨⟨k + 1, by go_num, by omega, HN3⟩, by simp [intOf]; omega⟩
                · obtain rfl : k = x.shares.length := by omega
                  have HPP : Hid (p = first (pf n) (x.kids.drop 0)) := Lib.hid (by
                    have h0 : own x = 0 := by rw [HW.out, if_neg (by rw [HN.out, List.drop_length]; simp)]
                    rw [HP.out, h0, if_neg (by simp), List.drop_zero])
                  clear HN HW HP
                  go_wp2
                  go_loopw [54] (fun s wr => ∃ k : Nat, s = .int .i64 k ∧ k ≤ x.kids.length ∧ Hid (p = first (pf n) (x.kids.drop k)) ∧ Hid (Below w2.heap.size w2 wr)) (fun s _ => x.kids.length - (intOf s).toNat)
                  case atStart => exact ⟨0, rfl, by omega, HPP, Lib.hid (Below.refl _ _)⟩
                  case round =>
                    obtain ⟨k, rfl, hk, HN, HB3⟩ := hrel
                    by_cases hlt : k < x.kids.length
                    · obtain ⟨b1, o1, m, A2, As2, c2, c2', rfl, rfl, hat, e1⟩ := kid_at (HC2.out.mono HB3.out) k hlt
                      have f0 := e1 0 _ rfl
                      have f1 := e1 1 _ rfl
                      have f2 := e1 2 _ rfl
                      have f3 := e1 3 _ rfl
                      have f4 := e1 4 _ rfl
                      have f5 := e1 5 _ rfl
                      simp only [Nat.add_zero] at f0
                      have hk1 : (k : Int) < x.kids.length := by omega
                      have HA3 := Lib.hid (fun (c : Array Value) (e : TypeId) => HB3.out.alloc (show w2.heap.size ≤ wr.heap.size from HB3.out.size) (.cells c e))
                      have HA4 := Lib.hid (fun (c : Array Value) (e : TypeId) => (Below.refl _ wr).alloc (Nat.le_refl _) (.cells c e))
                      have cc := fun W (hb : Below wr.heap.size wr W) => HIH.out m (by omega) x.kids[k] A2 As2 c2 c2' W (hat.mono hb)
                      unfold lv at cc
                      have HN2 := HN.out
                      rw [first_drop _ hlt] at HN2
                      clear e1 hat HN
                      generalize hq : pf (m + 1) x.kids[k] = q at cc HN2
                      clear hq
                      by_cases hz : q = 0
                      · subst hz
                        rw [if_neg (by simp)] at HN2
                        have HN3 := Lib.hid HN2
                        clear HN2
                        go_wp2_with (go_at_call 76; refine (cc _ (HA4.out _ _)).mono ?_; rintro e w3 ⟨rfl, HB4⟩)
                        go_roundw
                        case rel => exact ⟨k + 1, by go_num, by omega, HN3, Lib.hid (B.below_trans (HA3.out _ _) HB4)⟩
                        case measure => simp [intOf]; omega
                      · rw [if_pos hz] at HN2
                        have HN3 := Lib.hid HN2
                        clear HN2
                        have hz' : (q != 0) = true := bne_iff_ne.2 hz
                        clear hz
                        go_wp2_with (go_at_call 76; refine (cc _ (HA4.out _ _)).mono ?_; rintro e w3 ⟨rfl, HB4⟩)
                        go_ret
                        exact ⟨by rw [HN3.out]; rfl, B.below_trans HBA.out (B.below_trans (HA3.out _ _) HB4)⟩
                    · obtain rfl : k = x.kids.length := by omega
                      have HF : Hid (p = 0) := Lib.hid (by rw [HN.out, List.drop_length]; rfl)
                      go_wp2
                      go_ret
                      exact ⟨by rw [HF.out]; rfl, B.below_trans HBA.out HB3.out⟩
        · have k1 : (x.kind == 1) = false := beq_eq_false_iff_ne.2 h1
          by_cases h5 : x.kind = 5
          · have k5 : (x.kind == 5) = true := beq_iff_eq.2 h5
            cases hm : bad x.many 1 100 with
            | true =>
              have HF : Hid (p = 1) := Lib.hid (by have h4 : own x = 1 := (by rw [hown, if_neg (fun h => h1 h.1), if_neg (fun h => h1 h.1), if_pos ⟨h5, hm⟩]); rw [HP.out, h4]; rfl)
              rw [h5] at hk ff HA HX0 ⊢
              clear hown h5 h1 k1 k5
              go_enter Tryz.func76, Tryz.ntmps76
              go_wp2_with (first | (go_at_call 85; refine (outB _ _ _ _).mono ?_; rintro e w2 ⟨rfl, rfl⟩) | (go_at_call 104; refine (ff _).mono ?_; rintro e w2 ⟨rfl, HB⟩; obtain ⟨q0, q1, q2, q3, q4, q5⟩ := HX0.out _ _ HB))
              go_ret
              exact ⟨by rw [HF.out]; rfl, B.below_trans (HA.out _) HB⟩
            | false =>
              rw [if_neg (fun h => h1 h.1), if_neg (fun h => h1 h.1), if_neg (by rw [hm]; simp)] at hown
              rw [h5] at hk ff HA HX0 ⊢
              clear h5 h1 k1 k5
              have HW := Lib.hid hown
              clear hown
              go_enter Tryz.func76, Tryz.ntmps76
              go_wp2_with (first | (go_at_call 85; refine (outB _ _ _ _).mono ?_; rintro e w2 ⟨rfl, rfl⟩) | (go_at_call 104; refine (ff _).mono ?_; rintro e w2 ⟨rfl, HB⟩; obtain ⟨q0, q1, q2, q3, q4, q5⟩ := HX0.out _ _ HB) | (go_at_call 51; refine (ck _).mono ?_; rintro e w2 ⟨rfl, rfl⟩))
              have HBA := Lib.hid (B.below_trans (HA.out _) HB)
              have HD2 := Lib.hid (HD.out.mono HBA.out)
              have HC2 := Lib.hid (HC.out.mono HBA.out)
              clear HB
              go_loop [44] (fun s => ∃ k : Nat, s = .int .i64 k ∧ k ≤ x.shares.length ∧ Hid (x.shares.any (fun n => bad n 1 1000) = (x.shares.drop k).any (fun n => bad n 1 1000))) (fun s => x.shares.length - (intOf s).toNat)
              case atStart => exact ⟨0, rfl, by omega, Lib.hid (by rw [List.drop_zero])⟩
              case round =>
                obtain ⟨k, rfl, hk, HN⟩ := hrel
                by_cases hlt : k < x.shares.length
                · obtain ⟨b1, o1, cs1, rfl, K1, e1⟩ := HD2.out.at k hlt
                  obtain rfl : cs1 = [.int .i64 x.shares[k]] := K1
                  have f0 : w2.cell? ⟨b1, o1 + k, none⟩ = some (.int .i64 x.shares[k]) := by simpa [B.Kd.int, B.Kd.flat] using e1 0 (by simp)
                  have hk1 : (k : Int) < x.shares.length := by omega
                  have HN2 := HN.out
                  rw [any_drop hlt] at HN2
                  clear e1 HN
                  cases hb : bad x.shares[k] 1 1000 with
                  | true =>
                    have HF : Hid (p = 1) := Lib.hid (by have h4 : own x = 1 := (by rw [HW.out, if_pos (by rw [HN2, hb]; rfl)]); rw [HP.out, h4]; rfl)
                    clear HN2
                    go_wp2_with (go_at_call 85; refine (outB _ _ _ _).mono ?_; rintro e w3 ⟨rfl, rfl⟩)
                    go_ret
                    exact ⟨by rw [HF.out]; rfl, HBA.out⟩
                  | false =>
                    rw [hb, Bool.false_or] at HN2
                    have HN3 := Lib.hid HN2
                    clear HN2
                    go_wp2_with (go_at_call 85; refine (outB _ _ _ _).mono ?_; rintro e w3 ⟨rfl, rfl⟩)
                    exact ⟨⟨k + 1, by go_num, by omega, HN3⟩, by simp [intOf]; omega⟩
                · obtain rfl : k = x.shares.length := by omega
                  have HPP : Hid (p = first (pf n) (x.kids.drop 0)) := Lib.hid (by
                    have h0 : own x = 0 := by rw [HW.out, if_neg (by rw [HN.out, List.drop_length]; simp)]
                    rw [HP.out, h0, if_neg (by simp), List.drop_zero])
                  clear HN HW HP
                  go_wp2
                  go_loopw [54] (fun s wr => ∃ k : Nat, s = .int .i64 k ∧ k ≤ x.kids.length ∧ Hid (p = first (pf n) (x.kids.drop k)) ∧ Hid (Below w2.heap.size w2 wr)) (fun s _ => x.kids.length - (intOf s).toNat)
                  case atStart => exact ⟨0, rfl, by omega, HPP, Lib.hid (Below.refl _ _)⟩
                  case round =>
                    obtain ⟨k, rfl, hk, HN, HB3⟩ := hrel
                    by_cases hlt : k < x.kids.length
                    · obtain ⟨b1, o1, m, A2, As2, c2, c2', rfl, rfl, hat, e1⟩ := kid_at (HC2.out.mono HB3.out) k hlt
                      have f0 := e1 0 _ rfl
                      have f1 := e1 1 _ rfl
                      have f2 := e1 2 _ rfl
                      have f3 := e1 3 _ rfl
                      have f4 := e1 4 _ rfl
                      have f5 := e1 5 _ rfl
                      simp only [Nat.add_zero] at f0
                      have hk1 : (k : Int) < x.kids.length := by omega
                      have HA3 := Lib.hid (fun (c : Array Value) (e : TypeId) => HB3.out.alloc (show w2.heap.size ≤ wr.heap.size from HB3.out.size) (.cells c e))
                      have HA4 := Lib.hid (fun (c : Array Value) (e : TypeId) => (Below.refl _ wr).alloc (Nat.le_refl _) (.cells c e))
                      have cc := fun W (hb : Below wr.heap.size wr W) => HIH.out m (by omega) x.kids[k] A2 As2 c2 c2' W (hat.mono hb)
                      unfold lv at cc
                      have HN2 := HN.out
                      rw [first_drop _ hlt] at HN2
                      clear e1 hat HN
                      generalize hq : pf (m + 1) x.kids[k] = q at cc HN2
                      clear hq
                      by_cases hz : q = 0
                      · subst hz
                        rw [if_neg (by simp)] at HN2
                        have HN3 := Lib.hid HN2
                        clear HN2
                        go_wp2_with (go_at_call 76; refine (cc _ (HA4.out _ _)).mono ?_; rintro e w3 ⟨rfl, HB4⟩)
                        go_roundw
                        case rel => exact ⟨k + 1, by go_num, by omega, HN3, Lib.hid (B.below_trans (HA3.out _ _) HB4)⟩
                        case measure => simp [intOf]; omega
                      · rw [if_pos hz] at HN2
                        have HN3 := Lib.hid HN2
                        clear HN2
                        have hz' : (q != 0) = true := bne_iff_ne.2 hz
                        clear hz
                        go_wp2_with (go_at_call 76; refine (cc _ (HA4.out _ _)).mono ?_; rintro e w3 ⟨rfl, HB4⟩)
                        go_ret
                        exact ⟨by rw [HN3.out]; rfl, B.below_trans HBA.out (B.below_trans (HA3.out _ _) HB4)⟩
                    · obtain rfl : k = x.kids.length := by omega
                      have HF : Hid (p = 0) := Lib.hid (by rw [HN.out, List.drop_length]; rfl)
                      go_wp2
                      go_ret
                      exact ⟨by rw [HF.out]; rfl, B.below_trans HBA.out HB3.out⟩
          · have k5 : (x.kind == 5) = false := beq_eq_false_iff_ne.2 h5
            rw [if_neg (fun h => h1 h.1), if_neg (fun h => h1 h.1), if_neg (fun h => h5 h.1)] at hown
            have HW := Lib.hid hown
            clear hown
            go_enter Tryz.func76, Tryz.ntmps76
            go_wp2_with (first | (go_at_call 85; refine (outB _ _ _ _).mono ?_; rintro e w2 ⟨rfl, rfl⟩) | (go_at_call 104; refine (ff _).mono ?_; rintro e w2 ⟨rfl, HB⟩; obtain ⟨q0, q1, q2, q3, q4, q5⟩ := HX0.out _ _ HB) | (go_at_call 51; refine (ck _).mono ?_; rintro e w2 ⟨rfl, rfl⟩))
            have HBA := Lib.hid (B.below_trans (HA.out _) HB)
            have HD2 := Lib.hid (HD.out.mono HBA.out)
            have HC2 := Lib.hid (HC.out.mono HBA.out)
            clear HB
            go_loop [44] (fun s => ∃ k : Nat, s = .int .i64 k ∧ k ≤ x.shares.length ∧ Hid (x.shares.any (fun n => bad n 1 1000) = (x.shares.drop k).any (fun n => bad n 1 1000))) (fun s => x.shares.length - (intOf s).toNat)
            case atStart => exact ⟨0, rfl, by omega, Lib.hid (by rw [List.drop_zero])⟩
            case round =>
              obtain ⟨k, rfl, hk, HN⟩ := hrel
              by_cases hlt : k < x.shares.length
              · obtain ⟨b1, o1, cs1, rfl, K1, e1⟩ := HD2.out.at k hlt
                obtain rfl : cs1 = [.int .i64 x.shares[k]] := K1
                have f0 : w2.cell? ⟨b1, o1 + k, none⟩ = some (.int .i64 x.shares[k]) := by simpa [B.Kd.int, B.Kd.flat] using e1 0 (by simp)
                have hk1 : (k : Int) < x.shares.length := by omega
                have HN2 := HN.out
                rw [any_drop hlt] at HN2
                clear e1 HN
                cases hb : bad x.shares[k] 1 1000 with
                | true =>
                  have HF : Hid (p = 1) := Lib.hid (by have h4 : own x = 1 := (by rw [HW.out, if_pos (by rw [HN2, hb]; rfl)]); rw [HP.out, h4]; rfl)
                  clear HN2
                  go_wp2_with (go_at_call 85; refine (outB _ _ _ _).mono ?_; rintro e w3 ⟨rfl, rfl⟩)
                  go_ret
                  exact ⟨by rw [HF.out]; rfl, HBA.out⟩
                | false =>
                  rw [hb, Bool.false_or] at HN2
                  have HN3 := Lib.hid HN2
                  clear HN2
                  go_wp2_with (go_at_call 85; refine (outB _ _ _ _).mono ?_; rintro e w3 ⟨rfl, rfl⟩)
                  exact ⟨⟨k + 1, by go_num, by omega, HN3⟩, by simp [intOf]; omega⟩
              · obtain rfl : k = x.shares.length := by omega
                have HPP : Hid (p = first (pf n) (x.kids.drop 0)) := Lib.hid (by
                  have h0 : own x = 0 := by rw [HW.out, if_neg (by rw [HN.out, List.drop_length]; simp)]
                  rw [HP.out, h0, if_neg (by simp), List.drop_zero])
                clear HN HW HP
                go_wp2
                go_loopw [54] (fun s wr => ∃ k : Nat, s = .int .i64 k ∧ k ≤ x.kids.length ∧ Hid (p = first (pf n) (x.kids.drop k)) ∧ Hid (Below w2.heap.size w2 wr)) (fun s _ => x.kids.length - (intOf s).toNat)
                case atStart => exact ⟨0, rfl, by omega, HPP, Lib.hid (Below.refl _ _)⟩
                case round =>
                  obtain ⟨k, rfl, hk, HN, HB3⟩ := hrel
                  by_cases hlt : k < x.kids.length
                  · obtain ⟨b1, o1, m, A2, As2, c2, c2', rfl, rfl, hat, e1⟩ := kid_at (HC2.out.mono HB3.out) k hlt
                    have f0 := e1 0 _ rfl
                    have f1 := e1 1 _ rfl
                    have f2 := e1 2 _ rfl
                    have f3 := e1 3 _ rfl
                    have f4 := e1 4 _ rfl
                    have f5 := e1 5 _ rfl
                    simp only [Nat.add_zero] at f0
                    have hk1 : (k : Int) < x.kids.length := by omega
                    have HA3 := Lib.hid (fun (c : Array Value) (e : TypeId) => HB3.out.alloc (show w2.heap.size ≤ wr.heap.size from HB3.out.size) (.cells c e))
                    have HA4 := Lib.hid (fun (c : Array Value) (e : TypeId) => (Below.refl _ wr).alloc (Nat.le_refl _) (.cells c e))
                    have cc := fun W (hb : Below wr.heap.size wr W) => HIH.out m (by omega) x.kids[k] A2 As2 c2 c2' W (hat.mono hb)
                    unfold lv at cc
                    have HN2 := HN.out
                    rw [first_drop _ hlt] at HN2
                    clear e1 hat HN
                    generalize hq : pf (m + 1) x.kids[k] = q at cc HN2
                    clear hq
                    by_cases hz : q = 0
                    · subst hz
                      rw [if_neg (by simp)] at HN2
                      have HN3 := Lib.hid HN2
                      clear HN2
                      go_wp2_with (go_at_call 76; refine (cc _ (HA4.out _ _)).mono ?_; rintro e w3 ⟨rfl, HB4⟩)
                      go_roundw
                      case rel => exact ⟨k + 1, by go_num, by omega, HN3, Lib.hid (B.below_trans (HA3.out _ _) HB4)⟩
                      case measure => simp [intOf]; omega
                    · rw [if_pos hz] at HN2
                      have HN3 := Lib.hid HN2
                      clear HN2
                      have hz' : (q != 0) = true := bne_iff_ne.2 hz
                      clear hz
                      go_wp2_with (go_at_call 76; refine (cc _ (HA4.out _ _)).mono ?_; rintro e w3 ⟨rfl, HB4⟩)
                      go_ret
                      exact ⟨by rw [HN3.out]; rfl, B.below_trans HBA.out (B.below_trans (HA3.out _ _) HB4)⟩
                  · obtain rfl : k = x.kids.length := by omega
                    have HF : Hid (p = 0) := Lib.hid (by rw [HN.out, List.drop_length]; rfl)
                    go_wp2
                    go_ret
                    exact ⟨by rw [HF.out]; rfl, B.below_trans HBA.out HB3.out⟩
end Go.Proofs.YtfillnkebohciaaGreatDoor.L
