/- The reference's CopyLoop and StaysLoop. -/
import Derived.Test.YtfillnkebohciaaGreatDoorLpCopy
namespace Go.Proofs.YtfillnkebohciaaGreatDoor.L
open Go.RowKit
open F (Fr Cl)

set_option maxHeartbeats 4000000 in
set_option maxRecDepth 100000 in
theorem copyLoop (n : Nat) (x : Lp) (A As : Option Addr) (c c' : Nat) (w : World) (h : At n w x A As) :
    Calls Tryz.prog 5 #[lv x A As c c'] w fun e w' => ∃ A' As' d d', e = .returned (lv x A' As' d d') ∧ At n w' x A' As' ∧ Below w.heap.size w w' := by
  have HA := Lib.hid (fun (c c' : Array Value) (o o' : TypeId) => ((Below.refl w.heap.size w).alloc (Nat.le_refl _) (.cells c o)).alloc (by simp) (.cells c' o'))
  have HT := Lib.hid (fun (c c' : Array Value) (o o' : TypeId) (w2 : World) => @Copy.two w w2 c c' o o')
  have cf := fun W hb => refLoop n x A As c c' W (h.mono hb)
  have cc := fun W hb => copied n x A As c c' W (h.mono hb)
  have HH := Lib.hid h
  clear h
  have hs : ∀ (c : Array Value) (e : TypeId), (w.alloc (.cells c e)).heap.size = w.heap.size + 1 := fun c e => by simp
  have hrow0 : ∀ (c : Array Value) (e : TypeId), ((w.alloc (.cells c e)).alloc (.cells #[.int .i64 0, .string ⟨#[]⟩, .int .i64 0, .int .i64 0, .slice none 0 0, .slice none 0 0] 25)).heap[w.heap.size + 1]? = some (.cells #[.int .i64 0, .string ⟨#[]⟩, .int .i64 0, .int .i64 0, .slice none 0 0, .slice none 0 0] 25 (0, 0)) := fun c e => heap_alloc2_new w _ _
  have HROW := Lib.hid hrow0
  clear hrow0 hs
  unfold lv at cf cc ⊢
  generalize lf (n + 1) x = q at cf
  have fin : ∀ (w3 : World) (A3 As3 : Option Addr) (c3 c4 : Nat) (hb : Below (w.heap.size + 2) ((w.alloc (.cells #[.int .i64 x.kind, .string x.item, .int .i64 x.long, .int .i64 x.many, .slice A x.kids.length c, .slice As x.shares.length c'] 25)).alloc (.cells #[.int .i64 0, .string ⟨#[]⟩, .int .i64 0, .int .i64 0, .slice none 0 0, .slice none 0 0] 25)) w3)
      (hat : ∀ W, Fr (fun b => b = w.heap.size + 1) w3 W → At n W x A3 As3) (a : Act) (hd : a.defers = []) (ht : a.tmps.getD 2 undef = .pointer (some ⟨w.heap.size + 1, 0, none⟩)),
      bodyPost Tryz.prog Tryz.f5 (fun e w' => ∃ A' As' d d', e = .returned (.agg #[.int .i64 x.kind, .string x.item, .int .i64 x.long, .int .i64 x.many, .slice A' x.kids.length d, .slice As' x.shares.length d']) ∧ At n w' x A' As' ∧ Below w.heap.size w w') Exit.ret a
        ((((((w3.setCell ⟨w.heap.size + 1, 0, none⟩ (Value.int IntKind.i64 x.kind)).setCell ⟨w.heap.size + 1, 1, none⟩ (Value.string x.item)).setCell ⟨w.heap.size + 1, 2, none⟩ (Value.int IntKind.i64 x.long)).setCell ⟨w.heap.size + 1, 3, none⟩ (Value.int IntKind.i64 x.many)).setCell ⟨w.heap.size + 1, 4, none⟩ (Value.slice A3 x.kids.length c3)).setCell ⟨w.heap.size + 1, 5, none⟩ (Value.slice As3 x.shares.length c4)) := by
    intro w3 A3 As3 c3 c4 hb hat a hd ht
    have hrow : w3.heap[w.heap.size + 1]? = some (.cells #[.int .i64 0, .string ⟨#[]⟩, .int .i64 0, .int .i64 0, .slice none 0 0, .slice none 0 0] 25 (0, 0)) := by
      rw [hb.block (w.heap.size + 1) (by omega)]
      exact HROW.out _ _
    have hfr : Fr (fun b => b = w.heap.size + 1) w3 ((((((w3.setCell ⟨w.heap.size + 1, 0, none⟩ (Value.int IntKind.i64 x.kind)).setCell ⟨w.heap.size + 1, 1, none⟩ (Value.string x.item)).setCell ⟨w.heap.size + 1, 2, none⟩ (Value.int IntKind.i64 x.long)).setCell ⟨w.heap.size + 1, 3, none⟩ (Value.int IntKind.i64 x.many)).setCell ⟨w.heap.size + 1, 4, none⟩ (Value.slice A3 x.kids.length c3)).setCell ⟨w.heap.size + 1, 5, none⟩ (Value.slice As3 x.shares.length c4)) := by
      refine Fr.set (Fr.set (Fr.set (Fr.set (Fr.set (Fr.set (Fr.refl _ _) ?_ _) ?_ _) ?_ _) ?_ _) ?_ _) ?_ _
      all_goals intro _; rfl
    refine bodyPost_ret (results_cell_row rfl _ _ (w.heap.size + 1) 25 #[.int .i64 x.kind, .string x.item, .int .i64 x.long, .int .i64 x.many, .slice A3 x.kids.length c3, .slice As3 x.shares.length c4] (0, 0) _ ht (set6 (a := .int .i64 0) (b := .string ⟨#[]⟩) (c := .int .i64 0) (d := .int .i64 0) (e := .slice none 0 0) (f := .slice none 0 0) hrow) Tryz.underlying25 rfl (by kernel_rfl)) hd ?_
    have h2 := hb.size
    have h3 : w.heap.size + 2 ≤ w3.heap.size := by simp at h2; omega
    exact ⟨A3, As3, c3, c4, rfl, hat _ hfr, ((HA.out _ _ _ _).trans (hb.mono (by omega))).trans (hfr.below (by omega) (fun b hb => by omega))⟩
  have HFIN := Lib.hid fin
  clear fin
  by_cases hq : q = 0
  · subst hq
    go_enter Tryz.func5, Tryz.ntmps5
    go_wp2_with (first
      | (go_at_call 11; refine (cf _ (HA.out _ _ _ _)).mono ?_; rintro e w2 ⟨rfl, hB2⟩; have HB2 := Lib.hid hB2; clear hB2; have HT2 := HT.out _ _ _ _ _ HB2.out; have z0 := HT2.1 0 _ rfl; have z1 := HT2.1 1 _ rfl; have z2 := HT2.1 2 _ rfl; have z3 := HT2.1 3 _ rfl; have z4 := HT2.1 4 _ rfl; have z5 := HT2.1 5 _ rfl; clear HT2)
      | (go_at_call 12; refine (cc _ (B.below_trans (HA.out _ _ _ _) HB2.out)).mono ?_; rintro e w3 ⟨A3, As3, c3, c4, rfl, hat, hB3⟩; have HAT := Lib.hid hat; have HB3 := Lib.hid hB3; clear hat hB3; have HT3 := HT.out _ _ _ _ w3 (B.below_trans HB2.out HB3.out); have v0 := HT3.2.1 0 _ rfl; have v1 := HT3.2.1 1 _ rfl; have v2 := HT3.2.1 2 _ rfl; have v3 := HT3.2.1 3 _ rfl; have v4 := HT3.2.1 4 _ rfl; have v5 := HT3.2.1 5 _ rfl; have fz2 := HT3.2.2.2; clear HT3))
    refine HFIN.out w3 A3 As3 c3 c4 ?_ ?_ _ rfl rfl
    · exact (HB2.out.mono (by simp)).trans (HB3.out.mono (by have := HB2.out.size; simp at this; omega))
    · intro W hf
      exact (HAT.out.fr (R' := fun _ => True) hf (fun b hb e => by have := HB2.out.size; simp at this; omega) (fun _ _ => trivial)).at
  · have hq' : (q != 0) = true := bne_iff_ne.2 hq
    clear hq
    go_enter Tryz.func5, Tryz.ntmps5
    go_wp2_with (go_at_call 11; refine (cf _ (HA.out _ _ _ _)).mono ?_; rintro e w2 ⟨rfl, hB2⟩; have HB2 := Lib.hid hB2; clear hB2; have HT2 := HT.out _ _ _ _ _ HB2.out; have z0 := HT2.1 0 _ rfl; have z1 := HT2.1 1 _ rfl; have z2 := HT2.1 2 _ rfl; have z3 := HT2.1 3 _ rfl; have z4 := HT2.1 4 _ rfl; have z5 := HT2.1 5 _ rfl; have v0 := HT2.2.1 0 _ rfl; have v1 := HT2.2.1 1 _ rfl; have v2 := HT2.2.1 2 _ rfl; have v3 := HT2.2.1 3 _ rfl; have v4 := HT2.2.1 4 _ rfl; have v5 := HT2.2.1 5 _ rfl; have fz2 := HT2.2.2.2; clear HT2)
    refine HFIN.out w2 A As c c' ?_ ?_ _ rfl rfl
    · exact HB2.out.mono (by simp)
    · intro W hf
      have hb := B.below_trans (HA.out _ _ _ _) HB2.out
      refine HH.out.mono (hb.trans (hf.below hb.size (fun b hb => by omega)))
set_option maxHeartbeats 4000000 in
set_option maxRecDepth 100000 in
theorem staysLoop (n : Nat) (x : Lp) (A As A' As' : Option Addr) (c c' d d' : Nat) (w : World) (h : At n w x A As) (h' : At n w x A' As') :
    Calls Tryz.prog 7 #[lv x A As c c', lv x A' As' d d'] w fun e w' => e = .returned (.bool true) ∧ Below w.heap.size w w' := by
  have HA := Lib.hid (fun (c c' : Array Value) (o o' : TypeId) => ((Below.refl w.heap.size w).alloc (Nat.le_refl _) (.cells c o)).alloc (by simp) (.cells c' o'))
  have HT := Lib.hid (fun (c c' : Array Value) (o o' : TypeId) (w2 : World) => @Copy.two w w2 c c' o o')
  have cf := fun W hb => refLoop n x A' As' d d' W (h'.mono hb)
  have cs := fun W hb => sameLoop n x x A As A' As' c c' d d' W (h.mono hb) (h'.mono hb)
  rw [sm_refl] at cs
  clear h h'
  unfold lv at cf cs ⊢
  generalize lf (n + 1) x = q at cf
  by_cases hq : q = 0
  · subst hq
    go_enter Tryz.func7, Tryz.ntmps7
    go_wp2_with (first
      | (go_at_call 11; refine (cf _ (HA.out _ _ _ _)).mono ?_; rintro e w2 ⟨rfl, hB2⟩; have HB2 := Lib.hid hB2; clear hB2; have HT2 := HT.out _ _ _ _ _ HB2.out; have z0 := HT2.1 0 _ rfl; have z1 := HT2.1 1 _ rfl; have z2 := HT2.1 2 _ rfl; have z3 := HT2.1 3 _ rfl; have z4 := HT2.1 4 _ rfl; have z5 := HT2.1 5 _ rfl; have v0 := HT2.2.1 0 _ rfl; have v1 := HT2.2.1 1 _ rfl; have v2 := HT2.2.1 2 _ rfl; have v3 := HT2.2.1 3 _ rfl; have v4 := HT2.2.1 4 _ rfl; have v5 := HT2.2.1 5 _ rfl; clear HT2)
      | (go_at_call 27; refine (cs _ (B.below_trans (HA.out _ _ _ _) HB2.out)).mono ?_; rintro e w3 ⟨rfl, HB3⟩))
    go_ret
    exact ⟨rfl, B.below_trans (B.below_trans (HA.out _ _ _ _) HB2.out) HB3⟩
  · have hq' : (q != 0) = true := bne_iff_ne.2 hq
    clear hq
    go_enter Tryz.func7, Tryz.ntmps7
    go_wp2_with (go_at_call 11; refine (cf _ (HA.out _ _ _ _)).mono ?_; rintro e w2 ⟨rfl, hB2⟩; have HB2 := Lib.hid hB2; clear hB2)
    go_ret
    exact ⟨rfl, B.below_trans (HA.out _ _ _ _) HB2.out⟩
end Go.Proofs.YtfillnkebohciaaGreatDoor.L
