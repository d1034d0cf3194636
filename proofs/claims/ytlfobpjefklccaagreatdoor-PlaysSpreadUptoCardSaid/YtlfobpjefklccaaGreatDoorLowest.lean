/- kit.Lowest and the reference's lowest at right numbers. -/
import Derived.Test.YtlfobpjefklccaaGreatDoorGcd
import Derived.Laws.ResultCell
import Derived.Laws.Rows
import Derived.StillTailTactics
import Derived.WalkLawsBesides
import Derived.WalkSpells
namespace Go.Proofs.YtlfobpjefklccaaGreatDoor.Low
open Go.RowKit

/-- A fraction in lowest terms. -/
def low (n d : Nat) : Nat × Nat := (n / Nat.gcd n d, d / Nat.gcd n d)
theorem results_cell_row {P : Program} {fn : Func} {p : Tmp} {ty : TypeId} (h : fn.results = #[.cell p ty]) (tmps : Array Value) (w : World) (g : Nat) (t : TypeId) (cs : Array Value) (fr : Nat × Nat) (d : TypeDesc)
    (hp : tmps.getD p undef = .pointer (some ⟨g, 0, none⟩)) (hg : w.heap[g]? = some (.cells cs t fr)) (hu : P.underlying ty = some d) (hd : (match d with | .struct _ | .array _ _ => true | _ => false) = true) (hi : (P.info? ty).map (·.size) = some cs.size) :
    (results fn tmps).run P w = .ok (.agg cs) w := by
  have hp' : tmps[p]?.getD undef = .pointer (some ⟨g, 0, none⟩) := by simpa using hp
  simp [results, h, hp', asAddr, run_loadVar_row w g t ty cs fr d hg hu hd hi]
theorem set2l {w : World} {g : Nat} {a b a' b' : Value} {t : TypeId} {fr : Nat × Nat} (h : w.heap[g]? = some (.cells #[a, b] t fr)) :
    ((w.setCell ⟨g, 0, none⟩ a').setCell ⟨g, 1, none⟩ b').heap[g]? = some (.cells #[a', b'] t fr) := by
  simp [World.setCell, Array.getElem?_modify, h]
theorem tdiv_nat (n g : Nat) : (n : Int).tdiv g = ((n / g : Nat) : Int) := by rw [Int.tdiv_eq_ediv_of_nonneg (by omega)]; rfl
set_option maxHeartbeats 2000000 in
set_option maxRecDepth 100000 in
theorem lowestP (n d : Nat) (hn : n ≤ 1000000000000) (hd : 1 ≤ d ∧ d ≤ 1000000000000) (w : World) :
    Calls Tryz.prog 42 #[.int .i64 n, .int .i64 d] w fun e w' => e = .returned (.agg #[.int .i64 (low n d).1, .int .i64 (low n d).2]) ∧ Below w.heap.size w w' := by
  have HC := Lib.hid (fun W => T.gcd_any n d hn hd.2 W)
  have HA := Lib.hid ((Below.refl _ w).alloc (Nat.le_refl _) (.cells #[.int .i64 0, .int .i64 0] 49))
  have hg0 : 1 ≤ Nat.gcd n d := Nat.gcd_pos_of_pos_right n (by omega)
  have hq1 := tdiv_nat n (Nat.gcd n d)
  have hq2 := tdiv_nat d (Nat.gcd n d)
  have hb1 : n / Nat.gcd n d ≤ 1000000000000 := by have := Nat.div_le_self n (Nat.gcd n d); omega
  have hb2 : d / Nat.gcd n d ≤ 1000000000000 := by have := Nat.div_le_self d (Nat.gcd n d); omega
  have HROW : Hid (∀ q, (((w.alloc (.cells #[.int .i64 0, .int .i64 0] 49)).drewN q).drew).heap[w.heap.size]? = some (.cells #[.int .i64 0, .int .i64 0] 49 (0, 0))) := Lib.hid (fun q => heap_alloc_new w _)
  obtain ⟨hd1, hd2⟩ := hd
  unfold low
  generalize n / Nat.gcd n d = x at *
  generalize d / Nat.gcd n d = y at *
  generalize Nat.gcd n d = g at *
  have hd0 : ¬ ((d : Int) < 0) := by omega
  have hg1 : ¬ ((g : Int) = 0) := by omega
  have hg2 : ¬ (g = 0) := by omega
  go_enter Tryz.func42, Tryz.ntmps42
  go_wp2_with (go_at_call 66; refine (HC.out _).mono ?_; rintro e w1 ⟨rfl, q, rfl⟩)
  go_still_tail 7, (by kernel_rfl)
  have HB1 : Hid (Below w.heap.size w ((w.alloc (.cells #[.int .i64 0, .int .i64 0] 49)).drewN q).drew) := Lib.hid (B.below_drew (B.below_drew HA.out q) 1)
  have HRW := Lib.hid (HROW.out q)
  have c0 : ((w.alloc (.cells #[.int .i64 0, .int .i64 0] 49)).drewN q).drew.cell? ⟨w.heap.size, 0, none⟩ = some (.int .i64 0) := (World.cell?_alloc_new w _ _ 0).trans rfl
  have c1 : ((w.alloc (.cells #[.int .i64 0, .int .i64 0] 49)).drewN q).drew.cell? ⟨w.heap.size, 1, none⟩ = some (.int .i64 0) := (World.cell?_alloc_new w _ _ 1).trans rfl
  have fz : ∀ i, ((w.alloc (.cells #[.int .i64 0, .int .i64 0] 49)).drewN q).drew.frozen? ⟨w.heap.size, i, none⟩ = false := fun i => Copy.frozen_new (Below.refl _ _) i
  change wpList _ _ _ _ _ ((w.alloc (.cells #[.int .i64 0, .int .i64 0] 49)).drewN q).drew
  generalize ((w.alloc (.cells #[.int .i64 0, .int .i64 0] 49)).drewN q).drew = W1 at *
  go_wp2
  refine bodyPost_ret (results_cell_row rfl _ _ w.heap.size 49 #[.int .i64 x, .int .i64 y] (0, 0) _ rfl (set2l HRW.out) Tryz.underlying49 rfl (by kernel_rfl)) rfl ?_
  exact ⟨rfl, (HB1.out.setCell (Nat.le_refl _) _).setCell (Nat.le_refl _) _⟩
set_option maxHeartbeats 2000000 in
set_option maxRecDepth 100000 in
theorem lowestR (n d : Nat) (hn : n ≤ 1000000000000) (hd : 1 ≤ d ∧ d ≤ 1000000000000) (w : World) :
    Calls Tryz.prog 45 #[.int .i64 n, .int .i64 d] w fun e w' => e = .returned (.agg #[.int .i64 (low n d).1, .int .i64 (low n d).2]) ∧ Below w.heap.size w w' := by
  have HC := Lib.hid (fun W => T.rdiv_any n d hn hd.2 W)
  have HA := Lib.hid ((Below.refl _ w).alloc (Nat.le_refl _) (.cells #[.int .i64 0, .int .i64 0] 49))
  have hg0 : 1 ≤ Nat.gcd n d := Nat.gcd_pos_of_pos_right n (by omega)
  have hq1 := tdiv_nat n (Nat.gcd n d)
  have hq2 := tdiv_nat d (Nat.gcd n d)
  have hb1 : n / Nat.gcd n d ≤ 1000000000000 := by have := Nat.div_le_self n (Nat.gcd n d); omega
  have hb2 : d / Nat.gcd n d ≤ 1000000000000 := by have := Nat.div_le_self d (Nat.gcd n d); omega
  have HROW : Hid (∀ q, (((w.alloc (.cells #[.int .i64 0, .int .i64 0] 49)).drewN q).drew).heap[w.heap.size]? = some (.cells #[.int .i64 0, .int .i64 0] 49 (0, 0))) := Lib.hid (fun q => heap_alloc_new w _)
  obtain ⟨hd1, hd2⟩ := hd
  unfold low
  generalize n / Nat.gcd n d = x at *
  generalize d / Nat.gcd n d = y at *
  generalize Nat.gcd n d = g at *
  have hmx : max (n : Int) (-(n : Int)) = n := by omega
  have hg1 : ¬ ((g : Int) = 0) := by omega
  have hg2 : ¬ (g = 0) := by omega
  go_enter Tryz.func45, Tryz.ntmps45
  go_wp2_with (go_at_call 71; refine (HC.out _).mono ?_; rintro e w1 ⟨rfl, q, rfl⟩)
  go_still_tail 7, (by kernel_rfl)
  have HB1 : Hid (Below w.heap.size w ((w.alloc (.cells #[.int .i64 0, .int .i64 0] 49)).drewN q).drew) := Lib.hid (B.below_drew (B.below_drew HA.out q) 1)
  have HRW := Lib.hid (HROW.out q)
  have c0 : ((w.alloc (.cells #[.int .i64 0, .int .i64 0] 49)).drewN q).drew.cell? ⟨w.heap.size, 0, none⟩ = some (.int .i64 0) := (World.cell?_alloc_new w _ _ 0).trans rfl
  have c1 : ((w.alloc (.cells #[.int .i64 0, .int .i64 0] 49)).drewN q).drew.cell? ⟨w.heap.size, 1, none⟩ = some (.int .i64 0) := (World.cell?_alloc_new w _ _ 1).trans rfl
  have fz : ∀ i, ((w.alloc (.cells #[.int .i64 0, .int .i64 0] 49)).drewN q).drew.frozen? ⟨w.heap.size, i, none⟩ = false := fun i => Copy.frozen_new (Below.refl _ _) i
  change wpList _ _ _ _ _ ((w.alloc (.cells #[.int .i64 0, .int .i64 0] 49)).drewN q).drew
  generalize ((w.alloc (.cells #[.int .i64 0, .int .i64 0] 49)).drewN q).drew = W1 at *
  go_wp2
  refine bodyPost_ret (results_cell_row rfl _ _ w.heap.size 49 #[.int .i64 x, .int .i64 y] (0, 0) _ rfl (set2l HRW.out) Tryz.underlying49 rfl (by kernel_rfl)) rfl ?_
  exact ⟨rfl, (HB1.out.setCell (Nat.le_refl _) _).setCell (Nat.le_refl _) _⟩
end Go.Proofs.YtlfobpjefklccaaGreatDoor.Low
