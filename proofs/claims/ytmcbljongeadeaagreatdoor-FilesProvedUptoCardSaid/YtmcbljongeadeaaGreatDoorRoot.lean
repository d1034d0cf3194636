/- sync.Root and the reference's RootOf. -/
import Derived.Test.YtmcbljongeadeaaGreatDoorLevels
namespace Go.Proofs.YtmcbljongeadeaaGreatDoor.Pf
open Go.RowKit

theorem levels' (no : Int) (v : Value) (l : List Fl) (hs : ∀ f ∈ l, Small f) (hl : l.length ≤ 1048576) (w : World) (h : B.Kd.file.S w v l) (ht : Hex.Tab w) :
    Calls Tryz.prog 32 #[.agg #[.int .i64 no, v]] w fun e w' => ∃ v', e = .returned v' ∧ B.Kd.str.sl.S w' v' (lev l.length (l.map leafS)) ∧ Below w.heap.size w w' := by
  refine (levels no v l hs hl w h ht).mono ?_
  rintro e w' ⟨v', rs, he, HO, HR, HB⟩
  have hrow : ∀ n (xs : List ByteArray), xs.length ≤ n → (lev n xs).length ≤ n + 1 ∧ ∀ r ∈ lev n xs, r.length ≤ n := by
    intro n
    induction n with
    | zero => intro xs hx; exact ⟨by simp [lev], fun r hr => by simp [lev] at hr; subst hr; exact hx⟩
    | succ n ih =>
      intro xs hx
      unfold lev
      split
      · rename_i h1
        obtain ⟨h2, h3⟩ := ih (pairs xs) (by rw [pairs_length]; omega)
        exact ⟨by simp; omega, fun r hr => by rcases List.mem_cons.1 hr with rfl | hr; exact hx; exact Nat.le_succ_of_le (h3 r hr)⟩
      · exact ⟨by simp, fun r hr => by simp at hr; subst hr; exact hx⟩
  have hb := hrow l.length (l.map leafS) (by simp)
  refine ⟨v', he, B.own_K B.Kd.str.sl HO (by omega) HR.1 (fun j hj => ?_), HB⟩
  obtain ⟨A, c, e1, ho⟩ := HR.2 j hj (by rw [HR.1]; exact hj)
  have := hb.2 _ (List.getElem_mem hj)
  obtain ⟨A', c', e2, hC⟩ := B.own_str ho (by omega)
  cases e2
  exact ⟨A, c, e1, hC⟩
/-- The root of a row of sums. -/
def rootS (xs : List ByteArray) : ByteArray := (climb xs.length xs).headD (Hex.sumB ⟨#[]⟩)
theorem climb_pos {n : Nat} {xs : List ByteArray} (h : 0 < xs.length) : 0 < (climb n xs).length := by
  induction n generalizing xs with
  | zero => exact h
  | succ n ih =>
    unfold climb
    split
    · exact ih (by rw [pairs_length]; omega)
    · exact h
theorem one_of {cur : List ByteArray} (h0 : 0 < cur.length) (h1 : ¬ 1 < cur.length) : ∃ x, cur = [x] := by
  rcases cur with _ | ⟨x, _ | ⟨y, t⟩⟩
  · simp at h0
  · exact ⟨x, rfl⟩
  · simp at h1
theorem root_bad (no : Int) (v : Value) (l : List Fl) (hk : ∀ f ∈ l, f.1.size ≤ 9223372036854775807) (w : World) (h : B.Kd.file.S w v l) (hf : Man.fault no l ≠ 0) :
    Calls Tryz.prog 12 #[.agg #[.int .i64 no, v]] w fun e w' => e = .returned (.tuple #[.string ⟨#[]⟩, .int .i64 (Man.fault no l)]) ∧ Below w.heap.size w w' := by
  have HA := Lib.hid (fun (c : Array Value) (o : TypeId) => (Below.refl _ w).alloc (Nat.le_refl _) (.cells c o))
  have c1 := fun c o => Man.check no v l hk _ (h.mono (HA.out c o))
  obtain ⟨A, c, rfl, -⟩ := h
  generalize Man.fault no l = n at c1 hf ⊢
  go_enter Tryz.func12, Tryz.ntmps12
  go_wp2_with (go_at_call 26; refine (c1 _ _).mono ?_; rintro e w2 ⟨rfl, HB⟩)
  go_ret2
  exact ⟨rfl, B.below_trans (HA.out _ _) HB⟩
set_option maxHeartbeats 2000000 in
theorem root_ok (no : Int) (v : Value) (l : List Fl) (hs : ∀ f ∈ l, Small f) (hl : l.length ≤ 1048576) (w : World) (h : B.Kd.file.S w v l) (ht : Hex.Tab w) (hf : Man.fault no l = 0) :
    Calls Tryz.prog 12 #[.agg #[.int .i64 no, v]] w fun e w' => e = .returned (.tuple #[.string (rootS (l.map leafS)), .int .i64 0]) ∧ Below w.heap.size w w' := by
  have hk : ∀ f ∈ l, f.1.size ≤ 9223372036854775807 := fun f hf => by have := (hs f hf).1; omega
  have HA := Lib.hid (fun (c : Array Value) (o : TypeId) => (Below.refl _ w).alloc (Nat.le_refl _) (.cells c o))
  have c1 := fun c o => Man.check no v l hk _ (h.mono (HA.out c o))
  have c2 := fun W (hb : Below w.heap.size w W) => leaves no v l hs hl W (h.mono hb) (ht.below hb)
  have HT := Lib.hid ht
  rw [hf] at c1
  obtain ⟨A, c, rfl, C⟩ := h
  have HN := Lib.hid (fun (c : Array Value) (o : TypeId) (i : Nat) (u : Value) (w2 : World) (hb : Below (w.alloc (.cells c o)).heap.size (w.alloc (.cells c o)) w2) (hc : c[i]? = some u) => (B.cell_below hb (by rw [World.cell?_alloc_new]; exact hc) : w2.cell? ⟨w.heap.size, i, none⟩ = some u))
  have HXL := Lib.hid (show (l.map leafS).length = l.length from List.length_map ..)
  have H16 := Lib.hid (All16.leaves l)
  clear hk hs hf ht C
  generalize l.map leafS = xs at c2 HXL H16 ⊢
  go_enter Tryz.func12, Tryz.ntmps12
  by_cases h0 : xs.length = 0
  · obtain rfl : xs = [] := List.eq_nil_of_length_eq_zero h0
    have HX : Hid (rootS [] = Hex.sumB ⟨#[]⟩) := Lib.hid rfl
    have c3 := fun W (hb : Below w.heap.size w W) => Hex.sumOf_any ⟨#[]⟩ (by decide) W (HT.out.below hb)
    clear h0
    go_wp2_with (first
      | (go_at_call 26; refine (c1 _ _).mono ?_; rintro e w2 ⟨rfl, HB⟩; have g0 := HN.out _ _ 0 (.int .i64 no) _ HB rfl; have g1 := HN.out _ _ 1 (.slice A l.length c) _ HB rfl; have HB2 := B.below_trans (HA.out _ _) HB)
      | (go_at_call 27; refine (c2 _ HB2).mono ?_; rintro e w3 ⟨v3, rfl, HO3, HB3⟩; have HB4 := B.below_trans HB2 HB3; obtain ⟨A3, c3', rfl⟩ := Copy.shape HO3)
      | (go_at_call 28; refine (c3 _ HB4).mono ?_; rintro e w4 ⟨rfl, HB5⟩))
    go_ret2
    exact ⟨by rw [HX.out]; rfl, B.below_trans HB4 HB5⟩
  · have hpos : (0 : Int) < xs.length := by omega
    have hzb : ((xs.length : Int) == 0) = false := beq_eq_false_iff_ne.2 (by omega)
    go_wp2_with (first
      | (go_at_call 26; refine (c1 _ _).mono ?_; rintro e w2 ⟨rfl, HB⟩; have g0 := HN.out _ _ 0 (.int .i64 no) _ HB rfl; have g1 := HN.out _ _ 1 (.slice A l.length c) _ HB rfl; have HB2 := B.below_trans (HA.out _ _) HB)
      | (go_at_call 27; refine (c2 _ HB2).mono ?_; rintro e w3 ⟨v3, rfl, HO3, HB3⟩; have HB4 := B.below_trans HB2 HB3; obtain ⟨A3, c3', rfl⟩ := Copy.shape HO3))
    have HB5 := Lib.hid HB4
    have HS3 := Lib.hid (B.own_str HO3 (by have := HXL.out; omega))
    clear HB4 HB3 HO3 HB2 HB g0 g1 HN HA c1 c2 hzb hpos
    go_loopw [5] (fun s5 wr => ∃ (n : Nat) (cur : List ByteArray) (Ac : Option Addr) (cc : Nat), s5 = .slice Ac cur.length cc ∧ cur.length ≤ n ∧ 0 < cur.length ∧ cur.length ≤ 1048576 ∧ Hid (climb xs.length xs = climb n cur) ∧ Hid (B.Kd.str.C wr Ac cur) ∧ Hid (All16 cur) ∧ Hid (Below w.heap.size w wr)) (fun s5 _ => lenV s5)
    case atStart => exact ⟨xs.length, xs, A3, c3', rfl, Nat.le_refl _, by omega, by have := HXL.out; omega, Lib.hid rfl, Lib.hid (by obtain ⟨A', c', e, hC⟩ := HS3.out; cases e; exact hC), H16, HB5⟩
    case round =>
      obtain ⟨n, cur, Ac, cc, rfl, hcn, hc0, hcm, HL, HC, H16, HB⟩ := hrel
      by_cases h1 : 1 < cur.length
      · obtain ⟨m, rfl, hm⟩ := pairs_le h1 hcn
        have h1i : (1 : Int) < cur.length := by omega
        have HL2 : Hid (climb xs.length xs = climb m (pairs cur)) := Lib.hid (by rw [HL.out, climb, if_pos h1])
        have cp := paired _ cur hcm H16.out wr ⟨Ac, cc, rfl, HC.out⟩ (HT.out.below HB.out)
        have HPL := Lib.hid (pairs_length cur)
        clear HL
        go_wp2_with (go_at_call 29; refine cp.mono ?_; rintro e w7 ⟨v7, rfl, HO7, HB7⟩; obtain ⟨A7, c7, rfl⟩ := Copy.shape HO7)
        go_roundw
        case rel => exact ⟨m, pairs cur, A7, c7, rfl, hm, by have := HPL.out; omega, by have := HPL.out; omega, HL2, Lib.hid (by obtain ⟨A', c', e, hC⟩ := B.own_str HO7 (by have := HPL.out; omega); cases e; exact hC), Lib.hid H16.out.pairs, Lib.hid (B.below_trans HB.out HB7)⟩
        case measure => exact (show (pairs cur).length < cur.length by have := HPL.out; omega)
      · have h1i : ¬ (1 : Int) < cur.length := by omega
        obtain ⟨x, rfl⟩ := one_of hc0 h1
        have HX : Hid (rootS xs = x) := Lib.hid (by unfold rootS; rw [HL.out, climb_small h1]; rfl)
        obtain ⟨b5, o5, cs5, rfl, K5, e5⟩ := HC.out.at 0 (by simp)
        have K6 : cs5 = [.string x] := K5
        subst K6
        have q0 : wr.cell? ⟨b5, o5, none⟩ = some (.string x) := by simpa [B.Kd.str, B.Kd.flat] using e5 0 (by simp)
        clear e5
        go_wp2
        go_ret2
        exact ⟨by rw [HX.out]; rfl, HB.out⟩
theorem rows_last {w : World} {v : Value} {pre : List (List ByteArray)} {cur : List ByteArray} (h : B.Kd.str.sl.S w v (pre ++ [cur])) :
    ∃ b5 o5 c2 A6 c6, v = .slice (some ⟨b5, o5, none⟩) (pre.length + 1) c2 ∧ pre.length ≤ 140737488355328 ∧ w.cell? ⟨b5, o5 + pre.length, none⟩ = some (.slice A6 cur.length c6) ∧ B.Kd.str.C w A6 cur := by
  obtain ⟨A2, c2, rfl, D2⟩ := h
  have L2 := D2.1
  obtain ⟨b5, o5, cs5, rfl, K5, e5⟩ := D2.at pre.length (by simp)
  rw [List.getElem_append_right (Nat.le_refl _)] at K5
  simp only [Nat.sub_self, List.getElem_cons_zero] at K5
  obtain ⟨A6, c6, rfl, D6⟩ := K5
  rw [List.length_append, List.length_singleton] at L2
  refine ⟨b5, o5, c2, A6, c6, by rw [List.length_append, List.length_singleton], by omega, ?_, D6⟩
  simpa [B.Kd.sl] using e5 0 (by simp)
theorem str_at {w : World} {A : Option Addr} {xs : List ByteArray} (h : B.Kd.str.C w A xs) (j : Nat) (hj : j < xs.length) : ∃ b o, A = some ⟨b, o, none⟩ ∧ w.cell? ⟨b, o + j, none⟩ = some (.string xs[j]) := by
  obtain ⟨b5, o5, cs5, rfl, K5, e5⟩ := h.at j hj
  have K6 : cs5 = [.string xs[j]] := K5
  subst K6
  exact ⟨b5, o5, rfl, by simpa [B.Kd.str, B.Kd.flat] using e5 0 (by simp)⟩
theorem rootOf (no : Int) (v : Value) (l : List Fl) (hs : ∀ f ∈ l, Small f) (hl : l.length ≤ 1048576) (w : World) (h : B.Kd.file.S w v l) (ht : Hex.Tab w) :
    Calls Tryz.prog 14 #[.agg #[.int .i64 no, v]] w fun e w' => e = .returned (.string (rootS (l.map leafS))) ∧ Below w.heap.size w w' := by
  have HA := Lib.hid (fun (c : Array Value) (o : TypeId) => (Below.refl _ w).alloc (Nat.le_refl _) (.cells c o))
  have c1 := fun c o => levels' no v l hs hl _ (h.mono (HA.out c o)) (ht.below (HA.out c o))
  have HT := Lib.hid ht
  obtain ⟨A, c, rfl, -⟩ := h
  have HXL := Lib.hid (show (l.map leafS).length = l.length from List.length_map ..)
  clear hs ht
  generalize l.map leafS = xs at c1 HXL ⊢
  obtain ⟨pre, hp⟩ := lev_last l.length xs
  rw [hp] at c1
  have hcl : 0 < xs.length → 0 < (climb l.length xs).length := climb_pos
  have HR : Hid (rootS xs = (climb l.length xs).headD (Hex.sumB ⟨#[]⟩)) := Lib.hid (by unfold rootS; rw [HXL.out])
  clear hp
  generalize climb l.length xs = cur at c1 HR hcl
  by_cases hc0 : 0 < cur.length
  · have hci : (0 : Int) < cur.length := by omega
    have HX : Hid (rootS xs = cur[0]) := Lib.hid (by rw [HR.out]; cases cur with | nil => simp at hc0 | cons x t => rfl)
    go_enter Tryz.func14, Tryz.ntmps14
    go_wp2_with (go_at_call 32; refine (c1 _ _).mono ?_; rintro e w2 ⟨v2, rfl, HS2, HB⟩; obtain ⟨b5, o5, c2, A6, c6, rfl, L2, q0, D6⟩ := rows_last HS2; have HB2 := B.below_trans (HA.out _ _) HB; obtain ⟨b7, o7, rfl, q1⟩ := str_at D6 0 hc0; rw [Nat.add_zero] at q1)
    go_ret
    exact ⟨by rw [HX.out]; rfl, HB2⟩
  · have hci : ¬ (0 : Int) < cur.length := by omega
    have HX : Hid (rootS xs = Hex.sumB ⟨#[]⟩) := Lib.hid (by rw [HR.out]; cases cur with | nil => rfl | cons x t => simp at hc0)
    have c3 := fun W (hb : Below w.heap.size w W) => Hex.sum_any ⟨#[]⟩ (by decide) W (HT.out.below hb)
    go_enter Tryz.func14, Tryz.ntmps14
    go_wp2_with (first
      | (go_at_call 32; refine (c1 _ _).mono ?_; rintro e w2 ⟨v2, rfl, HS2, HB⟩; obtain ⟨b5, o5, c2, A6, c6, rfl, L2, q0, D6⟩ := rows_last HS2; have HB2 := B.below_trans (HA.out _ _) HB)
      | (go_at_call 33; refine (c3 _ HB2).mono ?_; rintro e w4 ⟨rfl, HB5⟩))
    go_ret
    exact ⟨by rw [HX.out]; rfl, B.below_trans HB2 HB5⟩
end Go.Proofs.YtmcbljongeadeaaGreatDoor.Pf
