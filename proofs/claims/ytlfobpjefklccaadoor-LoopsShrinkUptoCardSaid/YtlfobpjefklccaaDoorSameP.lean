/- The program's Same. -/
import Derived.Test.YtlfobpjefklccaaDoorSteps
import Derived.Deep.Cut
namespace Go.Proofs.YtlfobpjefklccaaDoor.T
open Go.RowKit
open L (Lp row row1 At AtR lv kdL kid_at)
open F (Fr Cl)

/-- The error of Same. -/
def sE (qa qb : Int) (Ra Rb : Option (Nat × List Step)) : Int := if qa ≠ 0 then qa else if qb ≠ 0 then qb else match Ra, Rb with
  | none, _ => 2
  | some _, none => 2
  | some _, some _ => 0
/-- The answer of Same. -/
def sB (qa qb : Int) (Ra Rb : Option (Nat × List Step)) : Bool := if qa ≠ 0 then false else if qb ≠ 0 then false else match Ra, Rb with
  | none, _ => false
  | some _, none => false
  | some (_, l), some (_, m) => smS l m
theorem two_boxes {x y : Lp} {A As A' As' : Option Addr} {c c' d d' : Nat} {w W : World} {e e' : TypeId} (hb : Below ((w.alloc (.cells #[.int .i64 x.kind, .string x.item, .int .i64 x.long, .int .i64 x.many, .slice A x.kids.length c, .slice As x.shares.length c'] e)).alloc (.cells #[.int .i64 y.kind, .string y.item, .int .i64 y.long, .int .i64 y.many, .slice A' y.kids.length d, .slice As' y.shares.length d'] e')).heap.size ((w.alloc (.cells #[.int .i64 x.kind, .string x.item, .int .i64 x.long, .int .i64 x.many, .slice A x.kids.length c, .slice As x.shares.length c'] e)).alloc (.cells #[.int .i64 y.kind, .string y.item, .int .i64 y.long, .int .i64 y.many, .slice A' y.kids.length d, .slice As' y.shares.length d'] e')) W) :
    (∀ i u, (row x A As c c')[i]? = some u → W.cell? ⟨w.heap.size, i, none⟩ = some u) ∧ (∀ i u, (row y A' As' d d')[i]? = some u → W.cell? ⟨w.heap.size + 1, i, none⟩ = some u) := by
  have t := Copy.two hb
  exact ⟨fun i u hu => t.1 i u (by rw [← hu]; simp [row]), fun i u hu => t.2.1 i u (by rw [← hu]; simp [row])⟩
theorem idx0 (W : World) (a b c d e f a' b' c' d' e' f' : Value) : (Instr.index 45 (.agg #[a, b, c, d, e, f, a', b', c', d', e', f']) (.int .i64 0)).run Tryd.prog W = .ok (.agg #[a, b, c, d, e, f]) W := by kernel_rfl
theorem idx1 (W : World) (a b c d e f a' b' c' d' e' f' : Value) : (Instr.index 45 (.agg #[a, b, c, d, e, f, a', b', c', d', e', f']) (.int .i64 1)).run Tryd.prog W = .ok (.agg #[a', b', c', d', e', f']) W := by kernel_rfl
set_option maxHeartbeats 8000000 in
set_option maxRecDepth 100000 in
theorem same_any (n m : Nat) (x y : Lp) (A As A' As' : Option Addr) (c c' d d' : Nat) (w : World) (h : At n w x A As) (h' : At m w y A' As') :
    Calls Tryd.prog 12 #[lv x A As c c', lv y A' As' d d'] w fun e w' => e = .returned (.tuple #[.bool (sB (L.lf (n + 1) x) (L.lf (m + 1) y) (roundM n x) (roundM m y)), .int .i64 (sE (L.lf (n + 1) x) (L.lf (m + 1) y) (roundM n x) (roundM m y))]) ∧ Below w.heap.size w w' := by
  have HA := Lib.hid (fun (a b : Array Value) (e e' : TypeId) => (((Below.refl w.heap.size w).alloc (Nat.le_refl _) (.cells a e)).alloc (by simp) (.cells b e')))
  have HT := Lib.hid (fun (W : World) => @two_boxes x y A As A' As' c c' d d' w W 25 25)
  have C1 := Lib.hid (fun W (hb : Below w.heap.size w W) => L.checkLoop n x A As c c' W (h.mono hb))
  have C2 := Lib.hid (fun W (hb : Below w.heap.size w W) => L.checkLoop m y A' As' d d' W (h'.mono hb))
  have R1 := Lib.hid (fun W (hq : L.lf (n + 1) x = 0) (hb : Below w.heap.size w W) => roundOf n x A As c c' W (h.mono hb) (lf_pf hq))
  have R2 := Lib.hid (fun W (hq : L.lf (m + 1) y = 0) (hb : Below w.heap.size w W) => roundOf m y A' As' d d' W (h'.mono hb) (lf_pf hq))
  have N1 := Lib.hid (fun (p : Nat) (l : List Step) (hq : L.lf (n + 1) x = 0) (hr : roundM n x = some (p, l)) => roundM_len h hq hr)
  have N2 := Lib.hid (fun (p : Nat) (l : List Step) (hq : L.lf (m + 1) y = 0) (hr : roundM m y = some (p, l)) => roundM_len h' hq hr)
  have HW := Lib.hid (fun (a b : Array Value) (e e' : TypeId) => (by simp : ((w.alloc (.cells a e)).alloc (.cells b e')).heap.size = w.heap.size + 2))
  have hi0 := idx0
  have hi1 := idx1
  generalize L.lf (n + 1) x = qa at *
  generalize L.lf (m + 1) y = qb at *
  generalize roundM n x = Ra at *
  generalize roundM m y = Rb at *
  clear h h'
  unfold lv at C1 C2 R1 R2 ⊢
  go_enter Tryd.func12, Tryd.ntmps12
  go_wp2
  have HB0 : Hid (Below w.heap.size w ((w.alloc (.cells #[.int .i64 x.kind, .string x.item, .int .i64 x.long, .int .i64 x.many, .slice A x.kids.length c, .slice As x.shares.length c'] 25)).alloc (.cells #[.int .i64 y.kind, .string y.item, .int .i64 y.long, .int .i64 y.many, .slice A' y.kids.length d, .slice As' y.shares.length d'] 25))) := Lib.hid (HA.out _ _ _ _)
  have HS0 : Hid (w.heap.size + 2 ≤ ((w.alloc (.cells #[.int .i64 x.kind, .string x.item, .int .i64 x.long, .int .i64 x.many, .slice A x.kids.length c, .slice As x.shares.length c'] 25)).alloc (.cells #[.int .i64 y.kind, .string y.item, .int .i64 y.long, .int .i64 y.many, .slice A' y.kids.length d, .slice As' y.shares.length d'] 25)).heap.size) := Lib.hid (Nat.le_of_eq (HW.out _ _ _ _).symm)
  generalize (w.alloc (.cells #[.int .i64 x.kind, .string x.item, .int .i64 x.long, .int .i64 x.many, .slice A x.kids.length c, .slice As x.shares.length c'] 25)).alloc (.cells #[.int .i64 y.kind, .string y.item, .int .i64 y.long, .int .i64 y.many, .slice A' y.kids.length d, .slice As' y.shares.length d'] 25) = W0 at *
  clear HA HW
  go_loopw [18] (fun s wr => ∃ k : Nat, s = .int .i64 k ∧ k ≤ 2 ∧ Hid (0 < k → qa = 0) ∧ Hid (1 < k → qb = 0) ∧ Hid (Below W0.heap.size W0 wr)) (fun s _ => 2 - (intOf s).toNat)
  case atStart => exact ⟨0, rfl, by omega, Lib.hid (fun h => absurd h (by omega)), Lib.hid (fun h => absurd h (by omega)), Lib.hid (Below.refl _ _)⟩
  case round =>
    obtain ⟨k, rfl, hk, HQA, HQB, HB⟩ := hrel
    have HBW : Hid (Below w.heap.size w wr) := Lib.hid (B.below_trans HB0.out HB.out)
    have HAL := Lib.hid (fun o => B.below_trans HBW.out ((Below.refl wr.heap.size wr).alloc (Nat.le_refl _) o))
    rcases (by omega : k = 0 ∨ k = 1 ∨ k = 2) with rfl | rfl | rfl
    · by_cases hq : qa = 0
      · subst hq
        go_wp2_with (go_at_call 20; refine (C1.out _ (HAL.out _)).mono ?_; rintro e w1 ⟨rfl, hB1⟩; have HB1 := Lib.hid (B.below_trans HB.out (B.below_trans ((Below.refl wr.heap.size wr).alloc (Nat.le_refl _) _) hB1)); clear hB1)
        go_roundw
        case rel => exact ⟨1, by go_num, by omega, Lib.hid (fun _ => by first | rfl | trivial), Lib.hid (fun h => absurd h (by omega)), HB1⟩
        case measure => simp [intOf]
      · have hb : (qa != 0) = true := bne_iff_ne.2 hq
        have HR : Hid (sB qa qb Ra Rb = false ∧ sE qa qb Ra Rb = qa) := Lib.hid (by unfold sB sE; rw [if_pos hq, if_pos hq]; exact ⟨rfl, rfl⟩)
        clear hq
        go_wp2_with (go_at_call 20; refine (C1.out _ (HAL.out _)).mono ?_; rintro e w1 ⟨rfl, hB1⟩; have HB1 := Lib.hid (B.below_trans (HAL.out _) hB1); clear hB1)
        go_ret2
        exact ⟨by rw [HR.out.1, HR.out.2]; rfl, HB1.out⟩
    · obtain rfl : qa = 0 := HQA.out (by omega)
      by_cases hq : qb = 0
      · subst hq
        go_wp2_with (go_at_call 20; refine (C2.out _ (HAL.out _)).mono ?_; rintro e w1 ⟨rfl, hB1⟩; have HB1 := Lib.hid (B.below_trans HB.out (B.below_trans ((Below.refl wr.heap.size wr).alloc (Nat.le_refl _) _) hB1)); clear hB1)
        go_roundw
        case rel => exact ⟨2, by go_num, by omega, Lib.hid (fun _ => by first | rfl | trivial), Lib.hid (fun _ => by first | rfl | trivial), HB1⟩
        case measure => simp [intOf]
      · have hb : (qb != 0) = true := bne_iff_ne.2 hq
        have HR : Hid (sB 0 qb Ra Rb = false ∧ sE 0 qb Ra Rb = qb) := Lib.hid (by unfold sB sE; rw [if_neg (by omega), if_pos hq, if_neg (by omega), if_pos hq]; exact ⟨rfl, rfl⟩)
        clear hq
        go_wp2_with (go_at_call 20; refine (C2.out _ (HAL.out _)).mono ?_; rintro e w1 ⟨rfl, hB1⟩; have HB1 := Lib.hid (B.below_trans (HAL.out _) hB1); clear hB1)
        go_ret2
        exact ⟨by rw [HR.out.1, HR.out.2]; rfl, HB1.out⟩
    · obtain rfl : qa = 0 := HQA.out (by omega)
      obtain rfl : qb = 0 := HQB.out (by omega)
      have hx := (HT.out wr HB.out).1
      have y0 := hx 0 _ rfl
      have y1 := hx 1 _ rfl
      have y2 := hx 2 _ rfl
      have y3 := hx 3 _ rfl
      have y4 := hx 4 _ rfl
      have y5 := hx 5 _ rfl
      clear hx
      have r1 := R1.out wr rfl HBW.out
      cases Ra with
      | none =>
        have HR : Hid (sB 0 0 none Rb = false ∧ sE 0 0 none Rb = 2) := Lib.hid ⟨rfl, rfl⟩
        go_wp2_with (go_at_call 26; refine r1.mono ?_; rintro e w4 ⟨rfl, hB4⟩; have HB4 := Lib.hid (B.below_trans HBW.out hB4); clear hB4)
        go_ret2
        exact ⟨by rw [HR.out.1, HR.out.2]; rfl, B.below_trans HB4.out ((Below.refl _ _).alloc (Nat.le_refl _) _)⟩
      | some r =>
        obtain ⟨p, l⟩ := r
        have HLN := Lib.hid (N1.out p l (by first | rfl | trivial) rfl)
        go_upto_region 11 with (go_at_call 26; refine r1.mono ?_; rintro e w4 ⟨⟨A1, k1, rfl, hC1⟩, hB4⟩; have HC4 := Lib.hid hC1; have HB4 := Lib.hid (B.below_trans HBW.out hB4); have HX4 := Lib.hid (HB.out.trans (hB4.mono HB.out.size)); clear hC1 hB4)
        have HAL4 := Lib.hid ((Below.refl w4.heap.size w4).alloc (Nat.le_refl _) (.cells #[.int .i64 p, .slice A1 l.length k1, .int .i64 (lng l)] 47))
        have HY := Lib.hid (HT.out _ (B.below_trans HX4.out HAL4.out)).2
        have HE1 : Hid ((w4.alloc (.cells #[.int .i64 p, .slice A1 l.length k1, .int .i64 (lng l)] 47)).cell? ⟨w4.heap.size, 1, none⟩ = some (.slice A1 l.length k1)) := Lib.hid (by rw [World.cell?_alloc_new]; rfl)
        have HC5 := Lib.hid (HC4.out.mono HAL4.out)
        have HB5 := Lib.hid (B.below_trans HB4.out HAL4.out)
        clear r1 y0 y1 y2 y3 y4 y5 HAL4 HX4 HC4 HB HBW HAL
        generalize w4.alloc (.cells #[.int .i64 p, .slice A1 l.length k1, .int .i64 (lng l)] 47) = W5 at *
        generalize w4.heap.size = g9 at *
        have z0 := HY.out 0 _ rfl
        have z1 := HY.out 1 _ rfl
        have z2 := HY.out 2 _ rfl
        have z3 := HY.out 3 _ rfl
        have z4 := HY.out 4 _ rfl
        have z5 := HY.out 5 _ rfl
        have r2 := R2.out W5 (by first | rfl | trivial) HB5.out
        cases Rb with
        | none =>
          have HR : Hid (sB 0 0 (some (p, l)) none = false ∧ sE 0 0 (some (p, l)) none = 2) := Lib.hid ⟨rfl, rfl⟩
          go_wp2_with (go_at_call 26; refine r2.mono ?_; rintro e w6 ⟨rfl, hB6⟩; have HB6 := Lib.hid (B.below_trans HB5.out hB6); clear hB6)
          go_ret2
          exact ⟨by rw [HR.out.1, HR.out.2]; rfl, B.below_trans HB6.out ((Below.refl _ _).alloc (Nat.le_refl _) _)⟩
        | some r' =>
          obtain ⟨p', m'⟩ := r'
          have HLM := Lib.hid (N2.out p' m' (by first | rfl | trivial) rfl)
          have HR : Hid (sB 0 0 (some (p, l)) (some (p', m')) = smS l m' ∧ sE 0 0 (some (p, l)) (some (p', m')) = 0) := Lib.hid ⟨rfl, rfl⟩
          go_upto_region 14 with (go_at_call 26; refine r2.mono ?_; rintro e w6 ⟨⟨A2, k2, rfl, hC2⟩, hB6⟩; have HC6 := Lib.hid hC2; have HV6 := Lib.hid hB6; have HB6 := Lib.hid (B.below_trans HB5.out hB6); clear hB6 hC2)
          have HAL6 := Lib.hid ((Below.refl w6.heap.size w6).alloc (Nat.le_refl _) (.cells #[.int .i64 p', .slice A2 m'.length k2, .int .i64 (lng m')] 47))
          have HE2 : Hid ((w6.alloc (.cells #[.int .i64 p', .slice A2 m'.length k2, .int .i64 (lng m')] 47)).cell? ⟨w6.heap.size, 1, none⟩ = some (.slice A2 m'.length k2)) := Lib.hid (by rw [World.cell?_alloc_new]; rfl)
          have HV7 := Lib.hid (B.below_trans HV6.out HAL6.out)
          have HE3 := Lib.hid (B.cell_below HV7.out HE1.out)
          have HC7 := Lib.hid (HC6.out.mono HAL6.out)
          have HC8 := Lib.hid (HC5.out.mono HV7.out)
          have HB7 := Lib.hid (B.below_trans HB6.out HAL6.out)
          clear r2 z0 z1 z2 z3 z4 z5 HAL6 HV6 HC6 HC5 HE1 HV7 HY HB5 HB6
          generalize w6.alloc (.cells #[.int .i64 p', .slice A2 m'.length k2, .int .i64 (lng m')] 47) = W7 at *
          generalize w6.heap.size = g8 at *
          have e1 := HE3.out
          have e2 := HE2.out
          go_quiet (fail)
          have e3 : (W7.drewN nq).cell? ⟨g9, 1, none⟩ = some (.slice A1 l.length k1) := HE3.out
          have e4 : (W7.drewN nq).cell? ⟨g8, 1, none⟩ = some (.slice A2 m'.length k2) := HE2.out
          have HBQ := Lib.hid (B.below_drew (Below.refl W7.heap.size W7) nq)
          have HC9 := Lib.hid (HC7.out.mono HBQ.out)
          have HC10 := Lib.hid (HC8.out.mono HBQ.out)
          have HB9 := Lib.hid (B.below_trans HB7.out HBQ.out)
          generalize W7.drewN nq = W9 at *
          clear e1 e2 HBQ HC7 HC8 HB7 HE3 HE2
          have HE3 := Lib.hid e3
          have HE4 := Lib.hid e4
          have ha := HLN.out
          have hb := HLM.out
          have HS := Lib.hid (smF_zero l m')
          generalize smS l m' = S at *
          have hna : ¬ l = [] := fun e => by rw [e] at ha; simp at ha
          have hnb : ¬ m' = [] := fun e => by rw [e] at hb; simp at hb
          go_wp2
          go_loopw [52] (fun s wr => ∃ k : Nat, s = .int .i64 k ∧ k ≤ l.length + m'.length ∧ Hid (smF l m' k = S) ∧ Hid (∃ q, wr = W9.drewN q)) (fun s _ => l.length + m'.length - (intOf s).toNat)
          case atStart => exact ⟨0, rfl, by omega, HS, Lib.hid ⟨0, rfl⟩⟩
          case round =>
            obtain ⟨k, rfl, hk, HF, HQ⟩ := hrel
            have HB : Hid (Below W9.heap.size W9 wr) := Lib.hid (by obtain ⟨q, e⟩ := HQ.out; rw [e]; exact B.below_drew (Below.refl _ _) q)
            have x1 := B.cell_below HB.out HE3.out
            have x2 := B.cell_below HB.out HE4.out
            clear e3 e4
            by_cases hlt : k < l.length + m'.length
            · have hma := Nat.mod_lt k ha.1
              have hmb := Nat.mod_lt k hb.1
              obtain ⟨b1, o1, rfl, f0, f1⟩ := steps_at (HC10.out.mono HB.out) (k % l.length) hma
              obtain ⟨b2, o2, rfl, g0, g1⟩ := steps_at (HC9.out.mono HB.out) (k % m'.length) hmb
              have hsm : smAt l m' k = decide (l[k % l.length] = m'[k % m'.length]) := by
                unfold smAt
                rw [List.getElem?_eq_getElem hma, List.getElem?_eq_getElem hmb]
                simp
              have hf := HF.out
              rw [smF_next hlt, hsm] at hf
              have HF2 := Lib.hid hf
              have ea : ((k : Int) % l.length).toNat = k % l.length := by rw [← Int.natCast_emod]; exact Int.toNat_natCast _
              have eb : ((k : Int) % m'.length).toNat = k % m'.length := by rw [← Int.natCast_emod]; exact Int.toNat_natCast _
              have na : (0 : Int) ≤ (k : Int) % l.length := Int.emod_nonneg _ (by omega)
              have nb : (0 : Int) ≤ (k : Int) % m'.length := Int.emod_nonneg _ (by omega)
              have la : (k : Int) % l.length < l.length := Int.emod_lt_of_pos _ (by omega)
              have lb : (k : Int) % m'.length < m'.length := Int.emod_lt_of_pos _ (by omega)
              have ta : (k : Int).tmod l.length = (k : Int) % l.length := Int.tmod_eq_emod_of_nonneg (by omega)
              have tb : (k : Int).tmod m'.length = (k : Int) % m'.length := Int.tmod_eq_emod_of_nonneg (by omega)
              have hk1 : (k : Int) < l.length + m'.length := by omega
              generalize l[k % l.length] = s at *
              generalize m'[k % m'.length] = t at *
              obtain ⟨s1, s2⟩ := s
              obtain ⟨t1, t2⟩ := t
              clear hsm hf HF
              rcases step_cases s1 t1 s2 t2 with ⟨qb0, qb1, HD⟩ | ⟨qb0, qb1, HD⟩ | ⟨qb0, HD⟩
              · have HF3 : Hid (smF l m' (k + 1) = S) := Lib.hid (by have h := HF2.out; rw [HD.out] at h; exact h)
                go_wp2
                go_quiet (fail)
                go_wp2
                go_roundw
                case rel => exact ⟨k + 1, by go_num, by omega, HF3, Lib.hid (drew2 HQ.out)⟩
                case measure => simp [intOf]; omega
              all_goals
                have HF3 : Hid (false = S) := Lib.hid (by have h := HF2.out; rw [HD.out] at h; exact h)
                go_wp2
                go_quiet (fail)
                go_wp2
                go_ret2
                exact ⟨by rw [HR.out.1, HR.out.2, ← HF3.out]; rfl, B.below_drew (B.below_trans HB9.out HB.out) _⟩
            · obtain rfl : k = l.length + m'.length := by omega
              have HF3 : Hid (true = S) := Lib.hid (by rw [← HF.out, smF_end])
              clear HF
              go_wp2
              go_ret2
              exact ⟨by rw [HR.out.1, HR.out.2, ← HF3.out]; rfl, B.below_trans HB9.out HB.out⟩
end Go.Proofs.YtlfobpjefklccaaDoor.T
