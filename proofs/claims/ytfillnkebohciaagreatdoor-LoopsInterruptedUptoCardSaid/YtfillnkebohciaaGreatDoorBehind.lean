/- Which kid of a share is furthest behind; whether the steps are full. -/
import Derived.Test.YtfillnkebohciaaGreatDoorNewPart
import Derived.Deep.QuietTactic
import Derived.BigQuiet
namespace Go.Proofs.YtfillnkebohciaaGreatDoor.T
open Go.RowKit
open L (Lp row row1 At AtR lv kdL kid_at)
open F (Fr Cl)

/-- What a node's cells are in a later world. -/
theorem Nd.later {tst : Bool} {w0 w w' : World} {lo hi : Nat} {x : Lp} {b : Nat} {had : Int} {cnt : List Int} {f : Fm} (h : Nd tst w0 w lo hi x b had cnt f) (hb : Below w.heap.size w w') : Nd tst w0 w' lo hi x b had cnt f :=
  h.fr (S := fun _ => False) (Fr.of_below hb) (fun h => h) (fun h => h) (fun _ h => h)
theorem getD_at {l : List Int} {k : Nat} (h : k < l.length) : l.getD k 0 = l[k] := by simp [List.getD, h]
theorem share_at {w0 w : World} {As : Option Addr} {l : List Int} (h : B.Kd.int.C w0 As l) (hb : Below w0.heap.size w0 w) (k : Nat) (hk : k < l.length) : ∃ b o, As = some ⟨b, o, none⟩ ∧ w.cell? ⟨b, o + k, none⟩ = some (.int .i64 (l.getD k 0)) := by
  obtain ⟨b, o, cs, e, K, hc⟩ := h.at k hk
  have K' : cs = [.int .i64 l[k]] := K
  subst K'
  refine ⟨b, o, e, ?_⟩
  have := B.cell_below hb (hc 0 (by simp))
  rw [getD_at hk]
  simpa [B.Kd.int, B.Kd.flat] using this
theorem w64_eq (n : Int) : w64 n = wrap64 n := by unfold w64 wrap64; exact IntKind.wrap_i64 n
theorem score_eq {x : Lp} {had : Int} {cnt : List Int} {k : Nat} : score x had cnt k = wrap64 (wrap64 (x.shares.getD k 0 * wrap64 (had + 1)) - wrap64 (cnt.getD k 0 * sumI x.shares 0)) := by unfold score; simp only [w64_eq]
theorem scan_step {f : Nat → Int} {n k b : Nat} (h : k < n) : scan f (n - k) k b = scan f (n - (k + 1)) (k + 1) (if f b < f k then k else b) := by
  obtain ⟨m, e⟩ : ∃ m, n - k = m + 1 := ⟨n - k - 1, by omega⟩
  rw [e, show n - (k + 1) = m from by omega, scan]
set_option maxHeartbeats 4000000 in
set_option maxRecDepth 100000 in
theorem behind (w0 w : World) (lo hi : Nat) (x : Lp) (b : Nat) (had : Int) (cnt : List Int) (f : Fm) (h : Nd true w0 w lo hi x b had cnt f) (hb : Below w0.heap.size w0 w) (h4 : x.kind = 4) (hl : x.shares.length = x.kids.length) (hp : 0 < x.shares.length) :
    Calls Tryz.prog 108 #[.pointer (some ⟨b, 0, none⟩)] w fun e w' => e = .returned (.int .i64 (next x had cnt)) ∧ Below w.heap.size w w' := by
  obtain ⟨b2, o2, e2, -⟩ := share_at h.sh hb 0 hp
  obtain ⟨A, As, Ak, c, c', ck, co, gof, gk, os, ki⟩ := f
  have e2' : As = some ⟨b2, o2, none⟩ := e2
  subst e2'
  have HH := Lib.hid h
  have HB0 := Lib.hid hb
  have LS := h.sh.1
  have HOC : Hid (os = cnt) := Lib.hid (h.oc h4)
  have HOL : Hid (os.length = x.kids.length) := Lib.hid h.ol
  have HL := Lib.hid hl
  have HSA : Hid (∀ (W : World), Below w0.heap.size w0 W → ∀ k, k < x.shares.length → W.cell? ⟨b2, o2 + k, none⟩ = some (.int .i64 (x.shares.getD k 0))) := Lib.hid (fun W hB k hk => by obtain ⟨_, _, e, h⟩ := share_at (w := W) h.sh hB k hk; cases e; exact h)
  have f5 : w.cell? ⟨b, 5, none⟩ = some (.slice (some ⟨b2, o2, none⟩) x.shares.length c') := (h.rw 5 _ rfl).1
  clear h hb h4 hl e2 hp
  go_enter Tryz.func108, Tryz.ntmps108
  go_wp2
  go_loopw [3, 4, 14] (fun s3 s4 s14 wr => ∃ (k best : Nat) (most : Int), s14 = .int .i64 k ∧ s3 = .int .i64 best ∧ s4 = .int .i64 most ∧ k ≤ x.shares.length ∧ Hid (scan (score x had cnt) (x.shares.length - k) k best = next x had cnt) ∧ Hid (0 < k → most = score x had cnt best) ∧ Hid (k = 0 → best = 0) ∧ Hid (Below w.heap.size w wr)) (fun _ _ s _ => x.shares.length - (intOf s).toNat)
  case atStart => exact ⟨0, 0, 0, rfl, rfl, rfl, by omega, Lib.hid (by rw [Nat.sub_zero]; rfl), Lib.hid (fun h => absurd h (by omega)), Lib.hid (fun _ => rfl), Lib.hid (Below.refl _ _)⟩
  case round =>
    obtain ⟨k, best, most, rfl, rfl, rfl, hk, HSC, HM, HB1, HW⟩ := hrel
    by_cases hlt : k < x.shares.length
    · have nd := HH.out.later HW.out
      have f0 := HSA.out wr (HB0.out.trans (HW.out.mono HB0.out.size)) k hlt
      have f7 := nd.c7.1
      have f8 : wr.cell? ⟨b, 8, none⟩ = some (.slice (some ⟨gof, 0, none⟩) x.kids.length co) := nd.c8.1
      have f9 := (nd.c9 rfl).1
      have hj : k < os.length := by rw [HOL.out, ← HL.out]; exact hlt
      have fo : wr.cell? ⟨gof, k, none⟩ = some (.int .i64 os[k]) := (nd.oe k hj).1
      have HE : Hid (score x had cnt k = wrap64 (wrap64 (x.shares.getD k 0 * wrap64 (had + 1)) - wrap64 (os[k] * sumI x.shares 0))) := Lib.hid (by rw [score_eq, ← HOC.out, getD_at hj])
      have hk1 : (k : Int) < x.shares.length := by omega
      have hk2 : (k : Int) < x.kids.length := by have := HL.out; omega
      have HS := Lib.hid (scan_step (f := score x had cnt) (b := best) hlt)
      generalize x.shares.getD k 0 = n1 at f0 HE
      generalize os[k] = n2 at fo HE
      generalize sumI x.shares 0 = n3 at f9 HE
      clear nd hj
      by_cases h0 : k = 0
      · have hb0 : ((k : Int) == 0) = true := by subst h0; rfl
        have H0 := Lib.hid h0
        clear h0
        go_wp2
        go_quiet (fail)
        go_wp2
        go_roundw
        case rel => exact ⟨k + 1, k, _, by go_num, rfl, rfl, by omega, Lib.hid (by
          rw [← HSC.out, HS.out]
          have e1 := HB1.out H0.out
          have e2 := H0.out
          subst e1
          rw [if_neg (by rw [e2]; omega), e2]), Lib.hid (fun _ => HE.out.symm), Lib.hid (fun h => absurd h (by omega)), Lib.hid (B.below_drew HW.out _)⟩
        case measure => simp [intOf]; omega
      · have hb0 : ((k : Int) == 0) = false := by rw [beq_eq_false_iff_ne]; omega
        have H0 := Lib.hid h0
        clear h0
        by_cases hq : most < wrap64 (wrap64 (n1 * wrap64 (had + 1)) - wrap64 (n2 * n3))
        · have hq1 : decide (most < wrap64 (wrap64 (n1 * wrap64 (had + 1)) - wrap64 (n2 * n3))) = true := decide_eq_true hq
          have HQ := Lib.hid hq
          clear hq
          go_wp2
          go_quiet (fail)
          go_wp2
          go_roundw
          case rel => exact ⟨k + 1, k, _, by go_num, rfl, rfl, by omega, Lib.hid (by
            rw [← HSC.out, HS.out, if_pos (by rw [← HM.out (by have := H0.out; omega), HE.out]; exact HQ.out)]), Lib.hid (fun _ => HE.out.symm), Lib.hid (fun h => absurd h (by omega)), Lib.hid (B.below_drew HW.out _)⟩
          case measure => simp [intOf]; omega
        · have hq1 : decide (most < wrap64 (wrap64 (n1 * wrap64 (had + 1)) - wrap64 (n2 * n3))) = false := decide_eq_false hq
          have HQ := Lib.hid hq
          clear hq
          go_wp2
          go_quiet (fail)
          go_wp2
          go_roundw
          case rel => exact ⟨k + 1, best, most, by go_num, rfl, rfl, by omega, Lib.hid (by
            rw [← HSC.out, HS.out, if_neg (by rw [← HM.out (by have := H0.out; omega), HE.out]; exact Int.not_lt.2 HQ.out)]), Lib.hid (fun _ => HM.out (by have := H0.out; omega)), Lib.hid (fun h => absurd h (by omega)), Lib.hid (B.below_drew HW.out _)⟩
          case measure => simp [intOf]; omega
    · obtain rfl : k = x.shares.length := by omega
      have e := HSC.out
      rw [Nat.sub_self, scan] at e
      have E := Lib.hid e
      clear e
      go_wp2
      go_ret
      exact ⟨by rw [E.out]; rfl, HW.out⟩
set_option maxHeartbeats 4000000 in
set_option maxRecDepth 100000 in
theorem next_any (w0 w : World) (lo hi : Nat) (x : Lp) (b : Nat) (had : Int) (cnt : List Int) (f : Fm) (h : Nd false w0 w lo hi x b had cnt f) (hb : Below w0.heap.size w0 w) (h4 : x.kind = 4) (hl : x.shares.length = x.kids.length) (hp : 0 < x.shares.length) :
    Calls Tryz.prog 97 #[.pointer (some ⟨b, 0, none⟩)] w fun e w' => e = .returned (.int .i64 (next x had cnt)) ∧ Below w.heap.size w w' := by
  obtain ⟨b2, o2, e2, -⟩ := share_at h.sh hb 0 hp
  obtain ⟨A, As, Ak, c, c', ck, co, gof, gk, os, ki⟩ := f
  have e2' : As = some ⟨b2, o2, none⟩ := e2
  subst e2'
  have HH := Lib.hid h
  have HB0 := Lib.hid hb
  have LS := h.sh.1
  have HOC : Hid (os = cnt) := Lib.hid (h.oc h4)
  have HOL : Hid (os.length = x.kids.length) := Lib.hid h.ol
  have HL := Lib.hid hl
  have HSA : Hid (∀ (W : World), Below w0.heap.size w0 W → ∀ k, k < x.shares.length → W.cell? ⟨b2, o2 + k, none⟩ = some (.int .i64 (x.shares.getD k 0))) := Lib.hid (fun W hB k hk => by obtain ⟨_, _, e, h⟩ := share_at (w := W) h.sh hB k hk; cases e; exact h)
  have f5 : w.cell? ⟨b, 5, none⟩ = some (.slice (some ⟨b2, o2, none⟩) x.shares.length c') := (h.rw 5 _ rfl).1
  clear h hb h4 hl e2 hp
  go_enter Tryz.func97, Tryz.ntmps97
  go_wp2
  go_loopw [3, 15] (fun s3 s15 wr => ∃ (k : Nat) (t : Int), s15 = .int .i64 k ∧ s3 = .int .i64 t ∧ k ≤ x.shares.length ∧ Hid (sumI (x.shares.drop k) t = sumI x.shares 0) ∧ Hid (w = wr)) (fun _ s _ => x.shares.length - (intOf s).toNat)
  case atStart => exact ⟨0, 0, rfl, rfl, by omega, Lib.hid (by rw [List.drop_zero]), Lib.hid rfl⟩
  case round =>
    obtain ⟨k, t, rfl, rfl, hk, HT, HWW⟩ := hrel
    obtain rfl := HWW.out
    clear HWW
    by_cases hlt : k < x.shares.length
    · have f0 := HSA.out w HB0.out k hlt
      have HT2 := HT.out
      rw [sumI_drop hlt, ← getD_at hlt, w64_eq] at HT2
      have HT3 := Lib.hid HT2
      generalize x.shares.getD k 0 = n1 at f0 HT3
      clear HT2
      have hk1 : (k : Int) < x.shares.length := by omega
      go_wp2
      go_roundw
      case rel => exact ⟨k + 1, wrap64 (t + n1), by go_num, rfl, by omega, HT3, Lib.hid trivial⟩
      case measure => simp [intOf]; omega
    · obtain rfl : k = x.shares.length := by omega
      have HT2 := HT.out
      rw [List.drop_length, sumI] at HT2
      have HT3 := Lib.hid HT2
      clear HT2
      go_wp2
      go_loopw [6, 29] (fun s6 s29 wr => ∃ (k best : Nat), s29 = .int .i64 k ∧ s6 = .int .i64 best ∧ k ≤ x.shares.length ∧ Hid (scan (score x had cnt) (x.shares.length - k) k best = next x had cnt) ∧ Hid (0 < x.shares.length → best < x.shares.length) ∧ Hid (Below w.heap.size w wr)) (fun _ s _ => x.shares.length - (intOf s).toNat)
      case atStart => exact ⟨0, 0, rfl, rfl, by omega, Lib.hid (by rw [Nat.sub_zero]; rfl), Lib.hid id, Lib.hid (Below.refl _ _)⟩
      case round =>
        obtain ⟨k, best, rfl, rfl, hk, HSC, HB1, HW⟩ := hrel
        by_cases hlt : k < x.shares.length
        · have nd := HH.out.later HW.out
          have hbl := HB1.out (by omega)
          have f0 := HSA.out wr (HB0.out.trans (HW.out.mono HB0.out.size)) k hlt
          have g0 := HSA.out wr (HB0.out.trans (HW.out.mono HB0.out.size)) best hbl
          have f5' : wr.cell? ⟨b, 5, none⟩ = some (.slice (some ⟨b2, o2, none⟩) x.shares.length c') := (nd.rw 5 _ rfl).1
          have f7 := nd.c7.1
          have f8 : wr.cell? ⟨b, 8, none⟩ = some (.slice (some ⟨gof, 0, none⟩) x.kids.length co) := nd.c8.1
          have hj : k < os.length := by rw [HOL.out, ← HL.out]; exact hlt
          have hj2 : best < os.length := by rw [HOL.out, ← HL.out]; exact hbl
          have fo : wr.cell? ⟨gof, k, none⟩ = some (.int .i64 os[k]) := (nd.oe k hj).1
          have go' : wr.cell? ⟨gof, best, none⟩ = some (.int .i64 os[best]) := (nd.oe best hj2).1
          have HE : Hid (score x had cnt k = wrap64 (wrap64 (x.shares.getD k 0 * wrap64 (had + 1)) - wrap64 (os[k] * t))) := Lib.hid (by rw [score_eq, ← HOC.out, getD_at hj, HT3.out])
          have HE2 : Hid (score x had cnt best = wrap64 (wrap64 (x.shares.getD best 0 * wrap64 (had + 1)) - wrap64 (os[best] * t))) := Lib.hid (by rw [score_eq, ← HOC.out, getD_at hj2, HT3.out])
          have hk1 : (k : Int) < x.shares.length := by omega
          have hk2 : (k : Int) < x.kids.length := by have := HL.out; omega
          have hb1 : (best : Int) < x.shares.length := by omega
          have hb2 : (best : Int) < x.kids.length := by have := HL.out; omega
          have HBL := Lib.hid hbl
          have HS := Lib.hid (scan_step (f := score x had cnt) (b := best) hlt)
          generalize x.shares.getD k 0 = n1 at f0 HE
          generalize os[k] = n2 at fo HE
          generalize x.shares.getD best 0 = n3 at g0 HE2
          generalize os[best] = n4 at go' HE2
          clear nd hj hj2
          by_cases hq : wrap64 (wrap64 (n3 * wrap64 (had + 1)) - wrap64 (n4 * t)) < wrap64 (wrap64 (n1 * wrap64 (had + 1)) - wrap64 (n2 * t))
          · have hq1 : decide (wrap64 (wrap64 (n3 * wrap64 (had + 1)) - wrap64 (n4 * t)) < wrap64 (wrap64 (n1 * wrap64 (had + 1)) - wrap64 (n2 * t))) = true := decide_eq_true hq
            have HQ := Lib.hid hq
            clear hq
            go_wp2
            go_quiet (fail)
            go_wp2
            go_roundw
            case rel => exact ⟨k + 1, k, by go_num, rfl, by omega, Lib.hid (by rw [← HSC.out, HS.out, if_pos (by rw [HE2.out, HE.out]; exact HQ.out)]), Lib.hid (fun _ => by omega), Lib.hid (B.below_drew HW.out _)⟩
            case measure => simp [intOf]; omega
          · have hq1 : decide (wrap64 (wrap64 (n3 * wrap64 (had + 1)) - wrap64 (n4 * t)) < wrap64 (wrap64 (n1 * wrap64 (had + 1)) - wrap64 (n2 * t))) = false := decide_eq_false hq
            have HQ := Lib.hid hq
            clear hq
            go_wp2
            go_quiet (fail)
            go_wp2
            go_roundw
            case rel => exact ⟨k + 1, best, by go_num, rfl, by omega, Lib.hid (by rw [← HSC.out, HS.out, if_neg (by rw [HE2.out, HE.out]; exact Int.not_lt.2 HQ.out)]), Lib.hid (fun _ => HBL.out), Lib.hid (B.below_drew HW.out _)⟩
            case measure => simp [intOf]; omega
        · obtain rfl : k = x.shares.length := by omega
          have e := HSC.out
          rw [Nat.sub_self, scan] at e
          have E := Lib.hid e
          clear e
          go_wp2
          go_ret
          exact ⟨by rw [E.out]; rfl, HW.out⟩
theorem full (bp : Nat) (A : Option Addr) (n c : Nat) (most : Int) (w : World) (h0 : w.cell? ⟨bp, 0, none⟩ = some (.slice A n c)) (h1 : w.cell? ⟨bp, 1, none⟩ = some (.int .i64 most)) :
    Calls Tryz.prog 81 #[.pointer (some ⟨bp, 0, none⟩)] w fun e w' => e = .returned (.bool (decide (most < n))) ∧ ∃ k, w' = w.drewN k := by
  go_enter Tryz.func81, Tryz.ntmps81
  go_wp2
  go_quiet (fail)
  go_wp2
  go_ret
  exact ⟨rfl, _, rfl⟩
end Go.Proofs.YtfillnkebohciaaGreatDoor.T
