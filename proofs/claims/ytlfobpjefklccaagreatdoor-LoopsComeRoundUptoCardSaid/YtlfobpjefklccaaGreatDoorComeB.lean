/- The reference's NextOf; the program's OnAt and Until. -/
import Derived.Test.YtlfobpjefklccaaGreatDoorComeA
import Derived.Test.YtlfobpjefklccaaGreatDoorRoundOk
import Derived.Test.YtlfobpjefklccaaGreatDoorSmall
namespace Go.Proofs.YtlfobpjefklccaaGreatDoor.Come
open Go.RowKit
open L (Lp At lv)
open T (Step stK steps_at lng roundM rE rL rP results_cell_tmp_row)

/-- The next moment, or -1. -/
def nxt (l : List Step) (fr a : Int) (item : ByteArray) : Int := match un l item (base l fr a) a with | some t => t | none => -1
theorem nxt_none {l : List Step} {item : ByteArray} {fr a : Int} (hok : Ok l) (h : Lib.containsS (Told.dd (l.map (·.1))) item = false) : nxt l fr a item = -1 := by
  unfold nxt
  rw [un_none hok (fun hm => by rw [(Lib.containsS_iff _ _).2 ((dd_mem _ _).2 hm)] at h; cases h)]
theorem nxt_some {l : List Step} {item : ByteArray} {fr a : Int} (hok : Ok l) (hl : l.length ≤ 5000) (h : Lib.containsS (Told.dd (l.map (·.1))) item = true) : item ∈ l.map (·.1) ∧ ∃ U, nxt l fr a item = U ∧ un l item (base l fr a) a = some U ∧ a ≤ U ∧ U ≤ a + 40000000000 := by
  have hm := (dd_mem _ _).1 ((Lib.containsS_iff _ _).1 h)
  have hn : l ≠ [] := by rintro rfl; cases hm
  obtain ⟨b1, b2⟩ := base_in hok hn fr a
  have hT := (show tot l ≤ 18000000000 by have := (tot_in hok hl l.length).2; rwa [List.take_length] at this)
  obtain ⟨U, e, h1, h2⟩ := un_some hok hm (b := base l fr a) (a := a) (by omega)
  exact ⟨hm, U, by unfold nxt; rw [e], e, h1, by omega⟩
set_option maxHeartbeats 4000000 in
set_option maxRecDepth 100000 in
theorem nextOf (A : Option Addr) (c : Nat) (l : List Step) (fr a : Int) (item : ByteArray) (w : World) (h1 : stK.C w A l) (hok : Ok l) (hn : l ≠ []) (hl : l.length ≤ 5000) (h0 : 0 ≤ fr ∧ fr ≤ a ∧ a ≤ 400000000000) :
    Calls Tryz.prog 26 #[.slice A l.length c, .int .i64 fr, .int .i64 a, .string item] w fun e w' => e = .returned (.int .i64 (nxt l fr a item)) ∧ Below w.heap.size w w' := by
  have H1 := Lib.hid h1
  have HI := Lib.hid (itemsOf A c l w h1 hl)
  have HDL : Hid ((Told.dd (l.map (·.1))).length ≤ 5000) := Lib.hid (by have := Told.dd_length (l.map (·.1)); rw [List.length_map] at this; omega)
  have HST := Lib.hid (fun (a' : Int) (W : World) (hb : Below w.heap.size w W) (hf : fr ≤ a') (ha : a' ≤ 1000000000000) => stepAt A c l fr a' W (h1.mono hb) hok hn hl ⟨h0.1, hf, ha⟩)
  have HOK := Lib.hid hok
  obtain ⟨h00, h01, h02⟩ := h0
  cases hc : Lib.containsS (Told.dd (l.map (·.1))) item with
  | false =>
    rw [nxt_none hok hc]
    have HC := Lib.hid (fun (v : Value) (W : World) (hO : B.Own W w.heap.size 9 1 (fun s => [.string s]) v (Told.dd (l.map (·.1)))) => by
      have := Told.containsR v _ item W (B.own_str hO (by have := HDL.out; omega))
      rw [hc] at this
      exact this)
    generalize Told.dd (l.map (·.1)) = ds at *
    clear h1 hok hn hc
    go_enter Tryz.func26, Tryz.ntmps26
    go_wp2_with (first
      | (go_at_call 44; refine HI.out.mono ?_; rintro e w1 ⟨v1, rfl, hO1, hB1⟩; have HO1 := Lib.hid hO1; have HB1 := Lib.hid hB1; clear hO1 hB1)
      | (go_at_call 53; refine (HC.out _ _ HO1.out).mono ?_; rintro e w2 ⟨rfl, rfl⟩))
    go_ret
    exact ⟨rfl, HB1.out⟩
  | true =>
    obtain ⟨hm, U, e, hU, hU1, hU2⟩ := nxt_some (fr := fr) (a := a) hok hl hc
    rw [e]
    have HM := Lib.hid hm
    have HU := Lib.hid hU
    have HC := Lib.hid (fun (v : Value) (W : World) (hO : B.Own W w.heap.size 9 1 (fun s => [.string s]) v (Told.dd (l.map (·.1)))) => by
      have := Told.containsR v _ item W (B.own_str hO (by have := HDL.out; omega))
      rw [hc] at this
      exact this)
    generalize Told.dd (l.map (·.1)) = ds at *
    clear h1 hok hn hc hm hU e
    go_enter Tryz.func26, Tryz.ntmps26
    go_wp2_with (first
      | (go_at_call 44; refine HI.out.mono ?_; rintro e w1 ⟨v1, rfl, hO1, hB1⟩; have HO1 := Lib.hid hO1; have HB1 := Lib.hid hB1; clear hO1 hB1)
      | (go_at_call 53; refine (HC.out _ _ HO1.out).mono ?_; rintro e w2 ⟨rfl, rfl⟩))
    go_loopw [2] (fun s2 wr => ∃ a' : Int, s2 = .int .i64 a' ∧ fr ≤ a' ∧ a' ≤ U ∧ Hid (un l item (base l fr a') a' = some U) ∧ Hid (Below w.heap.size w wr)) (fun s _ => (U - intOf s).toNat)
    case atStart => exact ⟨a, rfl, h01, hU1, HU, HB1⟩
    case round =>
      obtain ⟨a', rfl, hf, ha', HUN, HB⟩ := hrel
      have hst := HST.out a' wr HB.out hf (by omega)
      obtain ⟨x, b, e1, e2, e3, e4, e5, e6⟩ := un_next (fr := fr) (a := a') HOK.out HM.out
      rw [e1] at hst
      have hx : 1 ≤ x.2 ∧ x.2 ≤ 3600000 := by
        obtain ⟨b1, b2⟩ := base_in HOK.out (by rintro rfl; cases HM.out) fr a'
        obtain ⟨p, y, q, q1, q2, q3, q4⟩ := split_at l a' (base l fr a') HOK.out b1 b2
        rw [e1] at q2
        have : x = y := congrArg Prod.fst q2
        subst this
        exact HOK.out _ (by rw [q1]; simp)
      obtain ⟨x1, x2⟩ := x
      have HS := Lib.hid hst
      have hbf : fr ≤ base l fr a' := base_ge HOK.out (by rintro rfl; cases HM.out) hf
      have hbf2 : fr ≤ b := by omega
      have hbh : b ≤ 500000000000 := by omega
      obtain ⟨hx1, hx2⟩ := hx
      by_cases hq : b = a' ∧ x1 = item
      · obtain ⟨hq1, hq2⟩ := hq
        subst hq1 hq2
        have hUe : U = b := by have := e5 rfl rfl; rw [HUN.out] at this; exact Option.some.inj this
        subst hUe
        clear hst e1 e5 e6 hbf e2 e3 e4
        unfold StRes at HS
        go_wp2_with (go_at_call 24; refine HS.out.mono ?_; rintro e w3 ⟨rfl, hB3⟩; have HB3 := Lib.hid (B.below_trans HB.out hB3); clear hB3)
        go_ret
        exact ⟨rfl, HB3.out.alloc HB3.out.size _⟩
      · obtain ⟨e7, e8⟩ := e6 hq
        have HUN2 : Hid (un l item (base l fr (b + x2)) (b + x2) = some U) := Lib.hid (e7.trans HUN.out)
        have hle : b + x2 ≤ U := by
          obtain ⟨V, v1, v2, v3⟩ := un_some HOK.out HM.out (b := base l fr (b + x2)) (a := b + x2) (by have := (base_in HOK.out (by rintro rfl; cases HM.out) fr (b + x2)).2; omega)
          rw [HUN2.out] at v1
          cases v1
          exact v2
        have hqq : (∃ _ : Hid (b = a'), (b == a') = true ∧ (x1.toList == item.toList) = false) ∨ (b == a') = false := by
          by_cases h : b = a'
          · refine .inl ⟨Lib.hid h, by rw [h]; exact beq_self_eq_true _, ?_⟩
            rw [beq_eq_false_iff_ne]
            intro e
            exact hq ⟨h, ByteArray.ext (Array.toList_inj.1 (by simpa [ByteArray.toList_eq] using e))⟩
          · exact .inr (by rw [beq_eq_false_iff_ne]; exact h)
        clear hst e1 e5 e6 e7 hq hbf
        unfold StRes at HS
        rcases hqq with ⟨-, g1, g2⟩ | g1
        all_goals
          go_wp2_with (go_at_call 24; refine HS.out.mono ?_; rintro e w3 ⟨rfl, hB3⟩; have HB3 := Lib.hid (B.below_trans HB.out hB3); clear hB3)
          go_roundw
          case rel => exact ⟨b + x2, rfl, by omega, hle, HUN2, Lib.hid (HB3.out.alloc HB3.out.size _)⟩
          case measure => simp [intOf]; omega
end Go.Proofs.YtlfobpjefklccaaGreatDoor.Come
