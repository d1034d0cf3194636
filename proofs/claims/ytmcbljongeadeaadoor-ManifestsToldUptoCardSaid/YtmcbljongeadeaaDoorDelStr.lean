/- slices.IndexFunc and DeleteFunc at strings, with a predicate that only looks at what was there. -/
import Derived.Test.YtmcbljongeadeaaDoorHaveRef
import Derived.Test.YtmcbljongeadeaaDoorRowOps
namespace Go.Proofs.YtmcbljongeadeaaDoor.DelS
open Go.RowKit

def stE (s : ByteArray) : List Value := [.string s]
def idxI (p : ByteArray → Bool) (xs : List ByteArray) : Int := match xs.findIdx? p with | some i => (i : Int) | none => -1
theorem idxI_neg {p : ByteArray → Bool} {xs : List ByteArray} (h : idxI p xs = -1) : xs.filter (fun c => !p c) = xs := by
  unfold idxI at h
  split at h
  · omega
  · rename_i e
    rw [List.findIdx?_eq_none_iff] at e
    exact List.filter_eq_self.2 (fun c hc => by rw [e c hc]; rfl)
theorem idxI_pos {p : ByteArray → Bool} {xs : List ByteArray} (h : idxI p xs ≠ -1) : ∃ i, ∃ hi : i < xs.length, idxI p xs = (i : Int) ∧ p xs[i] = true ∧ (xs.take (i + 1)).filter (fun c => !p c) = xs.take i := by
  unfold idxI at h ⊢
  split
  · rename_i i e
    rw [List.findIdx?_eq_some_iff_getElem] at e
    obtain ⟨hi, hp, hno⟩ := e
    refine ⟨i, hi, rfl, hp, ?_⟩
    rw [← List.take_append_getElem hi, List.filter_append, List.filter_cons_of_neg (by simp [hp]), List.filter_nil, List.append_nil]
    refine List.filter_eq_self.2 (fun c hc => ?_)
    obtain ⟨j, hj, rfl⟩ := List.getElem_of_mem hc
    rw [List.getElem_take]
    have := hno j (by simp at hj; omega)
    simpa using this
  · rename_i e
    rw [e] at h
    exact absurd rfl h
theorem own_set {w : World} {base : Nat} {e : TypeId} {g n cap : Nat} {ys : List ByteArray} {i : Nat} (c : ByteArray) (h : B.Own w base e 1 stE (.slice (some ⟨g, 0, none⟩) n cap) ys) (hi : i < ys.length) :
    B.Own (w.setCell ⟨g, i, none⟩ (.string c)) base e 1 stE (.slice (some ⟨g, 0, none⟩) n cap) (ys.set i c) := by
  have hn : n = ys.length := by obtain ⟨A, c', e'⟩ := Copy.shape h; simpa using congrArg (fun v => match v with | Value.slice _ n _ => n | _ => 0) e'
  subst hn
  obtain ⟨h1, g1⟩ := World.ownsRow.stored h i (.string c)
  unfold B.Own
  rw [List.length_set]
  have e2 : ∀ (zs : List ByteArray), zs.flatMap stE = zs.map .string := by
    intro zs
    induction zs with
    | nil => rfl
    | cons a t ih => rw [List.flatMap_cons, ih]; rfl
  rw [e2] at h1 ⊢
  rw [List.map_set]
  exact h1
theorem own_cell {w : World} {base : Nat} {e : TypeId} {g n cap : Nat} {ys : List ByteArray} (h : B.Own w base e 1 stE (.slice (some ⟨g, 0, none⟩) n cap) ys) (j : Nat) (hj : j < ys.length) :
    w.cell? ⟨g, j, none⟩ = some (.string ys[j]) := by
  have hn : n = ys.length := by obtain ⟨A, c', e'⟩ := Copy.shape h; simpa using congrArg (fun v => match v with | Value.slice _ n _ => n | _ => 0) e'
  subst hn
  have h0 := B.flatMap_at (k := 1) (enc := stE) (fun _ => rfl) j hj 0 (by simp [stE])
  have := (World.ownsRow.cellAt h j (by omega))
  rw [this]
  simpa [stE] using h0
theorem zeroS (w : World) : (zeroValue 9).run Tryd.prog w = .ok (.string ⟨#[]⟩) w := by kernel_rfl
theorem indexSSp (p : ByteArray → Bool) (b : Nat) (base : Nat) (v : Value) (xs : List ByteArray) (w0 w : World) (hb0 : Below base w0 w) (hbs : base ≤ w.heap.size)
    (hp : ∀ W c, Below base w0 W → Calls Tryd.prog 33 #[.string c, .pointer (some ⟨b, 0, none⟩)] W fun e w' => e = .returned (.bool (p c)) ∧ Below W.heap.size W w') (h : B.Kd.str.S w v xs) :
    Calls Tryd.prog 48 #[v, .func (.func 33) #[] #[.pointer (some ⟨b, 0, none⟩)]] w fun e w' => e = .returned (.int .i64 (idxI p xs)) ∧ Below w.heap.size w w' := by
  obtain ⟨A, c, rfl, C⟩ := h
  have L := C.1
  go_enter Tryd.func48, Tryd.ntmps48
  go_wp2
  go_loopw [8] (fun so wr => ∃ (k : Nat), so = .int .i64 k ∧ k ≤ xs.length ∧ Hid (∀ j (hj : j < xs.length), j < k → p xs[j] = false) ∧ Hid (Below w.heap.size w wr)) (fun so _ => xs.length - (intOf so).toNat)
  case atStart => exact ⟨0, rfl, Nat.zero_le _, Lib.hid (fun j _ h => absurd h (Nat.not_lt_zero _)), Lib.hid (Below.refl _ _)⟩
  case round =>
    obtain ⟨k, rfl, hk, HT, HB⟩ := hrel
    by_cases hlt : k < xs.length
    · obtain ⟨b5, o5, cs5, rfl, K5, e5⟩ := C.at k hlt
      obtain rfl : cs5 = [.string xs[k]] := K5
      have q0 : wr.cell? ⟨b5, o5 + k, none⟩ = some (.string xs[k]) := by simpa [B.Kd.str, B.Kd.flat] using B.cell_below HB.out (e5 0 (by simp))
      have hk1 : (k : Int) < xs.length := by omega
      have cs := hp wr xs[k] (hb0.trans (HB.out.mono hbs))
      clear e5
      cases hpk : p xs[k] with
      | false =>
        rw [hpk] at cs
        have HT2 : Hid (∀ j (hj : j < xs.length), j < k + 1 → p xs[j] = false) := Lib.hid (fun j hj hjk => by
          rcases Nat.lt_or_eq_of_le (Nat.le_of_lt_succ hjk) with h1 | rfl
          · exact HT.out j hj h1
          · exact hpk)
        clear hpk
        go_wp2_with (go_at_call 33; refine cs.mono ?_; rintro e w5 ⟨rfl, HB5⟩)
        go_roundw
        case rel => exact ⟨k + 1, by go_num, by omega, HT2, Lib.hid (B.below_trans HB.out HB5)⟩
        case measure => simp [intOf]; omega
      | true =>
        rw [hpk] at cs
        have HX : Hid (idxI p xs = k) := Lib.hid (by
          have e : xs.findIdx? p = some k := by
            rw [List.findIdx?_eq_some_iff_getElem]
            exact ⟨hlt, hpk, fun j hj => by rw [HT.out j (by omega) hj]; decide⟩
          unfold idxI; rw [e])
        clear hpk
        go_wp2_with (go_at_call 33; refine cs.mono ?_; rintro e w5 ⟨rfl, HB5⟩)
        go_ret
        exact ⟨by rw [HX.out]; rfl, B.below_trans HB.out HB5⟩
    · obtain rfl : k = xs.length := by omega
      have HX : Hid (idxI p xs = -1) := Lib.hid (by
        have e : xs.findIdx? p = none := by
          rw [List.findIdx?_eq_none_iff]
          intro x hx
          obtain ⟨j, hj, rfl⟩ := List.getElem_of_mem hx
          exact HT.out j hj hj
        unfold idxI; rw [e])
      go_wp2
      go_ret
      exact ⟨by rw [HX.out]; rfl, HB.out⟩
set_option maxRecDepth 100000 in
theorem deleteSSp (p : ByteArray → Bool) (b base : Nat) (v : Value) (xs : List ByteArray) (w0 w : World) (hb0 : Below base w0 w) (hbs : base ≤ w.heap.size)
    (hp : ∀ W c, Below base w0 W → Calls Tryd.prog 33 #[.string c, .pointer (some ⟨b, 0, none⟩)] W fun e w' => e = .returned (.bool (p c)) ∧ Below W.heap.size W w')
    (HO : B.Own w base 9 1 stE v xs) (hn : xs.length ≤ 140737488355328) :
    Calls Tryd.prog 31 #[v, .func (.func 33) #[] #[.pointer (some ⟨b, 0, none⟩)]] w fun e w' => ∃ v', e = .returned v' ∧ B.Own w' base 9 1 stE v' (xs.filter (fun c => !p c)) ∧ Below base w w' := by
  have ci := indexSSp p b base v xs w0 w hb0 hbs hp (B.own_str HO hn)
  by_cases hx : idxI p xs = -1
  · have HX := Lib.hid (idxI_neg hx)
    rw [hx] at ci
    obtain ⟨A, c, rfl⟩ := Copy.shape HO
    clear hx
    go_enter Tryd.func31, Tryd.ntmps31
    go_wp2_with (go_at_call 48; refine ci.mono ?_; rintro e w1 ⟨rfl, HB⟩)
    go_ret
    exact ⟨_, rfl, by rw [HX.out]; exact HO.below HB, HB.mono hbs⟩
  · obtain ⟨i0, hi0, he, hpi, htk⟩ := idxI_pos hx
    rw [he] at ci
    obtain ⟨g, cap, rfl⟩ : ∃ g cap, v = .slice (some ⟨g, 0, none⟩) xs.length cap := by
      rcases HO.2 with ⟨_, h0⟩ | ⟨g, cap, cur, e, _⟩
      · omega
      · exact ⟨g, cap, e⟩
    have HTK := Lib.hid htk
    have hib : ((i0 : Int) == -1) = false := beq_eq_false_iff_ne.2 (by omega)
    clear hx he hpi htk
    go_enter Tryd.func31, Tryd.ntmps31
    go_wp2_with (go_at_call 48; refine ci.mono ?_; rintro e w1 ⟨rfl, HB⟩)
    have HO1 := Lib.hid (HO.below HB)
    have HB1 := Lib.hid (HB.mono hbs)
    go_loopw [5, 6] (fun si sj wr => ∃ (i j : Nat) (ys : List ByteArray), si = .int .i64 i ∧ sj = .int .i64 j ∧ i < j ∧ j ≤ xs.length ∧ Hid (ys.length = xs.length) ∧ Hid (ys.take i = (xs.take j).filter (fun c => !p c)) ∧ Hid (∀ q, j ≤ q → ys[q]? = xs[q]?) ∧ Hid (B.Own wr base 9 1 stE (.slice (some ⟨g, 0, none⟩) xs.length cap) ys) ∧ Hid (Below base w wr)) (fun _ sj _ => xs.length - (intOf sj).toNat)
    case atStart => exact ⟨i0, i0 + 1, xs, rfl, by go_num, by omega, by omega, Lib.hid rfl, Lib.hid HTK.out.symm, Lib.hid (fun _ _ => rfl), HO1, HB1⟩
    case round =>
      obtain ⟨i, j, ys, rfl, rfl, hij, hj, HL, HT, HE, HW, HBr⟩ := hrel
      by_cases hlt : j < xs.length
      · have hjy : j < ys.length := by rw [HL.out]; exact hlt
        have hiy : i < ys.length := by omega
        have hyj : ys[j] = xs[j] := by
          have := HE.out j (Nat.le_refl _)
          rw [List.getElem?_eq_getElem hjy, List.getElem?_eq_getElem hlt] at this
          exact Option.some.inj this
        have q0 := own_cell HW.out j hjy
        rw [hyj] at q0
        have hj1 : (j : Int) < xs.length := by omega
        have hbw : base ≤ wr.heap.size := Nat.le_trans hbs HBr.out.size
        have cs := hp _ xs[j] (hb0.trans HBr.out)
        have HE2 : Hid (∀ q, j + 1 ≤ q → ys[q]? = xs[q]?) := Lib.hid (fun q hq => HE.out q (by omega))
        clear hyj
        cases hpj : p xs[j] with
        | true =>
          rw [hpj] at cs
          have HT2 : Hid (ys.take i = (xs.take (j + 1)).filter (fun c => !p c)) := Lib.hid (by rw [← List.take_append_getElem hlt, List.filter_append, List.filter_cons_of_neg (by simp [hpj]), List.filter_nil, List.append_nil, HT.out])
          clear hpj
          go_wp2_with (go_at_call 33; refine cs.mono ?_; rintro e w5 ⟨rfl, HB5⟩)
          go_roundw
          case rel => exact ⟨i, j + 1, ys, rfl, by go_num, by omega, by omega, HL, HT2, HE2, Lib.hid (HW.out.below HB5), Lib.hid (HBr.out.trans (HB5.mono hbw))⟩
          case measure => simp [intOf]; omega
        | false =>
          rw [hpj] at cs
          have HT2 : Hid ((ys.set i xs[j]).take (i + 1) = (xs.take (j + 1)).filter (fun c => !p c)) := Lib.hid (by
            rw [← List.take_append_getElem hlt, List.filter_append, List.filter_cons_of_pos (by simp [hpj]), List.filter_nil, ← HT.out, ← List.take_append_getElem (show i < (ys.set i xs[j]).length by simpa using hiy), List.take_set_of_le (Nat.le_refl i)]
            simp)
          have HE3 : Hid (∀ q, j + 1 ≤ q → (ys.set i xs[j])[q]? = xs[q]?) := Lib.hid (fun q hq => by rw [List.getElem?_set_ne (by omega)]; exact HE2.out q hq)
          have hgb : base ≤ g := (World.ownsRow.lt HW.out g rfl).1
          clear hpj
          have HF := Lib.hid (fun (w5 : World) (hb : Below wr.heap.size wr w5) => (by
            have ho5 := HW.out.below hb
            exact ⟨ho5, own_cell ho5 i hiy, (by have h := ho5; unfold B.Own at h; rw [HL.out] at h; exact World.ownsRow.frozenAt h _)⟩ : B.Own w5 base 9 1 stE (.slice (some ⟨g, 0, none⟩) xs.length cap) ys ∧ w5.cell? ⟨g, i, none⟩ = some (.string ys[i]) ∧ w5.frozen? ⟨g, i, none⟩ = false))
          go_wp2_with (go_at_call 33; refine cs.mono ?_; rintro e w5 ⟨rfl, HB5⟩; obtain ⟨HO5', y0, z0⟩ := HF.out w5 HB5; have HO5 := Lib.hid HO5'; clear HO5')
          have HO6 := own_set xs[j] HO5.out hiy
          go_roundw
          case rel => exact ⟨i + 1, j + 1, ys.set i xs[j], by go_num, by go_num, by omega, by omega, Lib.hid (by rw [List.length_set, HL.out]), HT2, HE3, Lib.hid HO6, Lib.hid ((HBr.out.trans (HB5.mono hbw)).setCell (p := ⟨g, i, none⟩) hgb _)⟩
          case measure => simp [intOf]; omega
      · obtain rfl : j = xs.length := by omega
        have HT2 : Hid (ys.take i = xs.filter (fun c => !p c)) := Lib.hid (by rw [HT.out, List.take_length])
        have hgb : base ≤ g := (World.ownsRow.lt HW.out g rfl).1
        have hcap : xs.length ≤ cap := by
          rcases HW.out.2 with ⟨h', _⟩ | ⟨g', cap', cur, h', _, _, hnc, _⟩
          · cases h'
          · simp only [Value.slice.injEq, Option.some.injEq, Addr.mk.injEq, and_true, true_and] at h'
            have := HL.out
            omega
        obtain ⟨vs, hcl, HO6, hg6⟩ := R.clear_tail (P := Tryd.prog) (k := 1) (enc := stE) (fun _ => rfl) 25 9 0 (.string ⟨#[]⟩) Tryd.underlying25 zeroS (by intro v hv; simp [Value.cells] at hv; subst hv; rfl) rfl HW.out HL.out hij
        rw [Nat.mul_one] at hcl
        have HO7 := Lib.hid HO6
        have HG7 := Lib.hid hg6
        rw [Nat.mul_one] at HO7 HG7
        clear HO6 hg6
        go_wp2
        go_ret
        exact ⟨_, rfl, by rw [← HT2.out]; exact HO7.out, HBr.out.grown HG7.out (Nat.le_trans hbs HBr.out.size) (fun k hk => by obtain rfl := Option.some.inj hk; exact hgb)⟩
theorem indexSRef (p : ByteArray → Bool) (b : Nat) (base : Nat) (v : Value) (xs : List ByteArray) (w0 w : World) (hb0 : Below base w0 w) (hbs : base ≤ w.heap.size)
    (hp : ∀ W c, Below base w0 W → Calls Tryd.prog 42 #[.string c, .pointer (some ⟨b, 0, none⟩)] W fun e w' => e = .returned (.bool (p c)) ∧ Below W.heap.size W w') (h : B.Kd.str.S w v xs) :
    Calls Tryd.prog 48 #[v, .func (.func 42) #[] #[.pointer (some ⟨b, 0, none⟩)]] w fun e w' => e = .returned (.int .i64 (idxI p xs)) ∧ Below w.heap.size w w' := by
  obtain ⟨A, c, rfl, C⟩ := h
  have L := C.1
  go_enter Tryd.func48, Tryd.ntmps48
  go_wp2
  go_loopw [8] (fun so wr => ∃ (k : Nat), so = .int .i64 k ∧ k ≤ xs.length ∧ Hid (∀ j (hj : j < xs.length), j < k → p xs[j] = false) ∧ Hid (Below w.heap.size w wr)) (fun so _ => xs.length - (intOf so).toNat)
  case atStart => exact ⟨0, rfl, Nat.zero_le _, Lib.hid (fun j _ h => absurd h (Nat.not_lt_zero _)), Lib.hid (Below.refl _ _)⟩
  case round =>
    obtain ⟨k, rfl, hk, HT, HB⟩ := hrel
    by_cases hlt : k < xs.length
    · obtain ⟨b5, o5, cs5, rfl, K5, e5⟩ := C.at k hlt
      obtain rfl : cs5 = [.string xs[k]] := K5
      have q0 : wr.cell? ⟨b5, o5 + k, none⟩ = some (.string xs[k]) := by simpa [B.Kd.str, B.Kd.flat] using B.cell_below HB.out (e5 0 (by simp))
      have hk1 : (k : Int) < xs.length := by omega
      have cs := hp wr xs[k] (hb0.trans (HB.out.mono hbs))
      clear e5
      cases hpk : p xs[k] with
      | false =>
        rw [hpk] at cs
        have HT2 : Hid (∀ j (hj : j < xs.length), j < k + 1 → p xs[j] = false) := Lib.hid (fun j hj hjk => by
          rcases Nat.lt_or_eq_of_le (Nat.le_of_lt_succ hjk) with h1 | rfl
          · exact HT.out j hj h1
          · exact hpk)
        clear hpk
        go_wp2_with (go_at_call 42; refine cs.mono ?_; rintro e w5 ⟨rfl, HB5⟩)
        go_roundw
        case rel => exact ⟨k + 1, by go_num, by omega, HT2, Lib.hid (B.below_trans HB.out HB5)⟩
        case measure => simp [intOf]; omega
      | true =>
        rw [hpk] at cs
        have HX : Hid (idxI p xs = k) := Lib.hid (by
          have e : xs.findIdx? p = some k := by
            rw [List.findIdx?_eq_some_iff_getElem]
            exact ⟨hlt, hpk, fun j hj => by rw [HT.out j (by omega) hj]; decide⟩
          unfold idxI; rw [e])
        clear hpk
        go_wp2_with (go_at_call 42; refine cs.mono ?_; rintro e w5 ⟨rfl, HB5⟩)
        go_ret
        exact ⟨by rw [HX.out]; rfl, B.below_trans HB.out HB5⟩
    · obtain rfl : k = xs.length := by omega
      have HX : Hid (idxI p xs = -1) := Lib.hid (by
        have e : xs.findIdx? p = none := by
          rw [List.findIdx?_eq_none_iff]
          intro x hx
          obtain ⟨j, hj, rfl⟩ := List.getElem_of_mem hx
          exact HT.out j hj hj
        unfold idxI; rw [e])
      go_wp2
      go_ret
      exact ⟨by rw [HX.out]; rfl, HB.out⟩
set_option maxRecDepth 100000 in
theorem deleteSRef (p : ByteArray → Bool) (b base : Nat) (v : Value) (xs : List ByteArray) (w0 w : World) (hb0 : Below base w0 w) (hbs : base ≤ w.heap.size)
    (hp : ∀ W c, Below base w0 W → Calls Tryd.prog 42 #[.string c, .pointer (some ⟨b, 0, none⟩)] W fun e w' => e = .returned (.bool (p c)) ∧ Below W.heap.size W w')
    (HO : B.Own w base 9 1 stE v xs) (hn : xs.length ≤ 140737488355328) :
    Calls Tryd.prog 31 #[v, .func (.func 42) #[] #[.pointer (some ⟨b, 0, none⟩)]] w fun e w' => ∃ v', e = .returned v' ∧ B.Own w' base 9 1 stE v' (xs.filter (fun c => !p c)) ∧ Below base w w' := by
  have ci := indexSRef p b base v xs w0 w hb0 hbs hp (B.own_str HO hn)
  by_cases hx : idxI p xs = -1
  · have HX := Lib.hid (idxI_neg hx)
    rw [hx] at ci
    obtain ⟨A, c, rfl⟩ := Copy.shape HO
    clear hx
    go_enter Tryd.func31, Tryd.ntmps31
    go_wp2_with (go_at_call 48; refine ci.mono ?_; rintro e w1 ⟨rfl, HB⟩)
    go_ret
    exact ⟨_, rfl, by rw [HX.out]; exact HO.below HB, HB.mono hbs⟩
  · obtain ⟨i0, hi0, he, hpi, htk⟩ := idxI_pos hx
    rw [he] at ci
    obtain ⟨g, cap, rfl⟩ : ∃ g cap, v = .slice (some ⟨g, 0, none⟩) xs.length cap := by
      rcases HO.2 with ⟨_, h0⟩ | ⟨g, cap, cur, e, _⟩
      · omega
      · exact ⟨g, cap, e⟩
    have HTK := Lib.hid htk
    have hib : ((i0 : Int) == -1) = false := beq_eq_false_iff_ne.2 (by omega)
    clear hx he hpi htk
    go_enter Tryd.func31, Tryd.ntmps31
    go_wp2_with (go_at_call 48; refine ci.mono ?_; rintro e w1 ⟨rfl, HB⟩)
    have HO1 := Lib.hid (HO.below HB)
    have HB1 := Lib.hid (HB.mono hbs)
    go_loopw [5, 6] (fun si sj wr => ∃ (i j : Nat) (ys : List ByteArray), si = .int .i64 i ∧ sj = .int .i64 j ∧ i < j ∧ j ≤ xs.length ∧ Hid (ys.length = xs.length) ∧ Hid (ys.take i = (xs.take j).filter (fun c => !p c)) ∧ Hid (∀ q, j ≤ q → ys[q]? = xs[q]?) ∧ Hid (B.Own wr base 9 1 stE (.slice (some ⟨g, 0, none⟩) xs.length cap) ys) ∧ Hid (Below base w wr)) (fun _ sj _ => xs.length - (intOf sj).toNat)
    case atStart => exact ⟨i0, i0 + 1, xs, rfl, by go_num, by omega, by omega, Lib.hid rfl, Lib.hid HTK.out.symm, Lib.hid (fun _ _ => rfl), HO1, HB1⟩
    case round =>
      obtain ⟨i, j, ys, rfl, rfl, hij, hj, HL, HT, HE, HW, HBr⟩ := hrel
      by_cases hlt : j < xs.length
      · have hjy : j < ys.length := by rw [HL.out]; exact hlt
        have hiy : i < ys.length := by omega
        have hyj : ys[j] = xs[j] := by
          have := HE.out j (Nat.le_refl _)
          rw [List.getElem?_eq_getElem hjy, List.getElem?_eq_getElem hlt] at this
          exact Option.some.inj this
        have q0 := own_cell HW.out j hjy
        rw [hyj] at q0
        have hj1 : (j : Int) < xs.length := by omega
        have hbw : base ≤ wr.heap.size := Nat.le_trans hbs HBr.out.size
        have cs := hp _ xs[j] (hb0.trans HBr.out)
        have HE2 : Hid (∀ q, j + 1 ≤ q → ys[q]? = xs[q]?) := Lib.hid (fun q hq => HE.out q (by omega))
        clear hyj
        cases hpj : p xs[j] with
        | true =>
          rw [hpj] at cs
          have HT2 : Hid (ys.take i = (xs.take (j + 1)).filter (fun c => !p c)) := Lib.hid (by rw [← List.take_append_getElem hlt, List.filter_append, List.filter_cons_of_neg (by simp [hpj]), List.filter_nil, List.append_nil, HT.out])
          clear hpj
          go_wp2_with (go_at_call 42; refine cs.mono ?_; rintro e w5 ⟨rfl, HB5⟩)
          go_roundw
          case rel => exact ⟨i, j + 1, ys, rfl, by go_num, by omega, by omega, HL, HT2, HE2, Lib.hid (HW.out.below HB5), Lib.hid (HBr.out.trans (HB5.mono hbw))⟩
          case measure => simp [intOf]; omega
        | false =>
          rw [hpj] at cs
          have HT2 : Hid ((ys.set i xs[j]).take (i + 1) = (xs.take (j + 1)).filter (fun c => !p c)) := Lib.hid (by
            rw [← List.take_append_getElem hlt, List.filter_append, List.filter_cons_of_pos (by simp [hpj]), List.filter_nil, ← HT.out, ← List.take_append_getElem (show i < (ys.set i xs[j]).length by simpa using hiy), List.take_set_of_le (Nat.le_refl i)]
            simp)
          have HE3 : Hid (∀ q, j + 1 ≤ q → (ys.set i xs[j])[q]? = xs[q]?) := Lib.hid (fun q hq => by rw [List.getElem?_set_ne (by omega)]; exact HE2.out q hq)
          have hgb : base ≤ g := (World.ownsRow.lt HW.out g rfl).1
          clear hpj
          have HF := Lib.hid (fun (w5 : World) (hb : Below wr.heap.size wr w5) => (by
            have ho5 := HW.out.below hb
            exact ⟨ho5, own_cell ho5 i hiy, (by have h := ho5; unfold B.Own at h; rw [HL.out] at h; exact World.ownsRow.frozenAt h _)⟩ : B.Own w5 base 9 1 stE (.slice (some ⟨g, 0, none⟩) xs.length cap) ys ∧ w5.cell? ⟨g, i, none⟩ = some (.string ys[i]) ∧ w5.frozen? ⟨g, i, none⟩ = false))
          go_wp2_with (go_at_call 42; refine cs.mono ?_; rintro e w5 ⟨rfl, HB5⟩; obtain ⟨HO5', y0, z0⟩ := HF.out w5 HB5; have HO5 := Lib.hid HO5'; clear HO5')
          have HO6 := own_set xs[j] HO5.out hiy
          go_roundw
          case rel => exact ⟨i + 1, j + 1, ys.set i xs[j], by go_num, by go_num, by omega, by omega, Lib.hid (by rw [List.length_set, HL.out]), HT2, HE3, Lib.hid HO6, Lib.hid ((HBr.out.trans (HB5.mono hbw)).setCell (p := ⟨g, i, none⟩) hgb _)⟩
          case measure => simp [intOf]; omega
      · obtain rfl : j = xs.length := by omega
        have HT2 : Hid (ys.take i = xs.filter (fun c => !p c)) := Lib.hid (by rw [HT.out, List.take_length])
        have hgb : base ≤ g := (World.ownsRow.lt HW.out g rfl).1
        have hcap : xs.length ≤ cap := by
          rcases HW.out.2 with ⟨h', _⟩ | ⟨g', cap', cur, h', _, _, hnc, _⟩
          · cases h'
          · simp only [Value.slice.injEq, Option.some.injEq, Addr.mk.injEq, and_true, true_and] at h'
            have := HL.out
            omega
        obtain ⟨vs, hcl, HO6, hg6⟩ := R.clear_tail (P := Tryd.prog) (k := 1) (enc := stE) (fun _ => rfl) 25 9 0 (.string ⟨#[]⟩) Tryd.underlying25 zeroS (by intro v hv; simp [Value.cells] at hv; subst hv; rfl) rfl HW.out HL.out hij
        rw [Nat.mul_one] at hcl
        have HO7 := Lib.hid HO6
        have HG7 := Lib.hid hg6
        rw [Nat.mul_one] at HO7 HG7
        clear HO6 hg6
        go_wp2
        go_ret
        exact ⟨_, rfl, by rw [← HT2.out]; exact HO7.out, HBr.out.grown HG7.out (Nat.le_trans hbs HBr.out.size) (fun k hk => by obtain rfl := Option.some.inj hk; exact hgb)⟩
end Go.Proofs.YtmcbljongeadeaaDoor.DelS
