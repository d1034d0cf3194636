/- The reference's MissingOf: Contains at strings, DeleteFunc at chunks. -/
import Derived.Test.YtmcbljongeadeaaDoorHaveRef
import Derived.Test.YtmcbljongeadeaaDoorRowOps
namespace Go.Proofs.YtmcbljongeadeaaDoor.Told
open Go.RowKit

theorem containsS_eq (hs : List ByteArray) (x : ByteArray) : Lib.containsS hs x = decide (x ∈ hs) := by
  by_cases h : x ∈ hs
  · rw [decide_eq_true h, (Lib.containsS_iff hs x).2 h]
  · rw [decide_eq_false h, Bool.eq_false_iff]
    exact fun e => h ((Lib.containsS_iff hs x).1 e)
theorem contains (v : Value) (hs : List ByteArray) (x : ByteArray) (w : World) (h : B.Kd.str.S w v hs) :
    Calls Tryd.prog 40 #[v, .string x] w fun e w' => e = .returned (.bool (decide (x ∈ hs))) ∧ w' = w := by
  obtain ⟨A, c, rfl, C⟩ := h
  have L := C.1
  by_cases h0 : hs.length = 0
  · have e : hs = [] := List.eq_nil_of_length_eq_zero h0
    subst e
    exact Tryd.slices_Contains_string_empty A c x w
  · obtain ⟨b, off, rfl, hc⟩ := C.2 (by omega)
    have := Tryd.slices_Contains_string b off hs.length c hs x w (Nat.le_refl _) (by omega) (fun j hj => by
      obtain ⟨cs, hK, hcs⟩ := hc j hj
      obtain rfl : cs = [.string hs[j]] := hK
      have := hcs 0 (by simp)
      rw [List.getD_eq_getElem?_getD, List.getElem?_eq_getElem hj]
      simpa [B.Kd.str, B.Kd.flat] using this)
    rw [List.take_length, containsS_eq] at this
    exact this
/-- MissingOf's closure: the captured slice lies in a cell. -/
theorem missingP (hs : List ByteArray) (b : Nat) (v : Value) (c : Ck) (w : World) (hc : w.cell? ⟨b, 0, none⟩ = some v) (h : B.Kd.str.S w v hs) :
    Calls Tryd.prog 39 #[.agg #[.string c.1, .int .i64 c.2], .pointer (some ⟨b, 0, none⟩)] w fun e w' => e = .returned (.bool (decide (c.1 ∈ hs))) ∧ Below w.heap.size w w' := by
  have HA := Lib.hid (fun (c : Array Value) (o : TypeId) => (Below.refl _ w).alloc (Nat.le_refl _) (.cells c o))
  have cc := fun c' o => contains v hs c.1 _ (h.mono (HA.out c' o))
  have k0 := fun o => B.cell_below ((Below.refl _ w).alloc (Nat.le_refl _) o) hc
  obtain ⟨A, n, rfl, -⟩ := h
  go_enter Tryd.func39, Tryd.ntmps39
  go_wp2_with (go_at_call 40; refine (cc _ _).mono ?_; rintro e w1 ⟨rfl, rfl⟩)
  go_ret
  exact ⟨rfl, HA.out _ _⟩
def idxI (p : Ck → Bool) (xs : List Ck) : Int := match xs.findIdx? p with | some i => (i : Int) | none => -1
/-- slices.IndexFunc at chunks, with a predicate that only looks at what was there. -/
theorem indexChunks (p : Ck → Bool) (b : Nat) (base : Nat) (v : Value) (xs : List Ck) (w0 w : World) (hb0 : Below base w0 w) (hbs : base ≤ w.heap.size)
    (hp : ∀ W c, Below base w0 W → Calls Tryd.prog 39 #[.agg #[.string c.1, .int .i64 c.2], .pointer (some ⟨b, 0, none⟩)] W fun e w' => e = .returned (.bool (p c)) ∧ Below W.heap.size W w') (h : B.Kd.chunk.S w v xs) :
    Calls Tryd.prog 55 #[v, .func (.func 39) #[] #[.pointer (some ⟨b, 0, none⟩)]] w fun e w' => e = .returned (.int .i64 (idxI p xs)) ∧ Below w.heap.size w w' := by
  obtain ⟨A, c, rfl, C⟩ := h
  have L := C.1
  go_enter Tryd.func55, Tryd.ntmps55
  go_wp2
  go_loopw [8] (fun so wr => ∃ (k : Nat), so = .int .i64 k ∧ k ≤ xs.length ∧ Hid (∀ j (hj : j < xs.length), j < k → p xs[j] = false) ∧ Hid (Below w.heap.size w wr)) (fun so _ => xs.length - (intOf so).toNat)
  case atStart => exact ⟨0, rfl, Nat.zero_le _, Lib.hid (fun j _ h => absurd h (Nat.not_lt_zero _)), Lib.hid (Below.refl _ _)⟩
  case round =>
    obtain ⟨k, rfl, hk, HT, HB⟩ := hrel
    by_cases hlt : k < xs.length
    · obtain ⟨b5, o5, cs5, rfl, K5, e5⟩ := C.at k hlt
      obtain rfl : cs5 = [.string xs[k].1, .int .i64 xs[k].2] := K5
      have q0 : wr.cell? ⟨b5, o5 + k * 2, none⟩ = some (.string xs[k].1) := by simpa [B.Kd.chunk, B.Kd.flat] using B.cell_below HB.out (e5 0 (by simp))
      have q1 : wr.cell? ⟨b5, o5 + k * 2 + 1, none⟩ = some (.int .i64 xs[k].2) := by simpa [B.Kd.chunk, B.Kd.flat] using B.cell_below HB.out (e5 1 (by simp))
      have hk1 : (k : Int) < xs.length := by omega
      have cs := hp wr xs[k] (hb0.trans (HB.out.mono hbs))
      clear e5
      cases hpk : p xs[k] with
      | false =>
        rw [hpk] at cs
        have HT2 : Hid (∀ j (hj : j < xs.length), j < k + 1 → p xs[j] = false) := Lib.hid (fun j hj hjk => by
          rcases Nat.lt_or_eq_of_le (Nat.le_of_lt_succ hjk) with h1 | rfl
          · exact HT.out j hj h1
          · exact hpk)
        clear hpk
        go_wp2_with (go_at_call 39; refine cs.mono ?_; rintro e w5 ⟨rfl, HB5⟩)
        go_roundw
        case rel => exact ⟨k + 1, by go_num, by omega, HT2, Lib.hid (B.below_trans HB.out HB5)⟩
        case measure => simp [intOf]; omega
      | true =>
        rw [hpk] at cs
        have HX : Hid (idxI p xs = k) := Lib.hid (by
          have e : xs.findIdx? p = some k := by
            rw [List.findIdx?_eq_some_iff_getElem]
            exact ⟨hlt, hpk, fun j hj => by rw [HT.out j (by omega) hj]; decide⟩
          unfold idxI; rw [e])
        clear hpk
        go_wp2_with (go_at_call 39; refine cs.mono ?_; rintro e w5 ⟨rfl, HB5⟩)
        go_ret
        exact ⟨by rw [HX.out]; rfl, B.below_trans HB.out HB5⟩
    · obtain rfl : k = xs.length := by omega
      have HX : Hid (idxI p xs = -1) := Lib.hid (by
        have e : xs.findIdx? p = none := by
          rw [List.findIdx?_eq_none_iff]
          intro x hx
          obtain ⟨j, hj, rfl⟩ := List.getElem_of_mem hx
          exact HT.out j hj hj
        unfold idxI; rw [e])
      go_wp2
      go_ret
      exact ⟨by rw [HX.out]; rfl, HB.out⟩
theorem own_set {w : World} {base : Nat} {e : TypeId} {g n cap : Nat} {ys : List Ck} {i : Nat} (c : Ck) (h : B.Own w base e 2 Copy.ckE (.slice (some ⟨g, 0, none⟩) n cap) ys) (hi : i < ys.length) :
    B.Own ((w.setCell ⟨g, i * 2, none⟩ (.string c.1)).setCell ⟨g, i * 2 + 1, none⟩ (.int .i64 c.2)) base e 2 Copy.ckE (.slice (some ⟨g, 0, none⟩) n cap) (ys.set i c) ∧ w.grownBy ((w.setCell ⟨g, i * 2, none⟩ (.string c.1)).setCell ⟨g, i * 2 + 1, none⟩ (.int .i64 c.2)) (some g) := by
  have hn : n = ys.length := by obtain ⟨A, c', e'⟩ := Copy.shape h; simpa using congrArg (fun v => match v with | Value.slice _ n _ => n | _ => 0) e'
  subst hn
  obtain ⟨h1, g1⟩ := World.ownsRow.stored h (i * 2) (.string c.1)
  obtain ⟨h2, g2⟩ := World.ownsRow.stored h1 (i * 2 + 1) (.int .i64 c.2)
  refine ⟨?_, ⟨g2.os.trans g1.os, g2.tape.trans g1.tape, g2.output.trans g1.output, Nat.le_trans g1.size g2.size, fun k hk hne => (g2.block k (Nat.lt_of_lt_of_le hk g1.size) hne).trans (g1.block k hk hne)⟩⟩
  unfold B.Own
  rw [List.length_set, R.flat_set (enc := Copy.ckE) (k := 2) (fun _ => rfl) c ys i hi]
  have hl := R.flat_len (enc := Copy.ckE) (k := 2) (fun _ => rfl) ys
  have e2 : (((ys.flatMap Copy.ckE).set (i * 2) (.string c.1)).set (i * 2 + 1) (.int .i64 c.2)) = (ys.flatMap Copy.ckE).take (i * 2) ++ Copy.ckE c ++ (ys.flatMap Copy.ckE).drop ((i + 1) * 2) := by
    apply List.ext_getElem?
    intro q
    rw [List.getElem?_set, List.getElem?_set, List.length_set, List.append_assoc, List.getElem?_append, List.length_take, hl, Nat.min_eq_left (by omega)]
    by_cases q1 : q < i * 2
    · rw [if_neg (by omega), if_neg (by omega), if_pos q1, List.getElem?_take, if_pos q1]
    · rw [if_neg q1]
      by_cases q2 : q = i * 2
      · subst q2
        rw [if_neg (by omega), if_pos rfl, if_pos (by omega), Nat.sub_self]
        rfl
      · by_cases q3 : q = i * 2 + 1
        · subst q3
          rw [if_pos rfl, if_pos (by omega), show i * 2 + 1 - i * 2 = 1 from by omega]
          rfl
        · rw [if_neg (by omega), if_neg (by omega), List.getElem?_append_right (by simp [Copy.ckE]; omega), List.getElem?_drop]
          congr 1
          simp [Copy.ckE]
          omega
  rw [← e2]
  exact h2
theorem idxI_neg {p : Ck → Bool} {xs : List Ck} (h : idxI p xs = -1) : xs.filter (fun c => !p c) = xs := by
  unfold idxI at h
  split at h
  · omega
  · rename_i e
    rw [List.findIdx?_eq_none_iff] at e
    exact List.filter_eq_self.2 (fun c hc => by rw [e c hc]; rfl)
theorem idxI_pos {p : Ck → Bool} {xs : List Ck} (h : idxI p xs ≠ -1) : ∃ i, ∃ hi : i < xs.length, idxI p xs = (i : Int) ∧ p xs[i] = true ∧ (xs.take (i + 1)).filter (fun c => !p c) = xs.take i := by
  unfold idxI at h ⊢
  split
  · rename_i i e
    rw [List.findIdx?_eq_some_iff_getElem] at e
    obtain ⟨hi, hp, hno⟩ := e
    refine ⟨i, hi, rfl, hp, ?_⟩
    rw [← List.take_append_getElem hi, List.filter_append, List.filter_cons_of_neg (by simp [hp]), List.filter_nil, List.append_nil]
    refine List.filter_eq_self.2 (fun c hc => ?_)
    obtain ⟨j, hj, rfl⟩ := List.getElem_of_mem hc
    rw [List.getElem_take]
    have := hno j (by simp at hj; omega)
    simpa using this
  · rename_i e
    rw [e] at h
    exact absurd rfl h
theorem own_cell {w : World} {base : Nat} {e : TypeId} {g n cap : Nat} {ys : List Ck} (h : B.Own w base e 2 Copy.ckE (.slice (some ⟨g, 0, none⟩) n cap) ys) (j : Nat) (hj : j < ys.length) :
    w.cell? ⟨g, j * 2, none⟩ = some (.string ys[j].1) ∧ w.cell? ⟨g, j * 2 + 1, none⟩ = some (.int .i64 ys[j].2) := by
  have hn : n = ys.length := by obtain ⟨A, c', e'⟩ := Copy.shape h; simpa using congrArg (fun v => match v with | Value.slice _ n _ => n | _ => 0) e'
  subst hn
  have h0 := B.flatMap_at (k := 2) (enc := Copy.ckE) (fun _ => rfl) j hj 0 (by simp [Copy.ckE])
  have h1 := B.flatMap_at (k := 2) (enc := Copy.ckE) (fun _ => rfl) j hj 1 (by simp [Copy.ckE])
  exact ⟨(World.ownsRow.cellAt h (j * 2) (by omega)).trans h0, (World.ownsRow.cellAt h (j * 2 + 1) (by omega)).trans h1⟩
theorem zeroCk (w : World) : (zeroValue 48).run Tryd.prog w = .ok (.agg #[.string ⟨#[]⟩, .int .i64 0]) w := by kernel_rfl
set_option maxRecDepth 100000 in
theorem deleteChunks (p : Ck → Bool) (b base : Nat) (v : Value) (xs : List Ck) (w0 w : World) (hb0 : Below base w0 w) (hbs : base ≤ w.heap.size)
    (hp : ∀ W c, Below base w0 W → Calls Tryd.prog 39 #[.agg #[.string c.1, .int .i64 c.2], .pointer (some ⟨b, 0, none⟩)] W fun e w' => e = .returned (.bool (p c)) ∧ Below W.heap.size W w')
    (HO : B.Own w base 48 2 Copy.ckE v xs) (hn : xs.length ≤ 140737488355328) :
    Calls Tryd.prog 38 #[v, .func (.func 39) #[] #[.pointer (some ⟨b, 0, none⟩)]] w fun e w' => ∃ v', e = .returned v' ∧ B.Own w' base 48 2 Copy.ckE v' (xs.filter (fun c => !p c)) ∧ Below base w w' := by
  have ci := indexChunks p b base v xs w0 w hb0 hbs hp (B.own_chunk HO hn)
  by_cases hx : idxI p xs = -1
  · have HX := Lib.hid (idxI_neg hx)
    rw [hx] at ci
    obtain ⟨A, c, rfl⟩ := Copy.shape HO
    clear hx
    go_enter Tryd.func38, Tryd.ntmps38
    go_wp2_with (go_at_call 55; refine ci.mono ?_; rintro e w1 ⟨rfl, HB⟩)
    go_ret
    exact ⟨_, rfl, by rw [HX.out]; exact HO.below HB, HB.mono hbs⟩
  · obtain ⟨i0, hi0, he, hpi, htk⟩ := idxI_pos hx
    rw [he] at ci
    obtain ⟨g, cap, rfl⟩ : ∃ g cap, v = .slice (some ⟨g, 0, none⟩) xs.length cap := by
      rcases HO.2 with ⟨_, h0⟩ | ⟨g, cap, cur, e, _⟩
      · omega
      · exact ⟨g, cap, e⟩
    have HTK := Lib.hid htk
    have hib : ((i0 : Int) == -1) = false := beq_eq_false_iff_ne.2 (by omega)
    clear hx he hpi htk
    go_enter Tryd.func38, Tryd.ntmps38
    go_wp2_with (go_at_call 55; refine ci.mono ?_; rintro e w1 ⟨rfl, HB⟩)
    have HO1 := Lib.hid (HO.below HB)
    have HB1 := Lib.hid (HB.mono hbs)
    go_loopw [5, 6] (fun si sj wr => ∃ (i j : Nat) (ys : List Ck), si = .int .i64 i ∧ sj = .int .i64 j ∧ i < j ∧ j ≤ xs.length ∧ Hid (ys.length = xs.length) ∧ Hid (ys.take i = (xs.take j).filter (fun c => !p c)) ∧ Hid (∀ q, j ≤ q → ys[q]? = xs[q]?) ∧ Hid (B.Own wr base 48 2 Copy.ckE (.slice (some ⟨g, 0, none⟩) xs.length cap) ys) ∧ Hid (Below base w wr)) (fun _ sj _ => xs.length - (intOf sj).toNat)
    case atStart => exact ⟨i0, i0 + 1, xs, rfl, by go_num, by omega, by omega, Lib.hid rfl, Lib.hid HTK.out.symm, Lib.hid (fun _ _ => rfl), HO1, HB1⟩
    case round =>
      obtain ⟨i, j, ys, rfl, rfl, hij, hj, HL, HT, HE, HW, HBr⟩ := hrel
      by_cases hlt : j < xs.length
      · have hjy : j < ys.length := by rw [HL.out]; exact hlt
        have hiy : i < ys.length := by omega
        have hyj : ys[j] = xs[j] := by
          have := HE.out j (Nat.le_refl _)
          rw [List.getElem?_eq_getElem hjy, List.getElem?_eq_getElem hlt] at this
          exact Option.some.inj this
        obtain ⟨q0, q1⟩ := own_cell HW.out j hjy
        rw [hyj] at q0 q1
        have hj1 : (j : Int) < xs.length := by omega
        have hbw : base ≤ wr.heap.size := Nat.le_trans hbs HBr.out.size
        have HA := Lib.hid ((Below.refl _ wr).alloc (Nat.le_refl _) (.cells #[.string xs[j].1, .int .i64 xs[j].2] 48))
        have cs := hp _ xs[j] ((hb0.trans HBr.out).trans (HA.out.mono hbw))
        have HCN := Lib.hid (fun (r : Nat) (u : Value) (w2 : World) (hb : Below (wr.alloc (.cells #[.string xs[j].1, .int .i64 xs[j].2] 48)).heap.size (wr.alloc (.cells #[.string xs[j].1, .int .i64 xs[j].2] 48)) w2) (hc : (#[Value.string xs[j].1, .int .i64 xs[j].2] : Array Value)[r]? = some u) => (B.cell_below hb (by rw [World.cell?_alloc_new]; exact hc) : w2.cell? ⟨wr.heap.size, r, none⟩ = some u))
        have HE2 : Hid (∀ q, j + 1 ≤ q → ys[q]? = xs[q]?) := Lib.hid (fun q hq => HE.out q (by omega))
        clear hyj
        cases hpj : p xs[j] with
        | true =>
          rw [hpj] at cs
          have HT2 : Hid (ys.take i = (xs.take (j + 1)).filter (fun c => !p c)) := Lib.hid (by rw [← List.take_append_getElem hlt, List.filter_append, List.filter_cons_of_neg (by simp [hpj]), List.filter_nil, List.append_nil, HT.out])
          clear hpj
          go_wp2_with (go_at_call 39; refine cs.mono ?_; rintro e w5 ⟨rfl, HB5⟩; have g0 := HCN.out 0 _ _ HB5 rfl; have g1 := HCN.out 1 _ _ HB5 rfl)
          have HW5 := Lib.hid (HA.out.trans (HB5.mono (by simp)))
          go_roundw
          case rel => exact ⟨i, j + 1, ys, rfl, by go_num, by omega, by omega, HL, HT2, HE2, Lib.hid (HW.out.below HW5.out), Lib.hid (HBr.out.trans (HW5.out.mono hbw))⟩
          case measure => simp [intOf]; omega
        | false =>
          rw [hpj] at cs
          have HT2 : Hid ((ys.set i xs[j]).take (i + 1) = (xs.take (j + 1)).filter (fun c => !p c)) := Lib.hid (by
            rw [← List.take_append_getElem hlt, List.filter_append, List.filter_cons_of_pos (by simp [hpj]), List.filter_nil, ← HT.out, ← List.take_append_getElem (show i < (ys.set i xs[j]).length by simpa using hiy), List.take_set_of_le (Nat.le_refl i)]
            simp)
          have HE3 : Hid (∀ q, j + 1 ≤ q → (ys.set i xs[j])[q]? = xs[q]?) := Lib.hid (fun q hq => by rw [List.getElem?_set_ne (by omega)]; exact HE2.out q hq)
          have hgb : base ≤ g := (World.ownsRow.lt HW.out g rfl).1
          clear hpj
          have HF := Lib.hid (fun (w5 : World) (hb : Below (wr.alloc (.cells #[.string xs[j].1, .int .i64 xs[j].2] 48)).heap.size (wr.alloc (.cells #[.string xs[j].1, .int .i64 xs[j].2] 48)) w5) => (by
            have hw5 : Below wr.heap.size wr w5 := HA.out.trans (hb.mono (by simp))
            have ho5 := HW.out.below hw5
            exact ⟨hw5, ho5, (own_cell ho5 i hiy).1, (own_cell ho5 i hiy).2, (by have h := ho5; unfold B.Own at h; rw [HL.out] at h; exact World.ownsRow.frozenAt h _), (by have h := ho5; unfold B.Own at h; rw [HL.out] at h; exact World.ownsRow.frozenAt h _)⟩ : Below wr.heap.size wr w5 ∧ B.Own w5 base 48 2 Copy.ckE (.slice (some ⟨g, 0, none⟩) xs.length cap) ys ∧ w5.cell? ⟨g, i * 2, none⟩ = some (.string ys[i].1) ∧ w5.cell? ⟨g, i * 2 + 1, none⟩ = some (.int .i64 ys[i].2) ∧ w5.frozen? ⟨g, i * 2, none⟩ = false ∧ w5.frozen? ⟨g, i * 2 + 1, none⟩ = false))
          go_wp2_with (go_at_call 39; refine cs.mono ?_; rintro e w5 ⟨rfl, HB5⟩; have g0 := HCN.out 0 _ _ HB5 rfl; have g1 := HCN.out 1 _ _ HB5 rfl; obtain ⟨HW5', HO5', y0, y1, z0, z1⟩ := HF.out w5 HB5; have HW5 := Lib.hid HW5'; have HO5 := Lib.hid HO5'; clear HW5' HO5')
          obtain ⟨HO6, -⟩ := own_set xs[j] HO5.out hiy
          go_roundw
          case rel => exact ⟨i + 1, j + 1, ys.set i xs[j], by go_num, by go_num, by omega, by omega, Lib.hid (by rw [List.length_set, HL.out]), HT2, HE3, Lib.hid HO6, Lib.hid (((HBr.out.trans (HW5.out.mono hbw)).setCell (p := ⟨g, i * 2, none⟩) hgb _).setCell (p := ⟨g, i * 2 + 1, none⟩) hgb _)⟩
          case measure => simp [intOf]; omega
      · obtain rfl : j = xs.length := by omega
        have HT2 : Hid (ys.take i = xs.filter (fun c => !p c)) := Lib.hid (by rw [HT.out, List.take_length])
        have hgb : base ≤ g := (World.ownsRow.lt HW.out g rfl).1
        have hcap : xs.length ≤ cap := by
          rcases HW.out.2 with ⟨h', _⟩ | ⟨g', cap', cur, h', _, _, hnc, _⟩
          · cases h'
          · simp only [Value.slice.injEq, Option.some.injEq, Addr.mk.injEq, and_true, true_and] at h'
            have := HL.out
            omega
        obtain ⟨vs, hcl, HO6, hg6⟩ := R.clear_tail (P := Tryd.prog) (k := 2) (enc := Copy.ckE) (fun _ => rfl) 38 48 0 (.agg #[.string ⟨#[]⟩, .int .i64 0]) Tryd.underlying38 zeroCk (by intro v hv; simp [Value.cells] at hv; rcases hv with rfl | rfl <;> rfl) rfl HW.out HL.out hij
        have HO7 := Lib.hid HO6
        have HG7 := Lib.hid hg6
        clear HO6 hg6
        go_wp2
        go_ret
        exact ⟨_, rfl, by rw [← HT2.out]; exact HO7.out, HBr.out.grown HG7.out (Nat.le_trans hbs HBr.out.size) (fun k hk => by obtain rfl := Option.some.inj hk; exact hgb)⟩
end Go.Proofs.YtmcbljongeadeaaDoor.Told
