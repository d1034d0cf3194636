/- sync.Spare. -/
import Derived.Test.YtmcbljongeadeaaDoorRising
import Derived.Test.YtmcbljongeadeaaDoorDelStr
namespace Go.Proofs.YtmcbljongeadeaaDoor.Told
open Go.RowKit

/-- Spare's closure: the captured map lies in a cell. -/
theorem spareP (es : M.Es) (ks : List ByteArray) (hS : Seen es ks) (b bm : Nat) (s : ByteArray) (w : World) (hc : w.cell? ⟨b, 0, none⟩ = some (.map (some bm))) (hO : M.OM w bm es) :
    Calls Tryd.prog 33 #[.string s, .pointer (some ⟨b, 0, none⟩)] w fun e w' => e = .returned (.bool (decide (s ∈ ks))) ∧ Below w.heap.size w w' := by
  have HL := Lib.hid (hS s)
  by_cases hin : s ∈ ks
  · have HX : Hid (decide (s ∈ ks) = true) := Lib.hid (decide_eq_true hin)
    have HL2 : Hid (M.look es s = some (.bool true)) := Lib.hid (by rw [HL.out, if_pos hin])
    clear HL hin
    go_enter Tryd.func33, Tryd.ntmps33
    go_wp2_with (at_lookup; refine M.wpl_look rfl _ _ 58 rfl 9 4 Tryd.underlying58 Tryd.underlying9 _ (zeroBool _) bm es hO rfl _ rfl ?_; simp only [HL2.out, Option.getD_some])
    go_ret
    exact ⟨by rw [HX.out]; rfl, Below.refl _ _⟩
  · have HX : Hid (decide (s ∈ ks) = false) := Lib.hid (decide_eq_false hin)
    have HL2 : Hid (M.look es s = none) := Lib.hid (by rw [HL.out, if_neg hin])
    clear HL hin
    go_enter Tryd.func33, Tryd.ntmps33
    go_wp2_with (at_lookup; refine M.wpl_look rfl _ _ 58 rfl 9 4 Tryd.underlying58 Tryd.underlying9 _ (zeroBool _) bm es hO rfl _ rfl ?_; simp only [HL2.out, Option.getD_none])
    go_ret
    exact ⟨by rw [HX.out]; rfl, Below.refl _ _⟩
theorem spare_bad (no : Int) (v u : Value) (l : List Fl) (hs : List ByteArray) (hk : ∀ f ∈ l, f.1.size ≤ 9223372036854775807) (w : World) (h : B.Kd.file.S w v l) (h2 : B.Kd.str.S w u hs) (hf : haveFault no l hs ≠ 0) :
    Calls Tryd.prog 15 #[.agg #[.int .i64 no, v], u] w fun e w' => e = .returned (.tuple #[.slice none 0 0, .int .i64 (haveFault no l hs)]) ∧ Below w.heap.size w w' := by
  have HA := Lib.hid (fun (c : Array Value) (o : TypeId) => (Below.refl _ w).alloc (Nat.le_refl _) (.cells c o))
  have c1 := fun c o => haveFault_any no v u l hs hk _ (h.mono (HA.out c o)) (h2.mono (HA.out c o))
  obtain ⟨A, c, rfl, -⟩ := h
  obtain ⟨Ah, ch, rfl, -⟩ := h2
  generalize haveFault no l hs = n at c1 hf ⊢
  go_enter Tryd.func15, Tryd.ntmps15
  go_wp2_with (go_at_call 30; refine (c1 _ _).mono ?_; rintro e w2 ⟨rfl, HB⟩)
  go_ret2
  exact ⟨rfl, B.below_trans (HA.out _ _) HB⟩
/-- The strings of chunks. -/
def names (cs : List Ck) : List ByteArray := cs.map (·.1)
theorem names_append (a b : List Ck) : names (a ++ b) = names a ++ names b := List.map_append
set_option maxHeartbeats 4000000 in
theorem spare_ok (no : Int) (v u : Value) (l : List Fl) (hs : List ByteArray) (hk : ∀ f ∈ l, f.1.size ≤ 9223372036854775807) (w : World) (h : B.Kd.file.S w v l) (h2 : B.Kd.str.S w u hs) (hh : hs.length ≤ 100000) (hf : haveFault no l hs = 0) :
    Calls Tryd.prog 15 #[.agg #[.int .i64 no, v], u] w fun e w' => ∃ v', e = .returned (.tuple #[v', .int .i64 0]) ∧ B.Own w' w.heap.size 9 1 DelS.stE v' ((dd hs).filter (fun s => !decide (s ∈ names (l.flatMap (·.2))))) ∧ Below w.heap.size w w' := by
  have HA := Lib.hid (fun (c : Array Value) (o : TypeId) => (Below.refl _ w).alloc (Nat.le_refl _) (.cells c o))
  have c1 := fun c o => haveFault_any no v u l hs hk _ (h.mono (HA.out c o)) (h2.mono (HA.out c o))
  rw [hf] at c1
  have H2 := Lib.hid h2
  obtain ⟨A, c, rfl, C⟩ := h
  obtain ⟨Ah, ch, rfl, C2⟩ := h2
  have L2 := C2.1
  have L0 := C.1
  have hmm := @run_makeMap Tryd.prog
  have HN := Lib.hid (fun (c : Array Value) (o : TypeId) (i : Nat) (u : Value) (w2 : World) (hb : Below (w.alloc (.cells c o)).heap.size (w.alloc (.cells c o)) w2) (hc : c[i]? = some u) => (B.cell_below hb (by rw [World.cell?_alloc_new]; exact hc) : w2.cell? ⟨w.heap.size, i, none⟩ = some u))
  clear hk hf C2
  go_enter Tryd.func15, Tryd.ntmps15
  go_wp2_with (go_at_call 30; refine (c1 _ _).mono ?_; rintro e w2 ⟨rfl, HB⟩; have HBm := Lib.hid (B.below_trans (HA.out _ _) HB); have gg : ∀ o o', ((w2.alloc o).alloc o').cell? ⟨w.heap.size, 1, none⟩ = some (.slice A l.length c) := fun o o' => B.cell_below (((Below.refl _ w2).alloc (Nat.le_refl _) o).alloc (by simp) o') (HN.out _ _ 1 (.slice A l.length c) _ HB rfl))
  have HOM : Hid (M.OM ((w2.alloc (.map #[] 0)).alloc (.cells #[.map (some w2.heap.size)] 58)) w2.heap.size []) := Lib.hid ((M.OM.made w2).below ((Below.refl _ _).alloc (Nat.le_refl _) _))
  have HTC : Hid (((w2.alloc (.map #[] 0)).alloc (.cells #[.map (some w2.heap.size)] 58)).cell? ⟨w2.heap.size + 1, 0, none⟩ = some (.map (some w2.heap.size))) := Lib.hid (by
    rw [show w2.heap.size + 1 = (w2.alloc (.map #[] 0)).heap.size by simp, World.cell?_alloc_new]; rfl)
  have hbw : w.heap.size < w2.heap.size := by have := HB.size; simp at this; omega
  have HB2 : Hid (Below w.heap.size w ((w2.alloc (.map #[] 0)).alloc (.cells #[.map (some w2.heap.size)] 58))) := Lib.hid ((HBm.out.alloc (Nat.le_of_lt hbw) (.map #[] 0)).alloc (by simp; omega) _)
  clear HBm HB gg HN c1 HA
  generalize w2.heap.size = bm at HOM HTC HB2 hbw ⊢
  go_loopw [22] (fun so wr => ∃ (k : Nat) (es : M.Es) (ks : List ByteArray), so = .int .i64 k ∧ k ≤ l.length ∧ Hid (Seen es ks) ∧ Hid (∀ x, x ∈ ks ↔ x ∈ names ((l.take k).flatMap (·.2))) ∧ Hid (M.OM wr bm es) ∧ Hid (wr.cell? ⟨bm + 1, 0, none⟩ = some (.map (some bm))) ∧ Hid (Below w.heap.size w wr)) (fun so _ => l.length - (intOf so).toNat)
  case atStart => exact ⟨0, [], [], rfl, Nat.zero_le _, Lib.hid Seen.nil, Lib.hid (fun x => by simp [names]), HOM, HTC, HB2⟩
  case round =>
    obtain ⟨k, es, ks, rfl, hk, HS, HK, HO, HT, HB⟩ := hrel
    by_cases hlt : k < l.length
    · obtain ⟨b1, o1, cs1, rfl, K1, e1⟩ := C.at k hlt
      obtain ⟨A2, c2, rfl, D⟩ := K1
      have f0 : wr.cell? ⟨b1, o1 + k * 2, none⟩ = some (.string l[k].1) := by simpa [B.Kd.file] using B.cell_below HB.out (e1 0 (by simp))
      have f1 : wr.cell? ⟨b1, o1 + k * 2 + 1, none⟩ = some (.slice A2 l[k].2.length c2) := by simpa [B.Kd.file] using B.cell_below HB.out (e1 1 (by simp))
      have hk1 : (k : Int) < l.length := by omega
      have L2 := D.1
      have HD := Lib.hid D
      have HS1 := Lib.hid (HB.out.alloc (show w.heap.size ≤ wr.heap.size from HB.out.size) (.cells #[.string l[k].1, .slice A2 l[k].2.length c2] 53))
      have HB1 := Lib.hid ((Below.refl _ wr).alloc (Nat.le_refl _) (.cells #[.string l[k].1, .slice A2 l[k].2.length c2] 53))
      have HO1 := Lib.hid (HO.out.below HB1.out)
      have HT1 := Lib.hid (B.cell_below HB1.out HT.out)
      have HK1 : Hid (∀ x, x ∈ ks ↔ x ∈ names ((l.take k).flatMap (·.2) ++ l[k].2.take 0)) := Lib.hid (fun x => by rw [List.take_zero, List.append_nil]; exact HK.out x)
      clear e1 D HO HB HB1 HT HK
      go_wp2
      obtain ⟨es0, hes⟩ : ∃ x, x = es := ⟨_, rfl⟩
      obtain ⟨ks0, hks⟩ : ∃ x, x = ks := ⟨_, rfl⟩
      subst hes hks
      go_loopw [29] (fun si wr => ∃ (j : Nat) (es : M.Es) (ks : List ByteArray), si = .int .i64 j ∧ j ≤ l[k].2.length ∧ Hid (Seen es ks) ∧ Hid (∀ x, x ∈ ks ↔ x ∈ names ((l.take k).flatMap (·.2) ++ l[k].2.take j)) ∧ Hid (M.OM wr bm es) ∧ Hid (wr.cell? ⟨bm + 1, 0, none⟩ = some (.map (some bm))) ∧ Hid (Below w.heap.size w wr)) (fun si _ => l[k].2.length - (intOf si).toNat)
      case atStart => exact ⟨0, es0, ks0, rfl, Nat.zero_le _, HS, HK1, HO1, HT1, HS1⟩
      case round =>
        obtain ⟨j, es, ks, rfl, hj, HS, HK, HO, HT, HB⟩ := hrel
        by_cases hjl : j < l[k].2.length
        · obtain ⟨b5, o5, cs5, rfl, K5, e5⟩ := (HD.out.mono HB.out).at j hjl
          obtain rfl : cs5 = [.string l[k].2[j].1, .int .i64 l[k].2[j].2] := K5
          have q0 : wr.cell? ⟨b5, o5 + j * 2, none⟩ = some (.string l[k].2[j].1) := by simpa [B.Kd.chunk, B.Kd.flat] using e5 0 (by simp)
          have q1 : wr.cell? ⟨b5, o5 + j * 2 + 1, none⟩ = some (.int .i64 l[k].2[j].2) := by simpa [B.Kd.chunk, B.Kd.flat] using e5 1 (by simp)
          have hj1 : (j : Int) < l[k].2.length := by omega
          have HB3 := Lib.hid (HB.out.alloc (show w.heap.size ≤ wr.heap.size from HB.out.size) (.cells #[.string l[k].2[j].1, .int .i64 l[k].2[j].2] 48))
          have HB4 := Lib.hid ((Below.refl _ wr).alloc (Nat.le_refl _) (.cells #[.string l[k].2[j].1, .int .i64 l[k].2[j].2] 48))
          have HO3 := Lib.hid (HO.out.below HB4.out)
          have t3 := B.cell_below HB4.out HT.out
          have HT3 := Lib.hid t3
          have HSP := Lib.hid (HS.out.put l[k].2[j].1)
          have HKP : Hid (∀ x, x ∈ l[k].2[j].1 :: ks ↔ x ∈ names ((l.take k).flatMap (·.2) ++ l[k].2.take (j + 1))) := Lib.hid (fun x => by
            rw [← List.take_append_getElem hjl, ← List.append_assoc, names_append, List.mem_append, List.mem_cons, HK.out x]
            simp only [names, List.map_cons, List.map_nil, List.mem_singleton]
            exact Or.comm)
          have hbm : bm + 1 < wr.heap.size := World.block_lt_of_cell? wr _ HT.out
          clear e5 HK HO HB HT HB4
          go_wp2_with (at_mapUpdate; refine M.wpl_put rfl _ _ _ 58 rfl 9 4 Tryd.underlying58 Tryd.underlying9 bm es HO3.out rfl _ rfl _ rfl w w.heap.size HB3.out (Nat.le_of_lt hbw) ?_; intro w7 HO7 HB7 HG7)
          go_roundw
          case rel => exact ⟨j + 1, _, _, by go_num, by omega, HSP, HKP, Lib.hid HO7, Lib.hid (HG7.cell HT3.out (by simp)), Lib.hid HB7⟩
          case measure => simp [intOf]; omega
        · obtain rfl : j = l[k].2.length := by omega
          have HK2 : Hid (∀ x, x ∈ ks ↔ x ∈ names ((l.take (k + 1)).flatMap (·.2))) := Lib.hid (fun x => by
            rw [HK.out x, List.take_length, ← List.take_append_getElem hlt, List.flatMap_append, List.flatMap_singleton])
          go_wp2
          go_roundw
          case rel => exact ⟨k + 1, es, ks, by go_num, by omega, HS, HK2, HO, HT, HB⟩
          case measure => simp [intOf]; omega
    · obtain rfl : k = l.length := by omega
      have HK2 : Hid (∀ x, x ∈ ks ↔ x ∈ names (l.flatMap (·.2))) := Lib.hid (fun x => by rw [HK.out x, List.take_length])
      have cr := rising_any _ hs wr hh (H2.out.mono HB.out)
      have HP := Lib.hid (fun (w2 : World) (hb2 : Below wr.heap.size wr w2) (W : World) (x : ByteArray) (hb : Below wr.heap.size w2 W) => spareP es ks HS.out (bm + 1) bm x W (B.cell_below (hb2.trans hb) HT.out) (HO.out.below (hb2.trans hb)))
      clear HK HT HO
      go_wp2_with (first
        | (go_at_call 32; refine cr.mono ?_; rintro e w2 ⟨v2, rfl, HO2, HB5⟩; obtain ⟨A4, c4, rfl⟩ := Copy.shape HO2)
        | (go_at_call 31; refine (DelS.deleteSSp (fun x => decide (x ∈ ks)) _ _ _ _ _ _ (Below.refl _ _) HB5.size (fun W x hb => HP.out _ HB5 W x hb) HO2 (by have := dd_length hs; omega)).mono ?_; rintro e w3 ⟨v3, rfl, HO3, HB6⟩))
      go_ret2
      have e1 : (dd hs).filter (fun s => !decide (s ∈ names (l.flatMap (·.2)))) = (dd hs).filter (fun s => !decide (s ∈ ks)) := by
        congr 1
        funext s
        exact congrArg _ (by have := HK2.out s; by_cases hs : s ∈ ks <;> simp [hs, this.symm])
      rw [e1]
      exact ⟨_, rfl, Copy.own_mono HO3 HB.out.size, HB.out.trans ((HB5.trans HB6).mono HB.out.size)⟩
end Go.Proofs.YtmcbljongeadeaaDoor.Told
