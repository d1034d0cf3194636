/- sync.Missing. -/
import Derived.Test.YtmcbljongeadeaaDoorHave
namespace Go.Proofs.YtmcbljongeadeaaDoor.Told
open Go.RowKit

theorem missing_bad (no : Int) (v u : Value) (l : List Fl) (hs : List ByteArray) (hk : ∀ f ∈ l, f.1.size ≤ 9223372036854775807) (w : World) (h : B.Kd.file.S w v l) (h2 : B.Kd.str.S w u hs) (hf : haveFault no l hs ≠ 0) :
    Calls Tryd.prog 14 #[.agg #[.int .i64 no, v], u] w fun e w' => e = .returned (.tuple #[.slice none 0 0, .int .i64 (haveFault no l hs)]) ∧ Below w.heap.size w w' := by
  have HA := Lib.hid (fun (c : Array Value) (o : TypeId) => (Below.refl _ w).alloc (Nat.le_refl _) (.cells c o))
  have c1 := fun c o => haveFault_any no v u l hs hk _ (h.mono (HA.out c o)) (h2.mono (HA.out c o))
  obtain ⟨A, c, rfl, -⟩ := h
  obtain ⟨A2, c2, rfl, -⟩ := h2
  generalize haveFault no l hs = n at c1 hf
  go_enter Tryd.func14, Tryd.ntmps14
  go_wp2_with (go_at_call 30; refine (c1 _ _).mono ?_; rintro e w2 ⟨rfl, HB⟩)
  go_ret2
  exact ⟨rfl, B.below_trans (HA.out _ _) HB⟩
set_option maxHeartbeats 4000000 in
theorem missing_ok (no : Int) (v u : Value) (l : List Fl) (hs : List ByteArray) (hl : l.length ≤ 1048576) (hc : ∀ f ∈ l, f.2.length ≤ 1048576) (hk : ∀ f ∈ l, f.1.size ≤ 9223372036854775807) (w : World) (h : B.Kd.file.S w v l) (h2 : B.Kd.str.S w u hs) (hf : haveFault no l hs = 0) :
    Calls Tryd.prog 14 #[.agg #[.int .i64 no, v], u] w fun e w' => ∃ v', e = .returned (.tuple #[v', .int .i64 0]) ∧ B.Own w' w.heap.size 48 2 Copy.ckE v' (each hs (l.flatMap (·.2))) ∧ (each hs (l.flatMap (·.2))).length ≤ l.length * 1048576 ∧ Below w.heap.size w w' := by
  have HA := Lib.hid (fun (c : Array Value) (o : TypeId) => (Below.refl _ w).alloc (Nat.le_refl _) (.cells c o))
  have c1 := fun c o => haveFault_any no v u l hs hk _ (h.mono (HA.out c o)) (h2.mono (HA.out c o))
  rw [hf] at c1
  obtain ⟨A, c, rfl, C⟩ := h
  obtain ⟨Ah, ch, rfl, C2⟩ := h2
  have HC := Lib.hid hc
  have L2 := C2.1
  have hmm := @run_makeMap Tryd.prog
  have HN := Lib.hid (fun (c : Array Value) (o : TypeId) (i : Nat) (u : Value) (w2 : World) (hb : Below (w.alloc (.cells c o)).heap.size (w.alloc (.cells c o)) w2) (hc : c[i]? = some u) => (B.cell_below hb (by rw [World.cell?_alloc_new]; exact hc) : w2.cell? ⟨w.heap.size, i, none⟩ = some u))
  clear hc hk hf
  go_enter Tryd.func14, Tryd.ntmps14
  go_wp2_with (go_at_call 30; refine (c1 _ _).mono ?_; rintro e w2 ⟨rfl, HB⟩; have g1 := Lib.hid (HN.out _ _ 1 _ _ HB rfl); have HBm := Lib.hid (B.below_trans (HA.out _ _) HB))
  have HOM := Lib.hid (M.OM.made w2)
  have hbw : w.heap.size < w2.heap.size := by have := HB.size; simp at this; omega
  have HB2 := Lib.hid (HBm.out.alloc (Nat.le_of_lt hbw) (.map #[] 0))
  have hbm : w2.heap.size ≤ w2.heap.size := Nat.le_refl _
  have HG := Lib.hid (B.cell_below ((Below.refl _ w2).alloc (Nat.le_refl _) (.map #[] 0)) g1.out)
  clear HBm HB g1 HN c1 HA
  generalize w2.heap.size = bm at HOM hbw hbm ⊢
  have HG1 : Hid ((w2.alloc (.map #[] 0)).cell? ⟨w.heap.size, 1, none⟩ = some (.slice A l.length c)) := HG
  clear HG hbm
  go_loopw [24] (fun so wr => ∃ (k : Nat) (es : M.Es) (ks : List ByteArray), so = .int .i64 k ∧ k ≤ hs.length ∧ Hid (Seen es ks) ∧ Hid (∀ x, x ∈ ks ↔ x ∈ hs.take k) ∧ Hid (M.OM wr bm es) ∧ Hid (wr.cell? ⟨w.heap.size, 1, none⟩ = some (.slice A l.length c)) ∧ Hid (Below w.heap.size w wr)) (fun so _ => hs.length - (intOf so).toNat)
  case atStart => exact ⟨0, [], [], rfl, Nat.zero_le _, Lib.hid Seen.nil, Lib.hid (fun x => by simp), HOM, HG1, HB2⟩
  case round =>
    obtain ⟨k, es, ks, rfl, hk, HS, HK, HO, HG, HB⟩ := hrel
    by_cases hlt : k < hs.length
    · obtain ⟨b5, o5, cs5, rfl, K5, e5⟩ := C2.at k hlt
      obtain rfl : cs5 = [.string hs[k]] := K5
      have q0 : wr.cell? ⟨b5, o5 + k, none⟩ = some (.string hs[k]) := by simpa [B.Kd.str, B.Kd.flat] using B.cell_below HB.out (e5 0 (by simp))
      have hk1 : (k : Int) < hs.length := by omega
      have HSP := Lib.hid (HS.out.put hs[k])
      have HKP : Hid (∀ x, x ∈ hs[k] :: ks ↔ x ∈ hs.take (k + 1)) := Lib.hid (fun x => by rw [← List.take_append_getElem hlt, List.mem_append, List.mem_cons, HK.out x, List.mem_singleton]; exact Or.comm)
      clear e5
      go_wp2_with (at_mapUpdate; refine M.wpl_put rfl _ _ _ 58 rfl 9 4 Tryd.underlying58 Tryd.underlying9 bm es HO.out rfl _ rfl _ rfl w w.heap.size HB.out (Nat.le_of_lt hbw) ?_; intro w7 HO7 HB7 HG7)
      go_roundw
      case rel => exact ⟨k + 1, _, _, by go_num, by omega, HSP, HKP, Lib.hid HO7, Lib.hid (HG7.cell HG.out (by simp; omega)), Lib.hid HB7⟩
      case measure => simp [intOf]; omega
    · obtain rfl : k = hs.length := by omega
      have HKS : Hid (∀ x, x ∈ hs ↔ x ∈ ks) := Lib.hid (fun x => by rw [HK.out x, List.take_length])
      have g1 := HG.out
      have hbw := Nat.le_of_lt hbw
      clear HK HG HB2 HOM HG1
      go_wp2
      have HS0 := HS
      have HB2 := HB
      have HOM := HO
      clear HS HB HO g1
      obtain ⟨es0, hes⟩ : ∃ x, x = es := ⟨_, rfl⟩
      obtain ⟨ks0, hks⟩ : ∃ x, x = ks := ⟨_, rfl⟩
      subst hes hks
      go_loopw [10, 34] (fun s10 so wr => ∃ (k : Nat) (out : List Ck) (es : M.Es) (ks : List ByteArray), so = .int .i64 k ∧ k ≤ l.length ∧ out.length ≤ k * 1048576 ∧ Hid (B.Own wr w.heap.size 48 2 Copy.ckE s10 out) ∧ Hid (Seen es ks) ∧ Hid (M.OM wr bm es) ∧ Hid (each hs (l.flatMap (·.2)) = out ++ each ks ((l.drop k).flatMap (·.2))) ∧ Hid (Below w.heap.size w wr)) (fun _ so _ => l.length - (intOf so).toNat)
      case atStart => exact ⟨0, [], es0, ks0, rfl, Nat.zero_le _, (by rw [Nat.zero_mul]; exact Nat.le_refl 0), Lib.hid (B.Own.nil _ _ _ _ _), HS0, HOM, Lib.hid (each_congr HKS.out _), HB2⟩
      case round =>
        obtain ⟨k, out, es, ks, rfl, hk, hol, HW, HS, HO, HF, HB⟩ := hrel
        by_cases hlt : k < l.length
        · obtain ⟨b1, o1, cs1, rfl, K1, e1⟩ := C.at k hlt
          obtain ⟨A2, c2, rfl, D⟩ := K1
          have f0 : wr.cell? ⟨b1, o1 + k * 2, none⟩ = some (.string l[k].1) := by simpa [B.Kd.file] using B.cell_below HB.out (e1 0 (by simp))
          have f1 : wr.cell? ⟨b1, o1 + k * 2 + 1, none⟩ = some (.slice A2 l[k].2.length c2) := by simpa [B.Kd.file] using B.cell_below HB.out (e1 1 (by simp))
          have hk1 : (k : Int) < l.length := by omega
          have L2 := D.1
          have HD := Lib.hid D
          have HS1 := Lib.hid (HB.out.alloc (show w.heap.size ≤ wr.heap.size from HB.out.size) (.cells #[.string l[k].1, .slice A2 l[k].2.length c2] 53))
          have HO1 := Lib.hid (HO.out.below ((Below.refl _ _).alloc (Nat.le_refl _) (.cells #[.string l[k].1, .slice A2 l[k].2.length c2] 53)))
          have hd : (l.drop k).flatMap (·.2) = l[k].2.drop 0 ++ (l.drop (k + 1)).flatMap (·.2) := by rw [List.drop_eq_getElem_cons hlt, List.flatMap_cons, List.drop_zero]
          have HF1 := Lib.hid (hd ▸ HF.out)
          have hcl := HC.out _ (List.getElem_mem hlt)
          have HW1 := Lib.hid (HW.out.below ((Below.refl _ _).alloc (Nat.le_refl _) (.cells #[.string l[k].1, .slice A2 l[k].2.length c2] 53)))
          clear e1 D HF HO HB hd HW
          go_wp2
          go_loopw [10, 41] (fun s10 si wr => ∃ (j : Nat) (out : List Ck) (es : M.Es) (ks : List ByteArray), si = .int .i64 j ∧ j ≤ l[k].2.length ∧ out.length ≤ k * 1048576 + j ∧ Hid (B.Own wr w.heap.size 48 2 Copy.ckE s10 out) ∧ Hid (Seen es ks) ∧ Hid (M.OM wr bm es) ∧ Hid (each hs (l.flatMap (·.2)) = out ++ each ks (l[k].2.drop j ++ (l.drop (k + 1)).flatMap (·.2))) ∧ Hid (Below w.heap.size w wr)) (fun _ si _ => l[k].2.length - (intOf si).toNat)
          case atStart => exact ⟨0, out, es, ks, rfl, Nat.zero_le _, (by rw [Nat.add_zero]; exact hol), HW1, HS, HO1, HF1, HS1⟩
          case round =>
            obtain ⟨j, out, es, ks, rfl, hj, hol, HW, HS, HO, HF, HB⟩ := hrel
            by_cases hjl : j < l[k].2.length
            · obtain ⟨b5, o5, cs5, rfl, K5, e5⟩ := (HD.out.mono HB.out).at j hjl
              obtain rfl : cs5 = [.string l[k].2[j].1, .int .i64 l[k].2[j].2] := K5
              have q0 : wr.cell? ⟨b5, o5 + j * 2, none⟩ = some (.string l[k].2[j].1) := by simpa [B.Kd.chunk, B.Kd.flat] using e5 0 (by simp)
              have q1 : wr.cell? ⟨b5, o5 + j * 2 + 1, none⟩ = some (.int .i64 l[k].2[j].2) := by simpa [B.Kd.chunk, B.Kd.flat] using e5 1 (by simp)
              have hj1 : (j : Int) < l[k].2.length := by omega
              have HF2 := HF.out
              rw [List.drop_eq_getElem_cons hjl, List.cons_append, each] at HF2
              have HB3 := Lib.hid (HB.out.alloc (show w.heap.size ≤ wr.heap.size from HB.out.size) (.cells #[.string l[k].2[j].1, .int .i64 l[k].2[j].2] 48))
              have HO3 := Lib.hid (HO.out.below ((Below.refl _ _).alloc (Nat.le_refl _) (.cells #[.string l[k].2[j].1, .int .i64 l[k].2[j].2] 48)))
              have HL := HS.out l[k].2[j].1
              have HCN := Lib.hid (fun (i : Nat) (u : Value) (hc : (#[Value.string l[k].2[j].1, .int .i64 l[k].2[j].2] : Array Value)[i]? = some u) => (by rw [World.cell?_alloc_new]; exact hc : (wr.alloc (.cells #[.string l[k].2[j].1, .int .i64 l[k].2[j].2] 48)).cell? ⟨wr.heap.size, i, none⟩ = some u))
              have HW3 := Lib.hid (HW.out.below ((Below.refl _ _).alloc (Nat.le_refl _) (.cells #[.string l[k].2[j].1, .int .i64 l[k].2[j].2] 48)))
              clear e5 HF
              by_cases hin : l[k].2[j].1 ∈ ks
              · rw [if_pos hin] at HL HF2
                have HLK := Lib.hid HL
                have HF3 := Lib.hid HF2
                clear HL HF2 hin HCN
                go_wp2_with (at_lookup; refine M.wpl_look rfl _ _ 58 rfl 9 4 Tryd.underlying58 Tryd.underlying9 _ (zeroBool _) bm es HO3.out rfl _ rfl ?_; simp only [HLK.out, Option.getD_some])
                go_roundw
                case rel => exact ⟨j + 1, out, es, ks, by go_num, by omega, by omega, HW3, HS, HO3, HF3, HB3⟩
                case measure => simp [intOf]; omega
              · rw [if_neg hin] at HL HF2
                have HLK := Lib.hid HL
                have HF3 := Lib.hid HF2
                have HSP := Lib.hid (HS.out.put l[k].2[j].1)
                clear HL HF2 hin
                go_wp2_with (first
                  | (at_lookup; refine M.wpl_look rfl _ _ 58 rfl 9 4 Tryd.underlying58 Tryd.underlying9 _ (zeroBool _) bm es HO3.out rfl _ rfl ?_; simp only [HLK.out, Option.getD_none])
                  | (at_mapUpdate; refine M.wpl_put rfl _ _ _ 58 rfl 9 4 Tryd.underlying58 Tryd.underlying9 bm es HO3.out rfl _ rfl _ rfl w w.heap.size HB3.out hbw ?_; intro w7 HO7 HB7 HG7; have r6 := HG7.cell (HCN.out 0 _ rfl) (by have := HO.out.lt; simp; omega); have r7 := HG7.cell (HCN.out 1 _ rfl) (by have := HO.out.lt; simp; omega); have HW7 := Lib.hid (Copy.own_grown HW3.out HG7 (sepM HW3.out HO3.out)))
                  | (at_builtin; refine Copy.wpl_append_g (w0 := w) w.heap.size rfl _ _ 38 48 (.agg #[.string ⟨#[]⟩, .int .i64 0]) 2 24 rfl Tryd.underlying38 Copy.info_chunk rfl (by decide) (by decide) Copy.ckE (fun _ => rfl) Copy.ckE1 _ out l[k].2[j] _ rfl HW7.out rfl _ rfl rfl HB7 (by have := HB7.size; exact this) (by omega) ?_; intro v8 w8 HW8 HB8 HG8))
                go_roundw
                case rel => exact ⟨j + 1, _, _, _, by go_num, by omega, by simp; omega, Lib.hid HW8, HSP, Lib.hid ((HO7.below ((Below.refl _ _).alloc (Nat.le_refl _) _)).grown HG8 (sepM' HW7.out HO7)), Lib.hid (by rw [HF3.out, List.append_assoc]; rfl), Lib.hid HB8⟩
                case measure => simp [intOf]; omega
            · obtain rfl : j = l[k].2.length := by omega
              have HF2 : Hid (each hs (l.flatMap (·.2)) = out ++ each ks ((l.drop (k + 1)).flatMap (·.2))) := Lib.hid (by rw [HF.out, List.drop_length, List.nil_append])
              go_wp2
              go_roundw
              case rel => exact ⟨k + 1, out, es, ks, by go_num, by omega, by omega, HW, HS, HO, HF2, HB⟩
              case measure => simp [intOf]; omega
        · obtain rfl : k = l.length := by omega
          have HF2 : Hid (each hs (l.flatMap (·.2)) = out) := Lib.hid (by rw [HF.out, List.drop_length]; exact List.append_nil _)
          go_wp2
          go_ret2
          exact ⟨_, rfl, by rw [HF2.out]; exact HW.out, by rw [HF2.out]; exact hol, HB.out⟩
end Go.Proofs.YtmcbljongeadeaaDoor.Told
