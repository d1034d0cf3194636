/- The reference's each: the chunks of all files, each sum once. -/
import Derived.Test.YtmcbljongeadeaaDoorTold
namespace Go.Proofs.YtmcbljongeadeaaDoor.Told
open Go.RowKit
theorem sepM {α : Type} {w : World} {base b : Nat} {e : TypeId} {k : Nat} {enc : α → List Value} {v : Value} {xs : List α} {es : M.Es} (h : B.Own w base e k enc v xs) (h' : M.OM w b es) : v.ownBlock = none ∨ v.ownBlock ≠ some b := by
  rcases h.2 with ⟨rfl, _⟩ | ⟨g, cap, cur, rfl, _, hg, _⟩
  · exact Or.inl rfl
  · refine Or.inr fun e1 => ?_
    obtain ⟨arr, c, h1, _⟩ := h'
    obtain rfl : g = b := by simpa [Value.ownBlock] using e1
    rw [hg] at h1
    cases h1
theorem sepM' {α : Type} {w : World} {base b : Nat} {e : TypeId} {k : Nat} {enc : α → List Value} {v : Value} {xs : List α} {es : M.Es} (h : B.Own w base e k enc v xs) (h' : M.OM w b es) : some b ≠ v.ownBlock := by
  rcases sepM h h' with e | e
  · rw [e]; simp
  · exact fun e' => e e'.symm
theorem _root_.Go.Proofs.YtmcbljongeadeaaDoor.M.OM.grown {w w' : World} {b : Nat} {es : M.Es} {row : Option Nat} (h : M.OM w b es) (hg : w.grownBy w' row) (hne : some b ≠ row) : M.OM w' b es := by
  have hlt := h.lt
  obtain ⟨arr, c, h1, h2, h3⟩ := h
  exact ⟨arr, c, (hg.block b hlt hne).trans h1, h2, h3⟩
set_option maxHeartbeats 4000000 in
theorem eachOf (no : Int) (v : Value) (l : List Fl) (hl : l.length ≤ 1048576) (hc : ∀ f ∈ l, f.2.length ≤ 1048576) (w : World) (h : B.Kd.file.S w v l) :
    Calls Tryd.prog 29 #[.agg #[.int .i64 no, v]] w fun e w' => ∃ v', e = .returned v' ∧ B.Own w' w.heap.size 48 2 Copy.ckE v' (each [] (l.flatMap (·.2))) ∧ (each [] (l.flatMap (·.2))).length ≤ l.length * 1048576 ∧ Below w.heap.size w w' := by
  have HA := Lib.hid (fun (c : Array Value) (o : TypeId) => (Below.refl _ w).alloc (Nat.le_refl _) (.cells c o))
  obtain ⟨A, c, rfl, C⟩ := h
  have HC := Lib.hid hc
  have hmm := @run_makeMap Tryd.prog
  have HOM := Lib.hid (M.OM.made (w.alloc (.cells #[.int .i64 no, .slice A l.length c] 24)))
  have HB2 := Lib.hid ((HA.out #[.int .i64 no, .slice A l.length c] 24).alloc (by simp) (.map #[] 0))
  have k1 := fun o => B.cell_below ((Below.refl _ (w.alloc (.cells #[.int .i64 no, .slice A l.length c] 24))).alloc (Nat.le_refl _) o) (show (w.alloc (.cells #[.int .i64 no, .slice A l.length c] 24)).cell? ⟨w.heap.size, 1, none⟩ = some (.slice A l.length c) by rw [World.cell?_alloc_new]; rfl)
  clear hc
  go_enter Tryd.func29, Tryd.ntmps29
  go_wp2
  clear k1 HA
  have hbw : w.heap.size ≤ w.heap.size + 1 := Nat.le_succ _
  have HOM2 : Hid (M.OM ((w.alloc (.cells #[.int .i64 no, .slice A l.length c] 24)).alloc (.map #[] 0)) (w.heap.size + 1) []) := Lib.hid (by have := HOM.out; rwa [show (w.alloc (.cells #[.int .i64 no, .slice A l.length c] 24)).heap.size = w.heap.size + 1 by simp] at this)
  clear HOM
  have HOM := HOM2
  clear HOM2
  generalize w.heap.size + 1 = bm at HOM hbw ⊢
  go_loopw [3, 13] (fun s3 so wr => ∃ (k : Nat) (out : List Ck) (es : M.Es) (ks : List ByteArray), so = .int .i64 k ∧ k ≤ l.length ∧ out.length ≤ k * 1048576 ∧ Hid (B.Own wr w.heap.size 48 2 Copy.ckE s3 out) ∧ Hid (Seen es ks) ∧ Hid (M.OM wr bm es) ∧ Hid (each [] (l.flatMap (·.2)) = out ++ each ks ((l.drop k).flatMap (·.2))) ∧ Hid (Below w.heap.size w wr)) (fun _ so _ => l.length - (intOf so).toNat)
  case atStart => exact ⟨0, [], [], [], rfl, Nat.zero_le _, (by rw [Nat.zero_mul]; exact Nat.le_refl 0), Lib.hid (B.Own.nil _ _ _ _ _), Lib.hid Seen.nil, HOM, Lib.hid rfl, HB2⟩
  case round =>
    obtain ⟨k, out, es, ks, rfl, hk, hol, HW, HS, HO, HF, HB⟩ := hrel
    by_cases hlt : k < l.length
    · obtain ⟨b1, o1, cs1, rfl, K1, e1⟩ := C.at k hlt
      obtain ⟨A2, c2, rfl, D⟩ := K1
      have f0 : wr.cell? ⟨b1, o1 + k * 2, none⟩ = some (.string l[k].1) := by simpa [B.Kd.file] using B.cell_below HB.out (e1 0 (by simp))
      have f1 : wr.cell? ⟨b1, o1 + k * 2 + 1, none⟩ = some (.slice A2 l[k].2.length c2) := by simpa [B.Kd.file] using B.cell_below HB.out (e1 1 (by simp))
      have hk1 : (k : Int) < l.length := by omega
      have L2 := D.1
      have HD := Lib.hid D
      have HS1 := Lib.hid (HB.out.alloc (show w.heap.size ≤ wr.heap.size from HB.out.size) (.cells #[.string l[k].1, .slice A2 l[k].2.length c2] 53))
      have HO1 := Lib.hid (HO.out.below ((Below.refl _ _).alloc (Nat.le_refl _) (.cells #[.string l[k].1, .slice A2 l[k].2.length c2] 53)))
      have hd : (l.drop k).flatMap (·.2) = l[k].2.drop 0 ++ (l.drop (k + 1)).flatMap (·.2) := by rw [List.drop_eq_getElem_cons hlt, List.flatMap_cons, List.drop_zero]
      have HF1 := Lib.hid (hd ▸ HF.out)
      have hcl := HC.out _ (List.getElem_mem hlt)
      have HW1 := Lib.hid (HW.out.below ((Below.refl _ _).alloc (Nat.le_refl _) (.cells #[.string l[k].1, .slice A2 l[k].2.length c2] 53)))
      clear e1 D HF HO HB hd HW
      go_wp2
      go_loopw [3, 20] (fun s3 si wr => ∃ (j : Nat) (out : List Ck) (es : M.Es) (ks : List ByteArray), si = .int .i64 j ∧ j ≤ l[k].2.length ∧ out.length ≤ k * 1048576 + j ∧ Hid (B.Own wr w.heap.size 48 2 Copy.ckE s3 out) ∧ Hid (Seen es ks) ∧ Hid (M.OM wr bm es) ∧ Hid (each [] (l.flatMap (·.2)) = out ++ each ks (l[k].2.drop j ++ (l.drop (k + 1)).flatMap (·.2))) ∧ Hid (Below w.heap.size w wr)) (fun _ si _ => l[k].2.length - (intOf si).toNat)
      case atStart => exact ⟨0, out, es, ks, rfl, Nat.zero_le _, (by rw [Nat.add_zero]; exact hol), HW1, HS, HO1, HF1, HS1⟩
      case round =>
        obtain ⟨j, out, es, ks, rfl, hj, hol, HW, HS, HO, HF, HB⟩ := hrel
        by_cases hjl : j < l[k].2.length
        · obtain ⟨b5, o5, cs5, rfl, K5, e5⟩ := (HD.out.mono HB.out).at j hjl
          obtain rfl : cs5 = [.string l[k].2[j].1, .int .i64 l[k].2[j].2] := K5
          have q0 : wr.cell? ⟨b5, o5 + j * 2, none⟩ = some (.string l[k].2[j].1) := by simpa [B.Kd.chunk, B.Kd.flat] using e5 0 (by simp)
          have q1 : wr.cell? ⟨b5, o5 + j * 2 + 1, none⟩ = some (.int .i64 l[k].2[j].2) := by simpa [B.Kd.chunk, B.Kd.flat] using e5 1 (by simp)
          have hj1 : (j : Int) < l[k].2.length := by omega
          have HF2 := HF.out
          rw [List.drop_eq_getElem_cons hjl, List.cons_append, each] at HF2
          have HB3 := Lib.hid (HB.out.alloc (show w.heap.size ≤ wr.heap.size from HB.out.size) (.cells #[.string l[k].2[j].1, .int .i64 l[k].2[j].2] 48))
          have HO3 := Lib.hid (HO.out.below ((Below.refl _ _).alloc (Nat.le_refl _) (.cells #[.string l[k].2[j].1, .int .i64 l[k].2[j].2] 48)))
          have HL := HS.out l[k].2[j].1
          have HCN := Lib.hid (fun (i : Nat) (u : Value) (hc : (#[Value.string l[k].2[j].1, .int .i64 l[k].2[j].2] : Array Value)[i]? = some u) => (by rw [World.cell?_alloc_new]; exact hc : (wr.alloc (.cells #[.string l[k].2[j].1, .int .i64 l[k].2[j].2] 48)).cell? ⟨wr.heap.size, i, none⟩ = some u))
          have HW3 := Lib.hid (HW.out.below ((Below.refl _ _).alloc (Nat.le_refl _) (.cells #[.string l[k].2[j].1, .int .i64 l[k].2[j].2] 48)))
          clear e5 HF
          by_cases hin : l[k].2[j].1 ∈ ks
          · rw [if_pos hin] at HL HF2
            have HLK := Lib.hid HL
            have HF3 := Lib.hid HF2
            clear HL HF2 hin HCN
            go_wp2_with (at_lookup; refine M.wpl_look rfl _ _ 58 rfl 9 4 Tryd.underlying58 Tryd.underlying9 _ (zeroBool _) bm es HO3.out rfl _ rfl ?_; simp only [HLK.out, Option.getD_some])
            go_roundw
            case rel => exact ⟨j + 1, out, es, ks, by go_num, by omega, by omega, HW3, HS, HO3, HF3, HB3⟩
            case measure => simp [intOf]; omega
          · rw [if_neg hin] at HL HF2
            have HLK := Lib.hid HL
            have HF3 := Lib.hid HF2
            have HSP := Lib.hid (HS.out.put l[k].2[j].1)
            clear HL HF2 hin
            go_wp2_with (first
              | (at_lookup; refine M.wpl_look rfl _ _ 58 rfl 9 4 Tryd.underlying58 Tryd.underlying9 _ (zeroBool _) bm es HO3.out rfl _ rfl ?_; simp only [HLK.out, Option.getD_none])
              | (at_mapUpdate; refine M.wpl_put rfl _ _ _ 58 rfl 9 4 Tryd.underlying58 Tryd.underlying9 bm es HO3.out rfl _ rfl _ rfl w w.heap.size HB3.out hbw ?_; intro w7 HO7 HB7 HG7; have r6 := HG7.cell (HCN.out 0 _ rfl) (by have := HO.out.lt; simp; omega); have r7 := HG7.cell (HCN.out 1 _ rfl) (by have := HO.out.lt; simp; omega); have HW7 := Lib.hid (Copy.own_grown HW3.out HG7 (sepM HW3.out HO3.out)))
              | (at_builtin; refine Copy.wpl_append_g (w0 := w) w.heap.size rfl _ _ 38 48 (.agg #[.string ⟨#[]⟩, .int .i64 0]) 2 24 rfl Tryd.underlying38 Copy.info_chunk rfl (by decide) (by decide) Copy.ckE (fun _ => rfl) Copy.ckE1 _ out l[k].2[j] _ rfl HW7.out rfl _ rfl rfl HB7 (by have := HB7.size; exact this) (by omega) ?_; intro v8 w8 HW8 HB8 HG8))
            go_roundw
            case rel => exact ⟨j + 1, _, _, _, by go_num, by omega, by simp; omega, Lib.hid HW8, HSP, Lib.hid ((HO7.below ((Below.refl _ _).alloc (Nat.le_refl _) _)).grown HG8 (sepM' HW7.out HO7)), Lib.hid (by rw [HF3.out, List.append_assoc]; rfl), Lib.hid HB8⟩
            case measure => simp [intOf]; omega
        · obtain rfl : j = l[k].2.length := by omega
          have HF2 : Hid (each [] (l.flatMap (·.2)) = out ++ each ks ((l.drop (k + 1)).flatMap (·.2))) := Lib.hid (by rw [HF.out, List.drop_length, List.nil_append])
          go_wp2
          go_roundw
          case rel => exact ⟨k + 1, out, es, ks, by go_num, by omega, by omega, HW, HS, HO, HF2, HB⟩
          case measure => simp [intOf]; omega
    · obtain rfl : k = l.length := by omega
      have HF2 : Hid (each [] (l.flatMap (·.2)) = out) := Lib.hid (by rw [HF.out, List.drop_length]; exact List.append_nil _)
      go_wp2
      go_ret
      exact ⟨_, rfl, by rw [HF2.out]; exact HW.out, by rw [HF2.out]; exact hol, HB.out⟩
end Go.Proofs.YtmcbljongeadeaaDoor.Told
