/- The reference's BytesOf. -/
import Derived.Test.YtmcbljongeadeaaDoorEach
namespace Go.Proofs.YtmcbljongeadeaaDoor.Told
open Go.RowKit

theorem bytesOf (no : Int) (v : Value) (l : List Fl) (hl : l.length ≤ 1048576) (hc : ∀ f ∈ l, f.2.length ≤ 1048576) (w : World) (h : B.Kd.file.S w v l) :
    Calls Tryd.prog 13 #[.agg #[.int .i64 no, v]] w fun e w' => e = .returned (.tuple #[.int .i64 (addW 0 (l.flatMap (·.2))), .int .i64 (addW 0 (each [] (l.flatMap (·.2))))]) ∧ Below w.heap.size w w' := by
  have ce := fun W hW => eachOf no v l hl hc W (h.mono hW)
  have HL := Lib.hid hl
  clear hl hc
  have HA := Lib.hid (fun (c : Array Value) (o : TypeId) => (Below.refl _ w).alloc (Nat.le_refl _) (.cells c o))
  obtain ⟨A, c, rfl, C⟩ := h
  have L1 := C.1
  have HK0 := Lib.hid (show (w.alloc (.cells #[.int .i64 no, .slice A l.length c] 24)).cell? ⟨w.heap.size, 0, none⟩ = some (.int .i64 no) by rw [World.cell?_alloc_new]; rfl)
  have HK1 := Lib.hid (show (w.alloc (.cells #[.int .i64 no, .slice A l.length c] 24)).cell? ⟨w.heap.size, 1, none⟩ = some (.slice A l.length c) by rw [World.cell?_alloc_new]; rfl)
  go_enter Tryd.func13, Tryd.ntmps13
  go_wp2
  have HW0 := Lib.hid (HA.out #[.int .i64 no, .slice A l.length c] 24)
  go_loopw [2, 13] (fun s2 so wr => ∃ (k : Nat) (n : Int), so = .int .i64 k ∧ s2 = .int .i64 n ∧ k ≤ l.length ∧ Hid (addW 0 (l.flatMap (·.2)) = addW n ((l.drop k).flatMap (·.2))) ∧ Hid (Below (w.heap.size + 1) (w.alloc (.cells #[.int .i64 no, .slice A l.length c] 24)) wr)) (fun _ so _ => l.length - (intOf so).toNat)
  case atStart => exact ⟨0, 0, rfl, rfl, Nat.zero_le _, Lib.hid rfl, Lib.hid (Below.refl _ _)⟩
  case round =>
    obtain ⟨k, n, rfl, rfl, hk, HE, HB1⟩ := hrel
    have HB := Lib.hid (HW0.out.trans (HB1.out.mono (Nat.le_succ _)))
    by_cases hlt : k < l.length
    · obtain ⟨b1, o1, cs1, rfl, K1, e1⟩ := C.at k hlt
      obtain ⟨A2, c2, rfl, D⟩ := K1
      have f0 : wr.cell? ⟨b1, o1 + k * 2, none⟩ = some (.string l[k].1) := by simpa [B.Kd.file] using B.cell_below HB.out (e1 0 (by simp))
      have f1 : wr.cell? ⟨b1, o1 + k * 2 + 1, none⟩ = some (.slice A2 l[k].2.length c2) := by simpa [B.Kd.file] using B.cell_below HB.out (e1 1 (by simp))
      have hk1 : (k : Int) < l.length := by omega
      have L2 := D.1
      have HD := Lib.hid D
      have hsz : w.heap.size + 1 ≤ wr.heap.size := by have := HB1.out.size; simpa using this
      have HS1 := Lib.hid (HB1.out.alloc hsz (.cells #[.string l[k].1, .slice A2 l[k].2.length c2] 53))
      have hd : (l.drop k).flatMap (·.2) = l[k].2.drop 0 ++ (l.drop (k + 1)).flatMap (·.2) := by rw [List.drop_eq_getElem_cons hlt, List.flatMap_cons, List.drop_zero]
      have HE1 := Lib.hid (hd ▸ HE.out)
      clear e1 D HE HB HB1 hd hsz
      go_wp2
      go_loopw [2, 20] (fun s2 si wr => ∃ (j : Nat) (n : Int), si = .int .i64 j ∧ s2 = .int .i64 n ∧ j ≤ l[k].2.length ∧ Hid (addW 0 (l.flatMap (·.2)) = addW n (l[k].2.drop j ++ (l.drop (k + 1)).flatMap (·.2))) ∧ Hid (Below (w.heap.size + 1) (w.alloc (.cells #[.int .i64 no, .slice (some ⟨b1, o1, none⟩) l.length c] 24)) wr)) (fun _ si _ => l[k].2.length - (intOf si).toNat)
      case atStart => exact ⟨0, n, rfl, rfl, Nat.zero_le _, HE1, HS1⟩
      case round =>
        obtain ⟨j, n, rfl, rfl, hj, HE, HB1⟩ := hrel
        by_cases hjl : j < l[k].2.length
        · have HB := Lib.hid (HW0.out.trans (HB1.out.mono (Nat.le_succ _)))
          obtain ⟨b5, o5, cs5, rfl, K5, e5⟩ := (HD.out.mono HB.out).at j hjl
          obtain rfl : cs5 = [.string l[k].2[j].1, .int .i64 l[k].2[j].2] := K5
          have q0 : wr.cell? ⟨b5, o5 + j * 2, none⟩ = some (.string l[k].2[j].1) := by simpa [B.Kd.chunk, B.Kd.flat] using e5 0 (by simp)
          have q1 : wr.cell? ⟨b5, o5 + j * 2 + 1, none⟩ = some (.int .i64 l[k].2[j].2) := by simpa [B.Kd.chunk, B.Kd.flat] using e5 1 (by simp)
          have hj1 : (j : Int) < l[k].2.length := by omega
          have HE2 := HE.out
          rw [List.drop_eq_getElem_cons hjl, List.cons_append, addW_cons] at HE2
          have HE3 := Lib.hid HE2
          have hsz : w.heap.size + 1 ≤ wr.heap.size := by have := HB1.out.size; simpa using this
          have HB3 := Lib.hid (HB1.out.alloc hsz (.cells #[.string l[k].2[j].1, .int .i64 l[k].2[j].2] 48))
          clear e5 HE2 HE HB hsz
          go_wp2
          go_roundw
          case rel => exact ⟨j + 1, _, by go_num, rfl, by omega, HE3, HB3⟩
          case measure => simp [intOf]; omega
        · obtain rfl : j = l[k].2.length := by omega
          have HE2 : Hid (addW 0 (l.flatMap (·.2)) = addW n ((l.drop (k + 1)).flatMap (·.2))) := Lib.hid (by rw [HE.out, List.drop_length, List.nil_append])
          go_wp2
          go_roundw
          case rel => exact ⟨k + 1, n, by go_num, rfl, by omega, HE2, HB1⟩
          case measure => simp [intOf]; omega
    · obtain rfl : k = l.length := by omega
      have HE2 : Hid (addW 0 (l.flatMap (·.2)) = n) := Lib.hid (by rw [HE.out, List.drop_length]; rfl)
      have g0 := (B.cell_below (w := w.alloc (.cells #[.int .i64 no, .slice A l.length c] 24)) (by rw [show (w.alloc (.cells #[.int .i64 no, .slice A l.length c] 24)).heap.size = w.heap.size + 1 by simp]; exact HB1.out) HK0.out)
      have g1 := (B.cell_below (w := w.alloc (.cells #[.int .i64 no, .slice A l.length c] 24)) (by rw [show (w.alloc (.cells #[.int .i64 no, .slice A l.length c] 24)).heap.size = w.heap.size + 1 by simp]; exact HB1.out) HK1.out)
      go_wp2_with (go_at_call 29; refine (ce _ HB.out).mono ?_; rintro e w2 ⟨v2, rfl, HO2, HN2, HB2⟩; obtain ⟨A4, c4, rfl⟩ := Copy.shape HO2)
      have hxl : (each [] (l.flatMap (·.2))).length ≤ 140737488355328 := by have := HL.out; omega
      obtain ⟨A5, c5, ee, D5⟩ := B.own_chunk HO2 hxl
      cases ee
      have HB6 := Lib.hid (B.below_trans HB.out HB2)
      clear HO2 HN2 HB2 g0 g1 ce
      generalize hxs : each [] (l.flatMap (·.2)) = xs at hxl D5 ⊢
      have HXS := Lib.hid hxs
      clear hxs
      go_loopw [3, 33] (fun s3 so wr => ∃ (k : Nat) (m : Int), so = .int .i64 k ∧ s3 = .int .i64 m ∧ k ≤ xs.length ∧ Hid (addW 0 xs = addW m (xs.drop k)) ∧ Hid (Below w2.heap.size w2 wr)) (fun _ so _ => xs.length - (intOf so).toNat)
      case atStart => exact ⟨0, 0, rfl, rfl, Nat.zero_le _, Lib.hid rfl, Lib.hid (Below.refl _ _)⟩
      case round =>
        obtain ⟨k, m, rfl, rfl, hk, HM, HBm⟩ := hrel
        by_cases hlt : k < xs.length
        · obtain ⟨b5, o5, cs5, rfl, K5, e5⟩ := D5.at k hlt
          obtain rfl : cs5 = [.string xs[k].1, .int .i64 xs[k].2] := K5
          have q0 : wr.cell? ⟨b5, o5 + k * 2, none⟩ = some (.string xs[k].1) := by simpa [B.Kd.chunk, B.Kd.flat] using B.cell_below HBm.out (e5 0 (by simp))
          have q1 : wr.cell? ⟨b5, o5 + k * 2 + 1, none⟩ = some (.int .i64 xs[k].2) := by simpa [B.Kd.chunk, B.Kd.flat] using B.cell_below HBm.out (e5 1 (by simp))
          have hk1 : (k : Int) < xs.length := by omega
          have HM2 := HM.out
          rw [List.drop_eq_getElem_cons hlt, addW_cons] at HM2
          have HM3 := Lib.hid HM2
          have HB7 := Lib.hid (HBm.out.alloc (show w2.heap.size ≤ wr.heap.size from HBm.out.size) (.cells #[.string xs[k].1, .int .i64 xs[k].2] 48))
          clear e5 HM2 HM
          go_wp2
          go_roundw
          case rel => exact ⟨k + 1, _, by go_num, rfl, by omega, HM3, HB7⟩
          case measure => simp [intOf]; omega
        · obtain rfl : k = xs.length := by omega
          have HM2 : Hid (addW 0 xs = m) := Lib.hid (by rw [HM.out, List.drop_length]; rfl)
          go_wp2
          go_ret2
          exact ⟨by rw [HE2.out, HXS.out, HM2.out]; rfl, B.below_trans HB6.out HBm.out⟩
end Go.Proofs.YtmcbljongeadeaaDoor.Told
