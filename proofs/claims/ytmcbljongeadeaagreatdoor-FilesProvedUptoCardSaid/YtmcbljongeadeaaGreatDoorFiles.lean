/- The faults of files: sync.filesFault, the reference's, CheckManifest and ManifestFault. Printed by wip/gen/filesgen.py. -/
import Derived.Test.YtmcbljongeadeaaGreatDoorTrim
import Derived.Test.YtmcbljongeadeaaGreatDoorMaps
namespace Go.Proofs.YtmcbljongeadeaaGreatDoor.Files
open Go.RowKit

abbrev Ck := ByteArray × Int
abbrev Fl := ByteArray × List Ck
def ckBad : List Ck → Int
  | [] => 0
  | c :: cs => if Key.sumR c.1 = false then 3 else if c.2 < 1 ∨ 1000000000000 < c.2 then 1 else ckBad cs
def leS (a b : ByteArray) : Bool := Op.bytesLess a.toList b.toList || a.toList == b.toList
def notAfter (p : Option ByteArray) (k : ByteArray) : Bool := p.any fun q => leS k q
def go (p : Option ByteArray) : List Fl → Int
  | [] => 0
  | f :: fs => if Key.keyB f.1 = false then 5 else if notAfter p f.1 = true then 7 else if f.2.length = 0 then 8 else if ckBad f.2 ≠ 0 then ckBad f.2 else go (some f.1) fs
def prev (l : List Fl) (k : Nat) : Option ByteArray := if k = 0 then none else some (l.getD (k - 1) (⟨#[]⟩, [])).1
def clash : Option Value → Int → Bool
  | some (.int _ n), m => n != m
  | _, _ => false
/-- The sums with their lengths; none: two lengths of one sum. -/
def sums (es : M.Es) : List Ck → Option M.Es
  | [] => some es
  | c :: cs => if clash (M.look es c.1) c.2 = true then none else sums (M.put es c.1 (.int .i64 c.2)) cs
def fault (l : List Fl) : Int :=
  if 300 < l.length then 2 else if go none l ≠ 0 then go none l else match sums [] (l.flatMap (·.2)) with | none => 13 | some es => if 2000 < es.length then 2 else 0
/-- All that is put in is a number. -/
def Nums (es : M.Es) : Prop := ∀ p ∈ es, ∃ n : Int, p.2 = .int .i64 n
theorem Nums.put {es : M.Es} (h : Nums es) (k : ByteArray) (n : Int) : Nums (M.put es k (.int .i64 n)) := by
  intro p hp
  unfold M.put at hp
  split at hp
  · obtain ⟨q, hq, rfl⟩ := List.mem_map.1 hp
    split
    · exact ⟨n, rfl⟩
    · exact h q hq
  · rcases List.mem_append.1 hp with hp | hp
    · exact h p hp
    · obtain rfl := List.mem_singleton.1 hp; exact ⟨n, rfl⟩
theorem Nums.look {es : M.Es} (h : Nums es) {k : ByteArray} {v : Value} (hv : M.look es k = some v) : ∃ n : Int, v = .int .i64 n := by
  unfold M.look at hv
  obtain ⟨p, hp, rfl⟩ := Option.map_eq_some_iff.1 hv
  exact h p (List.mem_of_find?_eq_some hp)
theorem zeroInt (w : World) : (zeroValue 3).run Tryz.prog w = .ok (.int .i64 0) w := by kernel_rfl
theorem ckBad_drop {l : List Ck} {j : Nat} (h : j < l.length) : ckBad (l.drop j) = if Key.sumR l[j].1 = false then 3 else if l[j].2 < 1 ∨ 1000000000000 < l[j].2 then 1 else ckBad (l.drop (j + 1)) := by rw [List.drop_eq_getElem_cons h, ckBad]
theorem prev_succ (l : List Fl) {k : Nat} (h : k < l.length) : prev l (k + 1) = some l[k].1 := by unfold prev; rw [if_neg (by omega), Nat.add_sub_cancel, List.getD_eq_getElem?_getD, List.getElem?_eq_getElem h]; rfl
theorem key1 (s : ByteArray) (b : Bool) (hb : Key.keyB s = b) (hs : s.size ≤ 9223372036854775807) (w : World) : Calls Tryz.prog 34 #[.string s] w fun e w' => e = .returned (.bool b) ∧ Below w.heap.size w w' :=
  (Key.isKey s b hb hs w).mono fun _ _ h => ⟨h.1, by rw [h.2]; exact Below.refl _ _⟩

set_option maxHeartbeats 4000000 in
theorem filesFault (v : Value) (l : List Fl) (hk : ∀ f ∈ l, f.1.size ≤ 9223372036854775807) (w : World) (h : B.Kd.file.S w v l) :
    Calls Tryz.prog 39 #[v] w fun e w' => e = .returned (.int .i64 (fault l)) ∧ Below w.heap.size w w' := by
  obtain ⟨A1, cap, rfl, C⟩ := h
  have L1 := C.1
  have HS := Lib.hid hk
  clear hk
  by_cases hl : 300 < l.length
  · have HF := Lib.hid (show fault l = 2 by unfold fault; rw [if_pos hl])
    have hl' : (300 : Int) < l.length := by omega
    go_enter Tryz.func39, Tryz.ntmps39
    go_wp2
    go_ret
    exact ⟨by rw [HF.out]; rfl, Below.refl _ _⟩
  · have HF := Lib.hid (show fault l = if go none l ≠ 0 then go none l else match sums [] (l.flatMap (·.2)) with | none => 13 | some es => if 2000 < es.length then 2 else 0 by unfold fault; rw [if_neg hl])
    have hmm := @run_makeMap Tryz.prog
    go_enter Tryz.func39, Tryz.ntmps39
    go_wp2
    go_loopw [19] (fun s19 wr => ∃ (k : Nat), s19 = .int .i64 k ∧ k ≤ l.length ∧ Hid (go none l = go (prev l k) (l.drop k)) ∧ Hid (Below w.heap.size w wr)) (fun s19 _ => l.length - (intOf s19).toNat)
    case atStart => exact ⟨0, rfl, by omega, Lib.hid rfl, Lib.hid (Below.refl _ _)⟩
    case round =>
      obtain ⟨k, rfl, hk, HG, HB⟩ := hrel
      by_cases hlt : k < l.length
      · obtain ⟨b1, o1, cs1, rfl, K1, e1⟩ := C.at k hlt
        obtain ⟨A2, c2, rfl, D⟩ := K1
        have f0 : wr.cell? ⟨b1, o1 + k * 2, none⟩ = some (.string l[k].1) := by simpa [B.Kd.file] using B.cell_below HB.out (e1 0 (by simp))
        have f1 : wr.cell? ⟨b1, o1 + k * 2 + 1, none⟩ = some (.slice A2 l[k].2.length c2) := by simpa [B.Kd.file] using B.cell_below HB.out (e1 1 (by simp))
        have hk1 : (k : Int) < l.length := by omega
        have L2 := D.1
        have HD := Lib.hid (D.mono HB.out)
        have HA := fun c o => Lib.hid (HB.out.alloc (by have := HB.out.size; exact this) (.cells c o))
        have HN : ∀ (c : Array Value) (o : TypeId) (i : Nat) (u : Value) (w2 : World), Below (wr.alloc (.cells c o)).heap.size (wr.alloc (.cells c o)) w2 → c[i]? = some u → w2.cell? ⟨wr.heap.size, i, none⟩ = some u := fun c o i u w2 hb hc => B.cell_below hb (by rw [World.cell?_alloc_new]; exact hc)
        have HN2 := Lib.hid HN
        have HSk := HS.out _ (List.getElem_mem hlt)
        have HG2 := HG.out
        rw [List.drop_eq_getElem_cons hlt, go] at HG2
        clear e1 D HN
        cases hkb : Key.keyB l[k].1 with
        | false =>
          have ck := key1 l[k].1 false hkb HSk
          rw [if_pos hkb] at HG2
          have HX : Hid (fault l = 5) := Lib.hid (by rw [HF.out, HG2]; rfl)
          clear HG2 hkb
          go_wp2_with (go_at_call 34; refine (ck _).mono ?_; rintro e w2 ⟨rfl, HB2⟩)
          go_ret
          exact ⟨by rw [HX.out]; rfl, B.below_trans (HA _ _).out HB2⟩
        | true =>
          have ck := key1 l[k].1 true hkb HSk
          rw [if_neg (by rw [hkb]; decide)] at HG2
          have HP := Lib.hid (prev_succ l hlt)
          have HG3 := Lib.hid HG2
          clear HG2 hkb
          by_cases hk0 : k = 0
          · subst hk0
            have HG4 : Hid (go none l = if l[0].2.length = 0 then 8 else if ckBad l[0].2 ≠ 0 then ckBad l[0].2 else go (some l[0].1) (l.drop (0 + 1))) := Lib.hid (by rw [HG3.out]; rfl)
            simp only [Nat.zero_mul, Nat.add_zero] at f0 f1
            clear HG3
            go_wp2_with (go_at_call 34; refine (ck _).mono ?_; rintro e w2 ⟨rfl, HB2⟩; have g0 := HN2.out _ _ 0 _ _ HB2 rfl; have g1 := HN2.out _ _ 1 _ _ HB2 rfl)
            go_quiet (fail)
            have HB3 := Lib.hid (B.below_drew (B.below_trans (HA _ _).out HB2) nq)
            have HD2 := Lib.hid (((HD.out.mono ((Below.refl _ wr).alloc (Nat.le_refl _) _)).mono HB2).mono (B.below_drew (Below.refl _ _) nq))
            by_cases hz : l[0].2.length = 0
            · have HX : Hid (fault l = 8) := Lib.hid (by rw [HF.out, HG4.out, if_pos hz]; rfl)
              have hzb : ((l[0].2.length : Int) == 0) = true := beq_iff_eq.2 (by omega)
              clear HG4 hz HB2
              go_wp2
              go_ret
              exact ⟨by rw [HX.out]; rfl, HB3.out⟩
            · have HG5 := HG4.out
              rw [if_neg hz] at HG5
              have HG6 := Lib.hid HG5
              have hzb : ((l[0].2.length : Int) == 0) = false := beq_eq_false_iff_ne.2 (by omega)
              clear HG4 HG5 hz HB2 HB HD
              go_wp2
              go_loopw [48] (fun sj wr => ∃ (j : Nat), sj = .int .i64 j ∧ j ≤ l[0].2.length ∧ Hid (ckBad l[0].2 = ckBad (l[0].2.drop j)) ∧ Hid (Below w2.heap.size (w2.drewN nq) wr)) (fun sj _ => l[0].2.length - (intOf sj).toNat)
              case atStart => exact ⟨0, rfl, by omega, Lib.hid rfl, Lib.hid (Below.refl _ _)⟩
              case round =>
                obtain ⟨j, rfl, hj, HQ, HBq⟩ := hrel
                have HBw := Lib.hid (B.below_trans HB3.out HBq.out)
                by_cases hjl : j < l[0].2.length
                · obtain ⟨b5, o5, cs5, rfl, K5, e5⟩ := (HD2.out.mono HBq.out).at j hjl
                  obtain rfl : cs5 = [.string l[0].2[j].1, .int .i64 l[0].2[j].2] := K5
                  have q0 : wr.cell? ⟨b5, o5 + j * 2, none⟩ = some (.string l[0].2[j].1) := by simpa [B.Kd.chunk, B.Kd.flat] using e5 0 (by simp)
                  have q1 : wr.cell? ⟨b5, o5 + j * 2 + 1, none⟩ = some (.int .i64 l[0].2[j].2) := by simpa [B.Kd.chunk, B.Kd.flat] using e5 1 (by simp)
                  have hj1 : (j : Int) < l[0].2.length := by omega
                  have HQ2 := HQ.out
                  rw [ckBad_drop hjl] at HQ2
                  have HA2 := fun c o => Lib.hid (HBq.out.alloc (show w2.heap.size ≤ wr.heap.size from HBq.out.size) (.cells c o))
                  have HA3 := fun c o => Lib.hid (HBw.out.alloc (show w.heap.size ≤ wr.heap.size from HBw.out.size) (.cells c o))
                  have HM := Lib.hid (fun (c : Array Value) (o : TypeId) (i : Nat) (u : Value) (w5 : World) (hb : Below (wr.alloc (.cells c o)).heap.size (wr.alloc (.cells c o)) w5) (hc : c[i]? = some u) => (B.cell_below hb (by rw [World.cell?_alloc_new]; exact hc) : w5.cell? ⟨wr.heap.size, i, none⟩ = some u))
                  clear e5
                  cases hsr : Key.sumR l[0].2[j].1 with
                  | false =>
                    have cs := Key.isSum l[0].2[j].1 false hsr
                    rw [if_pos hsr] at HQ2
                    have HX : Hid (fault l = 3) := Lib.hid (by rw [HF.out, HG6.out, HQ2]; rfl)
                    clear HQ2 hsr
                    go_wp2_with (go_at_call 38; refine (cs _).mono ?_; rintro e w5 ⟨rfl, HB5⟩)
                    go_ret
                    exact ⟨by rw [HX.out]; rfl, B.below_trans (HA3 _ _).out HB5⟩
                  | true =>
                    have cs := Key.isSum l[0].2[j].1 true hsr
                    rw [if_neg (by rw [hsr]; decide)] at HQ2
                    clear hsr
                    by_cases hb : l[0].2[j].2 < (1 : Int) ∨ (1000000000000 : Int) < l[0].2[j].2
                    · rw [if_pos hb] at HQ2
                      have co := Cut.outside l[0].2[j].2 1 1000000000000 true (decide_eq_true hb)
                      have HX : Hid (fault l = 1) := Lib.hid (by rw [HF.out, HG6.out, HQ2]; rfl)
                      clear HQ2 hb
                      go_wp2_with (first | (go_at_call 38; refine (cs _).mono ?_; rintro e w5 ⟨rfl, HB5⟩; have r1 := HM.out _ _ 1 _ _ HB5 rfl) | (go_at_call 46; refine (co _).mono ?_; rintro e w6 ⟨rfl, rfl⟩))
                      go_ret
                      exact ⟨by rw [HX.out]; rfl, B.below_trans (HA3 _ _).out HB5⟩
                    · rw [if_neg hb] at HQ2
                      have co := Cut.outside l[0].2[j].2 1 1000000000000 false (decide_eq_false hb)
                      have HQ3 := Lib.hid HQ2
                      clear HQ2 hb
                      go_wp2_with (first | (go_at_call 38; refine (cs _).mono ?_; rintro e w5 ⟨rfl, HB5⟩; have r1 := HM.out _ _ 1 _ _ HB5 rfl) | (go_at_call 46; refine (co _).mono ?_; rintro e w6 ⟨rfl, rfl⟩))
                      go_roundw
                      case rel => exact ⟨j + 1, by go_num, by omega, HQ3, Lib.hid ((HA2 _ _).out.trans (HB5.mono (HA2 _ _).out.size))⟩
                      case measure => simp [intOf]; omega
                · obtain rfl : j = l[0].2.length := by omega
                  have hq0 : ckBad l[0].2 = 0 := by rw [HQ.out, List.drop_length]; rfl
                  have HX : Hid (go none l = go (prev l (0 + 1)) (l.drop (0 + 1))) := Lib.hid (by rw [HG6.out, if_neg (by rw [hq0]; decide), HP.out])
                  clear hq0
                  go_wp2
                  go_roundw
                  case rel => exact ⟨0 + 1, by go_num, by omega, HX, HBw⟩
                  case measure => simp [intOf]; omega
          · obtain ⟨m, rfl⟩ : ∃ m, k = m + 1 := ⟨k - 1, by omega⟩
            have hml : m < l.length := by omega
            obtain ⟨b1', o1', cs1, ee, K1, e1⟩ := C.at m hml
            obtain ⟨rfl, rfl⟩ : b1 = b1' ∧ o1 = o1' := by simpa using ee
            obtain ⟨A3, c3, rfl, -⟩ := K1
            have f3 : wr.cell? ⟨b1, o1 + m * 2, none⟩ = some (.string l[m].1) := by simpa [B.Kd.file] using B.cell_below HB.out (e1 0 (by simp))
            have F4 := Lib.hid (fun o w2 (hb : Below (wr.alloc o).heap.size (wr.alloc o) w2) => B.cell_below hb (B.cell_below ((Below.refl _ wr).alloc (Nat.le_refl _) o) f3))
            clear e1 ee f3 A3 c3
            have hkb : decide (0 < m + 1) = true := decide_eq_true (by omega)
            have hjw : IntKind.i64.wrap (m : Int) = (m : Int) := by rw [IntKind.wrap_i64]; omega
            have hpv : prev l (m + 1) = some l[m].1 := prev_succ l hml
            cases hle : leS l[m + 1].1 l[m].1 with
            | true =>
              have HX : Hid (fault l = 7) := Lib.hid (by rw [HF.out, HG3.out, hpv, notAfter, Option.any_some, if_pos hle]; rfl)
              have hle' : (Op.bytesLess l[m + 1].1.toList l[m].1.toList || l[m + 1].1.toList == l[m].1.toList) = true := hle
              clear HG3 hle
              go_wp2_with (go_at_call 34; refine (ck _).mono ?_; rintro e w2 ⟨rfl, HB2⟩; have g0 := HN2.out _ _ 0 _ _ HB2 rfl; have g4 := F4.out _ _ HB2)
              go_quiet (fail)
              go_wp2
              go_ret
              exact ⟨by rw [HX.out]; rfl, B.below_drew (B.below_trans (HA _ _).out HB2) _⟩
            | false =>
              have HG4 : Hid (go none l = if l[m + 1].2.length = 0 then 8 else if ckBad l[m + 1].2 ≠ 0 then ckBad l[m + 1].2 else go (some l[m + 1].1) (l.drop (m + 1 + 1))) := Lib.hid (by rw [HG3.out, hpv, notAfter, Option.any_some, if_neg (by rw [hle]; decide)])
              have hle' : (Op.bytesLess l[m + 1].1.toList l[m].1.toList || l[m + 1].1.toList == l[m].1.toList) = false := hle
              clear HG3 hle
              go_wp2_with (go_at_call 34; refine (ck _).mono ?_; rintro e w2 ⟨rfl, HB2⟩; have g0 := HN2.out _ _ 0 _ _ HB2 rfl; have g1 := HN2.out _ _ 1 _ _ HB2 rfl; have g4 := F4.out _ _ HB2)
              go_quiet (fail)
              have HB3 := Lib.hid (B.below_drew (B.below_trans (HA _ _).out HB2) nq)
              have HD2 := Lib.hid (((HD.out.mono ((Below.refl _ wr).alloc (Nat.le_refl _) _)).mono HB2).mono (B.below_drew (Below.refl _ _) nq))
              by_cases hz : l[m + 1].2.length = 0
              · have HX : Hid (fault l = 8) := Lib.hid (by rw [HF.out, HG4.out, if_pos hz]; rfl)
                have hzb : ((l[m + 1].2.length : Int) == 0) = true := beq_iff_eq.2 (by omega)
                clear HG4 hz HB2
                go_wp2
                go_ret
                exact ⟨by rw [HX.out]; rfl, HB3.out⟩
              · have HG5 := HG4.out
                rw [if_neg hz] at HG5
                have HG6 := Lib.hid HG5
                have hzb : ((l[m + 1].2.length : Int) == 0) = false := beq_eq_false_iff_ne.2 (by omega)
                clear HG4 HG5 hz HB2 HB HD
                go_wp2
                go_loopw [48] (fun sj wr => ∃ (j : Nat), sj = .int .i64 j ∧ j ≤ l[m + 1].2.length ∧ Hid (ckBad l[m + 1].2 = ckBad (l[m + 1].2.drop j)) ∧ Hid (Below w2.heap.size (w2.drewN nq) wr)) (fun sj _ => l[m + 1].2.length - (intOf sj).toNat)
                case atStart => exact ⟨0, rfl, by omega, Lib.hid rfl, Lib.hid (Below.refl _ _)⟩
                case round =>
                  obtain ⟨j, rfl, hj, HQ, HBq⟩ := hrel
                  have HBw := Lib.hid (B.below_trans HB3.out HBq.out)
                  by_cases hjl : j < l[m + 1].2.length
                  · obtain ⟨b5, o5, cs5, rfl, K5, e5⟩ := (HD2.out.mono HBq.out).at j hjl
                    obtain rfl : cs5 = [.string l[m + 1].2[j].1, .int .i64 l[m + 1].2[j].2] := K5
                    have q0 : wr.cell? ⟨b5, o5 + j * 2, none⟩ = some (.string l[m + 1].2[j].1) := by simpa [B.Kd.chunk, B.Kd.flat] using e5 0 (by simp)
                    have q1 : wr.cell? ⟨b5, o5 + j * 2 + 1, none⟩ = some (.int .i64 l[m + 1].2[j].2) := by simpa [B.Kd.chunk, B.Kd.flat] using e5 1 (by simp)
                    have hj1 : (j : Int) < l[m + 1].2.length := by omega
                    have HQ2 := HQ.out
                    rw [ckBad_drop hjl] at HQ2
                    have HA2 := fun c o => Lib.hid (HBq.out.alloc (show w2.heap.size ≤ wr.heap.size from HBq.out.size) (.cells c o))
                    have HA3 := fun c o => Lib.hid (HBw.out.alloc (show w.heap.size ≤ wr.heap.size from HBw.out.size) (.cells c o))
                    have HM := Lib.hid (fun (c : Array Value) (o : TypeId) (i : Nat) (u : Value) (w5 : World) (hb : Below (wr.alloc (.cells c o)).heap.size (wr.alloc (.cells c o)) w5) (hc : c[i]? = some u) => (B.cell_below hb (by rw [World.cell?_alloc_new]; exact hc) : w5.cell? ⟨wr.heap.size, i, none⟩ = some u))
                    clear e5
                    cases hsr : Key.sumR l[m + 1].2[j].1 with
                    | false =>
                      have cs := Key.isSum l[m + 1].2[j].1 false hsr
                      rw [if_pos hsr] at HQ2
                      have HX : Hid (fault l = 3) := Lib.hid (by rw [HF.out, HG6.out, HQ2]; rfl)
                      clear HQ2 hsr
                      go_wp2_with (go_at_call 38; refine (cs _).mono ?_; rintro e w5 ⟨rfl, HB5⟩)
                      go_ret
                      exact ⟨by rw [HX.out]; rfl, B.below_trans (HA3 _ _).out HB5⟩
                    | true =>
                      have cs := Key.isSum l[m + 1].2[j].1 true hsr
                      rw [if_neg (by rw [hsr]; decide)] at HQ2
                      clear hsr
                      by_cases hb : l[m + 1].2[j].2 < (1 : Int) ∨ (1000000000000 : Int) < l[m + 1].2[j].2
                      · rw [if_pos hb] at HQ2
                        have co := Cut.outside l[m + 1].2[j].2 1 1000000000000 true (decide_eq_true hb)
                        have HX : Hid (fault l = 1) := Lib.hid (by rw [HF.out, HG6.out, HQ2]; rfl)
                        clear HQ2 hb
                        go_wp2_with (first | (go_at_call 38; refine (cs _).mono ?_; rintro e w5 ⟨rfl, HB5⟩; have r1 := HM.out _ _ 1 _ _ HB5 rfl) | (go_at_call 46; refine (co _).mono ?_; rintro e w6 ⟨rfl, rfl⟩))
                        go_ret
                        exact ⟨by rw [HX.out]; rfl, B.below_trans (HA3 _ _).out HB5⟩
                      · rw [if_neg hb] at HQ2
                        have co := Cut.outside l[m + 1].2[j].2 1 1000000000000 false (decide_eq_false hb)
                        have HQ3 := Lib.hid HQ2
                        clear HQ2 hb
                        go_wp2_with (first | (go_at_call 38; refine (cs _).mono ?_; rintro e w5 ⟨rfl, HB5⟩; have r1 := HM.out _ _ 1 _ _ HB5 rfl) | (go_at_call 46; refine (co _).mono ?_; rintro e w6 ⟨rfl, rfl⟩))
                        go_roundw
                        case rel => exact ⟨j + 1, by go_num, by omega, HQ3, Lib.hid ((HA2 _ _).out.trans (HB5.mono (HA2 _ _).out.size))⟩
                        case measure => simp [intOf]; omega
                  · obtain rfl : j = l[m + 1].2.length := by omega
                    have hq0 : ckBad l[m + 1].2 = 0 := by rw [HQ.out, List.drop_length]; rfl
                    have HX : Hid (go none l = go (prev l (m + 1 + 1)) (l.drop (m + 1 + 1))) := Lib.hid (by rw [HG6.out, if_neg (by rw [hq0]; decide), HP.out])
                    clear hq0
                    go_wp2
                    go_roundw
                    case rel => exact ⟨m + 1 + 1, by go_num, by omega, HX, HBw⟩
                    case measure => simp [intOf]; omega
      · obtain rfl : k = l.length := by omega
        have hg0 : go none l = 0 := by rw [HG.out, List.drop_length]; rfl
        have HF2 := HF.out
        rw [if_neg (by rw [hg0]; decide)] at HF2
        have HF3 := Lib.hid HF2
        clear HF2 hg0 HF
        have HOM := Lib.hid (M.OM.made wr)
        have HB2 := Lib.hid (HB.out.alloc (show w.heap.size ≤ wr.heap.size from HB.out.size) (.map #[] 0))
        have hbw : w.heap.size ≤ wr.heap.size := HB.out.size
        clear HB HG
        go_wp2
        generalize wr.heap.size = bm at HOM hbw ⊢
        go_loopw [64] (fun so wr => ∃ (k : Nat) (es : M.Es), so = .int .i64 k ∧ k ≤ l.length ∧ Hid (Nums es) ∧ Hid (M.OM wr bm es) ∧ Hid (sums [] (l.flatMap (·.2)) = sums es ((l.drop k).flatMap (·.2))) ∧ Hid (Below w.heap.size w wr)) (fun so _ => l.length - (intOf so).toNat)
        case atStart => exact ⟨0, [], rfl, by omega, Lib.hid (fun p hp => by simp at hp), HOM, Lib.hid rfl, HB2⟩
        case round =>
          obtain ⟨k, es, rfl, hk, HNU, HO, HE, HB⟩ := hrel
          by_cases hlt : k < l.length
          · obtain ⟨b1, o1, cs1, rfl, K1, e1⟩ := C.at k hlt
            obtain ⟨A2, c2, rfl, D⟩ := K1
            have f0 : wr.cell? ⟨b1, o1 + k * 2, none⟩ = some (.string l[k].1) := by simpa [B.Kd.file] using B.cell_below HB.out (e1 0 (by simp))
            have f1 : wr.cell? ⟨b1, o1 + k * 2 + 1, none⟩ = some (.slice A2 l[k].2.length c2) := by simpa [B.Kd.file] using B.cell_below HB.out (e1 1 (by simp))
            have hk1 : (k : Int) < l.length := by omega
            have L2 := D.1
            have HD := Lib.hid D
            have HS1 := Lib.hid (HB.out.alloc (show w.heap.size ≤ wr.heap.size from HB.out.size) (.cells #[.string l[k].1, .slice A2 l[k].2.length c2] 27))
            have HO1 := Lib.hid (HO.out.below ((Below.refl _ _).alloc (Nat.le_refl _) (.cells #[.string l[k].1, .slice A2 l[k].2.length c2] 27)))
            have HE1 : Hid (sums [] (l.flatMap (·.2)) = sums es (l[k].2.drop 0 ++ (l.drop (k + 1)).flatMap (·.2))) := Lib.hid (by rw [HE.out, List.drop_eq_getElem_cons hlt, List.flatMap_cons, List.drop_zero])
            clear e1 D HE HO HB
            go_wp2
            go_loopw [71] (fun si wr => ∃ (j : Nat) (es : M.Es), si = .int .i64 j ∧ j ≤ l[k].2.length ∧ Hid (Nums es) ∧ Hid (M.OM wr bm es) ∧ Hid (sums [] (l.flatMap (·.2)) = sums es (l[k].2.drop j ++ (l.drop (k + 1)).flatMap (·.2))) ∧ Hid (Below w.heap.size w wr)) (fun si _ => l[k].2.length - (intOf si).toNat)
            case atStart => exact ⟨0, es, rfl, by omega, HNU, HO1, HE1, HS1⟩
            case round =>
              obtain ⟨j, es, rfl, hj, HNU, HO, HE, HB⟩ := hrel
              by_cases hjl : j < l[k].2.length
              · obtain ⟨b5, o5, cs5, rfl, K5, e5⟩ := (HD.out.mono HB.out).at j hjl
                obtain rfl : cs5 = [.string l[k].2[j].1, .int .i64 l[k].2[j].2] := K5
                have q0 : wr.cell? ⟨b5, o5 + j * 2, none⟩ = some (.string l[k].2[j].1) := by simpa [B.Kd.chunk, B.Kd.flat] using e5 0 (by simp)
                have q1 : wr.cell? ⟨b5, o5 + j * 2 + 1, none⟩ = some (.int .i64 l[k].2[j].2) := by simpa [B.Kd.chunk, B.Kd.flat] using e5 1 (by simp)
                have hj1 : (j : Int) < l[k].2.length := by omega
                have HE2 := HE.out
                rw [List.drop_eq_getElem_cons hjl, List.cons_append, sums] at HE2
                have HB3 := Lib.hid (HB.out.alloc (show w.heap.size ≤ wr.heap.size from HB.out.size) (.cells #[.string l[k].2[j].1, .int .i64 l[k].2[j].2] 40))
                have HO3 := Lib.hid (HO.out.below ((Below.refl _ _).alloc (Nat.le_refl _) (.cells #[.string l[k].2[j].1, .int .i64 l[k].2[j].2] 40)))
                have HNP := Lib.hid (HNU.out.put l[k].2[j].1 l[k].2[j].2)
                clear e5
                cases hlook : M.look es l[k].2[j].1 with
                | none =>
                  have HE3 : Hid (sums [] (l.flatMap (·.2)) = sums (M.put es l[k].2[j].1 (.int .i64 l[k].2[j].2)) (l[k].2.drop (j + 1) ++ (l.drop (k + 1)).flatMap (·.2))) := Lib.hid (by rw [HE2, hlook]; rfl)
                  have HLK := Lib.hid hlook
                  clear HE2 hlook HE
                  go_wp2_with (first
                    | (at_lookup; refine M.wpl_look_ok rfl _ _ 86 rfl 9 3 Tryz.underlying86 Tryz.underlying9 _ (zeroInt _) bm es HO3.out rfl _ rfl ?_; simp only [HLK.out, Option.getD_none, Option.isSome_none])
                    | (at_mapUpdate; refine M.wpl_put rfl _ _ _ 86 rfl 9 3 Tryz.underlying86 Tryz.underlying9 bm es HO3.out rfl _ rfl _ rfl w w.heap.size HB3.out hbw ?_; intro w7 HO7 HB7 _))
                  go_roundw
                  case rel => exact ⟨j + 1, _, by go_num, by omega, HNP, Lib.hid HO7, HE3, Lib.hid HB7⟩
                  case measure => simp [intOf]; omega
                | some vv =>
                  obtain ⟨n, rfl⟩ := HNU.out.look hlook
                  by_cases hn : n = l[k].2[j].2
                  · have HE3 : Hid (sums [] (l.flatMap (·.2)) = sums (M.put es l[k].2[j].1 (.int .i64 l[k].2[j].2)) (l[k].2.drop (j + 1) ++ (l.drop (k + 1)).flatMap (·.2))) := Lib.hid (by rw [HE2, hlook, clash, hn, bne_self_eq_false]; rfl)
                    have HLK := Lib.hid hlook
                    have hnb : (n != l[k].2[j].2) = false := by rw [hn, bne_self_eq_false]
                    clear HE2 hlook HE hn
                    go_wp2_with (first
                      | (at_lookup; refine M.wpl_look_ok rfl _ _ 86 rfl 9 3 Tryz.underlying86 Tryz.underlying9 _ (zeroInt _) bm es HO3.out rfl _ rfl ?_; simp only [HLK.out, Option.getD_some, Option.isSome_some])
                      | (at_mapUpdate; refine M.wpl_put rfl _ _ _ 86 rfl 9 3 Tryz.underlying86 Tryz.underlying9 bm es HO3.out rfl _ rfl _ rfl w w.heap.size HB3.out hbw ?_; intro w7 HO7 HB7 _))
                    go_roundw
                    case rel => exact ⟨j + 1, _, by go_num, by omega, HNP, Lib.hid HO7, HE3, Lib.hid HB7⟩
                    case measure => simp [intOf]; omega
                  · have hnb : (n != l[k].2[j].2) = true := bne_iff_ne.2 hn
                    have HX : Hid (fault l = 13) := Lib.hid (by rw [HF3.out, HE2, hlook, clash, hnb]; rfl)
                    have HLK := Lib.hid hlook
                    clear HE2 hlook HE hn
                    go_wp2_with (at_lookup; refine M.wpl_look_ok rfl _ _ 86 rfl 9 3 Tryz.underlying86 Tryz.underlying9 _ (zeroInt _) bm es HO3.out rfl _ rfl ?_; simp only [HLK.out, Option.getD_some, Option.isSome_some])
                    go_ret
                    exact ⟨by rw [HX.out]; rfl, HB3.out⟩
              · obtain rfl : j = l[k].2.length := by omega
                have HE2 : Hid (sums [] (l.flatMap (·.2)) = sums es ((l.drop (k + 1)).flatMap (·.2))) := Lib.hid (by rw [HE.out, List.drop_length, List.nil_append])
                go_wp2
                go_roundw
                case rel => exact ⟨k + 1, es, by go_num, by omega, HNU, HO, HE2, HB⟩
                case measure => simp [intOf]; omega
          · obtain rfl : k = l.length := by omega
            have HE2 : Hid (fault l = if 2000 < es.length then 2 else 0) := Lib.hid (by rw [HF3.out, HE.out, List.drop_length]; rfl)
            have hln := fun ty => HO.out.run_len (P := Tryz.prog) Tryz.underlying86 ty
            by_cases h2 : 2000 < es.length
            · have HX : Hid (fault l = 2) := Lib.hid (by rw [HE2.out, if_pos h2])
              have h2' : (2000 : Int) < es.length := by omega
              go_wp2
              go_ret
              exact ⟨by rw [HX.out]; rfl, HB.out⟩
            · have HX : Hid (fault l = 0) := Lib.hid (by rw [HE2.out, if_neg h2])
              have h2' : ¬ (2000 : Int) < es.length := by omega
              go_wp2
              go_ret
              exact ⟨by rw [HX.out]; rfl, HB.out⟩

theorem inN {n : Int} (h : n < 1 ∨ 1000000000000 < n) : decide (1 ≤ n ∧ n ≤ 1000000000000) = false := decide_eq_false (by omega)
theorem inY {n : Int} (h : ¬ (n < 1 ∨ 1000000000000 < n)) : decide (1 ≤ n ∧ n ≤ 1000000000000) = true := decide_eq_true (by omega)

set_option maxHeartbeats 4000000 in
theorem refFault (v : Value) (l : List Fl) (hk : ∀ f ∈ l, f.1.size ≤ 9223372036854775807) (w : World) (h : B.Kd.file.S w v l) :
    Calls Tryz.prog 31 #[v] w fun e w' => e = .returned (.int .i64 (fault l)) ∧ Below w.heap.size w w' := by
  obtain ⟨A1, cap, rfl, C⟩ := h
  have L1 := C.1
  have HS := Lib.hid hk
  clear hk
  by_cases hl : 300 < l.length
  · have HF := Lib.hid (show fault l = 2 by unfold fault; rw [if_pos hl])
    have hl' : (300 : Int) < l.length := by omega
    go_enter Tryz.func31, Tryz.ntmps31
    go_wp2
    go_ret
    exact ⟨by rw [HF.out]; rfl, Below.refl _ _⟩
  · have HF := Lib.hid (show fault l = if go none l ≠ 0 then go none l else match sums [] (l.flatMap (·.2)) with | none => 13 | some es => if 2000 < es.length then 2 else 0 by unfold fault; rw [if_neg hl])
    have hmm := @run_makeMap Tryz.prog
    go_enter Tryz.func31, Tryz.ntmps31
    go_wp2
    go_loopw [19] (fun s19 wr => ∃ (k : Nat), s19 = .int .i64 k ∧ k ≤ l.length ∧ Hid (go none l = go (prev l k) (l.drop k)) ∧ Hid (Below w.heap.size w wr)) (fun s19 _ => l.length - (intOf s19).toNat)
    case atStart => exact ⟨0, rfl, by omega, Lib.hid rfl, Lib.hid (Below.refl _ _)⟩
    case round =>
      obtain ⟨k, rfl, hk, HG, HB⟩ := hrel
      by_cases hlt : k < l.length
      · obtain ⟨b1, o1, cs1, rfl, K1, e1⟩ := C.at k hlt
        obtain ⟨A2, c2, rfl, D⟩ := K1
        have f0 : wr.cell? ⟨b1, o1 + k * 2, none⟩ = some (.string l[k].1) := by simpa [B.Kd.file] using B.cell_below HB.out (e1 0 (by simp))
        have f1 : wr.cell? ⟨b1, o1 + k * 2 + 1, none⟩ = some (.slice A2 l[k].2.length c2) := by simpa [B.Kd.file] using B.cell_below HB.out (e1 1 (by simp))
        have hk1 : (k : Int) < l.length := by omega
        have L2 := D.1
        have HD := Lib.hid (D.mono HB.out)
        have HA := fun c o => Lib.hid (HB.out.alloc (by have := HB.out.size; exact this) (.cells c o))
        have HN : ∀ (c : Array Value) (o : TypeId) (i : Nat) (u : Value) (w2 : World), Below (wr.alloc (.cells c o)).heap.size (wr.alloc (.cells c o)) w2 → c[i]? = some u → w2.cell? ⟨wr.heap.size, i, none⟩ = some u := fun c o i u w2 hb hc => B.cell_below hb (by rw [World.cell?_alloc_new]; exact hc)
        have HN2 := Lib.hid HN
        have HSk := HS.out _ (List.getElem_mem hlt)
        have HG2 := HG.out
        rw [List.drop_eq_getElem_cons hlt, go] at HG2
        clear e1 D HN
        cases hkb : Key.keyB l[k].1 with
        | false =>
          have ck := Key.refKey l[k].1 false hkb HSk
          rw [if_pos hkb] at HG2
          have HX : Hid (fault l = 5) := Lib.hid (by rw [HF.out, HG2]; rfl)
          clear HG2 hkb
          go_wp2_with (go_at_call 36; refine (ck _).mono ?_; rintro e w2 ⟨rfl, HB2⟩)
          go_ret
          exact ⟨by rw [HX.out]; rfl, B.below_trans (HA _ _).out HB2⟩
        | true =>
          have ck := Key.refKey l[k].1 true hkb HSk
          rw [if_neg (by rw [hkb]; decide)] at HG2
          have HP := Lib.hid (prev_succ l hlt)
          have HG3 := Lib.hid HG2
          clear HG2 hkb
          by_cases hk0 : k = 0
          · subst hk0
            have HG4 : Hid (go none l = if l[0].2.length = 0 then 8 else if ckBad l[0].2 ≠ 0 then ckBad l[0].2 else go (some l[0].1) (l.drop (0 + 1))) := Lib.hid (by rw [HG3.out]; rfl)
            simp only [Nat.zero_mul, Nat.add_zero] at f0 f1
            clear HG3
            go_wp2_with (go_at_call 36; refine (ck _).mono ?_; rintro e w2 ⟨rfl, HB2⟩; have g0 := HN2.out _ _ 0 _ _ HB2 rfl; have g1 := HN2.out _ _ 1 _ _ HB2 rfl)
            go_quiet (fail)
            have HB3 := Lib.hid (B.below_drew (B.below_trans (HA _ _).out HB2) nq)
            have HD2 := Lib.hid (((HD.out.mono ((Below.refl _ wr).alloc (Nat.le_refl _) _)).mono HB2).mono (B.below_drew (Below.refl _ _) nq))
            by_cases hz : l[0].2.length = 0
            · have HX : Hid (fault l = 8) := Lib.hid (by rw [HF.out, HG4.out, if_pos hz]; rfl)
              have hzb : ((l[0].2.length : Int) == 0) = true := beq_iff_eq.2 (by omega)
              clear HG4 hz HB2
              go_wp2
              go_ret
              exact ⟨by rw [HX.out]; rfl, HB3.out⟩
            · have HG5 := HG4.out
              rw [if_neg hz] at HG5
              have HG6 := Lib.hid HG5
              have hzb : ((l[0].2.length : Int) == 0) = false := beq_eq_false_iff_ne.2 (by omega)
              clear HG4 HG5 hz HB2 HB HD
              go_wp2
              go_loopw [51] (fun sj wr => ∃ (j : Nat), sj = .int .i64 j ∧ j ≤ l[0].2.length ∧ Hid (ckBad l[0].2 = ckBad (l[0].2.drop j)) ∧ Hid (Below w2.heap.size (w2.drewN nq) wr)) (fun sj _ => l[0].2.length - (intOf sj).toNat)
              case atStart => exact ⟨0, rfl, by omega, Lib.hid rfl, Lib.hid (Below.refl _ _)⟩
              case round =>
                obtain ⟨j, rfl, hj, HQ, HBq⟩ := hrel
                have HBw := Lib.hid (B.below_trans HB3.out HBq.out)
                by_cases hjl : j < l[0].2.length
                · obtain ⟨b5, o5, cs5, rfl, K5, e5⟩ := (HD2.out.mono HBq.out).at j hjl
                  obtain rfl : cs5 = [.string l[0].2[j].1, .int .i64 l[0].2[j].2] := K5
                  have q0 : wr.cell? ⟨b5, o5 + j * 2, none⟩ = some (.string l[0].2[j].1) := by simpa [B.Kd.chunk, B.Kd.flat] using e5 0 (by simp)
                  have q1 : wr.cell? ⟨b5, o5 + j * 2 + 1, none⟩ = some (.int .i64 l[0].2[j].2) := by simpa [B.Kd.chunk, B.Kd.flat] using e5 1 (by simp)
                  have hj1 : (j : Int) < l[0].2.length := by omega
                  have HQ2 := HQ.out
                  rw [ckBad_drop hjl] at HQ2
                  have HA2 := fun c o => Lib.hid (HBq.out.alloc (show w2.heap.size ≤ wr.heap.size from HBq.out.size) (.cells c o))
                  have HA3 := fun c o => Lib.hid (HBw.out.alloc (show w.heap.size ≤ wr.heap.size from HBw.out.size) (.cells c o))
                  have HM := Lib.hid (fun (c : Array Value) (o : TypeId) (i : Nat) (u : Value) (w5 : World) (hb : Below (wr.alloc (.cells c o)).heap.size (wr.alloc (.cells c o)) w5) (hc : c[i]? = some u) => (B.cell_below hb (by rw [World.cell?_alloc_new]; exact hc) : w5.cell? ⟨wr.heap.size, i, none⟩ = some u))
                  clear e5
                  cases hsr : Key.sumR l[0].2[j].1 with
                  | false =>
                    have cs := Key.sumRight l[0].2[j].1 false hsr
                    rw [if_pos hsr] at HQ2
                    have HX : Hid (fault l = 3) := Lib.hid (by rw [HF.out, HG6.out, HQ2]; rfl)
                    clear HQ2 hsr
                    go_wp2_with (go_at_call 41; refine (cs _).mono ?_; rintro e w5 ⟨rfl, HB5⟩)
                    go_ret
                    exact ⟨by rw [HX.out]; rfl, B.below_trans (HA3 _ _).out HB5⟩
                  | true =>
                    have cs := Key.sumRight l[0].2[j].1 true hsr
                    rw [if_neg (by rw [hsr]; decide)] at HQ2
                    clear hsr
                    by_cases hb : l[0].2[j].2 < (1 : Int) ∨ (1000000000000 : Int) < l[0].2[j].2
                    · rw [if_pos hb] at HQ2
                      have co := Cut.within l[0].2[j].2 1 1000000000000 false (inN hb)
                      have HX : Hid (fault l = 1) := Lib.hid (by rw [HF.out, HG6.out, HQ2]; rfl)
                      clear HQ2 hb
                      go_wp2_with (first | (go_at_call 41; refine (cs _).mono ?_; rintro e w5 ⟨rfl, HB5⟩; have r1 := HM.out _ _ 1 _ _ HB5 rfl) | (go_at_call 30; refine (co _).mono ?_; rintro e w6 ⟨rfl, rfl⟩))
                      go_ret
                      exact ⟨by rw [HX.out]; rfl, B.below_trans (HA3 _ _).out HB5⟩
                    · rw [if_neg hb] at HQ2
                      have co := Cut.within l[0].2[j].2 1 1000000000000 true (inY hb)
                      have HQ3 := Lib.hid HQ2
                      clear HQ2 hb
                      go_wp2_with (first | (go_at_call 41; refine (cs _).mono ?_; rintro e w5 ⟨rfl, HB5⟩; have r1 := HM.out _ _ 1 _ _ HB5 rfl) | (go_at_call 30; refine (co _).mono ?_; rintro e w6 ⟨rfl, rfl⟩))
                      go_roundw
                      case rel => exact ⟨j + 1, by go_num, by omega, HQ3, Lib.hid ((HA2 _ _).out.trans (HB5.mono (HA2 _ _).out.size))⟩
                      case measure => simp [intOf]; omega
                · obtain rfl : j = l[0].2.length := by omega
                  have hq0 : ckBad l[0].2 = 0 := by rw [HQ.out, List.drop_length]; rfl
                  have HX : Hid (go none l = go (prev l (0 + 1)) (l.drop (0 + 1))) := Lib.hid (by rw [HG6.out, if_neg (by rw [hq0]; decide), HP.out])
                  clear hq0
                  go_wp2
                  go_roundw
                  case rel => exact ⟨0 + 1, by go_num, by omega, HX, HBw⟩
                  case measure => simp [intOf]; omega
          · obtain ⟨m, rfl⟩ : ∃ m, k = m + 1 := ⟨k - 1, by omega⟩
            have hml : m < l.length := by omega
            obtain ⟨b1', o1', cs1, ee, K1, e1⟩ := C.at m hml
            obtain ⟨rfl, rfl⟩ : b1 = b1' ∧ o1 = o1' := by simpa using ee
            obtain ⟨A3, c3, rfl, -⟩ := K1
            have f3 : wr.cell? ⟨b1, o1 + m * 2, none⟩ = some (.string l[m].1) := by simpa [B.Kd.file] using B.cell_below HB.out (e1 0 (by simp))
            have F4 := Lib.hid (fun o w2 (hb : Below (wr.alloc o).heap.size (wr.alloc o) w2) => B.cell_below hb (B.cell_below ((Below.refl _ wr).alloc (Nat.le_refl _) o) f3))
            clear e1 ee f3 A3 c3
            have hkb : decide (0 < m + 1) = true := decide_eq_true (by omega)
            have hjw : IntKind.i64.wrap (m : Int) = (m : Int) := by rw [IntKind.wrap_i64]; omega
            have hpv : prev l (m + 1) = some l[m].1 := prev_succ l hml
            cases hle : leS l[m + 1].1 l[m].1 with
            | true =>
              have HX : Hid (fault l = 7) := Lib.hid (by rw [HF.out, HG3.out, hpv, notAfter, Option.any_some, if_pos hle]; rfl)
              have hle' : (Op.bytesLess l[m + 1].1.toList l[m].1.toList || l[m + 1].1.toList == l[m].1.toList) = true := hle
              clear HG3 hle
              go_wp2_with (go_at_call 36; refine (ck _).mono ?_; rintro e w2 ⟨rfl, HB2⟩; have g0 := HN2.out _ _ 0 _ _ HB2 rfl; have g4 := F4.out _ _ HB2)
              go_quiet (fail)
              go_wp2
              go_ret
              exact ⟨by rw [HX.out]; rfl, B.below_drew (B.below_trans (HA _ _).out HB2) _⟩
            | false =>
              have HG4 : Hid (go none l = if l[m + 1].2.length = 0 then 8 else if ckBad l[m + 1].2 ≠ 0 then ckBad l[m + 1].2 else go (some l[m + 1].1) (l.drop (m + 1 + 1))) := Lib.hid (by rw [HG3.out, hpv, notAfter, Option.any_some, if_neg (by rw [hle]; decide)])
              have hle' : (Op.bytesLess l[m + 1].1.toList l[m].1.toList || l[m + 1].1.toList == l[m].1.toList) = false := hle
              clear HG3 hle
              go_wp2_with (go_at_call 36; refine (ck _).mono ?_; rintro e w2 ⟨rfl, HB2⟩; have g0 := HN2.out _ _ 0 _ _ HB2 rfl; have g1 := HN2.out _ _ 1 _ _ HB2 rfl; have g4 := F4.out _ _ HB2)
              go_quiet (fail)
              have HB3 := Lib.hid (B.below_drew (B.below_trans (HA _ _).out HB2) nq)
              have HD2 := Lib.hid (((HD.out.mono ((Below.refl _ wr).alloc (Nat.le_refl _) _)).mono HB2).mono (B.below_drew (Below.refl _ _) nq))
              by_cases hz : l[m + 1].2.length = 0
              · have HX : Hid (fault l = 8) := Lib.hid (by rw [HF.out, HG4.out, if_pos hz]; rfl)
                have hzb : ((l[m + 1].2.length : Int) == 0) = true := beq_iff_eq.2 (by omega)
                clear HG4 hz HB2
                go_wp2
                go_ret
                exact ⟨by rw [HX.out]; rfl, HB3.out⟩
              · have HG5 := HG4.out
                rw [if_neg hz] at HG5
                have HG6 := Lib.hid HG5
                have hzb : ((l[m + 1].2.length : Int) == 0) = false := beq_eq_false_iff_ne.2 (by omega)
                clear HG4 HG5 hz HB2 HB HD
                go_wp2
                go_loopw [51] (fun sj wr => ∃ (j : Nat), sj = .int .i64 j ∧ j ≤ l[m + 1].2.length ∧ Hid (ckBad l[m + 1].2 = ckBad (l[m + 1].2.drop j)) ∧ Hid (Below w2.heap.size (w2.drewN nq) wr)) (fun sj _ => l[m + 1].2.length - (intOf sj).toNat)
                case atStart => exact ⟨0, rfl, by omega, Lib.hid rfl, Lib.hid (Below.refl _ _)⟩
                case round =>
                  obtain ⟨j, rfl, hj, HQ, HBq⟩ := hrel
                  have HBw := Lib.hid (B.below_trans HB3.out HBq.out)
                  by_cases hjl : j < l[m + 1].2.length
                  · obtain ⟨b5, o5, cs5, rfl, K5, e5⟩ := (HD2.out.mono HBq.out).at j hjl
                    obtain rfl : cs5 = [.string l[m + 1].2[j].1, .int .i64 l[m + 1].2[j].2] := K5
                    have q0 : wr.cell? ⟨b5, o5 + j * 2, none⟩ = some (.string l[m + 1].2[j].1) := by simpa [B.Kd.chunk, B.Kd.flat] using e5 0 (by simp)
                    have q1 : wr.cell? ⟨b5, o5 + j * 2 + 1, none⟩ = some (.int .i64 l[m + 1].2[j].2) := by simpa [B.Kd.chunk, B.Kd.flat] using e5 1 (by simp)
                    have hj1 : (j : Int) < l[m + 1].2.length := by omega
                    have HQ2 := HQ.out
                    rw [ckBad_drop hjl] at HQ2
                    have HA2 := fun c o => Lib.hid (HBq.out.alloc (show w2.heap.size ≤ wr.heap.size from HBq.out.size) (.cells c o))
                    have HA3 := fun c o => Lib.hid (HBw.out.alloc (show w.heap.size ≤ wr.heap.size from HBw.out.size) (.cells c o))
                    have HM := Lib.hid (fun (c : Array Value) (o : TypeId) (i : Nat) (u : Value) (w5 : World) (hb : Below (wr.alloc (.cells c o)).heap.size (wr.alloc (.cells c o)) w5) (hc : c[i]? = some u) => (B.cell_below hb (by rw [World.cell?_alloc_new]; exact hc) : w5.cell? ⟨wr.heap.size, i, none⟩ = some u))
                    clear e5
                    cases hsr : Key.sumR l[m + 1].2[j].1 with
                    | false =>
                      have cs := Key.sumRight l[m + 1].2[j].1 false hsr
                      rw [if_pos hsr] at HQ2
                      have HX : Hid (fault l = 3) := Lib.hid (by rw [HF.out, HG6.out, HQ2]; rfl)
                      clear HQ2 hsr
                      go_wp2_with (go_at_call 41; refine (cs _).mono ?_; rintro e w5 ⟨rfl, HB5⟩)
                      go_ret
                      exact ⟨by rw [HX.out]; rfl, B.below_trans (HA3 _ _).out HB5⟩
                    | true =>
                      have cs := Key.sumRight l[m + 1].2[j].1 true hsr
                      rw [if_neg (by rw [hsr]; decide)] at HQ2
                      clear hsr
                      by_cases hb : l[m + 1].2[j].2 < (1 : Int) ∨ (1000000000000 : Int) < l[m + 1].2[j].2
                      · rw [if_pos hb] at HQ2
                        have co := Cut.within l[m + 1].2[j].2 1 1000000000000 false (inN hb)
                        have HX : Hid (fault l = 1) := Lib.hid (by rw [HF.out, HG6.out, HQ2]; rfl)
                        clear HQ2 hb
                        go_wp2_with (first | (go_at_call 41; refine (cs _).mono ?_; rintro e w5 ⟨rfl, HB5⟩; have r1 := HM.out _ _ 1 _ _ HB5 rfl) | (go_at_call 30; refine (co _).mono ?_; rintro e w6 ⟨rfl, rfl⟩))
                        go_ret
                        exact ⟨by rw [HX.out]; rfl, B.below_trans (HA3 _ _).out HB5⟩
                      · rw [if_neg hb] at HQ2
                        have co := Cut.within l[m + 1].2[j].2 1 1000000000000 true (inY hb)
                        have HQ3 := Lib.hid HQ2
                        clear HQ2 hb
                        go_wp2_with (first | (go_at_call 41; refine (cs _).mono ?_; rintro e w5 ⟨rfl, HB5⟩; have r1 := HM.out _ _ 1 _ _ HB5 rfl) | (go_at_call 30; refine (co _).mono ?_; rintro e w6 ⟨rfl, rfl⟩))
                        go_roundw
                        case rel => exact ⟨j + 1, by go_num, by omega, HQ3, Lib.hid ((HA2 _ _).out.trans (HB5.mono (HA2 _ _).out.size))⟩
                        case measure => simp [intOf]; omega
                  · obtain rfl : j = l[m + 1].2.length := by omega
                    have hq0 : ckBad l[m + 1].2 = 0 := by rw [HQ.out, List.drop_length]; rfl
                    have HX : Hid (go none l = go (prev l (m + 1 + 1)) (l.drop (m + 1 + 1))) := Lib.hid (by rw [HG6.out, if_neg (by rw [hq0]; decide), HP.out])
                    clear hq0
                    go_wp2
                    go_roundw
                    case rel => exact ⟨m + 1 + 1, by go_num, by omega, HX, HBw⟩
                    case measure => simp [intOf]; omega
      · obtain rfl : k = l.length := by omega
        have hg0 : go none l = 0 := by rw [HG.out, List.drop_length]; rfl
        have HF2 := HF.out
        rw [if_neg (by rw [hg0]; decide)] at HF2
        have HF3 := Lib.hid HF2
        clear HF2 hg0 HF
        have HOM := Lib.hid (M.OM.made wr)
        have HB2 := Lib.hid (HB.out.alloc (show w.heap.size ≤ wr.heap.size from HB.out.size) (.map #[] 0))
        have hbw : w.heap.size ≤ wr.heap.size := HB.out.size
        clear HB HG
        go_wp2
        generalize wr.heap.size = bm at HOM hbw ⊢
        go_loopw [68] (fun so wr => ∃ (k : Nat) (es : M.Es), so = .int .i64 k ∧ k ≤ l.length ∧ Hid (Nums es) ∧ Hid (M.OM wr bm es) ∧ Hid (sums [] (l.flatMap (·.2)) = sums es ((l.drop k).flatMap (·.2))) ∧ Hid (Below w.heap.size w wr)) (fun so _ => l.length - (intOf so).toNat)
        case atStart => exact ⟨0, [], rfl, by omega, Lib.hid (fun p hp => by simp at hp), HOM, Lib.hid rfl, HB2⟩
        case round =>
          obtain ⟨k, es, rfl, hk, HNU, HO, HE, HB⟩ := hrel
          by_cases hlt : k < l.length
          · obtain ⟨b1, o1, cs1, rfl, K1, e1⟩ := C.at k hlt
            obtain ⟨A2, c2, rfl, D⟩ := K1
            have f0 : wr.cell? ⟨b1, o1 + k * 2, none⟩ = some (.string l[k].1) := by simpa [B.Kd.file] using B.cell_below HB.out (e1 0 (by simp))
            have f1 : wr.cell? ⟨b1, o1 + k * 2 + 1, none⟩ = some (.slice A2 l[k].2.length c2) := by simpa [B.Kd.file] using B.cell_below HB.out (e1 1 (by simp))
            have hk1 : (k : Int) < l.length := by omega
            have L2 := D.1
            have HD := Lib.hid D
            have HS1 := Lib.hid (HB.out.alloc (show w.heap.size ≤ wr.heap.size from HB.out.size) (.cells #[.string l[k].1, .slice A2 l[k].2.length c2] 27))
            have HO1 := Lib.hid (HO.out.below ((Below.refl _ _).alloc (Nat.le_refl _) (.cells #[.string l[k].1, .slice A2 l[k].2.length c2] 27)))
            have HE1 : Hid (sums [] (l.flatMap (·.2)) = sums es (l[k].2.drop 0 ++ (l.drop (k + 1)).flatMap (·.2))) := Lib.hid (by rw [HE.out, List.drop_eq_getElem_cons hlt, List.flatMap_cons, List.drop_zero])
            clear e1 D HE HO HB
            go_wp2
            go_loopw [75] (fun si wr => ∃ (j : Nat) (es : M.Es), si = .int .i64 j ∧ j ≤ l[k].2.length ∧ Hid (Nums es) ∧ Hid (M.OM wr bm es) ∧ Hid (sums [] (l.flatMap (·.2)) = sums es (l[k].2.drop j ++ (l.drop (k + 1)).flatMap (·.2))) ∧ Hid (Below w.heap.size w wr)) (fun si _ => l[k].2.length - (intOf si).toNat)
            case atStart => exact ⟨0, es, rfl, by omega, HNU, HO1, HE1, HS1⟩
            case round =>
              obtain ⟨j, es, rfl, hj, HNU, HO, HE, HB⟩ := hrel
              by_cases hjl : j < l[k].2.length
              · obtain ⟨b5, o5, cs5, rfl, K5, e5⟩ := (HD.out.mono HB.out).at j hjl
                obtain rfl : cs5 = [.string l[k].2[j].1, .int .i64 l[k].2[j].2] := K5
                have q0 : wr.cell? ⟨b5, o5 + j * 2, none⟩ = some (.string l[k].2[j].1) := by simpa [B.Kd.chunk, B.Kd.flat] using e5 0 (by simp)
                have q1 : wr.cell? ⟨b5, o5 + j * 2 + 1, none⟩ = some (.int .i64 l[k].2[j].2) := by simpa [B.Kd.chunk, B.Kd.flat] using e5 1 (by simp)
                have hj1 : (j : Int) < l[k].2.length := by omega
                have HE2 := HE.out
                rw [List.drop_eq_getElem_cons hjl, List.cons_append, sums] at HE2
                have HB3 := Lib.hid (HB.out.alloc (show w.heap.size ≤ wr.heap.size from HB.out.size) (.cells #[.string l[k].2[j].1, .int .i64 l[k].2[j].2] 40))
                have HO3 := Lib.hid (HO.out.below ((Below.refl _ _).alloc (Nat.le_refl _) (.cells #[.string l[k].2[j].1, .int .i64 l[k].2[j].2] 40)))
                have HNP := Lib.hid (HNU.out.put l[k].2[j].1 l[k].2[j].2)
                clear e5
                cases hlook : M.look es l[k].2[j].1 with
                | none =>
                  have HE3 : Hid (sums [] (l.flatMap (·.2)) = sums (M.put es l[k].2[j].1 (.int .i64 l[k].2[j].2)) (l[k].2.drop (j + 1) ++ (l.drop (k + 1)).flatMap (·.2))) := Lib.hid (by rw [HE2, hlook]; rfl)
                  have HLK := Lib.hid hlook
                  clear HE2 hlook HE
                  go_wp2_with (first
                    | (at_lookup; refine M.wpl_look_ok rfl _ _ 86 rfl 9 3 Tryz.underlying86 Tryz.underlying9 _ (zeroInt _) bm es HO3.out rfl _ rfl ?_; simp only [HLK.out, Option.getD_none, Option.isSome_none])
                    | (at_mapUpdate; refine M.wpl_put rfl _ _ _ 86 rfl 9 3 Tryz.underlying86 Tryz.underlying9 bm es HO3.out rfl _ rfl _ rfl w w.heap.size HB3.out hbw ?_; intro w7 HO7 HB7 _))
                  go_roundw
                  case rel => exact ⟨j + 1, _, by go_num, by omega, HNP, Lib.hid HO7, HE3, Lib.hid HB7⟩
                  case measure => simp [intOf]; omega
                | some vv =>
                  obtain ⟨n, rfl⟩ := HNU.out.look hlook
                  by_cases hn : n = l[k].2[j].2
                  · have HE3 : Hid (sums [] (l.flatMap (·.2)) = sums (M.put es l[k].2[j].1 (.int .i64 l[k].2[j].2)) (l[k].2.drop (j + 1) ++ (l.drop (k + 1)).flatMap (·.2))) := Lib.hid (by rw [HE2, hlook, clash, hn, bne_self_eq_false]; rfl)
                    have HLK := Lib.hid hlook
                    have hnb : (n != l[k].2[j].2) = false := by rw [hn, bne_self_eq_false]
                    clear HE2 hlook HE hn
                    go_wp2_with (first
                      | (at_lookup; refine M.wpl_look_ok rfl _ _ 86 rfl 9 3 Tryz.underlying86 Tryz.underlying9 _ (zeroInt _) bm es HO3.out rfl _ rfl ?_; simp only [HLK.out, Option.getD_some, Option.isSome_some])
                      | (at_mapUpdate; refine M.wpl_put rfl _ _ _ 86 rfl 9 3 Tryz.underlying86 Tryz.underlying9 bm es HO3.out rfl _ rfl _ rfl w w.heap.size HB3.out hbw ?_; intro w7 HO7 HB7 _))
                    go_roundw
                    case rel => exact ⟨j + 1, _, by go_num, by omega, HNP, Lib.hid HO7, HE3, Lib.hid HB7⟩
                    case measure => simp [intOf]; omega
                  · have hnb : (n != l[k].2[j].2) = true := bne_iff_ne.2 hn
                    have HX : Hid (fault l = 13) := Lib.hid (by rw [HF3.out, HE2, hlook, clash, hnb]; rfl)
                    have HLK := Lib.hid hlook
                    clear HE2 hlook HE hn
                    go_wp2_with (at_lookup; refine M.wpl_look_ok rfl _ _ 86 rfl 9 3 Tryz.underlying86 Tryz.underlying9 _ (zeroInt _) bm es HO3.out rfl _ rfl ?_; simp only [HLK.out, Option.getD_some, Option.isSome_some])
                    go_ret
                    exact ⟨by rw [HX.out]; rfl, HB3.out⟩
              · obtain rfl : j = l[k].2.length := by omega
                have HE2 : Hid (sums [] (l.flatMap (·.2)) = sums es ((l.drop (k + 1)).flatMap (·.2))) := Lib.hid (by rw [HE.out, List.drop_length, List.nil_append])
                go_wp2
                go_roundw
                case rel => exact ⟨k + 1, es, by go_num, by omega, HNU, HO, HE2, HB⟩
                case measure => simp [intOf]; omega
          · obtain rfl : k = l.length := by omega
            have HE2 : Hid (fault l = if 2000 < es.length then 2 else 0) := Lib.hid (by rw [HF3.out, HE.out, List.drop_length]; rfl)
            have hln := fun ty => HO.out.run_len (P := Tryz.prog) Tryz.underlying86 ty
            by_cases h2 : 2000 < es.length
            · have HX : Hid (fault l = 2) := Lib.hid (by rw [HE2.out, if_pos h2])
              have h2' : (2000 : Int) < es.length := by omega
              go_wp2
              go_ret
              exact ⟨by rw [HX.out]; rfl, HB.out⟩
            · have HX : Hid (fault l = 0) := Lib.hid (by rw [HE2.out, if_neg h2])
              have h2' : ¬ (2000 : Int) < es.length := by omega
              go_wp2
              go_ret
              exact ⟨by rw [HX.out]; rfl, HB.out⟩

end Go.Proofs.YtmcbljongeadeaaGreatDoor.Files
