/- The reference's levels: all rows of sums. -/
import Derived.Test.YtmcbljongeadeaaGreatDoorRowsOf
namespace Go.Proofs.YtmcbljongeadeaaGreatDoor.Pf
open Go.RowKit

/-- All rows from this one on. -/
def lev : Nat → List ByteArray → List (List ByteArray)
  | 0, xs => [xs]
  | n + 1, xs => if 1 < xs.length then xs :: lev n (pairs xs) else [xs]
/-- The last row. -/
def climb : Nat → List ByteArray → List ByteArray
  | 0, xs => xs
  | n + 1, xs => if 1 < xs.length then climb n (pairs xs) else xs
theorem lev_last (n : Nat) (xs : List ByteArray) : ∃ pre, lev n xs = pre ++ [climb n xs] := by
  induction n generalizing xs with
  | zero => exact ⟨[], rfl⟩
  | succ n ih =>
    unfold lev climb
    split
    · obtain ⟨pre, h⟩ := ih (pairs xs)
      exact ⟨xs :: pre, by rw [h]; rfl⟩
    · exact ⟨[], rfl⟩
theorem climb_small {n : Nat} {xs : List ByteArray} (h : ¬ 1 < xs.length) : climb n xs = xs := by
  cases n with
  | zero => rfl
  | succ n => unfold climb; rw [if_neg h]
theorem lev_small {n : Nat} {xs : List ByteArray} (h : ¬ 1 < xs.length) : lev n xs = [xs] := by
  cases n with
  | zero => rfl
  | succ n => unfold lev; rw [if_neg h]
theorem pairs_le {n : Nat} {xs : List ByteArray} (h : 1 < xs.length) (hn : xs.length ≤ n) : ∃ m, n = m + 1 ∧ (pairs xs).length ≤ m := by
  refine ⟨n - 1, by omega, ?_⟩
  rw [pairs_length]
  omega
theorem info_strs : (Tryz.prog.info? 60).map (fun i => (i.zero, i.size, i.bytes)) = some (some (.slice none 0 0), 1, 24) := by kernel_rfl
/-- A row's value. -/
def rwR (A : Option Addr) (n c : Nat) : B.Rw 1 := ⟨[.slice A n c], rfl, by intro v hv; simp at hv; subst hv; rfl⟩
/-- The rows lie there. -/
def Rows (w : World) (base : Nat) (rs : List (B.Rw 1)) (ls : List (List ByteArray)) : Prop :=
  rs.length = ls.length ∧ ∀ j (h1 : j < ls.length) (h2 : j < rs.length), ∃ A c, rs[j].val = [.slice A ls[j].length c] ∧ B.Own w base 9 1 stE (.slice A ls[j].length c) ls[j]
theorem Rows.below {w w' : World} {base : Nat} {rs : List (B.Rw 1)} {ls : List (List ByteArray)} (h : Rows w base rs ls) (hb : Below w.heap.size w w') : Rows w' base rs ls :=
  ⟨h.1, fun j h1 h2 => by obtain ⟨A, c, e, ho⟩ := h.2 j h1 h2; exact ⟨A, c, e, ho.below hb⟩⟩
theorem Rows.snoc {w w' : World} {base b2 : Nat} {rs : List (B.Rw 1)} {ls : List (List ByteArray)} {A : Option Addr} {c : Nat} {x : List ByteArray} {v : Value} {ys : List (B.Rw 1)} (h : Rows w base rs ls) (ho : B.Own w base 9 1 stE (.slice A x.length c) x)
    (hv : B.Own w b2 60 1 Subtype.val v ys) (hg : w.grownBy w' v.ownBlock) : Rows w' base (rs ++ [rwR A x.length c]) (ls ++ [x]) := by
  refine ⟨by simp [h.1], fun j h1 h2 => ?_⟩
  by_cases hj : j < rs.length
  · obtain ⟨A', c', e, ho'⟩ := h.2 j (by rw [← h.1]; exact hj) hj
    have hj' : j < ls.length := by rw [← h.1]; exact hj
    refine ⟨A', c', ?_, ?_⟩
    · rw [List.getElem_append_left hj, List.getElem_append_left hj']; exact e
    · rw [List.getElem_append_left hj']; exact Copy.own_grown ho' hg (Copy.sep hv ho' (by decide))
  · have hl := h.1
    simp at h2
    obtain rfl : j = rs.length := by omega
    refine ⟨A, c, ?_, ?_⟩
    · rw [List.getElem_append_right (by omega), List.getElem_append_right (by omega)]; simp [rwR, hl]
    · rw [List.getElem_append_right (by omega)]
      simp only [hl, Nat.sub_self, List.getElem_cons_zero]
      exact Copy.own_grown ho hg (Copy.sep hv ho (by decide))
def lenV : Value → Nat
  | .slice _ n _ => n
  | _ => 0
set_option maxHeartbeats 4000000 in
set_option maxRecDepth 100000 in
theorem levels (no : Int) (v : Value) (l : List Fl) (hs : ∀ f ∈ l, Small f) (hl : l.length ≤ 1048576) (w : World) (h : B.Kd.file.S w v l) (ht : Hex.Tab w) :
    Calls Tryz.prog 32 #[.agg #[.int .i64 no, v]] w fun e w' => ∃ v' rs, e = .returned v' ∧ B.Own w' w.heap.size 60 1 Subtype.val v' rs ∧ Rows w' w.heap.size rs (lev l.length (l.map leafS)) ∧ Below w.heap.size w w' := by
  obtain ⟨A, c, rfl, C⟩ := h
  have HS := Lib.hid hs
  have HT := Lib.hid ht
  have HA := Lib.hid (fun (c : Array Value) (o : TypeId) => (Below.refl _ w).alloc (Nat.le_refl _) (.cells c o))
  clear hs ht
  go_enter Tryz.func32, Tryz.ntmps32
  go_wp2
  go_loopw [3, 12] (fun s3 so wr => ∃ (k : Nat), so = .int .i64 k ∧ k ≤ l.length ∧ Hid (B.Own wr w.heap.size 9 1 stE s3 ((l.take k).map leafS)) ∧ Hid (Below w.heap.size w wr)) (fun _ so _ => l.length - (intOf so).toNat)
  case atStart => exact ⟨0, rfl, Nat.zero_le _, Lib.hid (B.Own.nil _ _ _ _ _), HA.out _ _⟩
  case round =>
    obtain ⟨k, rfl, hk, HW, HB⟩ := hrel
    by_cases hlt : k < l.length
    · obtain ⟨b1, o1, cs1, rfl, K1, e1⟩ := C.at k hlt
      obtain ⟨A2, c2, rfl, D⟩ := K1
      have f0 : wr.cell? ⟨b1, o1 + k * 2, none⟩ = some (.string l[k].1) := by simpa [B.Kd.file] using B.cell_below HB.out (e1 0 (by simp))
      have f1 : wr.cell? ⟨b1, o1 + k * 2 + 1, none⟩ = some (.slice A2 l[k].2.length c2) := by simpa [B.Kd.file] using B.cell_below HB.out (e1 1 (by simp))
      have hk1 : (k : Int) < l.length := by omega
      have hbw : w.heap.size ≤ wr.heap.size := HB.out.size
      have HB1 := Lib.hid ((Below.refl _ wr).alloc (Nat.le_refl _) (.cells #[.string l[k].1, .slice A2 l[k].2.length c2] 27))
      have HB2 := Lib.hid (HB.out.trans (HB1.out.mono hbw))
      have cl := fileSum l[k] A2 c2 (HS.out _ (List.getElem_mem hlt)) _ (D.mono HB2.out) (HT.out.below HB2.out)
      have HE : Hid ((l.take (k + 1)).map leafS = (l.take k).map leafS ++ [leafS l[k]]) := Lib.hid (by rw [← List.take_append_getElem hlt, List.map_append]; rfl)
      have hln : ((l.take k).map leafS).length + 1 ≤ 1048576 := by simp; omega
      clear e1 D
      go_wp2_with (first
        | (go_at_call 45; refine cl.mono ?_; rintro e w2 ⟨rfl, HB3⟩; have HW2 := (HW.out.below HB1.out).below HB3; have HB4 := HB2.out.trans (HB3.mono (by simp; omega)))
        | (at_builtin; refine Copy.wpl_append_g (w0 := w) w.heap.size rfl _ _ 60 9 (.string ⟨#[]⟩) 1 16 rfl Tryz.underlying60 Cut.info_str rfl (by decide) (by decide) stE (fun _ => rfl) stE1 _ _ (leafS l[k]) _ rfl HW2 rfl _ rfl rfl HB4 HB4.size (by omega) ?_; intro v8 w8 HW8 HB8 HG8))
      go_roundw
      case rel => exact ⟨k + 1, by go_num, by omega, Lib.hid (by rw [HE.out]; exact HW8), Lib.hid HB8⟩
      case measure => simp [intOf]; omega
    · obtain rfl : k = l.length := by omega
      have HW2 := HW.out
      rw [List.take_length] at HW2
      obtain ⟨Ac, cc, e3⟩ := Copy.shape HW2
      have h16 := All16.leaves l
      have hxl : (l.map leafS).length = l.length := List.length_map ..
      generalize hxs : l.map leafS = xs at HW2 h16 hxl e3 ⊢
      have HXS := Lib.hid hxs
      clear hxs
      subst e3
      have HXL := Lib.hid hxl
      have HX16 := Lib.hid h16
      rw [hxl] at HW2
      clear hxl h16
      have HO1 : Hid (B.Own (wr.alloc (.cells #[.slice Ac xs.length cc] 60)) w.heap.size 60 1 Subtype.val (.slice (some ⟨wr.heap.size, 0, none⟩) 1 1) [rwR Ac xs.length cc]) := Lib.hid (World.ownsRow_lit (base := w.heap.size) (e := 60) (size := 1) wr #[.slice Ac xs.length cc] 1 HB.out.size (by decide) rfl)
      have HB2 := Lib.hid (HB.out.alloc HB.out.size (.cells #[.slice Ac xs.length cc] 60))
      have HW2' : B.Own wr w.heap.size 9 1 stE (.slice Ac xs.length cc) xs := by rw [HXL.out]; exact HW2
      have HW3 := Lib.hid (HW2'.below ((Below.refl _ wr).alloc (Nat.le_refl _) (.cells #[.slice Ac xs.length cc] 60)))
      have HR1 : Hid (Rows (wr.alloc (.cells #[.slice Ac xs.length cc] 60)) w.heap.size [rwR Ac xs.length cc] [xs]) := Lib.hid ⟨rfl, fun j h1 h2 => by
        obtain rfl : j = 0 := by simp at h1; exact h1
        exact ⟨Ac, cc, rfl, HW3.out⟩⟩
      have hxl : xs.length = l.length := HXL.out
      rw [← hxl]
      have hl2 : xs.length ≤ 1048576 := by omega
      clear HW2 HW2' HW HB hxl hk hlt
      go_wp2
      go_loopw [3, 6] (fun s3 s6 wr => ∃ (n : Nat) (cur : List ByteArray) (pre : List (List ByteArray)) (rs : List (B.Rw 1)) (Ac : Option Addr) (cc : Nat), s3 = .slice Ac cur.length cc ∧ cur.length ≤ n ∧ pre.length + n ≤ xs.length ∧ Hid (lev xs.length xs = pre ++ lev n cur) ∧ Hid (B.Own wr w.heap.size 9 1 stE (.slice Ac cur.length cc) cur) ∧ Hid (B.Own wr w.heap.size 60 1 Subtype.val s6 rs) ∧ Hid (Rows wr w.heap.size rs (pre ++ [cur])) ∧ Hid (All16 cur) ∧ Hid (Below w.heap.size w wr)) (fun s3 _ _ => lenV s3)
      case atStart => exact ⟨xs.length, xs, [], [rwR Ac xs.length cc], Ac, cc, rfl, Nat.le_refl _, by simp, Lib.hid rfl, HW3, HO1, HR1, HX16, HB2⟩
      case round =>
        obtain ⟨n, cur, pre, rs, Ac, cc, rfl, hcn, hpn, HL, HC, HO, HR, H16, HB⟩ := hrel
        by_cases h1 : 1 < cur.length
        · obtain ⟨m, rfl, hm⟩ := pairs_le h1 hcn
          have h1i : (1 : Int) < cur.length := by omega
          obtain ⟨W0, hW0⟩ : ∃ x, x = wr := ⟨_, rfl⟩
          subst hW0
          have HL2 : Hid (lev xs.length xs = (pre ++ [cur]) ++ lev m (pairs cur)) := Lib.hid (by rw [HL.out, lev, if_pos h1, List.append_assoc]; rfl)
          obtain ⟨Ac', cc', ee, D⟩ := B.own_str HC.out (by omega)
          cases ee
          have HT2 := Lib.hid (HT.out.below HB.out)
          clear HL
          go_wp2
          go_loopw [7, 8] (fun s7 s8 wx => ∃ (k : Nat) (out : List ByteArray), s8 = .int .i64 k ∧ k ≤ cur.length + 1 ∧ out.length ≤ k ∧ Hid (B.Own wx W0.heap.size 9 1 stE s7 out) ∧ Hid (pairs cur = out ++ pairs (cur.drop k)) ∧ Hid (Below W0.heap.size W0 wx)) (fun _ s8 _ => cur.length + 1 - (intOf s8).toNat)
          case atStart => exact ⟨0, [], rfl, Nat.zero_le _, Nat.le_refl _, Lib.hid (B.Own.nil _ _ _ _ _), Lib.hid rfl, Lib.hid (Below.refl _ _)⟩
          case round =>
            obtain ⟨k, out, rfl, hk, hol, HW, HP, HBx⟩ := hrel
            by_cases h2 : k + 1 < cur.length
            · have hlt : k < cur.length := by omega
              obtain ⟨b5, o5, cs5, rfl, K5, e5⟩ := D.at k hlt
              obtain rfl : cs5 = [.string cur[k]] := K5
              obtain ⟨b6, o6, cs6, ee, K6, e6⟩ := D.at (k + 1) h2
              obtain rfl : cs6 = [.string cur[k + 1]] := K6
              cases ee
              have QW := Lib.hid (show W0.cell? ⟨b5, o5 + k, none⟩ = some (.string cur[k]) ∧ W0.cell? ⟨b5, o5 + (k + 1), none⟩ = some (.string cur[k + 1]) from ⟨by simpa [B.Kd.str, B.Kd.flat] using e5 0 (by simp), by simpa [B.Kd.str, B.Kd.flat] using e6 0 (by simp)⟩)
              have q0 := B.cell_below HBx.out QW.out.1
              have q1 := B.cell_below HBx.out QW.out.2
              have hk0 : (0 : Int) ≤ (k : Int) := by omega
              have hk1 : (k : Int) < cur.length := by omega
              have hk2 : (k : Int) + 1 < cur.length := by omega
              have hkb : (((k : Int) + 1) == (cur.length : Int)) = false := beq_eq_false_iff_ne.2 (by omega)
              have s1 := H16.out _ (List.getElem_mem hlt)
              have s2 := H16.out _ (List.getElem_mem h2)
              have HP2 : Hid (pairs cur = (out ++ [Hex.sumB (cur[k] ++ cur[k + 1])]) ++ pairs (cur.drop (k + 2))) := Lib.hid (by rw [HP.out, List.drop_eq_getElem_cons hlt, List.drop_eq_getElem_cons h2, pairs, List.append_assoc]; rfl)
              clear e5 e6 HP
              generalize cur[k] = x1 at q0 s1 HP2 QW
              generalize cur[k + 1] = x2 at q1 s2 HP2 QW
              have hk3 : (0 : Int) ≤ (k : Int) + 1 := by omega
              have hwr : IntKind.i64.wrap ((k : Int) + 1) = (k : Int) + 1 := by rw [IntKind.wrap_i64]; omega
              have hno : ¬ 9223372036854775807 < x1.size + x2.size := by omega
              have HWd := Lib.hid (HW.out.drew 1)
              have HBd := Lib.hid (B.below_drew HBx.out 1)
              have cs := Hex.sum_any (x1 ++ x2) (by rw [ByteArray.size_append]; omega) (wr.drewN 1) (HT2.out.below HBd.out)
              clear HW HBx
              go_wp2
              go_region_held3 (fun w' => w'.cell? ⟨b5, o5 + k, none⟩ = some (.string x1) ∧ w'.cell? ⟨b5, o5 + (k + 1), none⟩ = some (.string x2))
                (first | exact ⟨q0, q1⟩ | exact ⟨r0, r1⟩ | exact ⟨B.cell_below HB8 QW.out.1, B.cell_below HB8 QW.out.2⟩ | go_keep)
                (first
                | (go_at_call 33; refine cs.mono ?_; rintro e w2 ⟨rfl, HB3⟩; have HW2 := HWd.out.below HB3; have HB4 := B.below_trans HBd.out HB3; have r0 := B.cell_below HB3 (show (wr.drewN 1).cell? ⟨b5, o5 + k, none⟩ = some (.string x1) from q0); have r1 := B.cell_below HB3 (show (wr.drewN 1).cell? ⟨b5, o5 + (k + 1), none⟩ = some (.string x2) from q1))
                | (refine step_append_g (w0 := W0) W0.heap.size (by rfl) _ _ 60 9 (.string ⟨#[]⟩) 1 16 (by rfl) Tryz.underlying60 Cut.info_str rfl (by decide) (by decide) stE (fun _ => rfl) stE1 _ out (Hex.sumB (x1 ++ x2)) _ (by rfl) HW2 (by rfl) _ (by rfl) (by rfl) HB4 HB4.size (by omega) ?_; intro v8 w8 HW8 HB8 HG8))
              go_wp2
              go_roundw
              case rel => exact ⟨k + 2, _, by go_num, by omega, by simp; omega, Lib.hid HW8, HP2, Lib.hid HB8⟩
              case measure => simp [intOf]; omega
            · by_cases h3 : k < cur.length
              · have hlast : k + 1 = cur.length := by omega
                obtain ⟨b5, o5, cs5, rfl, K5, e5⟩ := (D.mono HBx.out).at k h3
                obtain rfl : cs5 = [.string cur[k]] := K5
                have q0 : wr.cell? ⟨b5, o5 + k, none⟩ = some (.string cur[k]) := by simpa [B.Kd.str, B.Kd.flat] using e5 0 (by simp)
                have hk1 : (k : Int) < cur.length := by omega
                have hkb : (((k : Int) + 1) == (cur.length : Int)) = true := by rw [beq_iff_eq]; omega
                have HP2 : Hid (pairs cur = (out ++ [cur[k]]) ++ pairs (cur.drop (k + 2))) := Lib.hid (by
                  have e : cur.drop (k + 1) = [] := List.drop_eq_nil_of_le (by omega)
                  have e2 : cur.drop (k + 2) = [] := List.drop_eq_nil_of_le (by omega)
                  rw [HP.out, List.drop_eq_getElem_cons h3, e, e2, pairs, pairs, List.append_nil])
                have HW2 := HW.out
                have HB2 := HBx.out
                have hbw := HBx.out.size
                clear e5 HP HW HBx
                generalize cur[k] = x1 at q0 HP2
                go_wp2_with (at_builtin; refine Copy.wpl_append_g (w0 := W0) W0.heap.size rfl _ _ 60 9 (.string ⟨#[]⟩) 1 16 rfl Tryz.underlying60 Cut.info_str rfl (by decide) (by decide) stE (fun _ => rfl) stE1 _ out x1 _ rfl HW2 rfl _ rfl rfl HB2 hbw (by omega) ?_; intro v8 w8 HW8 HB8 HG8)
                go_roundw
                case rel => exact ⟨k + 2, _, by go_num, by omega, by simp; omega, Lib.hid HW8, HP2, Lib.hid HB8⟩
                case measure => simp [intOf]; omega
              · have hk1 : ¬ (k : Int) < cur.length := by omega
                have HP2 : Hid (pairs cur = out) := Lib.hid (by rw [HP.out, List.drop_eq_nil_of_le (by omega), pairs, List.append_nil])
                obtain rfl : out = pairs cur := HP2.out.symm
                obtain ⟨A7, c7, rfl⟩ := Copy.shape HW.out
                have HWx := Lib.hid ((Copy.own_mono HW.out HB.out.size).below ((Below.refl _ wr).alloc (Nat.le_refl _) (.cells #[.slice A7 (pairs cur).length c7] 60)))
                have HOx := HO.out.below HBx.out
                have HOy := Lib.hid (HOx.below ((Below.refl _ wr).alloc (Nat.le_refl _) (.cells #[.slice A7 (pairs cur).length c7] 60)))
                have HRx := Lib.hid ((HR.out.below HBx.out).below ((Below.refl _ wr).alloc (Nat.le_refl _) (.cells #[.slice A7 (pairs cur).length c7] 60)))
                have HBy := HB.out.trans (HBx.out.mono HB.out.size)
                have hrl : rs.length = pre.length + 1 := by rw [HR.out.1]; simp
                have HPL : Hid ((pairs cur).length < cur.length) := Lib.hid (by rw [pairs_length]; omega)
                go_wp2_with (at_builtin; refine Copy.wpl_append_g (w0 := w) w.heap.size rfl _ _ 66 60 (.slice none 0 0) 1 24 rfl Tryz.underlying66 info_strs rfl (by decide) (by decide) Subtype.val (fun x => x.2.1) (fun x => x.2.2) _ rs (rwR A7 (pairs cur).length c7) _ rfl HOx rfl _ rfl rfl HBy HBy.size (by omega) ?_; intro v8 w8 HW8 HB8 HG8)
                go_roundw
                case rel => exact ⟨m, pairs cur, pre ++ [cur], rs ++ [rwR A7 (pairs cur).length c7], A7, c7, rfl, hm, by simp; omega, HL2, Lib.hid (Copy.own_grown HWx.out HG8 (Copy.sep HOy.out HWx.out (by decide))), Lib.hid HW8, Lib.hid (HRx.out.snoc HWx.out HOy.out HG8), Lib.hid H16.out.pairs, Lib.hid HB8⟩
                case measure => exact HPL.out
        · have h1i : ¬ (1 : Int) < cur.length := by omega
          have HL2 : Hid (lev xs.length xs = pre ++ [cur]) := Lib.hid (by rw [HL.out, lev_small h1])
          go_wp2
          go_ret
          exact ⟨_, rfl, rs, HO.out, by rw [HXS.out, ← HXL.out, HL2.out]; exact HR.out, HB.out⟩
end Go.Proofs.YtmcbljongeadeaaGreatDoor.Pf
