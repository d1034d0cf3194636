/- sync.leaves, paired: rows of sums. -/
import Derived.Test.YtmcbljongeadeaaGreatDoorLeaf
import Derived.Deep.RegionHeld3
import Derived.Deep.AppendLies
namespace Go.Proofs.YtmcbljongeadeaaGreatDoor.Pf
open Go.RowKit

def stE (s : ByteArray) : List Value := [.string s]
theorem stE1 : ∀ x : ByteArray, ∀ v ∈ stE x, v.oneCell' = true := by intro x v hv; simp [stE] at hv; subst hv; rfl
/-- append of one element at a step of a region that draws its order. -/
theorem step_append_g {α : Type} {P : Program} {ops : Array Oper} {o : Oper} {a : Act} {K : Act → World → Prop} {Q : Exit → Act → World → Prop} {E : Prop} {W w0 : World} (base : Nat) (hgd : o.guard = none) (s x : Operand) (t e : TypeId) (z : Value) (k bytes : Nat)
    (ho : o.op = .call { callee := .builtin .append, args := #[s, x], argTypes := #[t, t] }) (ht : P.underlying t = some (.slice e)) (hinfo : (P.info? e).map (fun i => (i.zero, i.size, i.bytes)) = some (some z, k, bytes)) (hz : z.cells.size = k) (hk : 0 < k) (hby : 0 < bytes)
    (enc : α → List Value) (hlen : ∀ x, (enc x).length = k) (h1 : ∀ x, ∀ v ∈ enc x, v.oneCell' = true) (v : Value) (xs : List α) (y : α) (cs : Array Value) (hcs : cs.toList = enc y)
    (HO : B.Own W base e k enc v xs) (hs : a.eval s = v) (nW : Nat) (hW : nW = W.heap.size) (hx : a.eval x = .slice (some ⟨nW, 0, none⟩) 1 1) (HB : Below base w0 W) (hbase : base ≤ W.heap.size) (hroom : (xs.length + 1) * bytes ≤ 140737488355328)
    (h : ∀ v1 w1, B.Own w1 base e k enc v1 (xs ++ [y]) → Below base w0 w1 → (W.alloc (.cells cs e)).grownBy w1 v.ownBlock → K (a.put o.dst v1) w1) :
    if Region.wanted o (yielded ops a.tmps) = true then Oper.wp P o a (W.alloc (.cells cs e)) K Q else E := by
  subst hW
  have HO0 : W.ownsRow base e k v xs.length (xs.flatMap enc) := HO
  obtain ⟨i0, hi, hzz⟩ := Option.map_eq_some_iff.1 hinfo
  simp only [Prod.mk.injEq] at hzz
  obtain ⟨hz0, hz1, hz2⟩ := hzz
  have hn : xs.length + 1 ≤ 140737488355328 := Nat.le_trans (Nat.le_mul_of_pos_right _ hby) hroom
  refine step_append_lies (W.alloc (.cells cs e)) hgd s x t ho base e i0 z k bytes ht hi hz0 hz1 hz2 hz hk v xs.length _ hs (HO0.alloc _) ⟨W.heap.size, 0, none⟩ 1 1 (enc y) hx (by rw [hlen, Nat.one_mul]) ?_ (h1 y) (by omega) (by simp only [maxLen]; omega) hroom (by simp; omega) _ rfl ?_
  · intro j u hj
    rw [Lib.add_plain, Nat.zero_add, World.cell?_alloc_new, ← Array.getElem?_toList, hcs]
    exact hj
  · intro g cap w1 hown hg _ _
    exact h _ w1 (by unfold B.Own; rw [List.length_append, List.length_singleton, List.flatMap_append, List.flatMap_singleton]; exact hown) ((HB.alloc hbase _).grown hg (by simp; omega) (fun k hk => (HO0.lt k hk).1)) hg
/-- The row above a row of sums. -/
def pairs : List ByteArray → List ByteArray
  | a :: b :: r => Hex.sumB (a ++ b) :: pairs r
  | [a] => [a]
  | [] => []
theorem pairs_length : ∀ xs : List ByteArray, (pairs xs).length = (xs.length + 1) / 2
  | a :: b :: r => by rw [pairs, List.length_cons, pairs_length r, List.length_cons, List.length_cons]; omega
  | [a] => by simp [pairs]
  | [] => by simp [pairs]
/-- All are as long as a sum. -/
def All16 (xs : List ByteArray) : Prop := ∀ x ∈ xs, x.size = 16
theorem All16.pairs : ∀ {xs : List ByteArray}, All16 xs → All16 (pairs xs)
  | a :: b :: r, h => by
    intro x hx
    rw [Pf.pairs] at hx
    rcases List.mem_cons.1 hx with rfl | hx
    · exact Hex.sumB_size _
    · exact All16.pairs (fun y hy => h y (by simp [hy])) x hx
  | [a], h => h
  | [], h => h
theorem All16.leaves (l : List Fl) : All16 (l.map leafS) := by
  intro x hx
  obtain ⟨f, _, rfl⟩ := List.mem_map.1 hx
  exact Hex.sumB_size _
set_option maxHeartbeats 2000000 in
theorem leaves (no : Int) (v : Value) (l : List Fl) (hs : ∀ f ∈ l, Small f) (hl : l.length ≤ 1048576) (w : World) (h : B.Kd.file.S w v l) (ht : Hex.Tab w) :
    Calls Tryz.prog 27 #[.agg #[.int .i64 no, v]] w fun e w' => ∃ v', e = .returned v' ∧ B.Own w' w.heap.size 9 1 stE v' (l.map leafS) ∧ Below w.heap.size w w' := by
  obtain ⟨A, c, rfl, C⟩ := h
  have HS := Lib.hid hs
  have HT := Lib.hid ht
  have HA := Lib.hid (fun (c : Array Value) (o : TypeId) => (Below.refl _ w).alloc (Nat.le_refl _) (.cells c o))
  clear hs ht
  go_enter Tryz.func27, Tryz.ntmps27
  go_wp2
  go_loopw [3, 9] (fun s3 so wr => ∃ (k : Nat), so = .int .i64 k ∧ k ≤ l.length ∧ Hid (B.Own wr w.heap.size 9 1 stE s3 ((l.take k).map leafS)) ∧ Hid (Below w.heap.size w wr)) (fun _ so _ => l.length - (intOf so).toNat)
  case atStart => exact ⟨0, rfl, Nat.zero_le _, Lib.hid (B.Own.nil _ _ _ _ _), HA.out _ _⟩
  case round =>
    obtain ⟨k, rfl, hk, HW, HB⟩ := hrel
    by_cases hlt : k < l.length
    · obtain ⟨b1, o1, cs1, rfl, K1, e1⟩ := C.at k hlt
      obtain ⟨A2, c2, rfl, D⟩ := K1
      have f0 : wr.cell? ⟨b1, o1 + k * 2, none⟩ = some (.string l[k].1) := by simpa [B.Kd.file] using B.cell_below HB.out (e1 0 (by simp))
      have f1 : wr.cell? ⟨b1, o1 + k * 2 + 1, none⟩ = some (.slice A2 l[k].2.length c2) := by simpa [B.Kd.file] using B.cell_below HB.out (e1 1 (by simp))
      have hk1 : (k : Int) < l.length := by omega
      have hbw : w.heap.size ≤ wr.heap.size := HB.out.size
      have HB1 := Lib.hid ((Below.refl _ wr).alloc (Nat.le_refl _) (.cells #[.string l[k].1, .slice A2 l[k].2.length c2] 27))
      have HB2 := Lib.hid (HB.out.trans (HB1.out.mono hbw))
      have cl := leaf l[k] A2 c2 (HS.out _ (List.getElem_mem hlt)) _ (D.mono HB2.out) (HT.out.below HB2.out)
      have HE : Hid ((l.take (k + 1)).map leafS = (l.take k).map leafS ++ [leafS l[k]]) := Lib.hid (by rw [← List.take_append_getElem hlt, List.map_append]; rfl)
      have hln : ((l.take k).map leafS).length + 1 ≤ 1048576 := by simp; omega
      clear e1 D
      go_wp2_with (first
        | (go_at_call 40; refine cl.mono ?_; rintro e w2 ⟨rfl, HB3⟩; have HW2 := (HW.out.below HB1.out).below HB3; have HB4 := HB2.out.trans (HB3.mono (by simp; omega)))
        | (at_builtin; refine Copy.wpl_append_g (w0 := w) w.heap.size rfl _ _ 60 9 (.string ⟨#[]⟩) 1 16 rfl Tryz.underlying60 Cut.info_str rfl (by decide) (by decide) stE (fun _ => rfl) stE1 _ _ (leafS l[k]) _ rfl HW2 rfl _ rfl rfl HB4 HB4.size (by omega) ?_; intro v8 w8 HW8 HB8 HG8))
      go_roundw
      case rel => exact ⟨k + 1, by go_num, by omega, Lib.hid (by rw [HE.out]; exact HW8), Lib.hid HB8⟩
      case measure => simp [intOf]; omega
    · obtain rfl : k = l.length := by omega
      have HW2 := HW.out
      rw [List.take_length] at HW2
      have HW3 := Lib.hid HW2
      clear HW2 HW
      go_wp2
      go_ret
      exact ⟨_, rfl, HW3.out, HB.out⟩
set_option maxHeartbeats 2000000 in
set_option maxRecDepth 100000 in
theorem paired (v : Value) (xs : List ByteArray) (hl : xs.length ≤ 1048576) (h16 : All16 xs) (w : World) (h : B.Kd.str.S w v xs) (ht : Hex.Tab w) :
    Calls Tryz.prog 29 #[v] w fun e w' => ∃ v', e = .returned v' ∧ B.Own w' w.heap.size 9 1 stE v' (pairs xs) ∧ Below w.heap.size w w' := by
  obtain ⟨A, c, rfl, C⟩ := h
  have HS := Lib.hid h16
  have HT := Lib.hid ht
  clear h16 ht
  go_enter Tryz.func29, Tryz.ntmps29
  go_wp2
  go_loopw [3, 4] (fun s3 so wr => ∃ (k : Nat) (out : List ByteArray), so = .int .i64 k ∧ k ≤ xs.length + 1 ∧ out.length ≤ k ∧ Hid (B.Own wr w.heap.size 9 1 stE s3 out) ∧ Hid (pairs xs = out ++ pairs (xs.drop k)) ∧ Hid (Below w.heap.size w wr)) (fun _ so _ => xs.length + 1 - (intOf so).toNat)
  case atStart => exact ⟨0, [], rfl, Nat.zero_le _, Nat.le_refl _, Lib.hid (B.Own.nil _ _ _ _ _), Lib.hid rfl, Lib.hid (Below.refl _ _)⟩
  case round =>
    obtain ⟨k, out, rfl, hk, hol, HW, HP, HB⟩ := hrel
    by_cases h2 : k + 1 < xs.length
    · have hlt : k < xs.length := by omega
      obtain ⟨b5, o5, cs5, rfl, K5, e5⟩ := C.at k hlt
      obtain rfl : cs5 = [.string xs[k]] := K5
      obtain ⟨b6, o6, cs6, ee, K6, e6⟩ := C.at (k + 1) h2
      obtain rfl : cs6 = [.string xs[k + 1]] := K6
      cases ee
      have QW := Lib.hid (show w.cell? ⟨b5, o5 + k, none⟩ = some (.string xs[k]) ∧ w.cell? ⟨b5, o5 + (k + 1), none⟩ = some (.string xs[k + 1]) from ⟨by simpa [B.Kd.str, B.Kd.flat] using e5 0 (by simp), by simpa [B.Kd.str, B.Kd.flat] using e6 0 (by simp)⟩)
      have q0 := B.cell_below HB.out QW.out.1
      have q1 := B.cell_below HB.out QW.out.2
      have hk0 : (0 : Int) ≤ (k : Int) := by omega
      have hk1 : (k : Int) < xs.length := by omega
      have hk2 : (k : Int) + 1 < xs.length := by omega
      have s1 := HS.out _ (List.getElem_mem hlt)
      have s2 := HS.out _ (List.getElem_mem h2)
      have HP2 : Hid (pairs xs = (out ++ [Hex.sumB (xs[k] ++ xs[k + 1])]) ++ pairs (xs.drop (k + 2))) := Lib.hid (by rw [HP.out, List.drop_eq_getElem_cons hlt, List.drop_eq_getElem_cons h2, pairs, List.append_assoc]; rfl)
      clear e5 e6 HP
      generalize xs[k] = x1 at q0 s1 HP2 QW
      generalize xs[k + 1] = x2 at q1 s2 HP2 QW
      have hk3 : (0 : Int) ≤ (k : Int) + 1 := by omega
      have hwr : IntKind.i64.wrap ((k : Int) + 1) = (k : Int) + 1 := by rw [IntKind.wrap_i64]; omega
      have hno : ¬ 9223372036854775807 < x1.size + x2.size := by omega
      have HWd := Lib.hid (HW.out.drew 1)
      have HBd := Lib.hid (B.below_drew HB.out 1)
      have cs := Hex.sumOf_any (x1 ++ x2) (by rw [ByteArray.size_append]; omega) (wr.drewN 1) (HT.out.below HBd.out)
      clear HW HB
      go_wp2
      go_region_held3 (fun w' => w'.cell? ⟨b5, o5 + k, none⟩ = some (.string x1) ∧ w'.cell? ⟨b5, o5 + (k + 1), none⟩ = some (.string x2))
        (first | exact ⟨q0, q1⟩ | exact ⟨r0, r1⟩ | exact ⟨B.cell_below HB8 QW.out.1, B.cell_below HB8 QW.out.2⟩ | go_keep)
        (first
        | (go_at_call 28; refine cs.mono ?_; rintro e w2 ⟨rfl, HB3⟩; have HW2 := HWd.out.below HB3; have HB4 := B.below_trans HBd.out HB3; have r0 := B.cell_below HB3 (show (wr.drewN 1).cell? ⟨b5, o5 + k, none⟩ = some (.string x1) from q0); have r1 := B.cell_below HB3 (show (wr.drewN 1).cell? ⟨b5, o5 + (k + 1), none⟩ = some (.string x2) from q1))
        | (refine step_append_g (w0 := w) w.heap.size (by rfl) _ _ 60 9 (.string ⟨#[]⟩) 1 16 (by rfl) Tryz.underlying60 Cut.info_str rfl (by decide) (by decide) stE (fun _ => rfl) stE1 _ out (Hex.sumB (x1 ++ x2)) _ (by rfl) HW2 (by rfl) _ (by rfl) (by rfl) HB4 HB4.size (by omega) ?_; intro v8 w8 HW8 HB8 HG8))
      go_wp2
      go_roundw
      case rel => exact ⟨k + 2, _, by go_num, by omega, by simp; omega, Lib.hid HW8, HP2, Lib.hid HB8⟩
      case measure => simp [intOf]; omega
    · by_cases h1 : k < xs.length
      · have hlast : k + 1 = xs.length := by omega
        obtain ⟨b5, o5, cs5, rfl, K5, e5⟩ := (C.mono HB.out).at k h1
        obtain rfl : cs5 = [.string xs[k]] := K5
        have q0 : wr.cell? ⟨b5, o5 + k, none⟩ = some (.string xs[k]) := by simpa [B.Kd.str, B.Kd.flat] using e5 0 (by simp)
        have hk1 : (k : Int) < xs.length := by omega
        have hk2 : ¬ (k : Int) + 1 < xs.length := by omega
        have HP2 : Hid (pairs xs = (out ++ [xs[k]]) ++ pairs (xs.drop (k + 2))) := Lib.hid (by
          have e : xs.drop (k + 1) = [] := List.drop_eq_nil_of_le (by omega)
          have e2 : xs.drop (k + 2) = [] := List.drop_eq_nil_of_le (by omega)
          rw [HP.out, List.drop_eq_getElem_cons h1, e, e2, pairs, pairs, List.append_nil])
        have HW2 := HW.out
        have HB2 := HB.out
        have hbw := HB.out.size
        clear e5 HP HW HB
        generalize xs[k] = x1 at q0 HP2
        go_wp2_with (at_builtin; refine Copy.wpl_append_g (w0 := w) w.heap.size rfl _ _ 60 9 (.string ⟨#[]⟩) 1 16 rfl Tryz.underlying60 Cut.info_str rfl (by decide) (by decide) stE (fun _ => rfl) stE1 _ out x1 _ rfl HW2 rfl _ rfl rfl HB2 hbw (by omega) ?_; intro v8 w8 HW8 HB8 HG8)
        go_roundw
        case rel => exact ⟨k + 2, _, by go_num, by omega, by simp; omega, Lib.hid HW8, HP2, Lib.hid HB8⟩
        case measure => simp [intOf]; omega
      · have hk1 : ¬ (k : Int) < xs.length := by omega
        have HP2 : Hid (pairs xs = out) := Lib.hid (by rw [HP.out, List.drop_eq_nil_of_le (by omega), pairs, List.append_nil])
        go_wp2
        go_ret
        exact ⟨_, rfl, by rw [HP2.out]; exact HW.out, HB.out⟩
end Go.Proofs.YtmcbljongeadeaaGreatDoor.Pf
