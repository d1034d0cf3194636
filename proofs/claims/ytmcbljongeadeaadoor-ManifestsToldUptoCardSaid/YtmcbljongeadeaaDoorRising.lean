/- kit.Rising and the reference's once: the strings in order, each once. -/
import Derived.Test.YtmcbljongeadeaaDoorHaveRef
import Derived.Sort.OwnSorted
import Derived.Lib.OwnBridge
namespace Go.Proofs.YtmcbljongeadeaaDoor.Told
open Go.RowKit Go.Sort

/-- The strings in order, each once. -/
def dd (xs : List ByteArray) : List ByteArray := (Lib.compact ((xs.map (·.data.toList)).mergeSort fun x y => decide (x ≤ y))).map fun l => ⟨l.toArray⟩
theorem dd_nil : dd [] = [] := by simp [dd, Lib.compact, Lib.compactUpTo]
theorem dd_length (xs : List ByteArray) : (dd xs).length ≤ xs.length := by
  have := Lib.compact_length_le ((xs.map (·.data.toList)).mergeSort fun x y => decide (x ≤ y))
  simpa [dd] using this
theorem own_map {w : World} {base : Nat} {e : TypeId} {v : Value} {n : Nat} {ls : List (List UInt8)} (h : w.ownsRow base e 1 v n (ls.map encStr)) : B.Own w base e 1 (fun s => [.string s]) v (ls.map fun l => ⟨l.toArray⟩) := by
  have e1 : n = ls.length := by have := h.1; simpa using this.symm
  subst e1
  unfold B.Own
  rw [List.length_map]
  have e2 : (ls.map fun l => (⟨l.toArray⟩ : ByteArray)).flatMap (fun s => [Value.string s]) = ls.map encStr := by
    clear h
    induction ls with
    | nil => rfl
    | cons a t ih => rw [List.map_cons, List.flatMap_cons, ih]; rfl
  rw [e2]
  exact h
def LeftAt (w : World) (ss : List (List UInt8)) (e : Ending) (w' : World) : Prop :=
  ∃ v, e = .returned v ∧ B.Own w' w.heap.size 9 1 (fun s => [.string s]) v ((Lib.compact (ss.mergeSort fun x y => decide (x ≤ y))).map fun l => ⟨l.toArray⟩) ∧ Below w.heap.size w w'
theorem left_of {w w1 : World} {g cap n nn q : Nat} {os : Array Obj} {ss : List (List UInt8)} (hown : w1.ownsRow w.heap.size 9 1 (.slice (some ⟨g, 0, none⟩) n cap) n (ss.map encStr)) (hbel : Below w.heap.size w w1) (hbg : w.heap.size ≤ g) (hlen : ss.length = n) :
    LeftAt w ss (.returned (.slice (some ⟨g, 0, none⟩) (Lib.compact (ss.mergeSort fun x y => decide (x ≤ y))).length cap))
      (putRow encStr (Sort.ahead (grow (putRow encStr (Sort.ahead w1 nn) g 0 (ss.mergeSort fun x y => decide (x ≤ y)).toArray) os) q) g 0 (Lib.compact (ss.mergeSort fun x y => decide (x ≤ y)) ++ List.replicate (n - (Lib.compact (ss.mergeSort fun x y => decide (x ≤ y))).length) []).toArray) := by
  have hl2 : (ss.mergeSort fun x y => decide (x ≤ y)).length = ss.length := List.length_mergeSort ss
  have hle := Lib.compact_length_le (ss.mergeSort fun x y => decide (x ≤ y))
  subst hlen
  rcases hown.2 with ⟨h0, _⟩ | ⟨g', cap', cur, hv, hbase, hb, h1, h2, h3, h4⟩
  · cases h0
  cases hv
  have hs := ownsRow_sorted (n := nn) (os := os) (ts := ss.mergeSort fun x y => decide (x ≤ y)) hl2 hbase hb h1 h2 h3
  have hc := Lib.ownsRow_putRow (q := q) (k := (Lib.compact (ss.mergeSort fun x y => decide (x ≤ y))).length) (ys := Lib.compact (ss.mergeSort fun x y => decide (x ≤ y)) ++ List.replicate (ss.length - (Lib.compact (ss.mergeSort fun x y => decide (x ≤ y))).length) []) hs (by simp; omega) (by omega)
  rw [List.take_left] at hc
  exact ⟨_, rfl, own_map hc, Lib.below_putRow (hbel.grown (grownBy_sorted _) hbel.size (fun j hj => by cases hj; exact hbase)) hbg⟩
theorem cloneS (a : Addr) (c : Nat) (xs : List ByteArray) (w : World) (hn : xs.length ≤ 1048576) (h : B.Kd.str.S w (.slice (some a) xs.length c) xs) :
    Calls Tryd.prog 5 #[.slice (some a) xs.length c] w fun e w' => ∃ v', e = .returned v' ∧ w'.ownsRow w.heap.size 9 1 v' xs.length ((xs.map (·.data.toList)).map encStr) ∧ v' ≠ .slice none 0 0 ∧ Below w.heap.size w w' := by
  rw [Lib.map_encStr]
  obtain ⟨A', c', e, C⟩ := h
  cases e
  by_cases h0 : xs.length = 0
  · have e : xs = [] := List.eq_nil_of_length_eq_zero h0
    subst e
    exact Tryd.slices_Clone_string_zero a c w
  · obtain ⟨b, off, e1, hc⟩ := C.2 (by omega)
    cases e1
    have := Tryd.slices_Clone_string b off xs.length c xs w (Nat.le_refl _) (by omega) (fun j hj => by
      obtain ⟨cs, hK, hcs⟩ := hc j hj
      obtain rfl : cs = [.string xs[j]] := hK
      have := hcs 0 (by simp)
      rw [List.getD_eq_getElem?_getD, List.getElem?_eq_getElem hj]
      simpa [B.Kd.str, B.Kd.flat] using this)
    rw [List.take_length] at this
    exact this
set_option maxHeartbeats 2000000 in
set_option maxRecDepth 100000 in
theorem rising_tail (arg : Value) (ss : List (List UInt8)) (n : Nat) (w : World) (hn : n ≤ 100000)
    (hclone : Calls Tryd.prog 5 #[arg] w fun e w' => ∃ v', e = .returned v' ∧ w'.ownsRow w.heap.size 9 1 v' n (ss.map encStr) ∧ v' ≠ .slice none 0 0 ∧ Below w.heap.size w w') :
    Calls Tryd.prog 32 #[arg] w (LeftAt w ss) := by
  go_enter Tryd.func32, Tryd.ntmps32
  go_wp2_with (first
    | (go_at_call 5; refine hclone.mono ?_; rintro e w1 ⟨v1, rfl, hown, hnn, hbel⟩
       obtain ⟨g, cap, rfl, hbg, hgl, hncap, hcm, hlen, hH⟩ := Lib.holds_of_ownsRow hown hnn
       have hsort := Tryd.slices_Sort_string g 0 cap ss w1 hH hgl (by omega)
       rw [hlen] at hsort
       have X := Lib.hid (show w1.ownsRow w.heap.size 9 1 (.slice (some ⟨g, 0, none⟩) n cap) n (ss.map encStr) ∧ Below w.heap.size w w1 ∧ w.heap.size ≤ g ∧ g < w1.heap.size ∧ n ≤ cap ∧ cap ≤ maxLen ∧ ss.length = n ∧ Holds encStr w1 g 0 ss.toArray from ⟨hown, hbel, hbg, hgl, hncap, hcm, hlen, hH⟩)
       clear hown hbel hH hnn)
    | (go_at_call 49; refine hsort.mono ?_; rintro e w2 ⟨rfl, nn, os, rfl⟩
       have hl2 : (ss.mergeSort fun x y => decide (x ≤ y)).length = n := by rw [List.length_mergeSort]; exact X.out.2.2.2.2.2.2.1
       have hH2 : Holds encStr (grow (putRow encStr (Sort.ahead w1 nn) g 0 (ss.mergeSort fun x y => decide (x ≤ y)).toArray) os) g 0 (ss.mergeSort fun x y => decide (x ≤ y)).toArray :=
         holds_grow encStr _ os g 0 _ (by simpa [putRow, mapBlock, Sort.ahead] using X.out.2.2.2.1) (holds_putRow encStr _ g 0 _ _ (holds_ahead encStr w1 nn g 0 _ X.out.2.2.2.2.2.2.2) (by simp))
       have hcomp := Tryd.slices_Compact_string g 0 cap (ss.mergeSort fun x y => decide (x ≤ y)) _ hH2 (by omega) (by have := X.out.2.2.2.2.1; omega)
       rw [hl2] at hcomp
       clear hH2 hsort)
    | (go_at_call 50; refine hcomp.mono ?_; rintro e w3 ⟨rfl, q, rfl⟩))
  go_ret
  exact left_of X.out.1 X.out.2.1 X.out.2.2.1 X.out.2.2.2.2.2.2.1
theorem rising_any (v : Value) (xs : List ByteArray) (w : World) (hn : xs.length ≤ 100000) (h : B.Kd.str.S w v xs) :
    Calls Tryd.prog 32 #[v] w fun e w' => ∃ v', e = .returned v' ∧ B.Own w' w.heap.size 9 1 (fun s => [.string s]) v' (dd xs) ∧ Below w.heap.size w w' := by
  have h' := h
  obtain ⟨A, c, rfl, C⟩ := h
  cases A with
  | none =>
    obtain rfl : xs = [] := List.eq_nil_of_length_eq_zero (Nat.eq_zero_of_not_pos fun hp => by obtain ⟨_, _, e, _⟩ := C.2 hp; cases e)
    have c1 := Tryd.slices_Clone_string_nil 0 c w
    have c2 := Tryd.slices_Sort_string_none none 0 w
    have c3 := Tryd.slices_Compact_string_empty none 0 w
    clear C h'
    go_enter Tryd.func32, Tryd.ntmps32
    go_wp2_with (first
      | (go_at_call 5; refine c1.mono ?_; rintro e w1 ⟨rfl, rfl⟩)
      | (go_at_call 49; refine c2.mono ?_; rintro e w2 ⟨rfl, rfl⟩)
      | (go_at_call 50; refine c3.mono ?_; rintro e w3 ⟨rfl, rfl⟩))
    go_ret
    exact ⟨_, rfl, by rw [dd_nil]; exact B.Own.nil _ _ _ _ _, Below.refl _ _⟩
  | some a => exact (rising_tail _ (xs.map fun (x : ByteArray) => x.data.toList) xs.length w hn (cloneS a c xs w (by omega) h')).mono (fun e w' h => by obtain ⟨v', h1, h2, h3⟩ := h; exact ⟨v', h1, h2, h3⟩)
set_option maxHeartbeats 2000000 in
set_option maxRecDepth 100000 in
theorem once_tail (arg : Value) (ss : List (List UInt8)) (n : Nat) (w : World) (hn : n ≤ 100000)
    (hclone : Calls Tryd.prog 5 #[arg] w fun e w' => ∃ v', e = .returned v' ∧ w'.ownsRow w.heap.size 9 1 v' n (ss.map encStr) ∧ v' ≠ .slice none 0 0 ∧ Below w.heap.size w w') :
    Calls Tryd.prog 41 #[arg] w (LeftAt w ss) := by
  go_enter Tryd.func41, Tryd.ntmps41
  go_wp2_with (first
    | (go_at_call 5; refine hclone.mono ?_; rintro e w1 ⟨v1, rfl, hown, hnn, hbel⟩
       obtain ⟨g, cap, rfl, hbg, hgl, hncap, hcm, hlen, hH⟩ := Lib.holds_of_ownsRow hown hnn
       have hsort := Tryd.slices_Sort_string g 0 cap ss w1 hH hgl (by omega)
       rw [hlen] at hsort
       have X := Lib.hid (show w1.ownsRow w.heap.size 9 1 (.slice (some ⟨g, 0, none⟩) n cap) n (ss.map encStr) ∧ Below w.heap.size w w1 ∧ w.heap.size ≤ g ∧ g < w1.heap.size ∧ n ≤ cap ∧ cap ≤ maxLen ∧ ss.length = n ∧ Holds encStr w1 g 0 ss.toArray from ⟨hown, hbel, hbg, hgl, hncap, hcm, hlen, hH⟩)
       clear hown hbel hH hnn)
    | (go_at_call 49; refine hsort.mono ?_; rintro e w2 ⟨rfl, nn, os, rfl⟩
       have hl2 : (ss.mergeSort fun x y => decide (x ≤ y)).length = n := by rw [List.length_mergeSort]; exact X.out.2.2.2.2.2.2.1
       have hH2 : Holds encStr (grow (putRow encStr (Sort.ahead w1 nn) g 0 (ss.mergeSort fun x y => decide (x ≤ y)).toArray) os) g 0 (ss.mergeSort fun x y => decide (x ≤ y)).toArray :=
         holds_grow encStr _ os g 0 _ (by simpa [putRow, mapBlock, Sort.ahead] using X.out.2.2.2.1) (holds_putRow encStr _ g 0 _ _ (holds_ahead encStr w1 nn g 0 _ X.out.2.2.2.2.2.2.2) (by simp))
       have hcomp := Tryd.slices_Compact_string g 0 cap (ss.mergeSort fun x y => decide (x ≤ y)) _ hH2 (by omega) (by have := X.out.2.2.2.2.1; omega)
       rw [hl2] at hcomp
       clear hH2 hsort)
    | (go_at_call 50; refine hcomp.mono ?_; rintro e w3 ⟨rfl, q, rfl⟩))
  go_ret
  exact left_of X.out.1 X.out.2.1 X.out.2.2.1 X.out.2.2.2.2.2.2.1
theorem once_any (v : Value) (xs : List ByteArray) (w : World) (hn : xs.length ≤ 100000) (h : B.Kd.str.S w v xs) :
    Calls Tryd.prog 41 #[v] w fun e w' => ∃ v', e = .returned v' ∧ B.Own w' w.heap.size 9 1 (fun s => [.string s]) v' (dd xs) ∧ Below w.heap.size w w' := by
  have h' := h
  obtain ⟨A, c, rfl, C⟩ := h
  cases A with
  | none =>
    obtain rfl : xs = [] := List.eq_nil_of_length_eq_zero (Nat.eq_zero_of_not_pos fun hp => by obtain ⟨_, _, e, _⟩ := C.2 hp; cases e)
    have c1 := Tryd.slices_Clone_string_nil 0 c w
    have c2 := Tryd.slices_Sort_string_none none 0 w
    have c3 := Tryd.slices_Compact_string_empty none 0 w
    clear C h'
    go_enter Tryd.func41, Tryd.ntmps41
    go_wp2_with (first
      | (go_at_call 5; refine c1.mono ?_; rintro e w1 ⟨rfl, rfl⟩)
      | (go_at_call 49; refine c2.mono ?_; rintro e w2 ⟨rfl, rfl⟩)
      | (go_at_call 50; refine c3.mono ?_; rintro e w3 ⟨rfl, rfl⟩))
    go_ret
    exact ⟨_, rfl, by rw [dd_nil]; exact B.Own.nil _ _ _ _ _, Below.refl _ _⟩
  | some a => exact (once_tail _ (xs.map fun (x : ByteArray) => x.data.toList) xs.length w hn (cloneS a c xs w (by omega) h')).mono (fun e w' h => by obtain ⟨v', h1, h2, h3⟩ := h; exact ⟨v', h1, h2, h3⟩)
end Go.Proofs.YtmcbljongeadeaaDoor.Told
