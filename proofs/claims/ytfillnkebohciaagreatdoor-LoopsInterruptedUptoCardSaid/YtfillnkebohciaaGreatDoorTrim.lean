/- strings.Trim at an ASCII cutset of two bytes or more; what keys and sums are (no function of theirs). -/
import Derived.Test.YtfillnkebohciaaGreatDoorRange
import Derived.Test.YtfillnkebohciaaGreatDoorShelf
import Derived.Lib.SlTrimSet
import Derived.Lib.IndexBytes
namespace Go.Proofs.YtfillnkebohciaaGreatDoor.Key
open Go.RowKit

/-! ### plain -/
def bytes (l : List UInt8) : ByteArray := ⟨l.toArray⟩
def low (c : UInt8) : Bool := decide (97 ≤ c.toNat) && decide (c.toNat ≤ 122)
def sign (c : UInt8) : Bool := low c || ((decide (48 ≤ c.toNat) && decide (c.toNat ≤ 57)) || decide (c.toNat = 45) || decide (c.toNat = 95))
/-- A key, by its bytes. -/
def keyL : List UInt8 → Bool
  | [] => false
  | c :: cs => low c && cs.all sign
def keyB (s : ByteArray) : Bool := keyL s.data.toList && decide (s.size ≤ 40)
def hexd (c : UInt8) : Bool := (decide (48 ≤ c.toNat) && decide (c.toNat ≤ 57)) || (decide (97 ≤ c.toNat) && decide (c.toNat ≤ 102))
def sumR (s : ByteArray) : Bool := decide (s.size = 16) && s.data.toList.all hexd

theorem dw_nil (p : UInt8 → Bool) (l : List UInt8) : l.dropWhile p = [] ↔ l.all p = true := by
  induction l with
  | nil => simp
  | cons x l ih =>
    rw [List.dropWhile_cons, List.all_cons]
    by_cases h : p x = true
    · rw [if_pos h, ih, h, Bool.true_and]
    · rw [if_neg h]; simp [h]
theorem dw_all (p : UInt8 → Bool) (l : List UInt8) : (l.dropWhile p).all p = true → l.all p = true := by
  induction l with
  | nil => simp
  | cons x l ih =>
    rw [List.dropWhile_cons]
    by_cases h : p x = true
    · rw [if_pos h, List.all_cons, h, Bool.true_and]; exact ih
    · rw [if_neg h]; exact id
theorem trimS_nil (l cs : List UInt8) : Lib.trimS l cs = [] ↔ l.all (cs.contains ·) = true := by
  unfold Lib.trimS Lib.trimLeftS Lib.trimRightS
  rw [dw_nil, List.all_reverse]
  refine ⟨fun h => ?_, fun h => ?_⟩
  · have := dw_all _ _ h
    rwa [List.all_reverse] at this
  · rw [(dw_nil _ _).2 (by rw [List.all_reverse]; exact h)]
    rfl
theorem first (t : ByteArray) (h : 0 < t.size) : t.data.toList = t[0] :: t.data.toList.drop 1 := by
  rw [← List.drop_zero (l := t.data.toList), List.drop_eq_getElem_cons (by simpa using h)]
  rfl
theorem last (t : ByteArray) (h : 0 < t.size) : t.data.toList = t.data.toList.take (t.size - 1) ++ [t[t.size - 1]'(by omega)] := by
  have e : (t[t.size - 1]'(by omega)) = t.data.toList[t.size - 1]'(by simp; exact Nat.sub_lt h (by decide)) := rfl
  rw [e, List.take_append_getElem, show t.size - 1 + 1 = t.data.toList.length from by simp; exact Nat.sub_add_cancel h, List.take_length]
theorem upto_list (s : ByteArray) (k : Nat) : (s.extract 0 k).data.toList = s.data.toList.take k := by rw [ByteArray.data_extract]; simp
theorem bytes_toList (t : ByteArray) : bytes t.data.toList = t := by unfold bytes; rfl

/-! ### walks -/
theorem left (P1 : UInt8 → Bool) (s : ByteArray) (b : Nat) (w : World) (hc : Hid (∀ x : UInt8, w.cell? ⟨b, x.toNat, none⟩ = some (.bool (P1 x)))) :
    Calls Tryz.prog 112 #[.string s, .pointer (some ⟨b, 0, none⟩)] w fun e w' => e = .returned (.string (bytes (s.data.toList.dropWhile P1))) ∧ w' = w := by
  go_enter Tryz.func112, Tryz.ntmps112
  go_wp2
  go_loop [0] (fun v => ∃ t : ByteArray, v = .string t ∧ Hid (t.data.toList.dropWhile P1 = s.data.toList.dropWhile P1)) (fun v => match v with | .string t => t.size | _ => 0)
  case atStart => exact ⟨s, rfl, Lib.hid rfl⟩
  case round =>
    obtain ⟨t, rfl, HT⟩ := hrel
    by_cases h0 : 0 < t.size
    · have c1 := Tryz.asciiSet_contains b t[0] (P1 t[0]) w (hc.out _)
      have HF := Lib.hid (first t h0)
      by_cases hp : P1 t[0] = true
      · have HX : Hid ((t.extract 1 t.size).data.toList.dropWhile P1 = s.data.toList.dropWhile P1) := Lib.hid (by rw [← HT.out, Lib.extract_to_end]; conv => { rhs; rw [HF.out, List.dropWhile_cons, if_pos hp] })
        rw [hp] at c1
        clear hp HF
        go_wp2_with (go_at_call 140; refine c1.mono ?_; rintro e w' ⟨rfl, rfl⟩)
        go_round
        case rel => exact ⟨_, rfl, HX⟩
        case measure => simp [ByteArray.size_extract]; omega
      · have HX : Hid (bytes (s.data.toList.dropWhile P1) = t) := Lib.hid (by rw [← HT.out, HF.out, List.dropWhile_cons, if_neg hp, ← HF.out, bytes_toList])
        have hp2 : P1 t[0] = false := by simpa using hp
        rw [hp2] at c1
        clear hp hp2 HF
        go_wp2_with (go_at_call 140; refine c1.mono ?_; rintro e w' ⟨rfl, rfl⟩)
        go_ret
        exact ⟨by rw [HX.out]; rfl, rfl⟩
    · have h1 : t.data.toList = [] := List.eq_nil_of_length_eq_zero (show t.size = 0 by omega)
      have HX : Hid (bytes (s.data.toList.dropWhile P1) = t) := Lib.hid (by rw [← HT.out, h1, List.dropWhile_nil, ← h1, bytes_toList])
      clear h1
      go_wp2
      go_ret
      exact ⟨by rw [HX.out]; rfl, rfl⟩
theorem right (P1 : UInt8 → Bool) (s : ByteArray) (b : Nat) (w : World) (hs : s.size ≤ 9223372036854775807) (hc : Hid (∀ x : UInt8, w.cell? ⟨b, x.toNat, none⟩ = some (.bool (P1 x)))) :
    Calls Tryz.prog 113 #[.string s, .pointer (some ⟨b, 0, none⟩)] w fun e w' => e = .returned (.string (bytes (s.data.toList.reverse.dropWhile P1).reverse)) ∧ w' = w := by
  go_enter Tryz.func113, Tryz.ntmps113
  go_wp2
  go_loop [0] (fun v => ∃ t : ByteArray, v = .string t ∧ t.size ≤ 9223372036854775807 ∧ Hid (t.data.toList.reverse.dropWhile P1 = s.data.toList.reverse.dropWhile P1)) (fun v => match v with | .string t => t.size | _ => 0)
  case atStart => exact ⟨s, rfl, hs, Lib.hid rfl⟩
  case round =>
    obtain ⟨t, rfl, hts, HT⟩ := hrel
    by_cases h0 : 0 < t.size
    · have hlt : t.size - 1 < t.size := by omega
      have c1 := Tryz.asciiSet_contains b t[t.size - 1] (P1 t[t.size - 1]) w (hc.out _)
      have HF := Lib.hid (last t h0)
      have hk : (t.size : Int) - 1 = ((t.size - 1 : Nat) : Int) := by omega
      by_cases hp : P1 t[t.size - 1] = true
      · have HX : Hid ((t.extract 0 (t.size - 1)).data.toList.reverse.dropWhile P1 = s.data.toList.reverse.dropWhile P1) := Lib.hid (by rw [← HT.out, upto_list]; conv => { rhs; rw [HF.out, List.reverse_append, List.reverse_singleton, List.singleton_append, List.dropWhile_cons, if_pos hp] })
        rw [hp] at c1
        clear hp HF
        go_wp2_with (go_at_call 140; refine c1.mono ?_; rintro e w' ⟨rfl, rfl⟩)
        go_round
        case rel => exact ⟨_, rfl, by simp [ByteArray.size_extract]; omega, HX⟩
        case measure => simp [ByteArray.size_extract]; omega
      · have HX : Hid (bytes (s.data.toList.reverse.dropWhile P1).reverse = t) := Lib.hid (by rw [← HT.out, HF.out, List.reverse_append, List.reverse_singleton, List.singleton_append, List.dropWhile_cons, if_neg hp, ← List.singleton_append, List.reverse_append, List.reverse_reverse, List.reverse_singleton, ← HF.out, bytes_toList])
        have hp2 : P1 t[t.size - 1] = false := by simpa using hp
        rw [hp2] at c1
        clear hp hp2 HF
        go_wp2_with (go_at_call 140; refine c1.mono ?_; rintro e w' ⟨rfl, rfl⟩)
        go_ret
        exact ⟨by rw [HX.out]; rfl, rfl⟩
    · have h1 : t.data.toList = [] := List.eq_nil_of_length_eq_zero (show t.size = 0 by omega)
      have HX : Hid (bytes (s.data.toList.reverse.dropWhile P1).reverse = t) := Lib.hid (by rw [← HT.out, h1, List.reverse_nil, List.dropWhile_nil, List.reverse_nil, ← h1, bytes_toList])
      clear h1
      go_wp2
      go_ret
      exact ⟨by rw [HX.out]; rfl, rfl⟩

theorem info_set : (Tryz.prog.info? 172).map (fun i => (i.zero, i.size)) = some (some (.agg (Array.replicate 256 (.bool false))), 256) := by kernel_rfl
theorem zero_size : (Tryz.zeroCells172).size = 256 := by kernel_rfl
theorem ne_empty (s : ByteArray) (h : 0 < s.size) : s.toList.isEmpty = false := by
  rw [Lib.toList_data]
  cases e : s.data.toList with
  | nil => exact absurd h (by have := Lib.size_eq s; rw [e, List.length_nil] at this; omega)
  | cons _ _ => rfl
set_option maxHeartbeats 4000000 in
set_option maxRecDepth 100000 in
theorem trim (s cs : ByteArray) (h0 : 0 < s.size) (hs : s.size ≤ 9223372036854775807) (h2 : 2 ≤ cs.size) (h3 : cs.size < 4294967281) (ha : ∀ (j : Nat) b, cs.data.toList[j]? = some b → b.toNat < 128) (w : World) :
    Calls Tryz.prog 82 #[.string s, .string cs] w fun e w' => e = .returned (.string (bytes (Lib.trimS s.data.toList cs.data.toList))) ∧ Below w.heap.size w w' := by
  have c1 := Tryz.strings_makeASCIISet (zero_of_info info_set).1 cs w h3 ha
  clear ha
  have hb0 := ne_empty s h0
  have hb1 := ne_empty cs (by omega)
  have h1 : ((cs.size : Int) == 1) = false := beq_eq_false_iff_ne.2 (by omega)
  have hsz := Lib.setCells_size cs.data.toList
  have hsc : (storeCells ⟨w.heap.size + 1, 0, none⟩ (Lib.setCells cs.data.toList).toList 0).run Tryz.prog ((w.alloc (.cells (Lib.setCells cs.data.toList) 172)).alloc (.cells Tryz.zeroCells172 172)) = .ok () ((w.alloc (.cells (Lib.setCells cs.data.toList) 172)).alloc (.cells (Lib.setCells cs.data.toList) 172)) := by
    have := run_storeCells_new (P := Tryz.prog) (w.alloc (.cells (Lib.setCells cs.data.toList) 172)) 172 Tryz.zeroCells172 (Lib.setCells cs.data.toList) (by rw [Lib.setCells_size]; exact (zero_of_info info_set).2) (by rw [Lib.setCells_size]; exact zero_size) (Lib.setCells_one _)
    simpa using this
  have HC : Hid (∀ x : UInt8, ((w.alloc (.cells (Lib.setCells cs.data.toList) 172)).alloc (.cells (Lib.setCells cs.data.toList) 172)).cell? ⟨w.heap.size + 1, x.toNat, none⟩ = some (.bool (cs.data.toList.contains x))) := Lib.hid fun x => by
    rw [World.cell?_alloc_at _ _ _ _ (by simp), Lib.setCells_at]
  have HB : Hid (Below w.heap.size w ((w.alloc (.cells (Lib.setCells cs.data.toList) 172)).alloc (.cells (Lib.setCells cs.data.toList) 172))) := Lib.hid (((Below.refl _ _).alloc (Nat.le_refl _) _).alloc (by simp) _)
  go_enter Tryz.func82, Tryz.ntmps82
  go_wp2_with (first
    | (go_at_call 111; refine c1.mono ?_; rintro e w' ⟨rfl, hw⟩; rw [hw])
    | (go_at_call 113; refine (right _ s (w.heap.size + 1) _ hs HC).mono ?_; rintro e w2 ⟨rfl, hw2⟩; rw [hw2])
    | (go_at_call 112; refine (left _ _ (w.heap.size + 1) _ HC).mono ?_; rintro e w3 ⟨rfl, hw3⟩; rw [hw3]))
  go_ret
  exact ⟨rfl, HB.out⟩
theorem ascii {l : List UInt8} (h : l.all (fun b => decide (b.toNat < 128)) = true) : ∀ (j : Nat) b, l[j]? = some b → b.toNat < 128 :=
  fun _ b hb => of_decide_eq_true (List.all_eq_true.1 h b (List.mem_of_getElem? hb))

end Go.Proofs.YtfillnkebohciaaGreatDoor.Key
