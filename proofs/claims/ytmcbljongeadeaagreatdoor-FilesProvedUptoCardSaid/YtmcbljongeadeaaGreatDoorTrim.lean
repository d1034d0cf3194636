/- strings.Trim at an ASCII cutset of two bytes or more; keys and sums: kit.IsKey, sync.isSum, the reference's Key, KeyFault, SumRight. -/
import Derived.Test.YtmcbljongeadeaaGreatDoorRange
import Derived.Test.YtmcbljongeadeaaGreatDoorShelf
import Derived.Lib.SlTrimSet
import Derived.Lib.IndexBytes
namespace Go.Proofs.YtmcbljongeadeaaGreatDoor.Key
open Go.RowKit

/-! ### plain -/
def bytes (l : List UInt8) : ByteArray := ⟨l.toArray⟩
def low (c : UInt8) : Bool := decide (97 ≤ c.toNat) && decide (c.toNat ≤ 122)
def sign (c : UInt8) : Bool := low c || ((decide (48 ≤ c.toNat) && decide (c.toNat ≤ 57)) || decide (c.toNat = 45) || decide (c.toNat = 95))
/-- A key, by its bytes. -/
def keyL : List UInt8 → Bool
  | [] => false
  | c :: cs => low c && cs.all sign
def keyB (s : ByteArray) : Bool := keyL s.data.toList && decide (s.size ≤ 40)
def hexd (c : UInt8) : Bool := (decide (48 ≤ c.toNat) && decide (c.toNat ≤ 57)) || (decide (97 ≤ c.toNat) && decide (c.toNat ≤ 102))
def sumR (s : ByteArray) : Bool := decide (s.size = 16) && s.data.toList.all hexd

theorem dw_nil (p : UInt8 → Bool) (l : List UInt8) : l.dropWhile p = [] ↔ l.all p = true := by
  induction l with
  | nil => simp
  | cons x l ih =>
    rw [List.dropWhile_cons, List.all_cons]
    by_cases h : p x = true
    · rw [if_pos h, ih, h, Bool.true_and]
    · rw [if_neg h]; simp [h]
theorem dw_all (p : UInt8 → Bool) (l : List UInt8) : (l.dropWhile p).all p = true → l.all p = true := by
  induction l with
  | nil => simp
  | cons x l ih =>
    rw [List.dropWhile_cons]
    by_cases h : p x = true
    · rw [if_pos h, List.all_cons, h, Bool.true_and]; exact ih
    · rw [if_neg h]; exact id
theorem trimS_nil (l cs : List UInt8) : Lib.trimS l cs = [] ↔ l.all (cs.contains ·) = true := by
  unfold Lib.trimS Lib.trimLeftS Lib.trimRightS
  rw [dw_nil, List.all_reverse]
  refine ⟨fun h => ?_, fun h => ?_⟩
  · have := dw_all _ _ h
    rwa [List.all_reverse] at this
  · rw [(dw_nil _ _).2 (by rw [List.all_reverse]; exact h)]
    rfl
theorem first (t : ByteArray) (h : 0 < t.size) : t.data.toList = t[0] :: t.data.toList.drop 1 := by
  rw [← List.drop_zero (l := t.data.toList), List.drop_eq_getElem_cons (by simpa using h)]
  rfl
theorem last (t : ByteArray) (h : 0 < t.size) : t.data.toList = t.data.toList.take (t.size - 1) ++ [t[t.size - 1]'(by omega)] := by
  have e : (t[t.size - 1]'(by omega)) = t.data.toList[t.size - 1]'(by simp; exact Nat.sub_lt h (by decide)) := rfl
  rw [e, List.take_append_getElem, show t.size - 1 + 1 = t.data.toList.length from by simp; exact Nat.sub_add_cancel h, List.take_length]
theorem upto_list (s : ByteArray) (k : Nat) : (s.extract 0 k).data.toList = s.data.toList.take k := by rw [ByteArray.data_extract]; simp
theorem bytes_toList (t : ByteArray) : bytes t.data.toList = t := by unfold bytes; rfl

/-! ### walks -/
theorem left (P1 : UInt8 → Bool) (s : ByteArray) (b : Nat) (w : World) (hc : Hid (∀ x : UInt8, w.cell? ⟨b, x.toNat, none⟩ = some (.bool (P1 x)))) :
    Calls Tryz.prog 71 #[.string s, .pointer (some ⟨b, 0, none⟩)] w fun e w' => e = .returned (.string (bytes (s.data.toList.dropWhile P1))) ∧ w' = w := by
  go_enter Tryz.func71, Tryz.ntmps71
  go_wp2
  go_loop [0] (fun v => ∃ t : ByteArray, v = .string t ∧ Hid (t.data.toList.dropWhile P1 = s.data.toList.dropWhile P1)) (fun v => match v with | .string t => t.size | _ => 0)
  case atStart => exact ⟨s, rfl, Lib.hid rfl⟩
  case round =>
    obtain ⟨t, rfl, HT⟩ := hrel
    by_cases h0 : 0 < t.size
    · have c1 := Tryz.asciiSet_contains b t[0] (P1 t[0]) w (hc.out _)
      have HF := Lib.hid (first t h0)
      by_cases hp : P1 t[0] = true
      · have HX : Hid ((t.extract 1 t.size).data.toList.dropWhile P1 = s.data.toList.dropWhile P1) := Lib.hid (by rw [← HT.out, Lib.extract_to_end]; conv => { rhs; rw [HF.out, List.dropWhile_cons, if_pos hp] })
        rw [hp] at c1
        clear hp HF
        go_wp2_with (go_at_call 86; refine c1.mono ?_; rintro e w' ⟨rfl, rfl⟩)
        go_round
        case rel => exact ⟨_, rfl, HX⟩
        case measure => simp [ByteArray.size_extract]; omega
      · have HX : Hid (bytes (s.data.toList.dropWhile P1) = t) := Lib.hid (by rw [← HT.out, HF.out, List.dropWhile_cons, if_neg hp, ← HF.out, bytes_toList])
        have hp2 : P1 t[0] = false := by simpa using hp
        rw [hp2] at c1
        clear hp hp2 HF
        go_wp2_with (go_at_call 86; refine c1.mono ?_; rintro e w' ⟨rfl, rfl⟩)
        go_ret
        exact ⟨by rw [HX.out]; rfl, rfl⟩
    · have h1 : t.data.toList = [] := List.eq_nil_of_length_eq_zero (show t.size = 0 by omega)
      have HX : Hid (bytes (s.data.toList.dropWhile P1) = t) := Lib.hid (by rw [← HT.out, h1, List.dropWhile_nil, ← h1, bytes_toList])
      clear h1
      go_wp2
      go_ret
      exact ⟨by rw [HX.out]; rfl, rfl⟩
theorem right (P1 : UInt8 → Bool) (s : ByteArray) (b : Nat) (w : World) (hs : s.size ≤ 9223372036854775807) (hc : Hid (∀ x : UInt8, w.cell? ⟨b, x.toNat, none⟩ = some (.bool (P1 x)))) :
    Calls Tryz.prog 72 #[.string s, .pointer (some ⟨b, 0, none⟩)] w fun e w' => e = .returned (.string (bytes (s.data.toList.reverse.dropWhile P1).reverse)) ∧ w' = w := by
  go_enter Tryz.func72, Tryz.ntmps72
  go_wp2
  go_loop [0] (fun v => ∃ t : ByteArray, v = .string t ∧ t.size ≤ 9223372036854775807 ∧ Hid (t.data.toList.reverse.dropWhile P1 = s.data.toList.reverse.dropWhile P1)) (fun v => match v with | .string t => t.size | _ => 0)
  case atStart => exact ⟨s, rfl, hs, Lib.hid rfl⟩
  case round =>
    obtain ⟨t, rfl, hts, HT⟩ := hrel
    by_cases h0 : 0 < t.size
    · have hlt : t.size - 1 < t.size := by omega
      have c1 := Tryz.asciiSet_contains b t[t.size - 1] (P1 t[t.size - 1]) w (hc.out _)
      have HF := Lib.hid (last t h0)
      have hk : (t.size : Int) - 1 = ((t.size - 1 : Nat) : Int) := by omega
      by_cases hp : P1 t[t.size - 1] = true
      · have HX : Hid ((t.extract 0 (t.size - 1)).data.toList.reverse.dropWhile P1 = s.data.toList.reverse.dropWhile P1) := Lib.hid (by rw [← HT.out, upto_list]; conv => { rhs; rw [HF.out, List.reverse_append, List.reverse_singleton, List.singleton_append, List.dropWhile_cons, if_pos hp] })
        rw [hp] at c1
        clear hp HF
        go_wp2_with (go_at_call 86; refine c1.mono ?_; rintro e w' ⟨rfl, rfl⟩)
        go_round
        case rel => exact ⟨_, rfl, by simp [ByteArray.size_extract]; omega, HX⟩
        case measure => simp [ByteArray.size_extract]; omega
      · have HX : Hid (bytes (s.data.toList.reverse.dropWhile P1).reverse = t) := Lib.hid (by rw [← HT.out, HF.out, List.reverse_append, List.reverse_singleton, List.singleton_append, List.dropWhile_cons, if_neg hp, ← List.singleton_append, List.reverse_append, List.reverse_reverse, List.reverse_singleton, ← HF.out, bytes_toList])
        have hp2 : P1 t[t.size - 1] = false := by simpa using hp
        rw [hp2] at c1
        clear hp hp2 HF
        go_wp2_with (go_at_call 86; refine c1.mono ?_; rintro e w' ⟨rfl, rfl⟩)
        go_ret
        exact ⟨by rw [HX.out]; rfl, rfl⟩
    · have h1 : t.data.toList = [] := List.eq_nil_of_length_eq_zero (show t.size = 0 by omega)
      have HX : Hid (bytes (s.data.toList.reverse.dropWhile P1).reverse = t) := Lib.hid (by rw [← HT.out, h1, List.reverse_nil, List.dropWhile_nil, List.reverse_nil, ← h1, bytes_toList])
      clear h1
      go_wp2
      go_ret
      exact ⟨by rw [HX.out]; rfl, rfl⟩

theorem info_set : (Tryz.prog.info? 115).map (fun i => (i.zero, i.size)) = some (some (.agg (Array.replicate 256 (.bool false))), 256) := by kernel_rfl
theorem zero_size : (Tryz.zeroCells115).size = 256 := by kernel_rfl
theorem ne_empty (s : ByteArray) (h : 0 < s.size) : s.toList.isEmpty = false := by
  rw [Lib.toList_data]
  cases e : s.data.toList with
  | nil => exact absurd h (by have := Lib.size_eq s; rw [e, List.length_nil] at this; omega)
  | cons _ _ => rfl
set_option maxHeartbeats 4000000 in
set_option maxRecDepth 100000 in
theorem trim (s cs : ByteArray) (h0 : 0 < s.size) (hs : s.size ≤ 9223372036854775807) (h2 : 2 ≤ cs.size) (h3 : cs.size < 4294967281) (ha : ∀ (j : Nat) b, cs.data.toList[j]? = some b → b.toNat < 128) (w : World) :
    Calls Tryz.prog 52 #[.string s, .string cs] w fun e w' => e = .returned (.string (bytes (Lib.trimS s.data.toList cs.data.toList))) ∧ Below w.heap.size w w' := by
  have c1 := Tryz.strings_makeASCIISet (zero_of_info info_set).1 cs w h3 ha
  clear ha
  have hb0 := ne_empty s h0
  have hb1 := ne_empty cs (by omega)
  have h1 : ((cs.size : Int) == 1) = false := beq_eq_false_iff_ne.2 (by omega)
  have hsz := Lib.setCells_size cs.data.toList
  have hsc : (storeCells ⟨w.heap.size + 1, 0, none⟩ (Lib.setCells cs.data.toList).toList 0).run Tryz.prog ((w.alloc (.cells (Lib.setCells cs.data.toList) 115)).alloc (.cells Tryz.zeroCells115 115)) = .ok () ((w.alloc (.cells (Lib.setCells cs.data.toList) 115)).alloc (.cells (Lib.setCells cs.data.toList) 115)) := by
    have := run_storeCells_new (P := Tryz.prog) (w.alloc (.cells (Lib.setCells cs.data.toList) 115)) 115 Tryz.zeroCells115 (Lib.setCells cs.data.toList) (by rw [Lib.setCells_size]; exact (zero_of_info info_set).2) (by rw [Lib.setCells_size]; exact zero_size) (Lib.setCells_one _)
    simpa using this
  have HC : Hid (∀ x : UInt8, ((w.alloc (.cells (Lib.setCells cs.data.toList) 115)).alloc (.cells (Lib.setCells cs.data.toList) 115)).cell? ⟨w.heap.size + 1, x.toNat, none⟩ = some (.bool (cs.data.toList.contains x))) := Lib.hid fun x => by
    rw [World.cell?_alloc_at _ _ _ _ (by simp), Lib.setCells_at]
  have HB : Hid (Below w.heap.size w ((w.alloc (.cells (Lib.setCells cs.data.toList) 115)).alloc (.cells (Lib.setCells cs.data.toList) 115))) := Lib.hid (((Below.refl _ _).alloc (Nat.le_refl _) _).alloc (by simp) _)
  go_enter Tryz.func52, Tryz.ntmps52
  go_wp2_with (first
    | (go_at_call 70; refine c1.mono ?_; rintro e w' ⟨rfl, hw⟩; rw [hw])
    | (go_at_call 72; refine (right _ s (w.heap.size + 1) _ hs HC).mono ?_; rintro e w2 ⟨rfl, hw2⟩; rw [hw2])
    | (go_at_call 71; refine (left _ _ (w.heap.size + 1) _ HC).mono ?_; rintro e w3 ⟨rfl, hw3⟩; rw [hw3]))
  go_ret
  exact ⟨rfl, HB.out⟩
theorem ascii {l : List UInt8} (h : l.all (fun b => decide (b.toNat < 128)) = true) : ∀ (j : Nat) b, l[j]? = some b → b.toNat < 128 :=
  fun _ b hb => of_decide_eq_true (List.all_eq_true.1 h b (List.mem_of_getElem? hb))

/-! ### sums -/
def hexs : ByteArray := ⟨#[48, 49, 50, 51, 52, 53, 54, 55, 56, 57, 97, 98, 99, 100, 101, 102]⟩
theorem hexs_in (x : UInt8) : hexs.data.toList.contains x = hexd x := by
  have h : ∀ n : Fin 256, hexs.data.toList.contains (UInt8.ofNat n.val) = hexd (UInt8.ofNat n.val) := by decide +kernel
  have := h ⟨x.toNat, x.toNat_lt⟩
  simpa using this
theorem sum_trim (s : ByteArray) (h : s.size = 16) (w : World) :
    Calls Tryz.prog 52 #[.string s, .string hexs] w fun e w' => ∃ t : ByteArray, e = .returned (.string t) ∧ t.toList.isEmpty = sumR s ∧ Below w.heap.size w w' := by
  refine (trim s hexs (by omega) (by omega) (by decide) (by decide) (ascii (by decide)) w).mono ?_
  rintro e w' ⟨rfl, hb⟩
  refine ⟨_, rfl, ?_, hb⟩
  have e1 : (bytes (Lib.trimS s.data.toList hexs.data.toList)).toList = Lib.trimS s.data.toList hexs.data.toList := by rw [Lib.toList_data]; rfl
  have e2 : s.data.toList.all (hexs.data.toList.contains ·) = s.data.toList.all hexd := by congr 1; funext x; exact hexs_in x
  rw [e1, sumR, h, decide_eq_true rfl, Bool.true_and, ← e2]
  cases hq : s.data.toList.all (hexs.data.toList.contains ·) with
  | true => rw [(trimS_nil _ _).2 hq]; rfl
  | false =>
    cases hz : Lib.trimS s.data.toList hexs.data.toList with
    | nil => rw [(trimS_nil _ _).1 hz] at hq; cases hq
    | cons _ _ => rfl
theorem isSum (s : ByteArray) (b : Bool) (hb : sumR s = b) (w : World) : Calls Tryz.prog 38 #[.string s] w fun e w' => e = .returned (.bool b) ∧ Below w.heap.size w w' := by
  by_cases h : s.size = 16
  · have c1 := sum_trim s h w
    unfold hexs at c1
    have h1 : ((s.size : Int) == 16) = true := beq_iff_eq.2 (by omega)
    rw [hb] at c1
    clear h hb
    go_enter Tryz.func38, Tryz.ntmps38
    go_wp2_with (go_at_call 52; refine c1.mono ?_; rintro e w1 ⟨t, rfl, ht, HB⟩)
    go_ret
    exact ⟨rfl, HB⟩
  · have h1 : ((s.size : Int) == 16) = false := beq_eq_false_iff_ne.2 (by omega)
    obtain rfl : b = false := by rw [← hb]; unfold sumR; rw [decide_eq_false h]; rfl
    clear hb
    go_enter Tryz.func38, Tryz.ntmps38
    go_wp2
    go_ret
    exact ⟨rfl, Below.refl _ _⟩
theorem sumRight (s : ByteArray) (b : Bool) (hb : sumR s = b) (w : World) : Calls Tryz.prog 41 #[.string s] w fun e w' => e = .returned (.bool b) ∧ Below w.heap.size w w' := by
  by_cases h : s.size = 16
  · have c1 := sum_trim s h w
    unfold hexs at c1
    have h1 : ((s.size : Int) == 16) = true := beq_iff_eq.2 (by omega)
    rw [hb] at c1
    clear h hb
    go_enter Tryz.func41, Tryz.ntmps41
    go_wp2_with (go_at_call 52; refine c1.mono ?_; rintro e w1 ⟨t, rfl, ht, HB⟩)
    go_ret
    exact ⟨rfl, HB⟩
  · have h1 : ((s.size : Int) == 16) = false := beq_eq_false_iff_ne.2 (by omega)
    obtain rfl : b = false := by rw [← hb]; unfold sumR; rw [decide_eq_false h]; rfl
    clear hb
    go_enter Tryz.func41, Tryz.ntmps41
    go_wp2
    go_ret
    exact ⟨rfl, Below.refl _ _⟩

/-! ### keys -/
def signs : ByteArray := ⟨#[97, 98, 99, 100, 101, 102, 103, 104, 105, 106, 107, 108, 109, 110, 111, 112, 113, 114, 115, 116, 117, 118, 119, 120, 121, 122, 48, 49, 50, 51, 52, 53, 54, 55, 56, 57, 45, 95]⟩
def lows : ByteArray := ⟨#[97, 98, 99, 100, 101, 102, 103, 104, 105, 106, 107, 108, 109, 110, 111, 112, 113, 114, 115, 116, 117, 118, 119, 120, 121, 122]⟩
theorem signs_in (x : UInt8) : signs.data.toList.contains x = sign x := by
  have h : ∀ n : Fin 256, signs.data.toList.contains (UInt8.ofNat n.val) = sign (UInt8.ofNat n.val) := by decide +kernel
  have := h ⟨x.toNat, x.toNat_lt⟩
  simpa using this
theorem lows_in (x : UInt8) : decide (0 ≤ (Lib.indexByte lows.data.toList ((x.toNat : Int).toNat.toUInt8) : Int)) = low x := by
  have h : ∀ n : Fin 256, decide (0 ≤ (Lib.indexByte lows.data.toList (((UInt8.ofNat n.val).toNat : Int).toNat.toUInt8) : Int)) = low (UInt8.ofNat n.val) := by decide +kernel
  have := h ⟨x.toNat, x.toNat_lt⟩
  simpa using this
theorem key_trim (s : ByteArray) (h0 : 0 < s.size) (hs : s.size ≤ 9223372036854775807) (w : World) :
    Calls Tryz.prog 52 #[.string s, .string signs] w fun e w' => ∃ t : ByteArray, e = .returned (.string t) ∧ t.toList.isEmpty = s.data.toList.all sign ∧ Below w.heap.size w w' := by
  refine (trim s signs h0 hs (by decide) (by decide) (ascii (by decide)) w).mono ?_
  rintro e w' ⟨rfl, hb⟩
  refine ⟨_, rfl, ?_, hb⟩
  have e1 : (bytes (Lib.trimS s.data.toList signs.data.toList)).toList = Lib.trimS s.data.toList signs.data.toList := by rw [Lib.toList_data]; rfl
  have e2 : s.data.toList.all (signs.data.toList.contains ·) = s.data.toList.all sign := by congr 1; funext x; exact signs_in x
  rw [e1, ← e2]
  cases hq : s.data.toList.all (signs.data.toList.contains ·) with
  | true => rw [(trimS_nil _ _).2 hq]; rfl
  | false =>
    cases hz : Lib.trimS s.data.toList signs.data.toList with
    | nil => rw [(trimS_nil _ _).1 hz] at hq; cases hq
    | cons _ _ => rfl
theorem refKey (s : ByteArray) (b : Bool) (hb : keyB s = b) (hs : s.size ≤ 9223372036854775807) (w : World) : Calls Tryz.prog 36 #[.string s] w fun e w' => e = .returned (.bool b) ∧ Below w.heap.size w w' := by
  by_cases h : 1 ≤ s.size ∧ s.size ≤ 40
  · have c0 := Cut.within s.size 1 40 true (decide_eq_true (by omega))
    have c1 := key_trim s (by omega) hs
    unfold signs at c1
    have h0 : 0 < s.size := by omega
    have c2 := Tryz.strings_IndexByte lows ((s[0]'h0).toNat : Int)
    have hl := lows_in (s[0]'h0)
    have HK : Hid (b = (low s[0] && s.data.toList.all sign)) := Lib.hid (by
      rw [← hb, keyB, decide_eq_true h.2, Bool.and_true, first s h0, keyL, List.all_cons]
      cases hz : low s[0] with
      | false => rfl
      | true => rw [show sign s[0] = true by unfold sign; rw [hz]; rfl]; simp)
    generalize Lib.indexByte lows.data.toList ((s[0].toNat : Int).toNat.toUInt8) = n at c2 hl
    unfold lows at c2
    generalize s.data.toList.all sign = q at c1 HK
    generalize low s[0] = r at hl HK
    clear hb
    cases q with
    | true =>
      go_enter Tryz.func36, Tryz.ntmps36
      go_wp2_with (first | (go_at_call 30; refine (c0 _).mono ?_; rintro e w1 ⟨rfl, rfl⟩) | (go_at_call 52; refine (c1 _).mono ?_; rintro e w1 ⟨t, rfl, ht, HB⟩) | (go_at_call 53; refine (c2 _).mono ?_; rintro e w2 ⟨rfl, rfl⟩))
      go_ret
      exact ⟨by rw [HK.out, Bool.and_true]; rfl, HB⟩
    | false =>
      go_enter Tryz.func36, Tryz.ntmps36
      go_wp2_with (first | (go_at_call 30; refine (c0 _).mono ?_; rintro e w1 ⟨rfl, rfl⟩) | (go_at_call 52; refine (c1 _).mono ?_; rintro e w1 ⟨t, rfl, ht, HB⟩))
      go_ret
      exact ⟨by rw [HK.out, Bool.and_false]; rfl, HB⟩
  · have c0 := Cut.within s.size 1 40 false (decide_eq_false (by omega))
    obtain rfl : b = false := by
      rw [← hb, keyB]
      by_cases h1 : s.size ≤ 40
      · have : s.data.toList = [] := List.eq_nil_of_length_eq_zero (show s.size = 0 by omega)
        rw [this]; rfl
      · rw [decide_eq_false h1, Bool.and_false]
    clear hb h
    go_enter Tryz.func36, Tryz.ntmps36
    go_wp2_with (go_at_call 30; refine (c0 _).mono ?_; rintro e w1 ⟨rfl, rfl⟩)
    go_ret
    exact ⟨rfl, Below.refl _ _⟩

def goodAt (j : Nat) (c : UInt8) : Bool := low c || (decide (0 < j) && sign c)
theorem keyL_iff (l : List UInt8) : keyL l = true ↔ l ≠ [] ∧ ∀ j (h : j < l.length), goodAt j l[j] = true := by
  cases l with
  | nil => simp [keyL]
  | cons c cs =>
    simp only [keyL, Bool.and_eq_true, List.all_eq_true, ne_eq, reduceCtorEq, not_false_eq_true, true_and]
    refine ⟨fun ⟨h1, h2⟩ j hj => ?_, fun h => ⟨?_, fun x hx => ?_⟩⟩
    · cases j with
      | zero => simp [goodAt, h1]
      | succ j => simp only [List.getElem_cons_succ, goodAt]; rw [h2 _ (List.getElem_mem _)]; simp
    · have := h 0 (by simp); simpa [goodAt] using this
    · obtain ⟨j, hj, rfl⟩ := List.getElem_of_mem hx
      have := h (j + 1) (by simpa using hj)
      simp only [List.getElem_cons_succ, goodAt, Bool.or_eq_true] at this
      rcases this with h | h
      · unfold sign; rw [h]; rfl
      · simpa using h
theorem keyB_bad (s : ByteArray) (k : Nat) (hk : k < s.size) (h : goodAt k s[k] = false) : keyB s = false := by
  unfold keyB
  cases hz : keyL s.data.toList with
  | false => rfl
  | true =>
    have := ((keyL_iff _).1 hz).2 k (by simpa using hk)
    rw [show s.data.toList[k]'(by simpa using hk) = s[k] from rfl, h] at this
    cases this
theorem keyB_end (s : ByteArray) (h : ∀ j (hj : j < s.size), goodAt j s[j] = true) (hp : 0 < s.size) : keyB s = decide (s.size ≤ 40) := by
  unfold keyB
  rw [(keyL_iff _).2 ⟨fun e => absurd hp (by rw [show s.size = 0 from congrArg List.length e]; decide), fun j hj => h j (by simpa using hj)⟩, Bool.true_and]
theorem isKey (s : ByteArray) (b : Bool) (hb : keyB s = b) (hs : s.size ≤ 9223372036854775807) (w : World) : Calls Tryz.prog 34 #[.string s] w fun e w' => e = .returned (.bool b) ∧ w' = w := by
  have HK := Lib.hid hb
  clear hb
  go_enter Tryz.func34, Tryz.ntmps34
  go_wp2
  go_loop [3] (fun i => ∃ k : Nat, i = .int .i64 k ∧ k ≤ s.size ∧ Hid (∀ j (hj : j < s.size), j < k → goodAt j s[j] = true)) (fun i => s.size - (intOf i).toNat)
  case atStart => exact ⟨0, rfl, by omega, Lib.hid (fun j _ h => absurd h (by omega))⟩
  case round =>
    obtain ⟨k, rfl, hk, HG⟩ := hrel
    by_cases h0 : k < s.size
    · have h255 := s[k].toNat_lt
      have HN : goodAt k s[k] = true → Hid (∀ j (hj : j < s.size), j < k + 1 → goodAt j s[j] = true) := fun h => Lib.hid fun j hj hjk => by
        rcases Nat.lt_or_eq_of_le (Nat.le_of_lt_succ hjk) with h1 | rfl
        · exact HG.out j hj h1
        · exact h
      have HN2 := Lib.hid HN
      clear HN HG
      go_wp2
      all_goals first
        | (go_ret
           have hg : goodAt k s[k] = false := by
             clear HN2 HK
             simp [goodAt, sign, low] at *
             omega
           exact ⟨by rw [← HK.out, keyB_bad s k h0 hg]; rfl, rfl⟩)
        | (have hg : goodAt k s[k] = true := by
             clear HN2 HK
             simp [goodAt, sign, low] at *
             omega
           exact ⟨⟨k + 1, by go_num, by omega, HN2.out hg⟩, by simp [intOf]; omega⟩)
    · obtain rfl : k = s.size := by omega
      by_cases hp : 0 < s.size
      · have HE := Lib.hid (keyB_end s (fun j hj => HG.out j hj hj) hp)
        have hemp := ne_empty s hp
        by_cases h40 : s.size ≤ 40
        · have hz : (s.size : Int) ≤ 40 := by omega
          have HX : Hid (b = true) := Lib.hid (by rw [← HK.out, HE.out, decide_eq_true h40])
          go_wp2
          go_ret
          exact ⟨by rw [HX.out]; rfl, rfl⟩
        · have hz : decide ((s.size : Int) ≤ 40) = false := decide_eq_false (by omega)
          have HX : Hid (b = false) := Lib.hid (by rw [← HK.out, HE.out, decide_eq_false h40])
          go_wp2
          go_ret
          exact ⟨by rw [HX.out]; rfl, rfl⟩
      · have he : s.toList.isEmpty = true := by rw [Lib.toList_data, show s.data.toList = [] from List.eq_nil_of_length_eq_zero (show s.size = 0 by omega)]; rfl
        have HX : Hid (b = false) := Lib.hid (by rw [← HK.out, keyB, show s.data.toList = [] from List.eq_nil_of_length_eq_zero (show s.size = 0 by omega)]; rfl)
        go_wp2
        go_ret
        exact ⟨by rw [HX.out]; rfl, rfl⟩
end Go.Proofs.YtmcbljongeadeaaGreatDoor.Key
