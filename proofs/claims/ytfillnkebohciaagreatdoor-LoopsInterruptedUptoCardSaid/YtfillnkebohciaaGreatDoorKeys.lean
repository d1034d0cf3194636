/- kit.IsKey, the reference's Key. -/
import Derived.Test.YtfillnkebohciaaGreatDoorTrim
namespace Go.Proofs.YtfillnkebohciaaGreatDoor.Key
open Go.RowKit

/-! ### keys -/
def signs : ByteArray := ⟨#[97, 98, 99, 100, 101, 102, 103, 104, 105, 106, 107, 108, 109, 110, 111, 112, 113, 114, 115, 116, 117, 118, 119, 120, 121, 122, 48, 49, 50, 51, 52, 53, 54, 55, 56, 57, 45, 95]⟩
def lows : ByteArray := ⟨#[97, 98, 99, 100, 101, 102, 103, 104, 105, 106, 107, 108, 109, 110, 111, 112, 113, 114, 115, 116, 117, 118, 119, 120, 121, 122]⟩
theorem signs_in (x : UInt8) : signs.data.toList.contains x = sign x := by
  have h : ∀ n : Fin 256, signs.data.toList.contains (UInt8.ofNat n.val) = sign (UInt8.ofNat n.val) := by decide +kernel
  have := h ⟨x.toNat, x.toNat_lt⟩
  simpa using this
theorem lows_in (x : UInt8) : decide (0 ≤ (Lib.indexByte lows.data.toList ((x.toNat : Int).toNat.toUInt8) : Int)) = low x := by
  have h : ∀ n : Fin 256, decide (0 ≤ (Lib.indexByte lows.data.toList (((UInt8.ofNat n.val).toNat : Int).toNat.toUInt8) : Int)) = low (UInt8.ofNat n.val) := by decide +kernel
  have := h ⟨x.toNat, x.toNat_lt⟩
  simpa using this
theorem key_trim (s : ByteArray) (h0 : 0 < s.size) (hs : s.size ≤ 9223372036854775807) (w : World) :
    Calls Tryz.prog 82 #[.string s, .string signs] w fun e w' => ∃ t : ByteArray, e = .returned (.string t) ∧ t.toList.isEmpty = s.data.toList.all sign ∧ Below w.heap.size w w' := by
  refine (trim s signs h0 hs (by decide) (by decide) (ascii (by decide)) w).mono ?_
  rintro e w' ⟨rfl, hb⟩
  refine ⟨_, rfl, ?_, hb⟩
  have e1 : (bytes (Lib.trimS s.data.toList signs.data.toList)).toList = Lib.trimS s.data.toList signs.data.toList := by rw [Lib.toList_data]; rfl
  have e2 : s.data.toList.all (signs.data.toList.contains ·) = s.data.toList.all sign := by congr 1; funext x; exact signs_in x
  rw [e1, ← e2]
  cases hq : s.data.toList.all (signs.data.toList.contains ·) with
  | true => rw [(trimS_nil _ _).2 hq]; rfl
  | false =>
    cases hz : Lib.trimS s.data.toList signs.data.toList with
    | nil => rw [(trimS_nil _ _).1 hz] at hq; cases hq
    | cons _ _ => rfl
theorem refKey (s : ByteArray) (b : Bool) (hb : keyB s = b) (hs : s.size ≤ 9223372036854775807) (w : World) : Calls Tryz.prog 53 #[.string s] w fun e w' => e = .returned (.bool b) ∧ Below w.heap.size w w' := by
  by_cases h : 1 ≤ s.size ∧ s.size ≤ 40
  · have c0 := Cut.within s.size 1 40 true (decide_eq_true (by omega))
    have c1 := key_trim s (by omega) hs
    unfold signs at c1
    have h0 : 0 < s.size := by omega
    have c2 := Tryz.strings_IndexByte lows ((s[0]'h0).toNat : Int)
    have hl := lows_in (s[0]'h0)
    have HK : Hid (b = (low s[0] && s.data.toList.all sign)) := Lib.hid (by
      rw [← hb, keyB, decide_eq_true h.2, Bool.and_true, first s h0, keyL, List.all_cons]
      cases hz : low s[0] with
      | false => rfl
      | true => rw [show sign s[0] = true by unfold sign; rw [hz]; rfl]; simp)
    generalize Lib.indexByte lows.data.toList ((s[0].toNat : Int).toNat.toUInt8) = n at c2 hl
    unfold lows at c2
    generalize s.data.toList.all sign = q at c1 HK
    generalize low s[0] = r at hl HK
    clear hb
    cases q with
    | true =>
      go_enter Tryz.func53, Tryz.ntmps53
      go_wp2_with (first | (go_at_call 52; refine (c0 _).mono ?_; rintro e w1 ⟨rfl, rfl⟩) | (go_at_call 82; refine (c1 _).mono ?_; rintro e w1 ⟨t, rfl, ht, HB⟩) | (go_at_call 83; refine (c2 _).mono ?_; rintro e w2 ⟨rfl, rfl⟩))
      go_ret
      exact ⟨by rw [HK.out, Bool.and_true]; rfl, HB⟩
    | false =>
      go_enter Tryz.func53, Tryz.ntmps53
      go_wp2_with (first | (go_at_call 52; refine (c0 _).mono ?_; rintro e w1 ⟨rfl, rfl⟩) | (go_at_call 82; refine (c1 _).mono ?_; rintro e w1 ⟨t, rfl, ht, HB⟩))
      go_ret
      exact ⟨by rw [HK.out, Bool.and_false]; rfl, HB⟩
  · have c0 := Cut.within s.size 1 40 false (decide_eq_false (by omega))
    obtain rfl : b = false := by
      rw [← hb, keyB]
      by_cases h1 : s.size ≤ 40
      · have : s.data.toList = [] := List.eq_nil_of_length_eq_zero (show s.size = 0 by omega)
        rw [this]; rfl
      · rw [decide_eq_false h1, Bool.and_false]
    clear hb h
    go_enter Tryz.func53, Tryz.ntmps53
    go_wp2_with (go_at_call 52; refine (c0 _).mono ?_; rintro e w1 ⟨rfl, rfl⟩)
    go_ret
    exact ⟨rfl, Below.refl _ _⟩

def goodAt (j : Nat) (c : UInt8) : Bool := low c || (decide (0 < j) && sign c)
theorem keyL_iff (l : List UInt8) : keyL l = true ↔ l ≠ [] ∧ ∀ j (h : j < l.length), goodAt j l[j] = true := by
  cases l with
  | nil => simp [keyL]
  | cons c cs =>
    simp only [keyL, Bool.and_eq_true, List.all_eq_true, ne_eq, reduceCtorEq, not_false_eq_true, true_and]
    refine ⟨fun ⟨h1, h2⟩ j hj => ?_, fun h => ⟨?_, fun x hx => ?_⟩⟩
    · cases j with
      | zero => simp [goodAt, h1]
      | succ j => simp only [List.getElem_cons_succ, goodAt]; rw [h2 _ (List.getElem_mem _)]; simp
    · have := h 0 (by simp); simpa [goodAt] using this
    · obtain ⟨j, hj, rfl⟩ := List.getElem_of_mem hx
      have := h (j + 1) (by simpa using hj)
      simp only [List.getElem_cons_succ, goodAt, Bool.or_eq_true] at this
      rcases this with h | h
      · unfold sign; rw [h]; rfl
      · simpa using h
theorem keyB_bad (s : ByteArray) (k : Nat) (hk : k < s.size) (h : goodAt k s[k] = false) : keyB s = false := by
  unfold keyB
  cases hz : keyL s.data.toList with
  | false => rfl
  | true =>
    have := ((keyL_iff _).1 hz).2 k (by simpa using hk)
    rw [show s.data.toList[k]'(by simpa using hk) = s[k] from rfl, h] at this
    cases this
theorem keyB_end (s : ByteArray) (h : ∀ j (hj : j < s.size), goodAt j s[j] = true) (hp : 0 < s.size) : keyB s = decide (s.size ≤ 40) := by
  unfold keyB
  rw [(keyL_iff _).2 ⟨fun e => absurd hp (by rw [show s.size = 0 from congrArg List.length e]; decide), fun j hj => h j (by simpa using hj)⟩, Bool.true_and]
theorem isKey (s : ByteArray) (b : Bool) (hb : keyB s = b) (hs : s.size ≤ 9223372036854775807) (w : World) : Calls Tryz.prog 51 #[.string s] w fun e w' => e = .returned (.bool b) ∧ w' = w := by
  have HK := Lib.hid hb
  clear hb
  go_enter Tryz.func51, Tryz.ntmps51
  go_wp2
  go_loop [3] (fun i => ∃ k : Nat, i = .int .i64 k ∧ k ≤ s.size ∧ Hid (∀ j (hj : j < s.size), j < k → goodAt j s[j] = true)) (fun i => s.size - (intOf i).toNat)
  case atStart => exact ⟨0, rfl, by omega, Lib.hid (fun j _ h => absurd h (by omega))⟩
  case round =>
    obtain ⟨k, rfl, hk, HG⟩ := hrel
    by_cases h0 : k < s.size
    · have h255 := s[k].toNat_lt
      have HN : goodAt k s[k] = true → Hid (∀ j (hj : j < s.size), j < k + 1 → goodAt j s[j] = true) := fun h => Lib.hid fun j hj hjk => by
        rcases Nat.lt_or_eq_of_le (Nat.le_of_lt_succ hjk) with h1 | rfl
        · exact HG.out j hj h1
        · exact h
      have HN2 := Lib.hid HN
      clear HN HG
      go_wp2
      all_goals first
        | (go_ret
           have hg : goodAt k s[k] = false := by
             clear HN2 HK
             simp [goodAt, sign, low] at *
             omega
           exact ⟨by rw [← HK.out, keyB_bad s k h0 hg]; rfl, rfl⟩)
        | (have hg : goodAt k s[k] = true := by
             clear HN2 HK
             simp [goodAt, sign, low] at *
             omega
           exact ⟨⟨k + 1, by go_num, by omega, HN2.out hg⟩, by simp [intOf]; omega⟩)
    · obtain rfl : k = s.size := by omega
      by_cases hp : 0 < s.size
      · have HE := Lib.hid (keyB_end s (fun j hj => HG.out j hj hj) hp)
        have hemp := ne_empty s hp
        by_cases h40 : s.size ≤ 40
        · have hz : (s.size : Int) ≤ 40 := by omega
          have HX : Hid (b = true) := Lib.hid (by rw [← HK.out, HE.out, decide_eq_true h40])
          go_wp2
          go_ret
          exact ⟨by rw [HX.out]; rfl, rfl⟩
        · have hz : decide ((s.size : Int) ≤ 40) = false := decide_eq_false (by omega)
          have HX : Hid (b = false) := Lib.hid (by rw [← HK.out, HE.out, decide_eq_false h40])
          go_wp2
          go_ret
          exact ⟨by rw [HX.out]; rfl, rfl⟩
      · have he : s.toList.isEmpty = true := by rw [Lib.toList_data, show s.data.toList = [] from List.eq_nil_of_length_eq_zero (show s.size = 0 by omega)]; rfl
        have HX : Hid (b = false) := Lib.hid (by rw [← HK.out, keyB, show s.data.toList = [] from List.eq_nil_of_length_eq_zero (show s.size = 0 by omega)]; rfl)
        go_wp2
        go_ret
        exact ⟨by rw [HX.out]; rfl, rfl⟩
end Go.Proofs.YtfillnkebohciaaGreatDoor.Key
