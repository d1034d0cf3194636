/- Where a file stands: sync.fileAt (a binary search) and the reference's (the first of the key). -/
import Derived.Test.YtmcbljongeadeaaGreatDoorMan
namespace Go.Proofs.YtmcbljongeadeaaGreatDoor.Fd
open Go.RowKit

abbrev Fl := Files.Fl
/-! ### plain -/
theorem bl_trans : ∀ {a b c : List UInt8}, Op.bytesLess a b = true → Op.bytesLess b c = true → Op.bytesLess a c = true
  | _, [], _, h, _ => by simp [Op.bytesLess] at h
  | _, _ :: _, [], _, h => by simp [Op.bytesLess] at h
  | [], _ :: _, _ :: _, _, _ => rfl
  | x :: a, y :: b, z :: c, h1, h2 => by
    simp only [Op.bytesLess, Bool.or_eq_true, Bool.and_eq_true, decide_eq_true_eq, beq_iff_eq] at h1 h2 ⊢
    rcases h1 with h1 | ⟨rfl, h1⟩
    · rcases h2 with h2 | ⟨rfl, h2⟩
      · exact .inl (UInt8.lt_trans h1 h2)
      · exact .inl h1
    · rcases h2 with h2 | ⟨rfl, h2⟩
      · exact .inl h2
      · exact .inr ⟨rfl, bl_trans h1 h2⟩
theorem bl_total : ∀ {a b : List UInt8}, Op.bytesLess a b = false → a ≠ b → Op.bytesLess b a = true
  | [], [], _, h => absurd rfl h
  | [], _ :: _, h, _ => by simp [Op.bytesLess] at h
  | _ :: _, [], _, _ => rfl
  | x :: a, y :: b, h, hne => by
    simp only [Op.bytesLess, Bool.or_eq_false_iff, Bool.and_eq_false_iff, decide_eq_false_iff_not, beq_eq_false_iff_ne] at h
    simp only [Op.bytesLess, Bool.or_eq_true, Bool.and_eq_true, decide_eq_true_eq, beq_iff_eq]
    by_cases e : x = y
    · subst e
      refine .inr ⟨rfl, bl_total (h.2.resolve_left (fun h => h rfl)) (fun e => hne (by rw [e]))⟩
    · exact .inl (UInt8.lt_of_le_of_ne (UInt8.not_lt.1 h.1) (fun h => e h.symm))
theorem cmp_lt : ∀ (a b : List UInt8), Lib.compareBytes a b < 0 ↔ Op.bytesLess a b = true
  | [], [] => by simp [Lib.compareBytes, Op.bytesLess]
  | [], _ :: _ => by simp [Lib.compareBytes, Op.bytesLess]
  | _ :: _, [] => by simp [Lib.compareBytes, Op.bytesLess]
  | x :: a, y :: b => by
    have ih := cmp_lt a b
    unfold Lib.compareBytes
    simp only [Op.bytesLess, Bool.or_eq_true, Bool.and_eq_true, decide_eq_true_eq, beq_iff_eq]
    by_cases h : x < y
    · rw [if_pos h]; exact ⟨fun _ => .inl h, fun _ => by decide⟩
    · rw [if_neg h]
      by_cases h2 : y < x
      · rw [if_pos h2]
        exact ⟨fun h => absurd h (by decide), fun h3 => h3.elim (fun h3 => absurd h3 h) (fun h3 => by rw [h3.1] at h2; exact absurd h2 (UInt8.lt_irrefl _))⟩
      · rw [if_neg h2, ih]
        have e : x = y := UInt8.le_antisymm (UInt8.not_lt.1 h2) (UInt8.not_lt.1 h)
        exact ⟨fun h => .inr ⟨e, h⟩, fun h3 => h3.elim (fun h3 => absurd h3 h) (·.2)⟩
theorem cmp_zero : ∀ (a b : List UInt8), Lib.compareBytes a b = 0 ↔ a = b
  | [], [] => by simp [Lib.compareBytes]
  | [], _ :: _ => by simp [Lib.compareBytes]
  | _ :: _, [] => by simp [Lib.compareBytes]
  | x :: a, y :: b => by
    have ih := cmp_zero a b
    unfold Lib.compareBytes
    by_cases h : x < y
    · rw [if_pos h]; exact ⟨fun h => absurd h (by decide), fun e => by cases e; exact absurd h (UInt8.lt_irrefl _)⟩
    · rw [if_neg h]
      by_cases h2 : y < x
      · rw [if_pos h2]; exact ⟨fun h => absurd h (by decide), fun e => by cases e; exact absurd h2 (UInt8.lt_irrefl _)⟩
      · rw [if_neg h2, ih]
        have e : x = y := UInt8.le_antisymm (UInt8.not_lt.1 h2) (UInt8.not_lt.1 h)
        subst e
        exact ⟨fun h => by rw [h], fun h => by cases h; rfl⟩
def lt (a b : ByteArray) : Prop := Op.bytesLess a.data.toList b.data.toList = true
theorem toL (a : ByteArray) : a.toList = a.data.toList := by rw [ByteArray.toList_eq]
/-- The keys of right files rise. -/
theorem rise {l : List Fl} : ∀ {p : Option ByteArray}, Files.go p l = 0 → (∀ q, p = some q → ∀ f ∈ l, lt q f.1) ∧ l.Pairwise (fun f g => lt f.1 g.1) := by
  induction l with
  | nil => intro p _; exact ⟨fun _ _ f hf => (by cases hf), List.Pairwise.nil⟩
  | cons f l ih =>
    intro p h
    unfold Files.go at h
    split at h
    · cases h
    · split at h
      · cases h
      · rename_i hna
        split at h
        · cases h
        · split at h
          · rename_i hck; exact absurd h hck
          · obtain ⟨h1, h2⟩ := ih h
            have h1 := h1 f.1 rfl
            refine ⟨fun q hq g hg => ?_, List.pairwise_cons.2 ⟨h1, h2⟩⟩
            have hqf : lt q f.1 := by
              subst hq
              simp only [Files.notAfter, Option.any_some, Files.leS, Bool.not_eq_true, Bool.or_eq_false_iff, beq_eq_false_iff_ne] at hna
              rw [toL, toL] at hna
              exact bl_total hna.1 hna.2
            rcases List.mem_cons.1 hg with rfl | hg
            · exact hqf
            · exact bl_trans hqf (h1 g hg)
theorem rise_of {no : Int} {l : List Fl} (h : Man.fault no l = 0) : l.Pairwise (fun f g => lt f.1 g.1) := by
  unfold Man.fault at h
  split at h
  · cases h
  · unfold Files.fault at h
    split at h
    · cases h
    · split at h
      · rename_i hg; exact absurd h hg
      · rename_i hg
        exact (rise (Decidable.not_not.1 hg)).2
/-- How a key compares with the one at a place. -/
def cl (l : List Fl) (k : ByteArray) (t : Nat) : Int := Lib.compareBytes (l.getD t (⟨#[]⟩, [])).1.data.toList k.data.toList
theorem cl_at (l : List Fl) (k : ByteArray) (t : Nat) (h : t < l.length) : cl l k t = Lib.compareBytes l[t].1.data.toList k.data.toList := by
  unfold cl; rw [List.getD_eq_getElem?_getD, List.getElem?_eq_getElem h]; rfl
theorem cl_mono {l : List Fl} {k : ByteArray} (hp : l.Pairwise (fun f g => lt f.1 g.1)) {t t' : Nat} (h : t ≤ t') (ht : t' < l.length) (hc : cl l k t' < 0) : cl l k t < 0 := by
  rcases Nat.lt_or_eq_of_le h with h | rfl
  · rw [cl_at l k t' ht, cmp_lt] at hc
    rw [cl_at l k t (by omega), cmp_lt]
    exact bl_trans (List.pairwise_iff_getElem.1 hp t t' (by omega) ht h) hc
  · exact hc
def at? (l : List Fl) (k : ByteArray) : Option Nat := l.findIdx? (fun f => decide (f.1 = k))
theorem cl_zero {l : List Fl} {k : ByteArray} {t : Nat} (h : t < l.length) : cl l k t = 0 ↔ l[t].1 = k := by
  rw [cl_at l k t h, cmp_zero]
  exact ⟨fun e => ByteArray.ext (Array.toList_inj.1 e), fun e => by rw [e]⟩
theorem at_some {l : List Fl} {k : ByteArray} (hp : l.Pairwise (fun f g => lt f.1 g.1)) {i : Nat} (hi : i < l.length) (h : cl l k i = 0) : at? l k = some i := by
  unfold at?
  rw [List.findIdx?_eq_some_iff_getElem]
  refine ⟨hi, decide_eq_true ((cl_zero hi).1 h), fun j hj => ?_⟩
  have hlt := List.pairwise_iff_getElem.1 hp j i (by omega) hi hj
  simp only [decide_eq_true_eq]
  intro e
  have e2 := (cl_zero hi).1 h
  rw [← e2] at e
  have : Op.bytesLess l[j].1.data.toList l[i].1.data.toList = true := hlt
  rw [e] at this
  exact absurd ((cmp_lt _ _).2 this) (by rw [(cmp_zero _ _).2 rfl]; decide)
theorem at_none {l : List Fl} {k : ByteArray} (hp : l.Pairwise (fun f g => lt f.1 g.1)) {i : Nat} (hlo : ∀ t, t < i → cl l k t < 0) (hhi : ∀ t, i ≤ t → t < l.length → 0 ≤ cl l k t) (h : ∀ h : i < l.length, cl l k i ≠ 0) : at? l k = none := by
  unfold at?
  rw [List.findIdx?_eq_none_iff]
  intro f hf
  obtain ⟨t, ht, rfl⟩ := List.getElem_of_mem hf
  rw [decide_eq_false_iff_not]
  intro e
  have h0 : cl l k t = 0 := (cl_zero ht).2 e
  rcases Nat.lt_trichotomy t i with h1 | rfl | h1
  · have := hlo t h1; omega
  · exact h ht h0
  · have hi : i < l.length := by omega
    have h2 := hhi i (Nat.le_refl _) hi
    have hlt : Op.bytesLess l[i].1.data.toList l[t].1.data.toList = true := List.pairwise_iff_getElem.1 hp i t hi ht h1
    rw [e, ← cmp_lt, ← cl_at l k i hi] at hlt
    exact absurd hlt (Int.not_lt.2 h2)
/-- What a search answers. -/
def Found (l : List Fl) (k : ByteArray) (e : Ending) : Prop := ∃ i : Nat, ∃ b : Bool, e = .returned (.tuple #[.int .i64 i, .bool b]) ∧ at? l k = if b then some i else none
/-! ### walks -/
theorem cmpF (f : Fl) (A : Option Addr) (c : Nat) (k : ByteArray) (w : World) :
    Calls Tryz.prog 50 #[.agg #[.string f.1, .slice A f.2.length c], .string k] w fun e w' => e = .returned (.int .i64 (Lib.compareBytes f.1.data.toList k.data.toList)) ∧ Below w.heap.size w w' := by
  have HB := Lib.hid (fun (c : Array Value) (o : TypeId) => (Below.refl _ w).alloc (Nat.le_refl _) (.cells c o))
  have cc := fun W => Tryz.strings_Compare f.1 k W
  go_enter Tryz.func50, Tryz.ntmps50
  go_wp2_with (go_at_call 51; refine (cc _).mono ?_; rintro e w1 ⟨rfl, rfl⟩)
  go_ret
  exact ⟨rfl, HB.out _ _⟩
set_option maxHeartbeats 2000000 in
theorem search (v : Value) (l : List Fl) (k : ByteArray) (hp : l.Pairwise (fun f g => lt f.1 g.1)) (w : World) (h : B.Kd.file.S w v l) :
    Calls Tryz.prog 49 #[v, .string k, .func (.func 50) #[] #[]] w fun e w' => Found l k e ∧ Below w.heap.size w w' := by
  obtain ⟨A, c, rfl, C⟩ := h
  have L := C.1
  have HP := Lib.hid hp
  clear hp
  go_enter Tryz.func49, Tryz.ntmps49
  go_wp2
  go_loopw [9, 10] (fun s9 s10 wr => ∃ (i j : Nat), s9 = .int .i64 i ∧ s10 = .int .i64 j ∧ i ≤ j ∧ j ≤ l.length ∧ Hid (∀ t, t < i → cl l k t < 0) ∧ Hid (∀ t, j ≤ t → t < l.length → 0 ≤ cl l k t) ∧ Hid (Below w.heap.size w wr)) (fun s9 s10 _ => (intOf s10).toNat - (intOf s9).toNat)
  case atStart => exact ⟨0, l.length, rfl, rfl, Nat.zero_le _, Nat.le_refl _, Lib.hid (fun t h => absurd h (Nat.not_lt_zero _)), Lib.hid (fun t h1 h2 => absurd h2 (by omega)), Lib.hid (Below.refl _ _)⟩
  case round =>
    obtain ⟨i, j, rfl, rfl, hij, hj, HL, HH, HB⟩ := hrel
    by_cases hlt : i < j
    · obtain ⟨m, hm⟩ : ∃ m, m = (i + j) / 2 := ⟨_, rfl⟩
      have hmi : i ≤ m := by omega
      have hmj : m < j := by omega
      have hml : m < l.length := by omega
      obtain ⟨b1, o1, cs1, rfl, K1, e1⟩ := C.at m hml
      obtain ⟨A2, c2, rfl, D⟩ := K1
      have f0 : wr.cell? ⟨b1, o1 + m * 2, none⟩ = some (.string l[m].1) := by simpa [B.Kd.file] using B.cell_below HB.out (e1 0 (by simp))
      have f1 : wr.cell? ⟨b1, o1 + m * 2 + 1, none⟩ = some (.slice A2 l[m].2.length c2) := by simpa [B.Kd.file] using B.cell_below HB.out (e1 1 (by simp))
      have hlti : (i : Int) < j := by omega
      have hmli : (m : Int) < l.length := by omega
      have g0 : wr.cell? ⟨b1, o1 + (i + j) / 2 * 2, none⟩ = some (.string l[m].1) := by rw [← hm]; exact f0
      have g1 : wr.cell? ⟨b1, o1 + (i + j) / 2 * 2 + 1, none⟩ = some (.slice A2 l[m].2.length c2) := by rw [← hm]; exact f1
      have cc := cmpF l[m] A2 c2 k wr
      rw [← cl_at l k m hml] at cc
      have HM := Lib.hid hm
      clear e1 f0 f1 D hm
      by_cases hc : cl l k m < 0
      · have HL2 : Hid (∀ t, t < m + 1 → cl l k t < 0) := Lib.hid (fun t ht => cl_mono HP.out (by omega) hml hc)
        go_wp2_with (go_at_call 50; refine cc.mono ?_; rintro e w5 ⟨rfl, HB5⟩)
        go_roundw
        case rel => exact ⟨m + 1, j, congrArg _ (by have := HM.out; omega), rfl, by omega, hj, HL2, HH, Lib.hid (B.below_trans HB.out HB5)⟩
        case measure => have := HM.out; simp [intOf]; omega
      · have HH2 : Hid (∀ t, m ≤ t → t < l.length → 0 ≤ cl l k t) := Lib.hid (fun t h1 h2 => Int.not_lt.1 (fun h3 => hc (cl_mono HP.out h1 h2 h3)))
        go_wp2_with (go_at_call 50; refine cc.mono ?_; rintro e w5 ⟨rfl, HB5⟩)
        go_roundw
        case rel => exact ⟨i, m, rfl, congrArg _ (by have := HM.out; omega), hmi, by omega, HL, HH2, Lib.hid (B.below_trans HB.out HB5)⟩
        case measure => have := HM.out; simp [intOf]; omega
    · obtain rfl : i = j := by omega
      by_cases hil : i < l.length
      · obtain ⟨b1, o1, cs1, rfl, K1, e1⟩ := C.at i hil
        obtain ⟨A2, c2, rfl, D⟩ := K1
        have f0 : wr.cell? ⟨b1, o1 + i * 2, none⟩ = some (.string l[i].1) := by simpa [B.Kd.file] using B.cell_below HB.out (e1 0 (by simp))
        have f1 : wr.cell? ⟨b1, o1 + i * 2 + 1, none⟩ = some (.slice A2 l[i].2.length c2) := by simpa [B.Kd.file] using B.cell_below HB.out (e1 1 (by simp))
        have hili : (i : Int) < l.length := by omega
        have cc := cmpF l[i] A2 c2 k wr
        rw [← cl_at l k i hil] at cc
        clear e1 D
        by_cases hc : cl l k i = 0
        · have HX : Hid (at? l k = if true then some i else none) := Lib.hid (at_some HP.out hil hc)
          have hcb : (cl l k i == 0) = true := by rw [hc]; rfl
          go_wp2_with (go_at_call 50; refine cc.mono ?_; rintro e w5 ⟨rfl, HB5⟩)
          go_ret2
          exact ⟨⟨i, true, rfl, HX.out⟩, B.below_trans HB.out HB5⟩
        · have HX : Hid (at? l k = if false then some i else none) := Lib.hid (at_none HP.out HL.out HH.out (fun _ => hc))
          have hcb : (cl l k i == 0) = false := beq_eq_false_iff_ne.2 hc
          go_wp2_with (go_at_call 50; refine cc.mono ?_; rintro e w5 ⟨rfl, HB5⟩)
          go_ret2
          exact ⟨⟨i, false, rfl, HX.out⟩, B.below_trans HB.out HB5⟩
      · have hili : ¬ (i : Int) < l.length := by omega
        have HX : Hid (at? l k = if false then some i else none) := Lib.hid (at_none HP.out HL.out HH.out (fun h => absurd h hil))
        go_wp2
        go_ret2
        exact ⟨⟨i, false, rfl, HX.out⟩, HB.out⟩
theorem fileAt (v : Value) (l : List Fl) (k : ByteArray) (hp : l.Pairwise (fun f g => lt f.1 g.1)) (w : World) (h : B.Kd.file.S w v l) :
    Calls Tryz.prog 35 #[v, .string k] w fun e w' => Found l k e ∧ Below w.heap.size w w' := by
  have cs := search v l k hp w h
  obtain ⟨A, c, rfl, -⟩ := h
  go_enter Tryz.func35, Tryz.ntmps35
  go_wp2_with (go_at_call 49; refine cs.mono ?_; rintro e w5 ⟨⟨i, b, rfl, hX⟩, HB5⟩; have HX := Lib.hid hX; clear hX)
  go_ret2
  exact ⟨⟨i, b, rfl, HX.out⟩, HB5⟩
theorem beqS (a b : ByteArray) : (a.toList == b.toList) = decide (a = b) := by
  by_cases h : a = b
  · subst h; rw [decide_eq_true rfl]; exact beq_self_eq_true _
  · rw [decide_eq_false h, beq_eq_false_iff_ne]; intro e; exact h (ByteArray.ext (Array.toList_inj.1 (by simpa [ByteArray.toList_eq] using e)))
theorem keyP (f : Fl) (A : Option Addr) (c : Nat) (k : ByteArray) (b : Nat) (w : World) (hc : w.cell? ⟨b, 0, none⟩ = some (.string k)) :
    Calls Tryz.prog 55 #[.agg #[.string f.1, .slice A f.2.length c], .pointer (some ⟨b, 0, none⟩)] w fun e w' => e = .returned (.bool (decide (f.1 = k))) ∧ Below w.heap.size w w' := by
  have HB := Lib.hid (fun (c : Array Value) (o : TypeId) => (Below.refl _ w).alloc (Nat.le_refl _) (.cells c o))
  have k0 := fun c' o => B.cell_below (HB.out c' o) hc
  go_enter Tryz.func55, Tryz.ntmps55
  go_wp2
  go_ret
  exact ⟨by rw [← beqS]; rfl, HB.out _ _⟩
def idxI : Option Nat → Int
  | some i => i
  | none => -1
theorem indexFiles (v : Value) (l : List Fl) (k : ByteArray) (b : Nat) (w : World) (hc : w.cell? ⟨b, 0, none⟩ = some (.string k)) (h : B.Kd.file.S w v l) :
    Calls Tryz.prog 54 #[v, .func (.func 55) #[] #[.pointer (some ⟨b, 0, none⟩)]] w fun e w' => e = .returned (.int .i64 (idxI (at? l k))) ∧ Below w.heap.size w w' := by
  obtain ⟨A, c, rfl, C⟩ := h
  have L := C.1
  have HC := Lib.hid hc
  clear hc
  go_enter Tryz.func54, Tryz.ntmps54
  go_wp2
  go_loopw [8] (fun so wr => ∃ (q : Nat), so = .int .i64 q ∧ q ≤ l.length ∧ Hid (∀ j (hj : j < l.length), j < q → decide (l[j].1 = k) = false) ∧ Hid (Below w.heap.size w wr)) (fun so _ => l.length - (intOf so).toNat)
  case atStart => exact ⟨0, rfl, Nat.zero_le _, Lib.hid (fun j _ h => absurd h (Nat.not_lt_zero _)), Lib.hid (Below.refl _ _)⟩
  case round =>
    obtain ⟨q, rfl, hq, HT, HB⟩ := hrel
    by_cases hlt : q < l.length
    · obtain ⟨b1, o1, cs1, rfl, K1, e1⟩ := C.at q hlt
      obtain ⟨A2, c2, rfl, D⟩ := K1
      have f0 : wr.cell? ⟨b1, o1 + q * 2, none⟩ = some (.string l[q].1) := by simpa [B.Kd.file] using B.cell_below HB.out (e1 0 (by simp))
      have f1 : wr.cell? ⟨b1, o1 + q * 2 + 1, none⟩ = some (.slice A2 l[q].2.length c2) := by simpa [B.Kd.file] using B.cell_below HB.out (e1 1 (by simp))
      have hk1 : (q : Int) < l.length := by omega
      have cs := keyP l[q] A2 c2 k b wr (B.cell_below HB.out HC.out)
      clear e1 D
      cases hpk : decide (l[q].1 = k) with
      | false =>
        rw [hpk] at cs
        have HT2 : Hid (∀ j (hj : j < l.length), j < q + 1 → decide (l[j].1 = k) = false) := Lib.hid (fun j hj hjk => by
          rcases Nat.lt_or_eq_of_le (Nat.le_of_lt_succ hjk) with h1 | rfl
          · exact HT.out j hj h1
          · exact hpk)
        clear hpk
        go_wp2_with (go_at_call 55; refine cs.mono ?_; rintro e w5 ⟨rfl, HB5⟩)
        go_roundw
        case rel => exact ⟨q + 1, by go_num, by omega, HT2, Lib.hid (B.below_trans HB.out HB5)⟩
        case measure => simp [intOf]; omega
      | true =>
        rw [hpk] at cs
        have HX : Hid (at? l k = some q) := Lib.hid (by
          unfold at?
          rw [List.findIdx?_eq_some_iff_getElem]
          exact ⟨hlt, hpk, fun j hj => by rw [HT.out j (by omega) hj]; decide⟩)
        clear hpk
        go_wp2_with (go_at_call 55; refine cs.mono ?_; rintro e w5 ⟨rfl, HB5⟩)
        go_ret
        exact ⟨by rw [HX.out]; rfl, B.below_trans HB.out HB5⟩
    · obtain rfl : q = l.length := by omega
      have HX : Hid (at? l k = none) := Lib.hid (by
        unfold at?
        rw [List.findIdx?_eq_none_iff]
        intro x hx
        obtain ⟨j, hj, rfl⟩ := List.getElem_of_mem hx
        exact HT.out j hj hj)
      go_wp2
      go_ret
      exact ⟨by rw [HX.out]; rfl, HB.out⟩
theorem refAt (v : Value) (l : List Fl) (k : ByteArray) (w : World) (h : B.Kd.file.S w v l) :
    Calls Tryz.prog 37 #[v, .string k] w fun e w' => e = .returned (.int .i64 (idxI (at? l k))) ∧ Below w.heap.size w w' := by
  have HB := Lib.hid (fun (c : Array Value) (o : TypeId) => (Below.refl _ w).alloc (Nat.le_refl _) (.cells c o))
  have cs := fun o => indexFiles v l k w.heap.size (w.alloc (.cells #[.string k] o)) (by rw [World.cell?_alloc_new]; rfl) (h.mono (HB.out _ _))
  obtain ⟨A, c, rfl, -⟩ := h
  go_enter Tryz.func37, Tryz.ntmps37
  go_wp2_with (go_at_call 54; refine (cs _).mono ?_; rintro e w5 ⟨rfl, HB5⟩)
  go_ret
  exact ⟨rfl, B.below_trans (HB.out _ _) HB5⟩
end Go.Proofs.YtmcbljongeadeaaGreatDoor.Fd
