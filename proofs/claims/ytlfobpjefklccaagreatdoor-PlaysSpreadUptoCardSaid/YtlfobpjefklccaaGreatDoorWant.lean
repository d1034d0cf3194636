/- How often items are to come: kinds, what is wrong with them. Printed by wip/gen/wantgen.py. -/
import Derived.Test.YtlfobpjefklccaaGreatDoorSmall
import Derived.Test.YtlfobpjefklccaaGreatDoorOwn
import Derived.Deep.QuietTactic
import Derived.BigQuiet
namespace Go.Proofs.YtlfobpjefklccaaGreatDoor.Wn
open Go.RowKit

abbrev Wt := ByteArray × Int × Int
def wnE (x : Wt) : List Value := [.string x.1, .int .i64 x.2.1, .int .i64 x.2.2]
theorem wnE1 (x : Wt) : ∀ v ∈ wnE x, v.oneCell' = true := by
  intro v hv
  simp [wnE] at hv
  rcases hv with rfl | rfl | rfl <;> rfl
def wnK : B.Kd Wt := .flat 3 wnE (fun _ => rfl) wnE1
theorem info_wn : (Tryz.prog.info? 32).map (fun i => (i.zero, i.size, i.bytes)) = some (some (.agg #[.string ⟨#[]⟩, .int .i64 0, .int .i64 0]), 3, 32) := by kernel_rfl
def leS (a b : ByteArray) : Bool := Op.bytesLess a.toList b.toList || a.toList == b.toList
def notAfter (p : Option ByteArray) (k : ByteArray) : Bool := p.any fun q => leS k q
def b1 (x : Wt) : Bool := decide (x.2.1 < 1 ∨ 12 < x.2.1)
def b2 (x : Wt) : Bool := decide (x.2.2 < 0 ∨ 12 < x.2.2)
def go (p : Option ByteArray) (s : Int) : List Wt → Int
  | [] => if 12 < s then 2 else 0
  | x :: l => if Key.keyB x.1 = false then 5 else if notAfter p x.1 = true then 7 else if b1 x = true ∨ b2 x = true then 1 else go (some x.1) (s + x.2.1) l
def prev (l : List Wt) (k : Nat) : Option ByteArray := if k = 0 then none else some (l.getD (k - 1) (⟨#[]⟩, 0, 0)).1
theorem prev_succ (l : List Wt) {k : Nat} (h : k < l.length) : prev l (k + 1) = some l[k].1 := by unfold prev; rw [if_neg (by omega), Nat.add_sub_cancel, List.getD_eq_getElem?_getD, List.getElem?_eq_getElem h]; rfl
/-- What is wrong with them. -/
def fault (l : List Wt) : Int := if 12 < l.length then 2 else go none 0 l
theorem wn_at {w : World} {A : Option Addr} {l : List Wt} (h : wnK.C w A l) (k : Nat) (hk : k < l.length) : ∃ b off, A = some ⟨b, off, none⟩ ∧ w.cell? ⟨b, off + k * 3, none⟩ = some (.string l[k].1) ∧ w.cell? ⟨b, off + k * 3 + 1, none⟩ = some (.int .i64 l[k].2.1) ∧ w.cell? ⟨b, off + k * 3 + 2, none⟩ = some (.int .i64 l[k].2.2) := by
  obtain ⟨b, off, cs, e, K, hc⟩ := h.at k hk
  have K' : cs = [.string l[k].1, .int .i64 l[k].2.1, .int .i64 l[k].2.2] := K
  subst K'
  have h0 := hc 0 (by simp)
  have h1 := hc 1 (by simp)
  have h2 := hc 2 (by simp)
  exact ⟨b, off, e, by simpa [wnK, B.Kd.flat] using h0, by simpa [wnK, B.Kd.flat] using h1, by simpa [wnK, B.Kd.flat] using h2⟩
theorem key1 (s : ByteArray) (b : Bool) (hb : Key.keyB s = b) (hs : s.size ≤ 9223372036854775807) (w : World) : Calls Tryz.prog 50 #[.string s] w fun e w' => e = .returned (.bool b) ∧ Below w.heap.size w w' :=
  (Key.isKey s b hb hs w).mono fun _ _ h => ⟨h.1, by rw [h.2]; exact Below.refl _ _⟩
theorem out1 (n low high : Int) (b : Bool) (hb : decide (n < low ∨ high < n) = b) (w : World) : Calls Tryz.prog 57 #[.int .i64 n, .int .i64 low, .int .i64 high] w fun e w' => e = .returned (.bool b) ∧ w' = w := Cut.outside n low high b hb w
theorem in1 (n low high : Int) (b : Bool) (hb : decide (n < low ∨ high < n) = b) (w : World) : Calls Tryz.prog 51 #[.int .i64 n, .int .i64 low, .int .i64 high] w fun e w' => e = .returned (.bool !b) ∧ w' = w :=
  Cut.within n low high (!b) (by subst hb; by_cases h : n < low ∨ high < n <;> simp [h] <;> omega) w
set_option maxHeartbeats 8000000 in
set_option maxRecDepth 100000 in
theorem checkCounts (v : Value) (l : List Wt) (hk : ∀ f ∈ l, f.1.size ≤ 9223372036854775807) (w : World) (h : wnK.S w v l) :
    Calls Tryz.prog 31 #[v] w fun e w' => e = .returned (.int .i64 (fault l)) ∧ Below w.heap.size w w' := by
  obtain ⟨A1, cap, rfl, C⟩ := h
  have L1 := C.1
  have HS := Lib.hid hk
  clear hk
  by_cases hl : 12 < l.length
  · have HF := Lib.hid (show fault l = 2 by unfold fault; rw [if_pos hl])
    have hl' : (12 : Int) < l.length := by omega
    go_enter Tryz.func31, Tryz.ntmps31
    go_wp2
    go_ret
    exact ⟨by rw [HF.out]; rfl, Below.refl _ _⟩
  · have HF := Lib.hid (show fault l = go none 0 l by unfold fault; rw [if_neg hl])
    have hl12 : l.length ≤ 12 := by omega
    have hl' : ¬ (12 : Int) < l.length := by omega
    clear hl
    go_enter Tryz.func31, Tryz.ntmps31
    go_wp2
    go_loopw [3, 11] (fun s3 s11 wr => ∃ (k : Nat) (sm : Int), s11 = .int .i64 k ∧ k ≤ l.length ∧ s3 = .int .i64 sm ∧ 0 ≤ sm ∧ sm ≤ 12 * k ∧ Hid (go none 0 l = go (prev l k) sm (l.drop k)) ∧ Hid (Below w.heap.size w wr)) (fun _ s _ => l.length - (intOf s).toNat)
    case atStart => exact ⟨0, 0, rfl, by omega, rfl, by omega, by omega, Lib.hid rfl, Lib.hid (Below.refl _ _)⟩
    case round =>
      obtain ⟨k, sm, rfl, hk, rfl, hsm0, hsm1, HG, HB⟩ := hrel
      by_cases hlt : k < l.length
      · have HC := Lib.hid (C.mono HB.out)
        obtain ⟨b1', o1, rfl, f0, f1, f2⟩ := wn_at HC.out k hlt
        have hk1 : (k : Int) < l.length := by omega
        have HA := fun c o => Lib.hid (HB.out.alloc (by have := HB.out.size; exact this) (.cells c o))
        have HN2 : Hid (∀ (c : Array Value) (o : TypeId) (i : Nat) (u : Value) (w2 : World), Below (wr.alloc (.cells c o)).heap.size (wr.alloc (.cells c o)) w2 → c[i]? = some u → w2.cell? ⟨wr.heap.size, i, none⟩ = some u) := Lib.hid (fun c o i u w2 hb hc => B.cell_below hb (by rw [World.cell?_alloc_new]; exact hc))
        have HSk := HS.out _ (List.getElem_mem hlt)
        have HG2 := HG.out
        rw [List.drop_eq_getElem_cons hlt, go] at HG2
        have HP := Lib.hid (prev_succ l hlt)
        by_cases hk0 : k = 0
        · subst hk0
          generalize hs : l[0] = s at *
          obtain ⟨s1, s2, s3⟩ := s
          simp only [Nat.zero_mul, Nat.add_zero] at f0 f1 f2
          cases hkb : Key.keyB s1 with
          | false =>
            have ck := key1 s1 false hkb HSk
            rw [if_pos hkb] at HG2
            have HX : Hid (fault l = 5) := Lib.hid (by rw [HF.out, HG2])
            clear HG2 hkb hs HP HSk
            go_wp2_with (go_at_call 50; refine (ck _).mono ?_; rintro e w2 ⟨rfl, HB2⟩)
            go_ret
            exact ⟨by rw [HX.out]; rfl, B.below_trans (HA _ _).out HB2⟩
          | true =>
            have ck := key1 s1 true hkb HSk
            rw [if_neg (by rw [hkb]; decide)] at HG2
            have HG4 : Hid (go none 0 l = if b1 (s1, s2, s3) = true ∨ b2 (s1, s2, s3) = true then 1 else go (some s1) (sm + s2) (l.drop (0 + 1))) := Lib.hid (by rw [HG2]; rfl)
            clear HG2 hkb hs HSk
            obtain rfl : sm = 0 := by omega
            rw [Int.zero_add] at HG4
            cases hb1 : b1 (s1, s2, s3) with
            | true =>
              have HX : Hid (fault l = 1) := Lib.hid (by rw [HF.out, HG4.out, if_pos (.inl hb1)])
              have c1 := out1 s2 1 12 true hb1
              clear HG4 hb1
              go_wp2_with (first | (go_at_call 50; refine (ck _).mono ?_; rintro e w2 ⟨rfl, HB2⟩; have g0 := HN2.out _ _ 0 _ _ HB2 rfl; have g1 := HN2.out _ _ 1 _ _ HB2 rfl; have g2 := HN2.out _ _ 2 _ _ HB2 rfl) | (go_at_call 57; (with_reducible refine (c1 _).mono ?_); rintro e w3 ⟨rfl, rfl⟩))
              go_quiet (fail)
              go_wp2_with (go_at_call 57; (with_reducible refine (c1 _).mono ?_); rintro e w3 ⟨rfl, rfl⟩)
              go_ret
              exact ⟨by rw [HX.out]; rfl, B.below_drew (B.below_trans (HA _ _).out HB2) _⟩
            | false =>
              have c1 := out1 s2 1 12 false hb1
              have hbd : 1 ≤ s2 ∧ s2 ≤ 12 := by have : decide (s2 < 1 ∨ 12 < s2) = false := hb1; have := of_decide_eq_false this; omega
              obtain ⟨hbd1, hbd2⟩ := hbd
              cases hb2 : b2 (s1, s2, s3) with
              | true =>
                have HX : Hid (fault l = 1) := Lib.hid (by rw [HF.out, HG4.out, if_pos (.inr hb2)])
                have c2 := out1 s3 0 12 true hb2
                clear HG4 hb1 hb2
                go_wp2_with (go_at_call 50; refine (ck _).mono ?_; rintro e w2 ⟨rfl, HB2⟩; have g0 := HN2.out _ _ 0 _ _ HB2 rfl; have g1 := HN2.out _ _ 1 _ _ HB2 rfl; have g2 := HN2.out _ _ 2 _ _ HB2 rfl)
                go_quiet (fail)
                go_wp2_with (first | (go_at_call 57; (with_reducible refine (c1 _).mono ?_); rintro e w3 ⟨rfl, rfl⟩) | (go_at_call 57; (with_reducible refine (c2 _).mono ?_); rintro e w3 ⟨rfl, rfl⟩))
                go_ret
                exact ⟨by rw [HX.out]; rfl, B.below_drew (B.below_trans (HA _ _).out HB2) _⟩
              | false =>
                have HG5 : Hid (go none 0 l = go (some s1) (s2) (l.drop (0 + 1))) := Lib.hid (by rw [HG4.out, if_neg (by rw [hb1, hb2]; simp)])
                have c2 := out1 s3 0 12 false hb2
                clear HG4 hb1 hb2
                go_wp2_with (go_at_call 50; refine (ck _).mono ?_; rintro e w2 ⟨rfl, HB2⟩; have g0 := HN2.out _ _ 0 _ _ HB2 rfl; have g1 := HN2.out _ _ 1 _ _ HB2 rfl; have g2 := HN2.out _ _ 2 _ _ HB2 rfl)
                go_quiet (fail)
                go_wp2_with (first | (go_at_call 57; (with_reducible refine (c1 _).mono ?_); rintro e w3 ⟨rfl, rfl⟩) | (go_at_call 57; (with_reducible refine (c2 _).mono ?_); rintro e w3 ⟨rfl, rfl⟩))
                go_roundw
                case rel => exact ⟨0 + 1, s2, by go_num, by omega, rfl, by omega, by omega, by rw [HP.out]; exact HG5, Lib.hid (B.below_drew (B.below_trans (HA _ _).out HB2) _)⟩
                case measure => simp [intOf]; omega
        · obtain ⟨m, rfl⟩ : ∃ m, k = m + 1 := ⟨k - 1, by omega⟩
          have hml : m < l.length := by omega
          obtain ⟨b2', o2', ee, f3, -, -⟩ := wn_at HC.out m hml
          obtain ⟨rfl, rfl⟩ : b1' = b2' ∧ o1 = o2' := by simpa using ee
          have F4 := Lib.hid (fun o w2 (hb : Below (wr.alloc o).heap.size (wr.alloc o) w2) => B.cell_below hb (B.cell_below ((Below.refl _ wr).alloc (Nat.le_refl _) o) f3))
          clear ee f3
          have hkb0 : decide (0 < m + 1) = true := decide_eq_true (by omega)
          have hjw : IntKind.i64.wrap (m : Int) = (m : Int) := by rw [IntKind.wrap_i64]; omega
          have hpv : prev l (m + 1) = some l[m].1 := prev_succ l hml
          rw [hpv, notAfter, Option.any_some] at HG2
          generalize hs : l[m + 1] = s at *
          obtain ⟨s1, s2, s3⟩ := s
          generalize l[m].1 = q at *
          cases hkb : Key.keyB s1 with
          | false =>
            have ck := key1 s1 false hkb HSk
            rw [if_pos hkb] at HG2
            have HX : Hid (fault l = 5) := Lib.hid (by rw [HF.out, HG2])
            clear HG2 hkb hs HP HSk hpv
            go_wp2_with (go_at_call 50; refine (ck _).mono ?_; rintro e w2 ⟨rfl, HB2⟩)
            go_ret
            exact ⟨by rw [HX.out]; rfl, B.below_trans (HA _ _).out HB2⟩
          | true =>
            have ck := key1 s1 true hkb HSk
            rw [if_neg (by rw [hkb]; decide)] at HG2
            cases hle : leS s1 q with
            | true =>
              rw [if_pos hle] at HG2
              have HX : Hid (fault l = 7) := Lib.hid (by rw [HF.out, HG2])
              have hle' : (Op.bytesLess s1.toList q.toList || s1.toList == q.toList) = true := hle
              clear HG2 hle hkb hs HP HSk hpv
              go_wp2_with (go_at_call 50; refine (ck _).mono ?_; rintro e w2 ⟨rfl, HB2⟩; have g0 := HN2.out _ _ 0 _ _ HB2 rfl; have g4 := F4.out _ _ HB2)
              go_quiet (fail)
              go_wp2
              go_ret
              exact ⟨by rw [HX.out]; rfl, B.below_drew (B.below_trans (HA _ _).out HB2) _⟩
            | false =>
              have HG4 : Hid (go none 0 l = if b1 (s1, s2, s3) = true ∨ b2 (s1, s2, s3) = true then 1 else go (some s1) (sm + s2) (l.drop (m + 1 + 1))) := Lib.hid (by rw [HG2, if_neg (by rw [hle]; decide)])
              have hle' : (Op.bytesLess s1.toList q.toList || s1.toList == q.toList) = false := hle
              clear HG2 hle hkb hs HSk hpv
              cases hb1 : b1 (s1, s2, s3) with
              | true =>
                have HX : Hid (fault l = 1) := Lib.hid (by rw [HF.out, HG4.out, if_pos (.inl hb1)])
                have c1 := out1 s2 1 12 true hb1
                clear HG4 hb1
                go_wp2_with (first | (go_at_call 50; refine (ck _).mono ?_; rintro e w2 ⟨rfl, HB2⟩; have g0 := HN2.out _ _ 0 _ _ HB2 rfl; have g1 := HN2.out _ _ 1 _ _ HB2 rfl; have g2 := HN2.out _ _ 2 _ _ HB2 rfl; have g4 := F4.out _ _ HB2) | (go_at_call 57; (with_reducible refine (c1 _).mono ?_); rintro e w3 ⟨rfl, rfl⟩))
                go_quiet (fail)
                go_wp2_with (go_at_call 57; (with_reducible refine (c1 _).mono ?_); rintro e w3 ⟨rfl, rfl⟩)
                go_ret
                exact ⟨by rw [HX.out]; rfl, B.below_drew (B.below_trans (HA _ _).out HB2) _⟩
              | false =>
                have c1 := out1 s2 1 12 false hb1
                have hbd : 1 ≤ s2 ∧ s2 ≤ 12 := by have : decide (s2 < 1 ∨ 12 < s2) = false := hb1; have := of_decide_eq_false this; omega
                obtain ⟨hbd1, hbd2⟩ := hbd
                cases hb2 : b2 (s1, s2, s3) with
                | true =>
                  have HX : Hid (fault l = 1) := Lib.hid (by rw [HF.out, HG4.out, if_pos (.inr hb2)])
                  have c2 := out1 s3 0 12 true hb2
                  clear HG4 hb1 hb2
                  go_wp2_with (go_at_call 50; refine (ck _).mono ?_; rintro e w2 ⟨rfl, HB2⟩; have g0 := HN2.out _ _ 0 _ _ HB2 rfl; have g1 := HN2.out _ _ 1 _ _ HB2 rfl; have g2 := HN2.out _ _ 2 _ _ HB2 rfl; have g4 := F4.out _ _ HB2)
                  go_quiet (fail)
                  go_wp2_with (first | (go_at_call 57; (with_reducible refine (c1 _).mono ?_); rintro e w3 ⟨rfl, rfl⟩) | (go_at_call 57; (with_reducible refine (c2 _).mono ?_); rintro e w3 ⟨rfl, rfl⟩))
                  go_ret
                  exact ⟨by rw [HX.out]; rfl, B.below_drew (B.below_trans (HA _ _).out HB2) _⟩
                | false =>
                  have HG5 : Hid (go none 0 l = go (some s1) (sm + s2) (l.drop (m + 1 + 1))) := Lib.hid (by rw [HG4.out, if_neg (by rw [hb1, hb2]; simp)])
                  have c2 := out1 s3 0 12 false hb2
                  clear HG4 hb1 hb2
                  go_wp2_with (go_at_call 50; refine (ck _).mono ?_; rintro e w2 ⟨rfl, HB2⟩; have g0 := HN2.out _ _ 0 _ _ HB2 rfl; have g1 := HN2.out _ _ 1 _ _ HB2 rfl; have g2 := HN2.out _ _ 2 _ _ HB2 rfl; have g4 := F4.out _ _ HB2)
                  go_quiet (fail)
                  go_wp2_with (first | (go_at_call 57; (with_reducible refine (c1 _).mono ?_); rintro e w3 ⟨rfl, rfl⟩) | (go_at_call 57; (with_reducible refine (c2 _).mono ?_); rintro e w3 ⟨rfl, rfl⟩))
                  go_roundw
                  case rel => exact ⟨m + 1 + 1, sm + s2, by go_num, by omega, rfl, by omega, by omega, by rw [HP.out]; exact HG5, Lib.hid (B.below_drew (B.below_trans (HA _ _).out HB2) _)⟩
                  case measure => simp [intOf]; omega
      · obtain rfl : k = l.length := by omega
        have HX : Hid (fault l = if 12 < sm then 2 else 0) := Lib.hid (by rw [HF.out, HG.out, List.drop_length]; rfl)
        by_cases hs12 : 12 < sm
        · rw [if_pos hs12] at HX
          clear HG
          go_wp2
          go_ret
          exact ⟨by rw [HX.out]; rfl, HB.out⟩
        · rw [if_neg hs12] at HX
          clear HG
          go_wp2
          go_ret
          exact ⟨by rw [HX.out]; rfl, HB.out⟩
set_option maxHeartbeats 8000000 in
set_option maxRecDepth 100000 in
theorem wantedFault (v : Value) (l : List Wt) (hk : ∀ f ∈ l, f.1.size ≤ 9223372036854775807) (w : World) (h : wnK.S w v l) :
    Calls Tryz.prog 30 #[v] w fun e w' => e = .returned (.int .i64 (fault l)) ∧ Below w.heap.size w w' := by
  obtain ⟨A1, cap, rfl, C⟩ := h
  have L1 := C.1
  have HS := Lib.hid hk
  clear hk
  by_cases hl : 12 < l.length
  · have HF := Lib.hid (show fault l = 2 by unfold fault; rw [if_pos hl])
    have hl' : (12 : Int) < l.length := by omega
    go_enter Tryz.func30, Tryz.ntmps30
    go_wp2
    go_ret
    exact ⟨by rw [HF.out]; rfl, Below.refl _ _⟩
  · have HF := Lib.hid (show fault l = go none 0 l by unfold fault; rw [if_neg hl])
    have hl12 : l.length ≤ 12 := by omega
    have hl' : ¬ (12 : Int) < l.length := by omega
    clear hl
    go_enter Tryz.func30, Tryz.ntmps30
    go_wp2
    go_loopw [3, 11] (fun s3 s11 wr => ∃ (k : Nat) (sm : Int), s11 = .int .i64 k ∧ k ≤ l.length ∧ s3 = .int .i64 sm ∧ 0 ≤ sm ∧ sm ≤ 12 * k ∧ Hid (go none 0 l = go (prev l k) sm (l.drop k)) ∧ Hid (Below w.heap.size w wr)) (fun _ s _ => l.length - (intOf s).toNat)
    case atStart => exact ⟨0, 0, rfl, by omega, rfl, by omega, by omega, Lib.hid rfl, Lib.hid (Below.refl _ _)⟩
    case round =>
      obtain ⟨k, sm, rfl, hk, rfl, hsm0, hsm1, HG, HB⟩ := hrel
      by_cases hlt : k < l.length
      · have HC := Lib.hid (C.mono HB.out)
        obtain ⟨b1', o1, rfl, f0, f1, f2⟩ := wn_at HC.out k hlt
        have hk1 : (k : Int) < l.length := by omega
        have HA := fun c o => Lib.hid (HB.out.alloc (by have := HB.out.size; exact this) (.cells c o))
        have HN2 : Hid (∀ (c : Array Value) (o : TypeId) (i : Nat) (u : Value) (w2 : World), Below (wr.alloc (.cells c o)).heap.size (wr.alloc (.cells c o)) w2 → c[i]? = some u → w2.cell? ⟨wr.heap.size, i, none⟩ = some u) := Lib.hid (fun c o i u w2 hb hc => B.cell_below hb (by rw [World.cell?_alloc_new]; exact hc))
        have HSk := HS.out _ (List.getElem_mem hlt)
        have HG2 := HG.out
        rw [List.drop_eq_getElem_cons hlt, go] at HG2
        have HP := Lib.hid (prev_succ l hlt)
        by_cases hk0 : k = 0
        · subst hk0
          generalize hs : l[0] = s at *
          obtain ⟨s1, s2, s3⟩ := s
          simp only [Nat.zero_mul, Nat.add_zero] at f0 f1 f2
          cases hkb : Key.keyB s1 with
          | false =>
            have ck := Key.refKey s1 false hkb HSk
            rw [if_pos hkb] at HG2
            have HX : Hid (fault l = 5) := Lib.hid (by rw [HF.out, HG2])
            clear HG2 hkb hs HP HSk
            go_wp2_with (go_at_call 52; refine (ck _).mono ?_; rintro e w2 ⟨rfl, HB2⟩)
            go_ret
            exact ⟨by rw [HX.out]; rfl, B.below_trans (HA _ _).out HB2⟩
          | true =>
            have ck := Key.refKey s1 true hkb HSk
            rw [if_neg (by rw [hkb]; decide)] at HG2
            have HG4 : Hid (go none 0 l = if b1 (s1, s2, s3) = true ∨ b2 (s1, s2, s3) = true then 1 else go (some s1) (sm + s2) (l.drop (0 + 1))) := Lib.hid (by rw [HG2]; rfl)
            clear HG2 hkb hs HSk
            obtain rfl : sm = 0 := by omega
            rw [Int.zero_add] at HG4
            cases hb1 : b1 (s1, s2, s3) with
            | true =>
              have HX : Hid (fault l = 1) := Lib.hid (by rw [HF.out, HG4.out, if_pos (.inl hb1)])
              have c1 := in1 s2 1 12 true hb1
              clear HG4 hb1
              go_wp2_with (first | (go_at_call 52; refine (ck _).mono ?_; rintro e w2 ⟨rfl, HB2⟩; have g0 := HN2.out _ _ 0 _ _ HB2 rfl; have g1 := HN2.out _ _ 1 _ _ HB2 rfl; have g2 := HN2.out _ _ 2 _ _ HB2 rfl) | (go_at_call 51; (with_reducible refine (c1 _).mono ?_); rintro e w3 ⟨rfl, rfl⟩))
              go_quiet (fail)
              go_wp2_with (go_at_call 51; (with_reducible refine (c1 _).mono ?_); rintro e w3 ⟨rfl, rfl⟩)
              go_ret
              exact ⟨by rw [HX.out]; rfl, B.below_drew (B.below_trans (HA _ _).out HB2) _⟩
            | false =>
              have c1 := in1 s2 1 12 false hb1
              have hbd : 1 ≤ s2 ∧ s2 ≤ 12 := by have : decide (s2 < 1 ∨ 12 < s2) = false := hb1; have := of_decide_eq_false this; omega
              obtain ⟨hbd1, hbd2⟩ := hbd
              cases hb2 : b2 (s1, s2, s3) with
              | true =>
                have HX : Hid (fault l = 1) := Lib.hid (by rw [HF.out, HG4.out, if_pos (.inr hb2)])
                have c2 := in1 s3 0 12 true hb2
                clear HG4 hb1 hb2
                go_wp2_with (go_at_call 52; refine (ck _).mono ?_; rintro e w2 ⟨rfl, HB2⟩; have g0 := HN2.out _ _ 0 _ _ HB2 rfl; have g1 := HN2.out _ _ 1 _ _ HB2 rfl; have g2 := HN2.out _ _ 2 _ _ HB2 rfl)
                go_quiet (fail)
                go_wp2_with (first | (go_at_call 51; (with_reducible refine (c1 _).mono ?_); rintro e w3 ⟨rfl, rfl⟩) | (go_at_call 51; (with_reducible refine (c2 _).mono ?_); rintro e w3 ⟨rfl, rfl⟩))
                go_ret
                exact ⟨by rw [HX.out]; rfl, B.below_drew (B.below_trans (HA _ _).out HB2) _⟩
              | false =>
                have HG5 : Hid (go none 0 l = go (some s1) (s2) (l.drop (0 + 1))) := Lib.hid (by rw [HG4.out, if_neg (by rw [hb1, hb2]; simp)])
                have c2 := in1 s3 0 12 false hb2
                clear HG4 hb1 hb2
                go_wp2_with (go_at_call 52; refine (ck _).mono ?_; rintro e w2 ⟨rfl, HB2⟩; have g0 := HN2.out _ _ 0 _ _ HB2 rfl; have g1 := HN2.out _ _ 1 _ _ HB2 rfl; have g2 := HN2.out _ _ 2 _ _ HB2 rfl)
                go_quiet (fail)
                go_wp2_with (first | (go_at_call 51; (with_reducible refine (c1 _).mono ?_); rintro e w3 ⟨rfl, rfl⟩) | (go_at_call 51; (with_reducible refine (c2 _).mono ?_); rintro e w3 ⟨rfl, rfl⟩))
                go_roundw
                case rel => exact ⟨0 + 1, s2, by go_num, by omega, rfl, by omega, by omega, by rw [HP.out]; exact HG5, Lib.hid (B.below_drew (B.below_trans (HA _ _).out HB2) _)⟩
                case measure => simp [intOf]; omega
        · obtain ⟨m, rfl⟩ : ∃ m, k = m + 1 := ⟨k - 1, by omega⟩
          have hml : m < l.length := by omega
          obtain ⟨b2', o2', ee, f3, -, -⟩ := wn_at HC.out m hml
          obtain ⟨rfl, rfl⟩ : b1' = b2' ∧ o1 = o2' := by simpa using ee
          have F4 := Lib.hid (fun o w2 (hb : Below (wr.alloc o).heap.size (wr.alloc o) w2) => B.cell_below hb (B.cell_below ((Below.refl _ wr).alloc (Nat.le_refl _) o) f3))
          clear ee f3
          have hkb0 : decide (0 < m + 1) = true := decide_eq_true (by omega)
          have hjw : IntKind.i64.wrap (m : Int) = (m : Int) := by rw [IntKind.wrap_i64]; omega
          have hpv : prev l (m + 1) = some l[m].1 := prev_succ l hml
          rw [hpv, notAfter, Option.any_some] at HG2
          generalize hs : l[m + 1] = s at *
          obtain ⟨s1, s2, s3⟩ := s
          generalize l[m].1 = q at *
          cases hkb : Key.keyB s1 with
          | false =>
            have ck := Key.refKey s1 false hkb HSk
            rw [if_pos hkb] at HG2
            have HX : Hid (fault l = 5) := Lib.hid (by rw [HF.out, HG2])
            clear HG2 hkb hs HP HSk hpv
            go_wp2_with (go_at_call 52; refine (ck _).mono ?_; rintro e w2 ⟨rfl, HB2⟩)
            go_ret
            exact ⟨by rw [HX.out]; rfl, B.below_trans (HA _ _).out HB2⟩
          | true =>
            have ck := Key.refKey s1 true hkb HSk
            rw [if_neg (by rw [hkb]; decide)] at HG2
            cases hle : leS s1 q with
            | true =>
              rw [if_pos hle] at HG2
              have HX : Hid (fault l = 7) := Lib.hid (by rw [HF.out, HG2])
              have hle' : (Op.bytesLess s1.toList q.toList || s1.toList == q.toList) = true := hle
              clear HG2 hle hkb hs HP HSk hpv
              go_wp2_with (go_at_call 52; refine (ck _).mono ?_; rintro e w2 ⟨rfl, HB2⟩; have g0 := HN2.out _ _ 0 _ _ HB2 rfl; have g4 := F4.out _ _ HB2)
              go_quiet (fail)
              go_wp2
              go_ret
              exact ⟨by rw [HX.out]; rfl, B.below_drew (B.below_trans (HA _ _).out HB2) _⟩
            | false =>
              have HG4 : Hid (go none 0 l = if b1 (s1, s2, s3) = true ∨ b2 (s1, s2, s3) = true then 1 else go (some s1) (sm + s2) (l.drop (m + 1 + 1))) := Lib.hid (by rw [HG2, if_neg (by rw [hle]; decide)])
              have hle' : (Op.bytesLess s1.toList q.toList || s1.toList == q.toList) = false := hle
              clear HG2 hle hkb hs HSk hpv
              cases hb1 : b1 (s1, s2, s3) with
              | true =>
                have HX : Hid (fault l = 1) := Lib.hid (by rw [HF.out, HG4.out, if_pos (.inl hb1)])
                have c1 := in1 s2 1 12 true hb1
                clear HG4 hb1
                go_wp2_with (first | (go_at_call 52; refine (ck _).mono ?_; rintro e w2 ⟨rfl, HB2⟩; have g0 := HN2.out _ _ 0 _ _ HB2 rfl; have g1 := HN2.out _ _ 1 _ _ HB2 rfl; have g2 := HN2.out _ _ 2 _ _ HB2 rfl; have g4 := F4.out _ _ HB2) | (go_at_call 51; (with_reducible refine (c1 _).mono ?_); rintro e w3 ⟨rfl, rfl⟩))
                go_quiet (fail)
                go_wp2_with (go_at_call 51; (with_reducible refine (c1 _).mono ?_); rintro e w3 ⟨rfl, rfl⟩)
                go_ret
                exact ⟨by rw [HX.out]; rfl, B.below_drew (B.below_trans (HA _ _).out HB2) _⟩
              | false =>
                have c1 := in1 s2 1 12 false hb1
                have hbd : 1 ≤ s2 ∧ s2 ≤ 12 := by have : decide (s2 < 1 ∨ 12 < s2) = false := hb1; have := of_decide_eq_false this; omega
                obtain ⟨hbd1, hbd2⟩ := hbd
                cases hb2 : b2 (s1, s2, s3) with
                | true =>
                  have HX : Hid (fault l = 1) := Lib.hid (by rw [HF.out, HG4.out, if_pos (.inr hb2)])
                  have c2 := in1 s3 0 12 true hb2
                  clear HG4 hb1 hb2
                  go_wp2_with (go_at_call 52; refine (ck _).mono ?_; rintro e w2 ⟨rfl, HB2⟩; have g0 := HN2.out _ _ 0 _ _ HB2 rfl; have g1 := HN2.out _ _ 1 _ _ HB2 rfl; have g2 := HN2.out _ _ 2 _ _ HB2 rfl; have g4 := F4.out _ _ HB2)
                  go_quiet (fail)
                  go_wp2_with (first | (go_at_call 51; (with_reducible refine (c1 _).mono ?_); rintro e w3 ⟨rfl, rfl⟩) | (go_at_call 51; (with_reducible refine (c2 _).mono ?_); rintro e w3 ⟨rfl, rfl⟩))
                  go_ret
                  exact ⟨by rw [HX.out]; rfl, B.below_drew (B.below_trans (HA _ _).out HB2) _⟩
                | false =>
                  have HG5 : Hid (go none 0 l = go (some s1) (sm + s2) (l.drop (m + 1 + 1))) := Lib.hid (by rw [HG4.out, if_neg (by rw [hb1, hb2]; simp)])
                  have c2 := in1 s3 0 12 false hb2
                  clear HG4 hb1 hb2
                  go_wp2_with (go_at_call 52; refine (ck _).mono ?_; rintro e w2 ⟨rfl, HB2⟩; have g0 := HN2.out _ _ 0 _ _ HB2 rfl; have g1 := HN2.out _ _ 1 _ _ HB2 rfl; have g2 := HN2.out _ _ 2 _ _ HB2 rfl; have g4 := F4.out _ _ HB2)
                  go_quiet (fail)
                  go_wp2_with (first | (go_at_call 51; (with_reducible refine (c1 _).mono ?_); rintro e w3 ⟨rfl, rfl⟩) | (go_at_call 51; (with_reducible refine (c2 _).mono ?_); rintro e w3 ⟨rfl, rfl⟩))
                  go_roundw
                  case rel => exact ⟨m + 1 + 1, sm + s2, by go_num, by omega, rfl, by omega, by omega, by rw [HP.out]; exact HG5, Lib.hid (B.below_drew (B.below_trans (HA _ _).out HB2) _)⟩
                  case measure => simp [intOf]; omega
      · obtain rfl : k = l.length := by omega
        have HX : Hid (fault l = if 12 < sm then 2 else 0) := Lib.hid (by rw [HF.out, HG.out, List.drop_length]; rfl)
        by_cases hs12 : 12 < sm
        · rw [if_pos hs12] at HX
          clear HG
          go_wp2
          go_ret
          exact ⟨by rw [HX.out]; rfl, HB.out⟩
        · rw [if_neg hs12] at HX
          clear HG
          go_wp2
          go_ret
          exact ⟨by rw [HX.out]; rfl, HB.out⟩
end Go.Proofs.YtlfobpjefklccaaGreatDoor.Wn
