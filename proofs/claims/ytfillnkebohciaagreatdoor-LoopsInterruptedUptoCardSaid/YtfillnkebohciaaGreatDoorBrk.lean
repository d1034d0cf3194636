/- Breaks: their kind, what is wrong with them; plays. Printed by wip/gen/brkgen.py. -/
import Derived.Test.YtfillnkebohciaaGreatDoorSmall
import Derived.Test.YtfillnkebohciaaGreatDoorOwn
import Derived.Test.YtfillnkebohciaaGreatDoorRnP
import Derived.Deep.QuietTactic
import Derived.BigQuiet
namespace Go.Proofs.YtfillnkebohciaaGreatDoor.Rn
open Go.RowKit

def bkE (x : Bk) : List Value := [.string x.1, .int .i64 x.2.1, .int .i64 x.2.2]
theorem bkE1 (x : Bk) : ∀ v ∈ bkE x, v.oneCell' = true := by
  intro v hv
  simp [bkE] at hv
  rcases hv with rfl | rfl | rfl <;> rfl
def bkK : B.Kd Bk := .flat 3 bkE (fun _ => rfl) bkE1
theorem info_bk : (Tryz.prog.info? 34).map (fun i => (i.zero, i.size, i.bytes)) = some (some (.agg #[.string ⟨#[]⟩, .int .i64 0, .int .i64 0]), 3, 32) := by kernel_rfl
def plE (x : Pl) : List Value := [.string ⟨#[]⟩, .string x.1, .int .i64 x.2.1, .int .i64 x.2.2]
theorem plE1 (x : Pl) : ∀ v ∈ plE x, v.oneCell' = true := by
  intro v hv
  simp [plE] at hv
  rcases hv with rfl | rfl | rfl | rfl <;> rfl
def plK : B.Kd Pl := .flat 4 plE (fun _ => rfl) plE1
theorem info_pl : (Tryz.prog.info? 77).map (fun i => (i.zero, i.size, i.bytes)) = some (some (.agg #[.string ⟨#[]⟩, .string ⟨#[]⟩, .int .i64 0, .int .i64 0]), 4, 48) := by kernel_rfl
/-- A play whose player is told. -/
abbrev Pf := ByteArray × ByteArray × Int × Int
def pfE (x : Pf) : List Value := [.string x.1, .string x.2.1, .int .i64 x.2.2.1, .int .i64 x.2.2.2]
theorem pfE1 (x : Pf) : ∀ v ∈ pfE x, v.oneCell' = true := by
  intro v hv
  simp [pfE] at hv
  rcases hv with rfl | rfl | rfl | rfl <;> rfl
def pfK : B.Kd Pf := .flat 4 pfE (fun _ => rfl) pfE1
def pf (x : Pl) : Pf := (⟨#[]⟩, x)
theorem pl_pf {w : World} {v : Value} {xs : List Pl} (h : plK.S w v xs) : pfK.S w v (xs.map pf) := by
  obtain ⟨A, c, rfl, h1, h2⟩ := h
  refine ⟨A, c, by rw [List.length_map], by rw [List.length_map]; exact h1, fun hp => ?_⟩
  obtain ⟨b, off, e, hc⟩ := h2 (by rwa [List.length_map] at hp)
  refine ⟨b, off, e, fun j hj => ?_⟩
  obtain ⟨cs, hK, hcs⟩ := hc j (by rwa [List.length_map] at hj)
  have hK' : cs = plE (xs[j]'(by rwa [List.length_map] at hj)) := hK
  refine ⟨cs, ?_, hcs⟩
  show cs = pfE _
  rw [List.getElem_map, hK']
  rfl
theorem pf_inj {xs ys : List Pl} : xs.map pf = ys.map pf ↔ xs = ys :=
  ⟨fun h => List.map_inj_right (fun x y e => (Prod.mk.inj e).2) |>.1 h, fun h => by rw [h]⟩
def bad (x : Bk) : Prop := x.2.1 < 0 ∨ x.2.2 ≤ x.2.1 ∨ 345686400000 < x.2.2
instance (x : Bk) : Decidable (bad x) := by unfold bad; infer_instance
def go (p : Option Int) : List Bk → Int
  | [] => 0
  | x :: l => if Key.keyB x.1 = false then 5 else if bad x then 1 else if (p.any fun t => x.2.1 < t) then 7 else go (some x.2.2) l
def prev (l : List Bk) (k : Nat) : Option Int := if k = 0 then none else some (l.getD (k - 1) (⟨#[]⟩, 0, 0)).2.2
theorem prev_succ (l : List Bk) {k : Nat} (h : k < l.length) : prev l (k + 1) = some l[k].2.2 := by unfold prev; rw [if_neg (by omega), Nat.add_sub_cancel, List.getD_eq_getElem?_getD, List.getElem?_eq_getElem h]; rfl
/-- What is wrong with breaks. -/
def fault (l : List Bk) : Int := if 500 < l.length then 2 else go none l
theorem go_ok : ∀ {l : List Bk} {p : Option Int}, go p l = 0 → (∀ x ∈ l, ¬ bad x ∧ Key.keyB x.1 = true ∧ ∀ t, p = some t → t ≤ x.2.1) ∧ l.Pairwise (fun x y => x.2.2 ≤ y.2.1)
  | [], _, _ => ⟨fun x hx => by simp at hx, by simp⟩
  | y :: l, p, h => by
    rw [go] at h
    split at h
    · exact absurd h (by decide)
    · rename_i hk
      split at h
      · exact absurd h (by decide)
      · rename_i hb
        split at h
        · exact absurd h (by decide)
        · rename_i ho
          obtain ⟨h1, h2⟩ := go_ok h
          have hyp : ∀ t, p = some t → t ≤ y.2.1 := fun t e => by subst e; simp at ho; exact ho
          have hyb : y.2.1 < y.2.2 := by unfold bad at hb; omega
          refine ⟨fun x hx => ?_, List.pairwise_cons.2 ⟨fun x hx => (h1 x hx).2.2 _ rfl, h2⟩⟩
          rcases List.mem_cons.1 hx with rfl | hx
          · exact ⟨hb, by simpa using hk, hyp⟩
          · exact ⟨(h1 x hx).1, (h1 x hx).2.1, fun t e => by have := hyp t e; have := (h1 x hx).2.2 _ rfl; omega⟩
/-- Right breaks. -/
theorem fault_ok {l : List Bk} (h : fault l = 0) : l.length ≤ 500 ∧ (∀ x ∈ l, 0 ≤ x.2.1 ∧ x.2.1 < x.2.2 ∧ x.2.2 ≤ 345686400000 ∧ Key.keyB x.1 = true) ∧ l.Pairwise (fun x y => x.2.2 ≤ y.2.1) := by
  unfold fault at h
  split at h
  · exact absurd h (by decide)
  · obtain ⟨h1, h2⟩ := go_ok h
    refine ⟨by omega, fun x hx => ?_, h2⟩
    have h3 := (h1 x hx).1
    unfold bad at h3
    exact ⟨by omega, by omega, by omega, (h1 x hx).2.1⟩
theorem bk_at {w : World} {A : Option Addr} {l : List Bk} (h : bkK.C w A l) (k : Nat) (hk : k < l.length) : ∃ b off, A = some ⟨b, off, none⟩ ∧ w.cell? ⟨b, off + k * 3, none⟩ = some (.string l[k].1) ∧ w.cell? ⟨b, off + k * 3 + 1, none⟩ = some (.int .i64 l[k].2.1) ∧ w.cell? ⟨b, off + k * 3 + 2, none⟩ = some (.int .i64 l[k].2.2) := by
  obtain ⟨b, off, cs, e, K, hc⟩ := h.at k hk
  have K' : cs = [.string l[k].1, .int .i64 l[k].2.1, .int .i64 l[k].2.2] := K
  subst K'
  have h0 := hc 0 (by simp)
  have h1 := hc 1 (by simp)
  have h2 := hc 2 (by simp)
  exact ⟨b, off, e, by simpa [bkK, B.Kd.flat] using h0, by simpa [bkK, B.Kd.flat] using h1, by simpa [bkK, B.Kd.flat] using h2⟩
theorem key1 (s : ByteArray) (b : Bool) (hb : Key.keyB s = b) (hs : s.size ≤ 9223372036854775807) (w : World) : Calls Tryz.prog 51 #[.string s] w fun e w' => e = .returned (.bool b) ∧ Below w.heap.size w w' :=
  (Key.isKey s b hb hs w).mono fun _ _ h => ⟨h.1, by rw [h.2]; exact Below.refl _ _⟩
set_option maxHeartbeats 8000000 in
set_option maxRecDepth 100000 in
theorem checkBreaks (v : Value) (l : List Bk) (hk : ∀ f ∈ l, f.1.size ≤ 9223372036854775807) (w : World) (h : bkK.S w v l) :
    Calls Tryz.prog 28 #[v] w fun e w' => e = .returned (.int .i64 (fault l)) ∧ Below w.heap.size w w' := by
  obtain ⟨A1, cap, rfl, C⟩ := h
  have L1 := C.1
  have HS := Lib.hid hk
  clear hk
  by_cases hl : 500 < l.length
  · have HF := Lib.hid (show fault l = 2 by unfold fault; rw [if_pos hl])
    have hl' : (500 : Int) < l.length := by omega
    go_enter Tryz.func28, Tryz.ntmps28
    go_wp2
    go_ret
    exact ⟨by rw [HF.out]; rfl, Below.refl _ _⟩
  · have HF := Lib.hid (show fault l = go none l by unfold fault; rw [if_neg hl])
    have hl5 : l.length ≤ 500 := by omega
    have hl' : ¬ (500 : Int) < l.length := by omega
    clear hl
    go_enter Tryz.func28, Tryz.ntmps28
    go_wp2
    go_loopw [10] (fun sI wr => ∃ (k : Nat), sI = .int .i64 k ∧ k ≤ l.length ∧ Hid (go none l = go (prev l k) (l.drop k)) ∧ Hid (Below w.heap.size w wr)) (fun s _ => l.length - (intOf s).toNat)
    case atStart => exact ⟨0, rfl, by omega, Lib.hid rfl, Lib.hid (Below.refl _ _)⟩
    case round =>
      obtain ⟨k, rfl, hk, HG, HB⟩ := hrel
      by_cases hlt : k < l.length
      · have HC := Lib.hid (C.mono HB.out)
        obtain ⟨b1', o1, rfl, f0, f1, f2⟩ := bk_at HC.out k hlt
        have hk1 : (k : Int) < l.length := by omega
        have HA := fun c o => Lib.hid (HB.out.alloc (by have := HB.out.size; exact this) (.cells c o))
        have HN2 : Hid (∀ (c : Array Value) (o : TypeId) (i : Nat) (u : Value) (w2 : World), Below (wr.alloc (.cells c o)).heap.size (wr.alloc (.cells c o)) w2 → c[i]? = some u → w2.cell? ⟨wr.heap.size, i, none⟩ = some u) := Lib.hid (fun c o i u w2 hb hc => B.cell_below hb (by rw [World.cell?_alloc_new]; exact hc))
        have HSk := HS.out _ (List.getElem_mem hlt)
        have HG2 := HG.out
        rw [List.drop_eq_getElem_cons hlt, go] at HG2
        have HP := Lib.hid (prev_succ l hlt)
        by_cases hk0 : k = 0
        · subst hk0
          generalize hs : l[0] = s at *
          obtain ⟨s1, s2, s3⟩ := s
          simp only [Nat.zero_mul, Nat.add_zero] at f0 f1 f2
          cases hkb : Key.keyB s1 with
          | false =>
            have ck := key1 s1 false hkb HSk
            rw [if_pos hkb] at HG2
            have HX : Hid (fault l = 5) := Lib.hid (by rw [HF.out, HG2])
            clear HG2 hkb hs HP HSk
            go_wp2_with (go_at_call 51; refine (ck _).mono ?_; rintro e w2 ⟨rfl, HB2⟩)
            go_ret
            exact ⟨by rw [HX.out]; rfl, B.below_trans (HA _ _).out HB2⟩
          | true =>
            have ck := key1 s1 true hkb HSk
            rw [if_neg (by rw [hkb]; decide)] at HG2
            have HG3 := HG2
            clear HG2 hkb
            by_cases hbd : bad (s1, s2, s3)
            · rw [if_pos hbd] at HG3
              have HX : Hid (fault l = 1) := Lib.hid (by rw [HF.out, HG3])
              unfold bad at hbd
              simp only [] at hbd
              clear HG3 hs HSk
              by_cases q0 : s2 < 0
              · clear hbd
                go_wp2_with (go_at_call 51; refine (ck _).mono ?_; rintro e w2 ⟨rfl, HB2⟩; have g0 := HN2.out _ _ 0 _ _ HB2 rfl; have g1 := HN2.out _ _ 1 _ _ HB2 rfl; have g2 := HN2.out _ _ 2 _ _ HB2 rfl)
                go_ret
                exact ⟨by rw [HX.out]; rfl, B.below_trans (HA _ _).out HB2⟩
              · skip
                by_cases q1 : s3 ≤ s2
                · clear hbd
                  go_wp2_with (go_at_call 51; refine (ck _).mono ?_; rintro e w2 ⟨rfl, HB2⟩; have g0 := HN2.out _ _ 0 _ _ HB2 rfl; have g1 := HN2.out _ _ 1 _ _ HB2 rfl; have g2 := HN2.out _ _ 2 _ _ HB2 rfl)
                  go_ret
                  exact ⟨by rw [HX.out]; rfl, B.below_trans (HA _ _).out HB2⟩
                · skip
                  have q2 : 345686400000 < s3 := by omega
                  clear hbd
                  go_wp2_with (go_at_call 51; refine (ck _).mono ?_; rintro e w2 ⟨rfl, HB2⟩; have g0 := HN2.out _ _ 0 _ _ HB2 rfl; have g1 := HN2.out _ _ 1 _ _ HB2 rfl; have g2 := HN2.out _ _ 2 _ _ HB2 rfl)
                  go_ret
                  exact ⟨by rw [HX.out]; rfl, B.below_trans (HA _ _).out HB2⟩
            · rw [if_neg hbd] at HG3
              unfold bad at hbd
              simp only [] at hbd
              have q0 : ¬ s2 < 0 := by omega
              have q1 : ¬ s3 ≤ s2 := by omega
              have q2 : ¬ 345686400000 < s3 := by omega
              clear hbd hs HSk
              have HX : Hid (go none l = go (some s3) (l.drop (0 + 1))) := Lib.hid (by rw [HG3]; simp [prev])
              clear HG3
              go_wp2_with (go_at_call 51; refine (ck _).mono ?_; rintro e w2 ⟨rfl, HB2⟩; have g0 := HN2.out _ _ 0 _ _ HB2 rfl; have g1 := HN2.out _ _ 1 _ _ HB2 rfl; have g2 := HN2.out _ _ 2 _ _ HB2 rfl)
              go_quiet (fail)
              go_wp2
              go_roundw
              case rel => exact ⟨1, by go_num, by omega, Lib.hid (by rw [HP.out]; exact HX.out), Lib.hid (B.below_drew (B.below_trans (HA _ _).out HB2) _)⟩
              case measure => simp [intOf]; omega
        · obtain ⟨m, rfl⟩ : ∃ m, k = m + 1 := ⟨k - 1, by omega⟩
          have hml : m < l.length := by omega
          obtain ⟨b2', o2', ee, -, -, f3⟩ := bk_at HC.out m hml
          obtain ⟨rfl, rfl⟩ : b1' = b2' ∧ o1 = o2' := by simpa using ee
          have F4 := Lib.hid (fun o w2 (hb : Below (wr.alloc o).heap.size (wr.alloc o) w2) => B.cell_below hb (B.cell_below ((Below.refl _ wr).alloc (Nat.le_refl _) o) f3))
          clear ee f3
          have hkb0 : decide (0 < m + 1) = true := decide_eq_true (by omega)
          have hjw : IntKind.i64.wrap (m : Int) = (m : Int) := by rw [IntKind.wrap_i64]; omega
          have hpv : prev l (m + 1) = some l[m].2.2 := prev_succ l hml
          rw [hpv, Option.any_some] at HG2
          generalize hs : l[m + 1] = s at *
          obtain ⟨s1, s2, s3⟩ := s
          generalize l[m].2.2 = q at *
          clear hpv
          cases hkb : Key.keyB s1 with
          | false =>
            have ck := key1 s1 false hkb HSk
            rw [if_pos hkb] at HG2
            have HX : Hid (fault l = 5) := Lib.hid (by rw [HF.out, HG2])
            clear HG2 hkb hs HP HSk
            go_wp2_with (go_at_call 51; refine (ck _).mono ?_; rintro e w2 ⟨rfl, HB2⟩)
            go_ret
            exact ⟨by rw [HX.out]; rfl, B.below_trans (HA _ _).out HB2⟩
          | true =>
            have ck := key1 s1 true hkb HSk
            rw [if_neg (by rw [hkb]; decide)] at HG2
            have HG3 := HG2
            clear HG2 hkb
            by_cases hbd : bad (s1, s2, s3)
            · rw [if_pos hbd] at HG3
              have HX : Hid (fault l = 1) := Lib.hid (by rw [HF.out, HG3])
              unfold bad at hbd
              simp only [] at hbd
              clear HG3 hs HSk
              by_cases q0 : s2 < 0
              · clear hbd
                go_wp2_with (go_at_call 51; refine (ck _).mono ?_; rintro e w2 ⟨rfl, HB2⟩; have g0 := HN2.out _ _ 0 _ _ HB2 rfl; have g1 := HN2.out _ _ 1 _ _ HB2 rfl; have g2 := HN2.out _ _ 2 _ _ HB2 rfl; have g4 := F4.out _ _ HB2)
                go_ret
                exact ⟨by rw [HX.out]; rfl, B.below_trans (HA _ _).out HB2⟩
              · skip
                by_cases q1 : s3 ≤ s2
                · clear hbd
                  go_wp2_with (go_at_call 51; refine (ck _).mono ?_; rintro e w2 ⟨rfl, HB2⟩; have g0 := HN2.out _ _ 0 _ _ HB2 rfl; have g1 := HN2.out _ _ 1 _ _ HB2 rfl; have g2 := HN2.out _ _ 2 _ _ HB2 rfl; have g4 := F4.out _ _ HB2)
                  go_ret
                  exact ⟨by rw [HX.out]; rfl, B.below_trans (HA _ _).out HB2⟩
                · skip
                  have q2 : 345686400000 < s3 := by omega
                  clear hbd
                  go_wp2_with (go_at_call 51; refine (ck _).mono ?_; rintro e w2 ⟨rfl, HB2⟩; have g0 := HN2.out _ _ 0 _ _ HB2 rfl; have g1 := HN2.out _ _ 1 _ _ HB2 rfl; have g2 := HN2.out _ _ 2 _ _ HB2 rfl; have g4 := F4.out _ _ HB2)
                  go_ret
                  exact ⟨by rw [HX.out]; rfl, B.below_trans (HA _ _).out HB2⟩
            · rw [if_neg hbd] at HG3
              unfold bad at hbd
              simp only [] at hbd
              have q0 : ¬ s2 < 0 := by omega
              have q1 : ¬ s3 ≤ s2 := by omega
              have q2 : ¬ 345686400000 < s3 := by omega
              clear hbd hs HSk
              by_cases h7 : s2 < q
              · have HX : Hid (fault l = 7) := Lib.hid (by rw [HF.out, HG3]; simp [h7])
                clear HG3
                go_wp2_with (go_at_call 51; refine (ck _).mono ?_; rintro e w2 ⟨rfl, HB2⟩; have g0 := HN2.out _ _ 0 _ _ HB2 rfl; have g1 := HN2.out _ _ 1 _ _ HB2 rfl; have g2 := HN2.out _ _ 2 _ _ HB2 rfl; have g4 := F4.out _ _ HB2)
                go_quiet (fail)
                go_wp2
                go_ret
                exact ⟨by rw [HX.out]; rfl, B.below_drew (B.below_trans (HA _ _).out HB2) _⟩
              · have HX : Hid (go none l = go (some s3) (l.drop (m + 1 + 1))) := Lib.hid (by rw [HG3]; simp [h7])
                clear HG3
                go_wp2_with (go_at_call 51; refine (ck _).mono ?_; rintro e w2 ⟨rfl, HB2⟩; have g0 := HN2.out _ _ 0 _ _ HB2 rfl; have g1 := HN2.out _ _ 1 _ _ HB2 rfl; have g2 := HN2.out _ _ 2 _ _ HB2 rfl; have g4 := F4.out _ _ HB2)
                go_quiet (fail)
                go_wp2
                go_roundw
                case rel => exact ⟨m + 1 + 1, by go_num, by omega, Lib.hid (by rw [HP.out]; exact HX.out), Lib.hid (B.below_drew (B.below_trans (HA _ _).out HB2) _)⟩
                case measure => simp [intOf]; omega
      · obtain rfl : k = l.length := by omega
        have HX : Hid (fault l = 0) := Lib.hid (by rw [HF.out, HG.out, List.drop_length]; rfl)
        clear HG
        go_wp2
        go_ret
        exact ⟨by rw [HX.out]; rfl, HB.out⟩
set_option maxHeartbeats 8000000 in
set_option maxRecDepth 100000 in
theorem breaksFault (v : Value) (l : List Bk) (hk : ∀ f ∈ l, f.1.size ≤ 9223372036854775807) (w : World) (h : bkK.S w v l) :
    Calls Tryz.prog 29 #[v] w fun e w' => e = .returned (.int .i64 (fault l)) ∧ Below w.heap.size w w' := by
  obtain ⟨A1, cap, rfl, C⟩ := h
  have L1 := C.1
  have HS := Lib.hid hk
  clear hk
  by_cases hl : 500 < l.length
  · have HF := Lib.hid (show fault l = 2 by unfold fault; rw [if_pos hl])
    have hl' : (500 : Int) < l.length := by omega
    go_enter Tryz.func29, Tryz.ntmps29
    go_wp2
    go_ret
    exact ⟨by rw [HF.out]; rfl, Below.refl _ _⟩
  · have HF := Lib.hid (show fault l = go none l by unfold fault; rw [if_neg hl])
    have hl5 : l.length ≤ 500 := by omega
    have hl' : ¬ (500 : Int) < l.length := by omega
    clear hl
    go_enter Tryz.func29, Tryz.ntmps29
    go_wp2
    go_loopw [10] (fun sI wr => ∃ (k : Nat), sI = .int .i64 k ∧ k ≤ l.length ∧ Hid (go none l = go (prev l k) (l.drop k)) ∧ Hid (Below w.heap.size w wr)) (fun s _ => l.length - (intOf s).toNat)
    case atStart => exact ⟨0, rfl, by omega, Lib.hid rfl, Lib.hid (Below.refl _ _)⟩
    case round =>
      obtain ⟨k, rfl, hk, HG, HB⟩ := hrel
      by_cases hlt : k < l.length
      · have HC := Lib.hid (C.mono HB.out)
        obtain ⟨b1', o1, rfl, f0, f1, f2⟩ := bk_at HC.out k hlt
        have hk1 : (k : Int) < l.length := by omega
        have HA := fun c o => Lib.hid (HB.out.alloc (by have := HB.out.size; exact this) (.cells c o))
        have HN2 : Hid (∀ (c : Array Value) (o : TypeId) (i : Nat) (u : Value) (w2 : World), Below (wr.alloc (.cells c o)).heap.size (wr.alloc (.cells c o)) w2 → c[i]? = some u → w2.cell? ⟨wr.heap.size, i, none⟩ = some u) := Lib.hid (fun c o i u w2 hb hc => B.cell_below hb (by rw [World.cell?_alloc_new]; exact hc))
        have HSk := HS.out _ (List.getElem_mem hlt)
        have HG2 := HG.out
        rw [List.drop_eq_getElem_cons hlt, go] at HG2
        have HP := Lib.hid (prev_succ l hlt)
        by_cases hk0 : k = 0
        · subst hk0
          generalize hs : l[0] = s at *
          obtain ⟨s1, s2, s3⟩ := s
          simp only [Nat.zero_mul, Nat.add_zero] at f0 f1 f2
          cases hkb : Key.keyB s1 with
          | false =>
            have ck := Key.refKey s1 false hkb HSk
            rw [if_pos hkb] at HG2
            have HX : Hid (fault l = 5) := Lib.hid (by rw [HF.out, HG2])
            clear HG2 hkb hs HP HSk
            go_wp2_with (go_at_call 53; refine (ck _).mono ?_; rintro e w2 ⟨rfl, HB2⟩)
            go_ret
            exact ⟨by rw [HX.out]; rfl, B.below_trans (HA _ _).out HB2⟩
          | true =>
            have ck := Key.refKey s1 true hkb HSk
            rw [if_neg (by rw [hkb]; decide)] at HG2
            have HG3 := HG2
            clear HG2 hkb
            by_cases hbd : bad (s1, s2, s3)
            · rw [if_pos hbd] at HG3
              have HX : Hid (fault l = 1) := Lib.hid (by rw [HF.out, HG3])
              unfold bad at hbd
              simp only [] at hbd
              clear HG3 hs HSk
              by_cases q0 : s2 < 0
              · clear hbd
                go_wp2_with (go_at_call 53; refine (ck _).mono ?_; rintro e w2 ⟨rfl, HB2⟩; have g0 := HN2.out _ _ 0 _ _ HB2 rfl; have g1 := HN2.out _ _ 1 _ _ HB2 rfl; have g2 := HN2.out _ _ 2 _ _ HB2 rfl)
                go_ret
                exact ⟨by rw [HX.out]; rfl, B.below_trans (HA _ _).out HB2⟩
              · skip
                by_cases q1 : s3 ≤ s2
                · clear hbd
                  go_wp2_with (go_at_call 53; refine (ck _).mono ?_; rintro e w2 ⟨rfl, HB2⟩; have g0 := HN2.out _ _ 0 _ _ HB2 rfl; have g1 := HN2.out _ _ 1 _ _ HB2 rfl; have g2 := HN2.out _ _ 2 _ _ HB2 rfl)
                  go_ret
                  exact ⟨by rw [HX.out]; rfl, B.below_trans (HA _ _).out HB2⟩
                · skip
                  have q2 : 345686400000 < s3 := by omega
                  clear hbd
                  go_wp2_with (go_at_call 53; refine (ck _).mono ?_; rintro e w2 ⟨rfl, HB2⟩; have g0 := HN2.out _ _ 0 _ _ HB2 rfl; have g1 := HN2.out _ _ 1 _ _ HB2 rfl; have g2 := HN2.out _ _ 2 _ _ HB2 rfl)
                  go_ret
                  exact ⟨by rw [HX.out]; rfl, B.below_trans (HA _ _).out HB2⟩
            · rw [if_neg hbd] at HG3
              unfold bad at hbd
              simp only [] at hbd
              have q0 : ¬ s2 < 0 := by omega
              have q1 : ¬ s3 ≤ s2 := by omega
              have q2 : ¬ 345686400000 < s3 := by omega
              clear hbd hs HSk
              have HX : Hid (go none l = go (some s3) (l.drop (0 + 1))) := Lib.hid (by rw [HG3]; simp [prev])
              clear HG3
              go_wp2_with (go_at_call 53; refine (ck _).mono ?_; rintro e w2 ⟨rfl, HB2⟩; have g0 := HN2.out _ _ 0 _ _ HB2 rfl; have g1 := HN2.out _ _ 1 _ _ HB2 rfl; have g2 := HN2.out _ _ 2 _ _ HB2 rfl)
              go_quiet (fail)
              go_wp2
              go_roundw
              case rel => exact ⟨1, by go_num, by omega, Lib.hid (by rw [HP.out]; exact HX.out), Lib.hid (B.below_drew (B.below_trans (HA _ _).out HB2) _)⟩
              case measure => simp [intOf]; omega
        · obtain ⟨m, rfl⟩ : ∃ m, k = m + 1 := ⟨k - 1, by omega⟩
          have hml : m < l.length := by omega
          obtain ⟨b2', o2', ee, -, -, f3⟩ := bk_at HC.out m hml
          obtain ⟨rfl, rfl⟩ : b1' = b2' ∧ o1 = o2' := by simpa using ee
          have F4 := Lib.hid (fun o w2 (hb : Below (wr.alloc o).heap.size (wr.alloc o) w2) => B.cell_below hb (B.cell_below ((Below.refl _ wr).alloc (Nat.le_refl _) o) f3))
          clear ee f3
          have hkb0 : decide (0 < m + 1) = true := decide_eq_true (by omega)
          have hjw : IntKind.i64.wrap (m : Int) = (m : Int) := by rw [IntKind.wrap_i64]; omega
          have hpv : prev l (m + 1) = some l[m].2.2 := prev_succ l hml
          rw [hpv, Option.any_some] at HG2
          generalize hs : l[m + 1] = s at *
          obtain ⟨s1, s2, s3⟩ := s
          generalize l[m].2.2 = q at *
          clear hpv
          cases hkb : Key.keyB s1 with
          | false =>
            have ck := Key.refKey s1 false hkb HSk
            rw [if_pos hkb] at HG2
            have HX : Hid (fault l = 5) := Lib.hid (by rw [HF.out, HG2])
            clear HG2 hkb hs HP HSk
            go_wp2_with (go_at_call 53; refine (ck _).mono ?_; rintro e w2 ⟨rfl, HB2⟩)
            go_ret
            exact ⟨by rw [HX.out]; rfl, B.below_trans (HA _ _).out HB2⟩
          | true =>
            have ck := Key.refKey s1 true hkb HSk
            rw [if_neg (by rw [hkb]; decide)] at HG2
            have HG3 := HG2
            clear HG2 hkb
            by_cases hbd : bad (s1, s2, s3)
            · rw [if_pos hbd] at HG3
              have HX : Hid (fault l = 1) := Lib.hid (by rw [HF.out, HG3])
              unfold bad at hbd
              simp only [] at hbd
              clear HG3 hs HSk
              by_cases q0 : s2 < 0
              · clear hbd
                go_wp2_with (go_at_call 53; refine (ck _).mono ?_; rintro e w2 ⟨rfl, HB2⟩; have g0 := HN2.out _ _ 0 _ _ HB2 rfl; have g1 := HN2.out _ _ 1 _ _ HB2 rfl; have g2 := HN2.out _ _ 2 _ _ HB2 rfl; have g4 := F4.out _ _ HB2)
                go_ret
                exact ⟨by rw [HX.out]; rfl, B.below_trans (HA _ _).out HB2⟩
              · skip
                by_cases q1 : s3 ≤ s2
                · clear hbd
                  go_wp2_with (go_at_call 53; refine (ck _).mono ?_; rintro e w2 ⟨rfl, HB2⟩; have g0 := HN2.out _ _ 0 _ _ HB2 rfl; have g1 := HN2.out _ _ 1 _ _ HB2 rfl; have g2 := HN2.out _ _ 2 _ _ HB2 rfl; have g4 := F4.out _ _ HB2)
                  go_ret
                  exact ⟨by rw [HX.out]; rfl, B.below_trans (HA _ _).out HB2⟩
                · skip
                  have q2 : 345686400000 < s3 := by omega
                  clear hbd
                  go_wp2_with (go_at_call 53; refine (ck _).mono ?_; rintro e w2 ⟨rfl, HB2⟩; have g0 := HN2.out _ _ 0 _ _ HB2 rfl; have g1 := HN2.out _ _ 1 _ _ HB2 rfl; have g2 := HN2.out _ _ 2 _ _ HB2 rfl; have g4 := F4.out _ _ HB2)
                  go_ret
                  exact ⟨by rw [HX.out]; rfl, B.below_trans (HA _ _).out HB2⟩
            · rw [if_neg hbd] at HG3
              unfold bad at hbd
              simp only [] at hbd
              have q0 : ¬ s2 < 0 := by omega
              have q1 : ¬ s3 ≤ s2 := by omega
              have q2 : ¬ 345686400000 < s3 := by omega
              clear hbd hs HSk
              by_cases h7 : s2 < q
              · have HX : Hid (fault l = 7) := Lib.hid (by rw [HF.out, HG3]; simp [h7])
                clear HG3
                go_wp2_with (go_at_call 53; refine (ck _).mono ?_; rintro e w2 ⟨rfl, HB2⟩; have g0 := HN2.out _ _ 0 _ _ HB2 rfl; have g1 := HN2.out _ _ 1 _ _ HB2 rfl; have g2 := HN2.out _ _ 2 _ _ HB2 rfl; have g4 := F4.out _ _ HB2)
                go_quiet (fail)
                go_wp2
                go_ret
                exact ⟨by rw [HX.out]; rfl, B.below_drew (B.below_trans (HA _ _).out HB2) _⟩
              · have HX : Hid (go none l = go (some s3) (l.drop (m + 1 + 1))) := Lib.hid (by rw [HG3]; simp [h7])
                clear HG3
                go_wp2_with (go_at_call 53; refine (ck _).mono ?_; rintro e w2 ⟨rfl, HB2⟩; have g0 := HN2.out _ _ 0 _ _ HB2 rfl; have g1 := HN2.out _ _ 1 _ _ HB2 rfl; have g2 := HN2.out _ _ 2 _ _ HB2 rfl; have g4 := F4.out _ _ HB2)
                go_quiet (fail)
                go_wp2
                go_roundw
                case rel => exact ⟨m + 1 + 1, by go_num, by omega, Lib.hid (by rw [HP.out]; exact HX.out), Lib.hid (B.below_drew (B.below_trans (HA _ _).out HB2) _)⟩
                case measure => simp [intOf]; omega
      · obtain rfl : k = l.length := by omega
        have HX : Hid (fault l = 0) := Lib.hid (by rw [HF.out, HG.out, List.drop_length]; rfl)
        clear HG
        go_wp2
        go_ret
        exact ⟨by rw [HX.out]; rfl, HB.out⟩
end Go.Proofs.YtfillnkebohciaaGreatDoor.Rn
