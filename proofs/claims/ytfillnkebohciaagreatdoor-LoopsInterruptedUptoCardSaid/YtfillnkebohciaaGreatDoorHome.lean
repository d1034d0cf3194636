/- Whether a tree is as at the beginning. Printed by wip/gen/homegen.py. -/
import Derived.Test.YtfillnkebohciaaGreatDoorGcd
namespace Go.Proofs.YtfillnkebohciaaGreatDoor.T
open Go.RowKit
open L (Lp row row1 At AtR lv kdL kid_at)
open F (Fr Cl)

theorem all_drop {l : List Bool} {k : Nat} (h : k < l.length) : (l.drop k).all id = (l[k] && (l.drop (k + 1)).all id) := by rw [List.drop_eq_getElem_cons h, List.all_cons]; rfl
theorem beginsclos (b : Nat) (r : Bool) (w : World) (h : ∀ W, Below w.heap.size w W → Calls Tryz.prog 79 #[.pointer (some ⟨b, 0, none⟩)] W fun e w' => e = .returned (.bool r) ∧ Below W.heap.size W w') :
    Calls Tryz.prog 107 #[.pointer (some ⟨b, 0, none⟩)] w fun e w' => e = .returned (.bool (!r)) ∧ Below w.heap.size w w' := by
  have cc := h w (Below.refl _ _)
  clear h
  go_enter Tryz.func107, Tryz.ntmps107
  go_wp2_with (go_at_call 79; refine cc.mono ?_; rintro e w2 ⟨rfl, hB2⟩)
  go_ret
  exact ⟨rfl, hB2⟩
set_option maxRecDepth 100000 in
theorem beginsidx (A : Option Addr) (gk len c : Nat) (bs : List Bool) (pt : Nat → Nat) (w : World) (hl : bs.length = len) (hn : len ≤ 1048576) (hA : 0 < len → A = some ⟨gk, 0, none⟩) (hc : ∀ j, j < len → w.cell? ⟨gk, j, none⟩ = some (.pointer (some ⟨pt j, 0, none⟩)))
    (hcl : ∀ j (h : j < bs.length) W, Below w.heap.size w W → Calls Tryz.prog 79 #[.pointer (some ⟨pt j, 0, none⟩)] W fun e w' => e = .returned (.bool bs[j]) ∧ Below W.heap.size W w') :
    Calls Tryz.prog 139 #[.slice A len c, .func (.func 107) #[] #[]] w fun e w' => (∃ i : Int, e = .returned (.int .i64 i) ∧ decide (0 ≤ i) = !(bs.all id)) ∧ Below w.heap.size w w' := by
  have HL := Lib.hid hl
  have HC := Lib.hid hc
  have HCL := Lib.hid hcl
  have fin : ∀ (R : Bool), R = bs.all id → Calls Tryz.prog 139 #[.slice A len c, .func (.func 107) #[] #[]] w fun e w' => (∃ i : Int, e = .returned (.int .i64 i) ∧ decide (0 ≤ i) = !R) ∧ Below w.heap.size w w' := by
    intro R hR
    have HR := Lib.hid hR
    clear hl hc hcl hR
    rcases Nat.eq_zero_or_pos len with h0 | h0
    · subst h0
      have HR2 : Hid (R = true) := Lib.hid (by rw [HR.out, List.eq_nil_of_length_eq_zero HL.out]; rfl)
      clear hA hn
      go_enter Tryz.func139, Tryz.ntmps139
      go_wp2
      go_loopw [8] (fun s wr => s = .int .i64 0 ∧ Hid (w = wr)) (fun s _ => 0)
      case atStart => exact ⟨rfl, Lib.hid rfl⟩
      case round =>
        obtain ⟨rfl, HWW⟩ := hrel
        obtain rfl := HWW.out
        clear HWW
        go_wp2
        go_ret
        exact ⟨⟨-1, rfl, by rw [HR2.out]; rfl⟩, Below.refl _ _⟩
    · obtain rfl := hA h0
      clear hA h0
      go_enter Tryz.func139, Tryz.ntmps139
      go_wp2
      go_loopw [8] (fun s wr => ∃ k : Nat, s = .int .i64 k ∧ k ≤ len ∧ Hid ((bs.drop k).all id = R) ∧ Hid (Below w.heap.size w wr)) (fun s _ => len - (intOf s).toNat)
      case atStart => exact ⟨0, rfl, by omega, Lib.hid (by rw [List.drop_zero]; exact HR.out.symm), Lib.hid (Below.refl _ _)⟩
      case round =>
        obtain ⟨k, rfl, hk, HN, HB⟩ := hrel
        by_cases hlt : k < len
        · have f0 := B.cell_below HB.out (HC.out k hlt)
          have hlt2 : k < bs.length := by rw [HL.out]; exact hlt
          have cc := beginsclos (pt k) bs[k] wr (fun W hb => HCL.out k hlt2 W (B.below_trans HB.out hb))
          have HN2 := HN.out
          rw [all_drop hlt2] at HN2
          have hk1 : (k : Int) < len := by omega
          generalize pt k = pb at f0 cc
          generalize bs[k] = r at cc HN2
          have HN3 := Lib.hid HN2
          clear HN2 HN hlt2
          cases r with
          | false =>
            have HR2 : Hid (R = false) := Lib.hid (by rw [← HN3.out]; rfl)
            go_wp2_with (go_at_call 107; refine cc.mono ?_; rintro e w2 ⟨rfl, hB5⟩)
            go_ret
            exact ⟨⟨k, rfl, by rw [HR2.out]; simp⟩, B.below_trans HB.out hB5⟩
          | true =>
            have HN4 : Hid ((bs.drop (k + 1)).all id = R) := Lib.hid (by rw [← HN3.out]; rfl)
            go_wp2_with (go_at_call 107; refine cc.mono ?_; rintro e w2 ⟨rfl, hB5⟩; have HB5 := Lib.hid (B.below_trans HB.out hB5); clear hB5)
            go_roundw
            case rel => exact ⟨k + 1, by go_num, by omega, HN4, HB5⟩
            case measure => simp [intOf]; omega
        · have hkl : k = len := by omega
          have HR2 : Hid (R = true) := Lib.hid (by rw [← HN.out, List.drop_eq_nil_of_le (by rw [HL.out]; omega)]; rfl)
          subst hkl
          go_wp2
          go_ret
          exact ⟨⟨-1, rfl, by rw [HR2.out]; rfl⟩, HB.out⟩
  exact fin _ rfl
set_option maxRecDepth 100000 in
theorem beginsany (A : Option Addr) (gk len c : Nat) (bs : List Bool) (pt : Nat → Nat) (w : World) (hl : bs.length = len) (hn : len ≤ 1048576) (hA : 0 < len → A = some ⟨gk, 0, none⟩) (hc : ∀ j, j < len → w.cell? ⟨gk, j, none⟩ = some (.pointer (some ⟨pt j, 0, none⟩)))
    (hcl : ∀ j (h : j < bs.length) W, Below w.heap.size w W → Calls Tryz.prog 79 #[.pointer (some ⟨pt j, 0, none⟩)] W fun e w' => e = .returned (.bool bs[j]) ∧ Below W.heap.size W w') :
    Calls Tryz.prog 106 #[.slice A len c, .func (.func 107) #[] #[]] w fun e w' => e = .returned (.bool (!(bs.all id))) ∧ Below w.heap.size w w' := by
  have ci := beginsidx A gk len c bs pt w hl hn hA hc hcl
  generalize bs.all id = r at ci ⊢
  clear hl hA hc hcl
  go_enter Tryz.func106, Tryz.ntmps106
  go_wp2_with (go_at_call 139; refine ci.mono ?_; rintro e w3 ⟨⟨i, rfl, hi⟩, HB⟩; have HI := Lib.hid hi; clear hi)
  go_ret
  exact ⟨by rw [← HI.out]; rfl, HB⟩
/-- A part, and what is known of the kids. -/
theorem beginsnode (w0 w : World) (lo hi : Nat) (x : Lp) (b : Nat) (had : Int) (cnt : List Int) (f : Fm) (h : Nd true w0 w lo hi x b had cnt f) (hb : Below w0.heap.size w0 w) (ho : L.own x = 0) (h0 : 0 ≤ had ∧ had ≤ 5000) (bs : List Bool) (hl : bs.length = x.kids.length)
    (hcl : ∀ j (h : j < bs.length) (h2 : j < f.ki.length) W, Below w.heap.size w W → Calls Tryz.prog 79 #[.pointer (some ⟨f.ki[j].b, 0, none⟩)] W fun e w' => e = .returned (.bool bs[j]) ∧ Below W.heap.size W w') :
    Calls Tryz.prog 79 #[.pointer (some ⟨b, 0, none⟩)] w fun e w' => e = .returned (.bool (decide (had.tmod (every x) = 0) && bs.all id)) ∧ Below w.heap.size w w' := by
  have hkl := h.kl
  have LK : x.kids.length ≤ 1048576 := h.ok.2.2.1
  have hcl' := fun W (hb : Below w.heap.size w W) => beginsany f.Ak f.gk x.kids.length f.ck bs (fun j => if hj : j < f.ki.length then f.ki[j].b else 0) W hl LK (fun hp => (h.gk hp).1) (fun j hj => by
      have hj' : j < f.ki.length := by omega
      rw [dif_pos hj']
      exact B.cell_below hb (h.ke j hj')) (fun j hj W' hb' => by
      have hj' : j < f.ki.length := by omega
      rw [dif_pos hj']
      exact hcl j hj hj' W' (B.below_trans hb hb'))
  generalize bs.all id = r at hcl' ⊢
  have HH := Lib.hid h
  have f7 := h.c7.1
  have f6 := h.c6.1
  have HE := Lib.hid (every_pos ho h.ok.2.2.2.1)
  have HO := Lib.hid ho
  have HB0 := Lib.hid hb
  by_cases h3 : x.kind = 3
  · have f0 : w.cell? ⟨b, 0, none⟩ = some (.int .i64 3) := by rw [← h3]; exact (h.rw 0 _ rfl).1
    have hp := (own_ok ho).2.2.1 (by omega)
    have hnz : ¬ (x.kids = []) := fun e => by rw [e] at hp; simp at hp
    have hnz2 : ¬ ((x.kids.length : Int) = 0) := by omega
    have hev : every x = x.kids.length := by unfold every; rw [if_pos h3]
    rw [hev]
    have hm : had.tmod x.kids.length = had % x.kids.length := Int.tmod_eq_emod_of_nonneg h0.1
    have hhad := h0.1
    have hhad2 := h0.2
    have hcl0 := hcl' w (Below.refl _ _)
    by_cases hq : had.tmod x.kids.length = 0
    · have hq1 : (had.tmod x.kids.length == 0) = true := by rw [hq]; rfl
      have hq2 : (had % x.kids.length == 0) = true := by rw [← hm, hq]; rfl
      rw [decide_eq_true hq]
      clear h hb ho h0 hl hcl hcl' hkl h3 hev hm hq hp
      go_enter Tryz.func79, Tryz.ntmps79
      go_wp2_with (go_at_call 106; refine hcl0.mono ?_; rintro e w2 ⟨rfl, hB2⟩)
      go_ret
      exact ⟨by simp, hB2⟩
    · have hq1 : (had.tmod x.kids.length == 0) = false := by rw [beq_eq_false_iff_ne]; exact hq
      have hq2 : (had % x.kids.length == 0) = false := by rw [beq_eq_false_iff_ne, ← hm]; exact hq
      rw [decide_eq_false hq]
      clear h hb ho h0 hl hcl hcl' hkl h3 hev hm hq hp hcl0
      go_enter Tryz.func79, Tryz.ntmps79
      go_wp2
      go_ret
      exact ⟨rfl, Below.refl _ _⟩
  · by_cases h4 : x.kind = 4
    · have f0 : w.cell? ⟨b, 0, none⟩ = some (.int .i64 4) := by rw [← h4]; exact (h.rw 0 _ rfl).1
      have hs5 := (own_ok ho).2.2.2.2.1 h4
      have hp := (own_ok ho).2.2.1 (by omega)
      have f5 : w.cell? ⟨b, 5, none⟩ = some (.slice f.As x.shares.length f.c') := (h.rw 5 _ rfl).1
      have f9 := (h.c9 rfl).1
      obtain ⟨⟨g1, g2⟩, g3, g4⟩ := share_div (own_ok ho).2.2.2.2.2.1 (by omega) h.ok.2.2.2.1
      have hev : every x = (sumI x.shares 0).tdiv (gcdL x.shares 0) := by unfold every; rw [if_neg h3, if_pos h4]
      have hep : 1 ≤ (sumI x.shares 0).tdiv (gcdL x.shares 0) ∧ (sumI x.shares 0).tdiv (gcdL x.shares 0) ≤ 4000000000 := by
        rcases HE.out with h | h
        · rw [← hev]; exact h
        · exact absurd h h3
      have cd := fun q => divisor_any f.As f.c' x.shares w0 (w.drewN q) h.sh (hb.trans (B.below_drew (Below.refl w.heap.size w) q |>.mono hb.size)) (own_ok ho).2.2.2.2.2.1
      rw [hev]
      generalize gcdL x.shares 0 = G at g1 g2 g3 hep cd ⊢
      generalize sumI x.shares 0 = SS at g3 g4 f9 hep ⊢
      have hG0 : ¬ ((G : Int) = 0) := by omega
      have hG1 : ¬ (G = 0) := by omega
      have hwr : IntKind.i64.wrap (SS.tdiv G) = SS.tdiv G := by rw [IntKind.wrap_i64]; omega
      generalize hE9 : SS.tdiv (G : Int) = E9 at hep hwr ⊢
      have hE0 : ¬ (E9 = 0) := by omega
      have hm : had.tmod E9 = had % E9 := Int.tmod_eq_emod_of_nonneg h0.1
      have hhad := h0.1
      have hhad2 := h0.2
      obtain ⟨he1, he2⟩ := hep
      have HCL := Lib.hid hcl'
      have HHD := Lib.hid h
      by_cases hq : had.tmod E9 = 0
      · have hq1 : (had.tmod E9 == 0) = true := by rw [hq]; rfl
        have hq2 : (had % E9 == 0) = true := by rw [← hm, hq]; rfl
        rw [decide_eq_true hq]
        clear h hb ho h0 hl hcl hcl' hkl h3 h4 hev hm hq hp hs5 g1 g2 g3 g4
        go_enter Tryz.func79, Tryz.ntmps79
        go_wp2
        go_quiet ((go_at_call 105; exact Calls.quiet_of (cd _)))
        have hcl0 := fun q => HCL.out (w.drewN q) (B.below_drew (Below.refl _ _) q)
        go_wp2_with (go_at_call 106; refine (hcl0 _).mono ?_; rintro e w2 ⟨rfl, hB2⟩)
        go_ret
        exact ⟨by simp, B.below_trans (B.below_drew (Below.refl _ _) _) hB2⟩
      · have hq1 : (had.tmod E9 == 0) = false := by rw [beq_eq_false_iff_ne]; exact hq
        have hq2 : (had % E9 == 0) = false := by rw [beq_eq_false_iff_ne, ← hm]; exact hq
        rw [decide_eq_false hq]
        clear h hb ho h0 hl hcl hcl' hkl h3 h4 hev hm hq hp hs5 g1 g2 g3 g4
        go_enter Tryz.func79, Tryz.ntmps79
        go_wp2
        go_quiet ((go_at_call 105; exact Calls.quiet_of (cd _)))
        go_wp2
        go_ret
        exact ⟨rfl, B.below_drew (Below.refl _ _) _⟩
    · have hev : every x = 1 := by unfold every; rw [if_neg h3, if_neg h4]
      have e3 : (x.kind == 3) = false := by rw [beq_eq_false_iff_ne]; exact h3
      have e4 : (x.kind == 4) = false := by rw [beq_eq_false_iff_ne]; exact h4
      have f0 : w.cell? ⟨b, 0, none⟩ = some (.int .i64 x.kind) := (h.rw 0 _ rfl).1
      rw [hev, decide_eq_true (show had.tmod 1 = 0 from Int.tmod_one _)]
      have hcl0 := hcl' w (Below.refl _ _)
      have hhad := h0.1
      have hhad2 := h0.2
      clear h hb ho h0 hl hcl hcl' hkl h3 h4 hev
      go_enter Tryz.func79, Tryz.ntmps79
      go_wp2_with (go_at_call 106; refine hcl0.mono ?_; rintro e w2 ⟨rfl, hB2⟩)
      go_ret
      exact ⟨by simp, hB2⟩
theorem begins : ∀ (n : Nat) (x : Lp) (b : Nat) (st : St) (lo hi : Nat) (w0 w : World), Tr true w0 n w lo hi x b st → Gd n x → Bd 5000 n x st → Below w0.heap.size w0 w →
    Calls Tryz.prog 79 #[.pointer (some ⟨b, 0, none⟩)] w fun e w' => e = .returned (.bool (homeB n x st)) ∧ Below w.heap.size w w' := by
  intro n
  induction n with
  | zero =>
    intro x b st lo hi w0 w ht hg hbd hb
    obtain ⟨⟨f, nd⟩, hk, -⟩ := ht
    have := beginsnode w0 w lo hi x b st.had st.cnt f nd hb hg.own hbd.had [] (by rw [hk]; rfl) (fun j h => absurd h (by simp))
    simpa [homeB] using this
  | succ n ih =>
    intro x b st lo hi w0 w ht hg hbd hb
    obtain ⟨hl, f, nd, htr⟩ := ht
    have hz : (x.kids.zip st.kids).length = x.kids.length := by rw [List.length_zip, hl, Nat.min_self]
    have := beginsnode w0 w lo hi x b st.had st.cnt f nd hb hg.own hbd.had ((x.kids.zip st.kids).map fun p => homeB n p.1 p.2) (by rw [List.length_map, hz]) (fun j h h2 W hW => by
      have h1 : j < x.kids.length := by rw [List.length_map, hz] at h; exact h
      have h3 : j < st.kids.length := by omega
      rw [List.getElem_map, List.getElem_zip]
      exact ih _ _ _ _ _ w0 W ((htr j h1 h2 h3).fr (S := fun _ => False) (Fr.of_below hW) (fun _ _ _ h => h)) (hg.2 _ (List.getElem_mem h1)) (hbd.2.2 j h1 h3) (hb.trans (hW.mono hb.size)))
    rw [List.all_map] at this
    exact this
theorem homeclos (b : Nat) (r : Bool) (w : World) (h : ∀ W, Below w.heap.size w W → Calls Tryz.prog 72 #[.pointer (some ⟨b, 0, none⟩)] W fun e w' => e = .returned (.bool r) ∧ Below W.heap.size W w') :
    Calls Tryz.prog 99 #[.pointer (some ⟨b, 0, none⟩)] w fun e w' => e = .returned (.bool (!r)) ∧ Below w.heap.size w w' := by
  have cc := h w (Below.refl _ _)
  clear h
  go_enter Tryz.func99, Tryz.ntmps99
  go_wp2_with (go_at_call 72; refine cc.mono ?_; rintro e w2 ⟨rfl, hB2⟩)
  go_ret
  exact ⟨rfl, hB2⟩
set_option maxRecDepth 100000 in
theorem homeidx (A : Option Addr) (gk len c : Nat) (bs : List Bool) (pt : Nat → Nat) (w : World) (hl : bs.length = len) (hn : len ≤ 1048576) (hA : 0 < len → A = some ⟨gk, 0, none⟩) (hc : ∀ j, j < len → w.cell? ⟨gk, j, none⟩ = some (.pointer (some ⟨pt j, 0, none⟩)))
    (hcl : ∀ j (h : j < bs.length) W, Below w.heap.size w W → Calls Tryz.prog 72 #[.pointer (some ⟨pt j, 0, none⟩)] W fun e w' => e = .returned (.bool bs[j]) ∧ Below W.heap.size W w') :
    Calls Tryz.prog 137 #[.slice A len c, .func (.func 99) #[] #[]] w fun e w' => (∃ i : Int, e = .returned (.int .i64 i) ∧ decide (0 ≤ i) = !(bs.all id)) ∧ Below w.heap.size w w' := by
  have HL := Lib.hid hl
  have HC := Lib.hid hc
  have HCL := Lib.hid hcl
  have fin : ∀ (R : Bool), R = bs.all id → Calls Tryz.prog 137 #[.slice A len c, .func (.func 99) #[] #[]] w fun e w' => (∃ i : Int, e = .returned (.int .i64 i) ∧ decide (0 ≤ i) = !R) ∧ Below w.heap.size w w' := by
    intro R hR
    have HR := Lib.hid hR
    clear hl hc hcl hR
    rcases Nat.eq_zero_or_pos len with h0 | h0
    · subst h0
      have HR2 : Hid (R = true) := Lib.hid (by rw [HR.out, List.eq_nil_of_length_eq_zero HL.out]; rfl)
      clear hA hn
      go_enter Tryz.func137, Tryz.ntmps137
      go_wp2
      go_loopw [8] (fun s wr => s = .int .i64 0 ∧ Hid (w = wr)) (fun s _ => 0)
      case atStart => exact ⟨rfl, Lib.hid rfl⟩
      case round =>
        obtain ⟨rfl, HWW⟩ := hrel
        obtain rfl := HWW.out
        clear HWW
        go_wp2
        go_ret
        exact ⟨⟨-1, rfl, by rw [HR2.out]; rfl⟩, Below.refl _ _⟩
    · obtain rfl := hA h0
      clear hA h0
      go_enter Tryz.func137, Tryz.ntmps137
      go_wp2
      go_loopw [8] (fun s wr => ∃ k : Nat, s = .int .i64 k ∧ k ≤ len ∧ Hid ((bs.drop k).all id = R) ∧ Hid (Below w.heap.size w wr)) (fun s _ => len - (intOf s).toNat)
      case atStart => exact ⟨0, rfl, by omega, Lib.hid (by rw [List.drop_zero]; exact HR.out.symm), Lib.hid (Below.refl _ _)⟩
      case round =>
        obtain ⟨k, rfl, hk, HN, HB⟩ := hrel
        by_cases hlt : k < len
        · have f0 := B.cell_below HB.out (HC.out k hlt)
          have hlt2 : k < bs.length := by rw [HL.out]; exact hlt
          have cc := homeclos (pt k) bs[k] wr (fun W hb => HCL.out k hlt2 W (B.below_trans HB.out hb))
          have HN2 := HN.out
          rw [all_drop hlt2] at HN2
          have hk1 : (k : Int) < len := by omega
          generalize pt k = pb at f0 cc
          generalize bs[k] = r at cc HN2
          have HN3 := Lib.hid HN2
          clear HN2 HN hlt2
          cases r with
          | false =>
            have HR2 : Hid (R = false) := Lib.hid (by rw [← HN3.out]; rfl)
            go_wp2_with (go_at_call 99; refine cc.mono ?_; rintro e w2 ⟨rfl, hB5⟩)
            go_ret
            exact ⟨⟨k, rfl, by rw [HR2.out]; simp⟩, B.below_trans HB.out hB5⟩
          | true =>
            have HN4 : Hid ((bs.drop (k + 1)).all id = R) := Lib.hid (by rw [← HN3.out]; rfl)
            go_wp2_with (go_at_call 99; refine cc.mono ?_; rintro e w2 ⟨rfl, hB5⟩; have HB5 := Lib.hid (B.below_trans HB.out hB5); clear hB5)
            go_roundw
            case rel => exact ⟨k + 1, by go_num, by omega, HN4, HB5⟩
            case measure => simp [intOf]; omega
        · have hkl : k = len := by omega
          have HR2 : Hid (R = true) := Lib.hid (by rw [← HN.out, List.drop_eq_nil_of_le (by rw [HL.out]; omega)]; rfl)
          subst hkl
          go_wp2
          go_ret
          exact ⟨⟨-1, rfl, by rw [HR2.out]; rfl⟩, HB.out⟩
  exact fin _ rfl
set_option maxRecDepth 100000 in
theorem homeany (A : Option Addr) (gk len c : Nat) (bs : List Bool) (pt : Nat → Nat) (w : World) (hl : bs.length = len) (hn : len ≤ 1048576) (hA : 0 < len → A = some ⟨gk, 0, none⟩) (hc : ∀ j, j < len → w.cell? ⟨gk, j, none⟩ = some (.pointer (some ⟨pt j, 0, none⟩)))
    (hcl : ∀ j (h : j < bs.length) W, Below w.heap.size w W → Calls Tryz.prog 72 #[.pointer (some ⟨pt j, 0, none⟩)] W fun e w' => e = .returned (.bool bs[j]) ∧ Below W.heap.size W w') :
    Calls Tryz.prog 98 #[.slice A len c, .func (.func 99) #[] #[]] w fun e w' => e = .returned (.bool (!(bs.all id))) ∧ Below w.heap.size w w' := by
  have ci := homeidx A gk len c bs pt w hl hn hA hc hcl
  generalize bs.all id = r at ci ⊢
  clear hl hA hc hcl
  go_enter Tryz.func98, Tryz.ntmps98
  go_wp2_with (go_at_call 137; refine ci.mono ?_; rintro e w3 ⟨⟨i, rfl, hi⟩, HB⟩; have HI := Lib.hid hi; clear hi)
  go_ret
  exact ⟨by rw [← HI.out]; rfl, HB⟩
/-- A part, and what is known of the kids. -/
theorem homenode (w0 w : World) (lo hi : Nat) (x : Lp) (b : Nat) (had : Int) (cnt : List Int) (f : Fm) (h : Nd false w0 w lo hi x b had cnt f) (hb : Below w0.heap.size w0 w) (ho : L.own x = 0) (h0 : 0 ≤ had ∧ had ≤ 5000) (bs : List Bool) (hl : bs.length = x.kids.length)
    (hcl : ∀ j (h : j < bs.length) (h2 : j < f.ki.length) W, Below w.heap.size w W → Calls Tryz.prog 72 #[.pointer (some ⟨f.ki[j].b, 0, none⟩)] W fun e w' => e = .returned (.bool bs[j]) ∧ Below W.heap.size W w') :
    Calls Tryz.prog 72 #[.pointer (some ⟨b, 0, none⟩)] w fun e w' => e = .returned (.bool (decide (had.tmod (every x) = 0) && bs.all id)) ∧ Below w.heap.size w w' := by
  have hkl := h.kl
  have LK : x.kids.length ≤ 1048576 := h.ok.2.2.1
  have hcl' := fun W (hb : Below w.heap.size w W) => homeany f.Ak f.gk x.kids.length f.ck bs (fun j => if hj : j < f.ki.length then f.ki[j].b else 0) W hl LK (fun hp => (h.gk hp).1) (fun j hj => by
      have hj' : j < f.ki.length := by omega
      rw [dif_pos hj']
      exact B.cell_below hb (h.ke j hj')) (fun j hj W' hb' => by
      have hj' : j < f.ki.length := by omega
      rw [dif_pos hj']
      exact hcl j hj hj' W' (B.below_trans hb hb'))
  generalize bs.all id = r at hcl' ⊢
  have HH := Lib.hid h
  have f7 := h.c7.1
  have f6 := h.c6.1
  have HE := Lib.hid (every_pos ho h.ok.2.2.2.1)
  have HO := Lib.hid ho
  have HB0 := Lib.hid hb
  by_cases h3 : x.kind = 3
  · have f0 : w.cell? ⟨b, 0, none⟩ = some (.int .i64 3) := by rw [← h3]; exact (h.rw 0 _ rfl).1
    have hp := (own_ok ho).2.2.1 (by omega)
    have hnz : ¬ (x.kids = []) := fun e => by rw [e] at hp; simp at hp
    have hnz2 : ¬ ((x.kids.length : Int) = 0) := by omega
    have hev : every x = x.kids.length := by unfold every; rw [if_pos h3]
    rw [hev]
    have hm : had.tmod x.kids.length = had % x.kids.length := Int.tmod_eq_emod_of_nonneg h0.1
    have hhad := h0.1
    have hhad2 := h0.2
    have hcl0 := hcl' w (Below.refl _ _)
    by_cases hq : had.tmod x.kids.length = 0
    · have hq1 : (had.tmod x.kids.length == 0) = true := by rw [hq]; rfl
      have hq2 : (had % x.kids.length == 0) = true := by rw [← hm, hq]; rfl
      rw [decide_eq_true hq]
      clear h hb ho h0 hl hcl hcl' hkl h3 hev hm hq hp
      go_enter Tryz.func72, Tryz.ntmps72
      go_wp2_with (go_at_call 98; refine hcl0.mono ?_; rintro e w2 ⟨rfl, hB2⟩)
      go_ret
      exact ⟨by simp, hB2⟩
    · have hq1 : (had.tmod x.kids.length == 0) = false := by rw [beq_eq_false_iff_ne]; exact hq
      have hq2 : (had % x.kids.length == 0) = false := by rw [beq_eq_false_iff_ne, ← hm]; exact hq
      rw [decide_eq_false hq]
      clear h hb ho h0 hl hcl hcl' hkl h3 hev hm hq hp hcl0
      go_enter Tryz.func72, Tryz.ntmps72
      go_wp2
      go_ret
      exact ⟨rfl, Below.refl _ _⟩
  · by_cases h4 : x.kind = 4
    · have f0 : w.cell? ⟨b, 0, none⟩ = some (.int .i64 4) := by rw [← h4]; exact (h.rw 0 _ rfl).1
      have hs5 := (own_ok ho).2.2.2.2.1 h4
      have hp := (own_ok ho).2.2.1 (by omega)
      have f5 : w.cell? ⟨b, 5, none⟩ = some (.slice f.As x.shares.length f.c') := (h.rw 5 _ rfl).1
      obtain ⟨⟨g1, g2⟩, g3, g4⟩ := share_div (own_ok ho).2.2.2.2.2.1 (by omega) h.ok.2.2.2.1
      have hev : every x = (sumI x.shares 0).tdiv (gcdL x.shares 0) := by unfold every; rw [if_neg h3, if_pos h4]
      have hep : 1 ≤ (sumI x.shares 0).tdiv (gcdL x.shares 0) ∧ (sumI x.shares 0).tdiv (gcdL x.shares 0) ≤ 4000000000 := by
        rcases HE.out with h | h
        · rw [← hev]; exact h
        · exact absurd h h3
      have HSH := Lib.hid h.sh
      have HSR := Lib.hid (own_ok ho).2.2.2.2.2.1
      have LSH : x.shares.length ≤ 1048576 := h.ok.2.2.2.1
      obtain ⟨bs2, os2, eA, -⟩ := share_at h.sh hb 0 (by omega)
      rw [eA] at f5
      have HSA : Hid (∀ (W : World), Below w0.heap.size w0 W → ∀ k, k < x.shares.length → W.cell? ⟨bs2, os2 + k, none⟩ = some (.int .i64 (x.shares.getD k 0))) := Lib.hid (fun W hB k hk => by obtain ⟨_, _, e, h5⟩ := share_at (w := W) h.sh hB k hk; rw [eA] at e; cases e; exact h5)
      rw [hev]
      have HGG : Hid (gcdL x.shares 0 = gcdL x.shares 0) := Lib.hid rfl
      have HSS : Hid (sumI x.shares 0 = sumI x.shares 0) := Lib.hid rfl
      generalize hGG : gcdL x.shares 0 = G at g1 g2 g3 hep ⊢
      generalize hSS : sumI x.shares 0 = SS at g3 g4 hep ⊢
      have HG2 := Lib.hid hGG
      have HS2 := Lib.hid hSS
      have hG0 : ¬ ((G : Int) = 0) := by omega
      have hG1 : ¬ (G = 0) := by omega
      have hdv : SS / (G : Int) = SS.tdiv G := (Int.tdiv_eq_ediv_of_nonneg (by omega)).symm
      generalize hE9 : SS.tdiv (G : Int) = E9 at hep hdv ⊢
      have hE0 : ¬ (E9 = 0) := by omega
      have hwr : wrap64 E9 = E9 := by unfold wrap64; omega
      have hm : had.tmod E9 = had % E9 := Int.tmod_eq_emod_of_nonneg h0.1
      have hhad := h0.1
      have hhad2 := h0.2
      obtain ⟨he1, he2⟩ := hep
      have HCL := Lib.hid hcl'
      have HDV := Lib.hid hdv
      have HDT := Lib.hid hE9
      have HQC : Hid (had.tmod E9 = had % E9) := Lib.hid hm
      have HN7 : Hid (∀ W, Below w.heap.size w W → Nd false w0 W lo hi x b had cnt f) := Lib.hid (fun W hb => h.later hb)
      generalize hD : decide (had.tmod E9 = 0) = D
      have HD := Lib.hid hD
      clear hD h hb ho h0 hl hcl hcl' hkl h3 h4 hev hp hs5 hm hGG hSS HGG HSS eA hdv hE9
      go_enter Tryz.func72, Tryz.ntmps72
      go_wp2
      go_loopw [3, 4, 27] (fun s3 s4 s27 wr => ∃ (k g : Nat) (t : Int), s27 = .int .i64 k ∧ s4 = .int .i64 g ∧ s3 = .int .i64 t ∧ k ≤ x.shares.length ∧ g ≤ 1000 ∧ Hid (gcdL (x.shares.drop k) g = G) ∧ Hid (sumI (x.shares.drop k) t = SS) ∧ Hid (∃ q, wr = w.drewN q)) (fun _ _ s _ => x.shares.length - (intOf s).toNat)
      case atStart => exact ⟨0, 0, 0, rfl, rfl, rfl, by omega, by omega, Lib.hid (by rw [List.drop_zero]; exact HG2.out), Lib.hid (by rw [List.drop_zero]; exact HS2.out), Lib.hid ⟨0, rfl⟩⟩
      case round =>
        obtain ⟨k, g, t, rfl, rfl, rfl, hk, hg, HG, HT, HB⟩ := hrel
        have HBW : Hid (Below w.heap.size w wr) := Lib.hid (by obtain ⟨q, e⟩ := HB.out; rw [e]; exact B.below_drew (Below.refl _ _) q)
        by_cases hlt : k < x.shares.length
        · have f1 := HSA.out wr (HB0.out.trans (HBW.out.mono HB0.out.size)) k hlt
          rw [getD_at hlt] at f1
          have hs := HSR.out x.shares[k] (List.getElem_mem hlt)
          have HG4 := HG.out
          rw [gcdL_drop hlt] at HG4
          have HT4 := HT.out
          rw [sumI_drop hlt, w64_eq] at HT4
          have HLE := Lib.hid (gcd_le (g := g) hs.1 hs.2)
          generalize x.shares[k] = nn at hs f1 HG4 HT4 HLE
          obtain ⟨m, rfl⟩ : ∃ m : Nat, nn = m := ⟨nn.toNat, by omega⟩
          rw [Int.toNat_natCast] at HG4 HLE
          have HG5 := Lib.hid HG4
          have HT5 := Lib.hid HT4
          have cg := rdiv_any g m (by omega) (by omega) wr
          have hk1 : (k : Int) < x.shares.length := by omega
          clear HG4 HT4 hs hwr
          go_wp2_with (go_at_call 74; refine cg.mono ?_; rintro e w2 ⟨rfl, hB2⟩; have HB2 := Lib.hid (drew3 HB.out hB2); clear hB2)
          go_roundw
          case rel => exact ⟨k + 1, Nat.gcd g m, wrap64 (t + m), by go_num, rfl, rfl, by omega, HLE.out.1, HG5, HT5, HB2⟩
          case measure => simp [intOf]; omega
        · obtain rfl : k = x.shares.length := by omega
          have e1 := HG.out
          have e2 := HT.out
          rw [List.drop_length, gcdL] at e1
          rw [List.drop_length, sumI] at e2
          subst e1
          subst e2
          have hdv := HDV.out
          have hdt := HDT.out
          have nd := HN7.out wr HBW.out
          have y6 := nd.c6.1
          have y7 := nd.c7.1
          have hcl0 := HCL.out wr HBW.out
          clear nd
          by_cases hq : had.tmod E9 = 0
          · have hq1 : (had.tmod E9 == 0) = true := by rw [hq]; rfl
            have hq2 : (had % E9 == 0) = true := by rw [← HQC.out, hq]; rfl
            have HD2 : Hid (D = true) := Lib.hid (by rw [← HD.out]; exact decide_eq_true hq)
            clear hq
            go_wp2_with (go_at_call 98; refine hcl0.mono ?_; rintro e w2 ⟨rfl, hB2⟩)
            go_ret
            exact ⟨by rw [HD2.out]; simp, B.below_trans HBW.out hB2⟩
          · have hq1 : (had.tmod E9 == 0) = false := by rw [beq_eq_false_iff_ne]; exact hq
            have hq2 : (had % E9 == 0) = false := by rw [beq_eq_false_iff_ne, ← HQC.out]; exact hq
            have HD2 : Hid (D = false) := Lib.hid (by rw [← HD.out]; exact decide_eq_false hq)
            clear hq hcl0
            go_wp2
            go_ret
            exact ⟨by rw [HD2.out]; rfl, HBW.out⟩
    · have hev : every x = 1 := by unfold every; rw [if_neg h3, if_neg h4]
      have e3 : (x.kind == 3) = false := by rw [beq_eq_false_iff_ne]; exact h3
      have e4 : (x.kind == 4) = false := by rw [beq_eq_false_iff_ne]; exact h4
      have f0 : w.cell? ⟨b, 0, none⟩ = some (.int .i64 x.kind) := (h.rw 0 _ rfl).1
      rw [hev, decide_eq_true (show had.tmod 1 = 0 from Int.tmod_one _)]
      have hcl0 := hcl' w (Below.refl _ _)
      have hhad := h0.1
      have hhad2 := h0.2
      clear h hb ho h0 hl hcl hcl' hkl h3 h4 hev
      go_enter Tryz.func72, Tryz.ntmps72
      go_wp2_with (go_at_call 98; refine hcl0.mono ?_; rintro e w2 ⟨rfl, hB2⟩)
      go_ret
      exact ⟨by simp, hB2⟩
theorem home : ∀ (n : Nat) (x : Lp) (b : Nat) (st : St) (lo hi : Nat) (w0 w : World), Tr false w0 n w lo hi x b st → Gd n x → Bd 5000 n x st → Below w0.heap.size w0 w →
    Calls Tryz.prog 72 #[.pointer (some ⟨b, 0, none⟩)] w fun e w' => e = .returned (.bool (homeB n x st)) ∧ Below w.heap.size w w' := by
  intro n
  induction n with
  | zero =>
    intro x b st lo hi w0 w ht hg hbd hb
    obtain ⟨⟨f, nd⟩, hk, -⟩ := ht
    have := homenode w0 w lo hi x b st.had st.cnt f nd hb hg.own hbd.had [] (by rw [hk]; rfl) (fun j h => absurd h (by simp))
    simpa [homeB] using this
  | succ n ih =>
    intro x b st lo hi w0 w ht hg hbd hb
    obtain ⟨hl, f, nd, htr⟩ := ht
    have hz : (x.kids.zip st.kids).length = x.kids.length := by rw [List.length_zip, hl, Nat.min_self]
    have := homenode w0 w lo hi x b st.had st.cnt f nd hb hg.own hbd.had ((x.kids.zip st.kids).map fun p => homeB n p.1 p.2) (by rw [List.length_map, hz]) (fun j h h2 W hW => by
      have h1 : j < x.kids.length := by rw [List.length_map, hz] at h; exact h
      have h3 : j < st.kids.length := by omega
      rw [List.getElem_map, List.getElem_zip]
      exact ih _ _ _ _ _ w0 W ((htr j h1 h2 h3).fr (S := fun _ => False) (Fr.of_below hW) (fun _ _ _ h => h)) (hg.2 _ (List.getElem_mem h1)) (hbd.2.2 j h1 h3) (hb.trans (hW.mono hb.size)))
    rw [List.all_map] at this
    exact this
end Go.Proofs.YtfillnkebohciaaGreatDoor.T
