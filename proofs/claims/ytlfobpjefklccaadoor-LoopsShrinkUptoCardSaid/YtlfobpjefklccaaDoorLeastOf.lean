/- The reference's LeastOf: a loop as small as can be. Printed by wip/gen/leastofgen.py. -/
import Derived.Test.YtlfobpjefklccaaDoorClone
import Derived.OwnWalk
import Derived.Test.YtlfobpjefklccaaDoorDiv

/- Loops in which no share could still be divided. No program in sight. -/
namespace Go.Proofs.YtlfobpjefklccaaDoor.H
open Go.RowKit
open L (Lp)

/-- This part's shares cannot be divided (or it has one kid at most). -/
def own4 (x : Lp) : Bool := !(x.kind == 4) || decide (x.kids.length ≤ 1) || decide (T.gcdL x.shares 0 ≤ 1)
mutual
def d4 : Lp → Bool
  | .mk k i l m ks s => own4 (.mk k i l m ks s) && d4L ks
def d4L : List Lp → Bool
  | [] => true
  | k :: ks => d4 k && d4L ks
end
theorem d4L_all {ks : List Lp} : d4L ks = true ↔ ∀ k ∈ ks, d4 k = true := by
  induction ks with
  | nil => exact ⟨fun _ k h => (by cases h), fun _ => rfl⟩
  | cons k ks ih =>
    rw [d4L, Bool.and_eq_true, ih]
    refine ⟨fun h j hj => ?_, fun h => ⟨h k List.mem_cons_self, fun j hj => h j (List.mem_cons_of_mem _ hj)⟩⟩
    rcases List.mem_cons.1 hj with rfl | hj
    · exact h.1
    · exact h.2 j hj
theorem d4_iff {x : Lp} : d4 x = true ↔ own4 x = true ∧ ∀ k ∈ x.kids, d4 k = true := by
  cases x
  rw [d4, Bool.and_eq_true, d4L_all]
  rfl
theorem own4_ne {x : Lp} (h : x.kind ≠ 4) : own4 x = true := by
  unfold own4
  have : (x.kind == 4) = false := by rw [beq_eq_false_iff_ne]; exact h
  rw [this]; rfl
theorem own4_gcd {x : Lp} (h : T.gcdL x.shares 0 ≤ 1) : own4 x = true := by
  unfold own4
  rw [decide_eq_true h]; simp
theorem own4_few {x : Lp} (h : x.kids.length ≤ 1) : own4 x = true := by
  unfold own4
  rw [decide_eq_true h]; simp
theorem own4_4 {x : Lp} (h : own4 x = true) (h4 : x.kind = 4) (hl : 1 < x.kids.length) : T.gcdL x.shares 0 ≤ 1 := by
  unfold own4 at h
  have e1 : (x.kind == 4) = true := by rw [h4]; rfl
  rw [e1, decide_eq_false (show ¬ x.kids.length ≤ 1 by omega)] at h
  simpa using h
theorem d4_rp {it : Lp} (h : d4 it = true) (m : Int) : d4 (rp it m) = true := by
  refine d4_iff.2 ⟨own4_ne (by show (5 : Int) ≠ 4; omega), fun k hk => ?_⟩
  have : k = it := by simpa [rp, Lp.kids] using hk
  rw [this]; exact h
theorem cnt_d4 {x it : Lp} {m : Nat} (h : d4 x = true) (hc : cnt x = some (it, m)) : d4 it = true := by
  unfold cnt at hc
  split at hc
  · cases hc; exact h
  · split at hc
    · split at hc
      · cases hc
      · rename_i k ks hks
        split at hc
        · cases hc
          exact (d4_iff.1 h).2 _ (by rw [hks]; exact List.mem_cons_self)
        · cases hc
    · cases hc
theorem reps_d4 {it : Lp} (h : d4 it = true) (n : Nat) : ∀ x ∈ reps it n, d4 x = true := by
  intro x hx
  unfold reps at hx
  rcases List.mem_append.1 hx with hx | hx
  · rw [(List.mem_replicate.1 hx).2]; exact d4_rp h _
  · split at hx
    · cases hx
    · split at hx
      · rw [List.mem_singleton.1 hx]; exact h
      · rw [List.mem_singleton.1 hx]; exact d4_rp h _
theorem mrg_d4 : ∀ (k : Nat) (xs : List Lp), xs.length ≤ k → (∀ x ∈ xs, d4 x = true) → ∀ x ∈ mrg xs, d4 x = true := by
  intro k
  induction k with
  | zero => intro xs h _ x hx; rw [List.eq_nil_of_length_eq_zero (by omega : xs.length = 0), mrg_nil] at hx; cases hx
  | succ k ih =>
    intro xs h hd x hx
    cases xs with
    | nil => rw [mrg_nil] at hx; cases hx
    | cons y ys =>
      cases hc : cnt y with
      | none =>
        rw [mrg_none ys hc] at hx
        rcases List.mem_cons.1 hx with rfl | hx
        · exact hd _ List.mem_cons_self
        · exact ih ys (by simpa using h) (fun z hz => hd z (List.mem_cons_of_mem _ hz)) x hx
      | some r =>
        obtain ⟨it, m⟩ := r
        rw [mrg_some ys hc] at hx
        rcases List.mem_append.1 hx with hx | hx
        · exact reps_d4 (cnt_d4 (hd y List.mem_cons_self) hc) _ x hx
        · exact ih _ (Nat.le_trans (grp_len it ys m) (by simpa using h)) (fun z hz => hd z (List.mem_cons_of_mem _ (grp_sub it ys m z hz))) x hx
theorem gath_d4 {l : List Lp} (h : ∀ x ∈ l, d4 x = true) : ∀ x ∈ gath l, d4 x = true := by
  refine mrg_d4 _ (flat l) (Nat.le_refl _) (fun x hx => ?_)
  unfold flat at hx
  obtain ⟨k, hk, hx⟩ := List.mem_flatMap.1 hx
  split at hx
  · exact (d4_iff.1 (h k hk)).2 x hx
  · rw [List.mem_singleton.1 hx]; exact h k hk
/-- After a change the kids are still so, and the part itself where it is not a share of several. -/
theorem d4_ch {x y : Lp} (hk : ∀ k ∈ x.kids, d4 k = true) (h : ch x = some y) : (∀ k ∈ y.kids, d4 k = true) ∧ (¬ (x.kind = 4 ∧ 1 < x.kids.length) → d4 y = true) := by
  have all : d4 y = true → (∀ k ∈ y.kids, d4 k = true) ∧ (¬ (x.kind = 4 ∧ 1 < x.kids.length) → d4 y = true) := fun hy => ⟨(d4_iff.1 hy).2, fun _ => hy⟩
  unfold ch at h
  split at h
  · cases h
  · cases hks : x.kids with
    | nil => rw [hks] at h; cases h
    | cons k ks =>
      rw [hks] at h
      simp only at h
      have hk0 : d4 k = true := hk k (by rw [hks]; exact List.mem_cons_self)
      split at h
      · split at h
        · cases h
          rw [hks] at all
          refine all (d4_iff.2 ⟨own4_ne (by show (5 : Int) ≠ 4; omega), fun j hj => (d4_iff.1 hk0).2 j hj⟩)
        · split at h
          · cases h; rw [hks] at all; exact all hk0
          · cases h
      · split at h
        · cases h; rw [hks] at all; exact all hk0
        · rename_i hne
          split at h
          · rw [← hks] at h
            split at h
            · cases h
            · cases h
              rw [← hks]
              exact all (d4_iff.2 ⟨own4_ne (by show (2 : Int) ≠ 4; omega), fun j hj => gath_d4 hk j hj⟩)
          · split at h
            · rename_i h4
              split at h
              · cases h
                refine ⟨fun j hj => hk j hj, fun hn => absurd ⟨h4, ?_⟩ hn⟩
                cases ks with
                | nil => exact absurd rfl hne
                | cons a b => simp
              · cases h
            · split at h
              · cases h; rw [hks] at all; exact all hk0
              · cases h
theorem own4_none {x : Lp} (h : ch x = none) : own4 x = true := by
  by_cases h4 : x.kind = 4 ∧ 1 < x.kids.length
  · rw [ch_share h4.1 h4.2] at h
    refine own4_gcd ?_
    by_cases hg : 1 < T.gcdL x.shares 0
    · rw [if_pos hg] at h; cases h
    · omega
  · by_cases e : x.kind = 4
    · exact own4_few (by have := fun q => h4 ⟨e, q⟩; omega)
    · exact own4_ne e
theorem fin_d4 : ∀ (k : Nat) (x : Lp), mu x ≤ k → Vd x → (∀ j ∈ x.kids, d4 j = true) → d4 (fin x) = true := by
  intro k
  induction k with
  | zero => intro x h _ _; have : 0 < mu x := by unfold mu; rw [parts_eq]; omega
            omega
  | succ k ih =>
    intro x h hv hk
    cases hc : ch x with
    | none => rw [fin_none hc]; exact d4_iff.2 ⟨own4_none hc, hk⟩
    | some y =>
      obtain ⟨h1, h2, h3⟩ := ch_spec hv hc
      rw [fin_some hv hc]
      exact ih y (by omega) h1 (d4_ch hk hc).1
mutual
theorem lst_d4 : ∀ (x : Lp), Vd x → d4 (lst x) = true
  | .mk k i l m ks s => fun hv => by
    rw [lst]
    obtain ⟨h1, -⟩ := lstL_vd ks (fun j hj => hv.kid hj)
    have hl : (lstL ks).length = ks.length := by rw [lstL_map, List.length_map]
    have hv2 : Vd (.mk k i l m (lstL ks) s) := vd_of (own_upd (x := .mk k i l m ks s) hv.own hl) h1
    exact fin_d4 _ _ (Nat.le_refl _) hv2 (lstL_d4 ks (fun j hj => hv.kid hj))
theorem lstL_d4 : ∀ (xs : List Lp), (∀ x ∈ xs, Vd x) → ∀ x ∈ lstL xs, d4 x = true
  | [] => fun _ x h => by cases h
  | x :: xs => fun h y hy => by
    rw [lstL] at hy
    rcases List.mem_cons.1 hy with rfl | hy
    · exact lst_d4 x (h x List.mem_cons_self)
    · exact lstL_d4 xs (fun y hy => h y (List.mem_cons_of_mem _ hy)) y hy
end
theorem fin_dvd {x : Lp} (hv : Vd x) (h4 : x.kind = 4) (hl : 1 < x.kids.length) : fin x = dvd x := by
  obtain ⟨h1, h2, h3⟩ := dvd_ok hv h4
  by_cases hg : 1 < T.gcdL x.shares 0
  · rw [fin_some hv ((ch_share h4 hl).trans (if_pos hg))]
    refine fin_none ?_
    rw [ch_share (x := dvd x) h4 hl, if_neg (by omega)]
  · rw [fin_none ((ch_share h4 hl).trans (if_neg hg)), dvd_self (by omega)]
end Go.Proofs.YtlfobpjefklccaaDoor.H

namespace Go.Proofs.YtlfobpjefklccaaDoor.H
open Go.RowKit
open L (Lp row row1 At AtR lv kdL kid_at rowR)
open F (Fr Cl)

/-! ### a row of loops that are nought -/
def zl : Lp := .mk 0 ⟨#[]⟩ 0 0 [] []
theorem lr_zl (R : Nat → Prop) (w : World) : LR R w zl none none := LR.mk ⟨⟨by unfold O.okI; simp [zl, Lp.kind], by unfold O.okI; simp [zl, Lp.long], by unfold O.okI; simp [zl, Lp.many]⟩, by simp [zl, Lp.item, ByteArray.size], by simp [zl, Lp.kids], by simp [zl, Lp.shares], fun n hn => by simp [zl, Lp.shares] at hn⟩ (B.Kd.C_nil _ _ _) (fun h => absurd h (by simp [zl, Lp.shares])) (SR.nil _ _ _)
theorem made6 (n : Nat) : (madeCells #[.int .i64 0, .string ⟨#[]⟩, .int .i64 0, .int .i64 0, .slice none 0 0, .slice none 0 0] (n * 6)).toList = (List.replicate n (rowR zl none none 0 0)).flatMap Subtype.val := by
  unfold madeCells
  rw [Array.toList_map, Array.toList_range]
  induction n with
  | zero => rfl
  | succ n ih =>
    rw [Nat.succ_mul, List.range_add, List.map_append, ih, List.replicate_succ', List.flatMap_append]
    congr 1
    have h : ∀ j, (n * 6 + j) % 6 = j % 6 := fun j => by omega
    simp [List.range_succ, h, rowR, row, zl, Lp.kind, Lp.item, Lp.long, Lp.many, Lp.kids, Lp.shares]
theorem kp_made {lo : Nat} {w' : World} {g n : Nat} (h : w'.ownsRow lo 25 6 (.slice (some ⟨g, 0, none⟩) n n) n (madeCells #[.int .i64 0, .string ⟨#[]⟩, .int .i64 0, .int .i64 0, .slice none 0 0, .slice none 0 0] (n * 6)).toList) : Kp (fun _ : Nat => False) lo w' (some ⟨g, 0, none⟩) n (List.replicate n zl) := by
  refine ⟨List.replicate n (rowR zl none none 0 0), ?_, by simp, fun j h1 h2 => ⟨none, none, 0, 0, by simp, by simp only [List.getElem_replicate]; exact lr_zl _ _⟩⟩
  rw [made6] at h
  unfold B.Own
  rw [List.length_replicate, List.length_replicate]
  exact h
/-- The first i are made. -/
def mz (f : Lp → Lp) (ks : List Lp) (i : Nat) : List Lp := (ks.take i).map f ++ List.replicate (ks.length - i) zl
theorem mz_zero (f : Lp → Lp) (ks : List Lp) : mz f ks 0 = List.replicate ks.length zl := by simp [mz]
theorem mz_all (f : Lp → Lp) (ks : List Lp) : mz f ks ks.length = ks.map f := by simp [mz]
theorem mz_len (f : Lp → Lp) (ks : List Lp) (i : Nat) (h : i ≤ ks.length) : (mz f ks i).length = ks.length := by simp [mz]; omega
theorem mz_set (f : Lp → Lp) (ks : List Lp) (i : Nat) (h : i < ks.length) : (mz f ks i).set i (f ks[i]) = mz f ks (i + 1) := by
  unfold mz
  have hl : ((ks.take i).map f).length = i := by simp; omega
  obtain ⟨m, hm⟩ : ∃ m, ks.length - i = m + 1 := ⟨ks.length - i - 1, by omega⟩
  rw [List.set_append_right _ _ (by omega), hl, Nat.sub_self, hm, List.replicate_succ, List.set_cons_zero, ← List.take_append_getElem h, List.map_append, List.append_assoc, show ks.length - (i + 1) = m from by omega]
  rfl
/-! ### while the loop changes -/
structure Oz (w wr : World) (F y : Lp) (A As : Option Addr) (c c' : Nat) : Prop where
  bz : Bz w wr y A As c c'
  ly : LR (RN (fun _ => False) (w.heap.size + 2) wr) wr y A As
  vy : Vd y
  py : parts y ≤ 200
  fy : fin y = F
  kd : ∀ k ∈ y.kids, d4 k = true
  sp : own4 y = true ∨ ∃ (gb so : Nat) (Q : Nat → Prop), As = some ⟨gb, so, none⟩ ∧ SR Q wr A y.kids ∧ ¬ Q gb ∧ ∀ b, Q b → RN (fun _ => False) (w.heap.size + 2) wr b
/-- A share of several kids is divided in its own place. -/
theorem Oz.share {w wr w3 : World} {F y : Lp} {A : Option Addr} {gb so c c' : Nat} (h : Oz w wr F y A (some ⟨gb, so, none⟩) c c') (h4 : y.kind = 4) (hl : 1 < y.kids.length) (hf : Fr (fun b => b = gb ∧ ((T.gcdL y.shares 0 : Nat) : Int) ≠ 1) wr w3) (hC : B.Kd.int.C w3 (some ⟨gb, so, none⟩) (dvd y).shares) (hg : w.heap.size + 2 ≤ gb ∧ gb < wr.heap.size ∧ UF wr gb) (hu : UF w3 gb) :
    Bz w w3 y A (some ⟨gb, so, none⟩) c c' ∧ LR (RN (fun _ => False) (w.heap.size + 2) w3) w3 (dvd y) A (some ⟨gb, so, none⟩) ∧ F = dvd y := by
  obtain ⟨d1, d2, d3⟩ := dvd_ok h.vy h4
  have hs := h.bz.sz
  refine ⟨h.bz.fr hf (fun b hb => by rw [hb.1]; exact hg.1), ?_, h.fy.symm.trans (fin_dvd h.vy h4 hl)⟩
  have hk : SR (RN (fun _ => False) (w.heap.size + 2) w3) w3 A y.kids := by
    rcases h.sp with h1 | ⟨gb', so', Q, e, hS, hQ, hQ2⟩
    · have hG := own4_4 h1 h4 hl
      have hG1 : T.gcdL y.shares 0 = 1 := by omega
      have hn : ∀ b, ¬ (b = gb ∧ ((T.gcdL y.shares 0 : Nat) : Int) ≠ 1) := fun b hb => hb.2 (by rw [hG1]; rfl)
      exact h.ly.kids.fr hf (fun b _ => hn b) (fun b hb => rn_fr hf (Nat.le_refl _) (fun b _ => hn b) b hb)
    · cases e
      refine hS.fr hf (fun b hb e => hQ (e.1 ▸ hb)) (fun b hb => ?_)
      rcases hQ2 b hb with hx | hx
      · exact .inl hx
      · exact .inr ⟨hx.1, Nat.lt_of_lt_of_le hx.2.1 hf.size, hx.2.2.fr hf hx.2.1 (fun e => hQ (e.1 ▸ hb))⟩
  exact lr_shr h.ly.ok hk d2 (by rw [List.length_map]; exact h.ly.ok.2.2.2.1) hC (fun _ => ⟨gb, so, rfl, .inr ⟨hg.1, Nat.lt_of_lt_of_le hg.2.1 hf.size, hu⟩⟩)
theorem Oz.gb {w wr : World} {F y : Lp} {A As : Option Addr} {c c' : Nat} (h : Oz w wr F y A As c c') (h4 : y.kind = 4) (hl : 1 < y.kids.length) : ∃ gb so, As = some ⟨gb, so, none⟩ ∧ w.heap.size + 2 ≤ gb ∧ gb < wr.heap.size ∧ UF wr gb := by
  have hsl := (T.own_ok h.vy.own).2.2.2.2.1 h4
  obtain ⟨b, o, e, hb⟩ := h.ly.shR (by omega)
  rcases hb with hb | hb
  · exact hb.elim
  · exact ⟨b, o, e, hb⟩
theorem Oz.stay {w wr : World} {F y : Lp} {A As : Option Addr} {c c' : Nat} (h : Oz w wr F y A As c c') (hc : ch y = none) : F = y := h.fy.symm.trans (fin_none hc)
theorem Oz.lt {w wr : World} {F y : Lp} {A As : Option Addr} {c c' : Nat} (_ : Oz w wr F y A As c c') : ∀ b, RN (fun _ => False) (w.heap.size + 2) wr b → b < wr.heap.size := fun b hb => hb.elim (fun h => h.elim) (fun h => h.2.1)
/-- The changed loop is put into the box. -/
theorem Oz.next {w wr w3 w5 : World} {F y z : Lp} {A As A' As' : Option Addr} {c c' d d' : Nat} (h : Oz w wr F y A As c c') (hn : ¬ (y.kind = 4 ∧ 1 < y.kids.length)) (hc : ch y = some z) (hB : Below wr.heap.size wr w3) (hz : LR (RN (RN (fun _ => False) (w.heap.size + 2) wr) wr.heap.size w3) w3 z A' As') (hB5 : Below w3.heap.size w3 w5) :
    Oz w (w6 w5 w.heap.size z A' As' d d') F z A' As' d d' ∧ mu z < mu y := by
  obtain ⟨m1, m2, m3⟩ := ch_spec h.vy hc
  obtain ⟨k1, k2⟩ := d4_ch h.kd hc
  have hf := w6_fr w5 w.heap.size z A' As' d d'
  have s0 := h.bz.sz
  have s1 := hB.size
  have s2 := hB5.size
  have hz2 : LR (RN (fun _ => False) (w.heap.size + 2) w3) w3 z A' As' := hz.weak (fun b hb => by
    rcases hb with (hb | hb) | hb
    · exact hb.elim
    · exact .inr ⟨hb.1, by omega, hb.2.2.below hB hb.2.1⟩
    · exact .inr ⟨by omega, hb.2⟩)
  have hF : Fr (fun b => b = w.heap.size) w3 (w6 w5 w.heap.size z A' As' d d') := (Fr.of_below hB5).trans hf (fun _ _ h => h)
  refine ⟨⟨((h.bz.below hB).below hB5).set6 z A' As' d d', hz2.fr hF (fun b hb e => ?_) (fun b hb => rn_fr hF (Nat.le_refl _) (fun b hb e => by omega) b hb), m1, Nat.le_trans m2 h.py, (fin_some h.vy hc).symm.trans h.fy, k1, .inl (d4_iff.1 (k2 hn)).1⟩, m3⟩
  rcases hb with hb | hb
  · exact hb
  · omega
theorem make_kids (n lo : Nat) (hn : n ≤ 1048576) (W : World) (hlo : lo ≤ W.heap.size) : (Instr.makeSlice 22 (.int .i64 (n : Int)) (.int .i64 (n : Int))).run Tryd.prog W = .ok (.slice (some ⟨W.heap.size, 0, none⟩) n n) (W.alloc (.cells (madeCells #[.int .i64 0, .string ⟨#[]⟩, .int .i64 0, .int .i64 0, .slice none 0 0, .slice none 0 0] (n * 6)) 25)) ∧ Kp (fun _ => False) lo (W.alloc (.cells (madeCells #[.int .i64 0, .string ⟨#[]⟩, .int .i64 0, .int .i64 0, .slice none 0 0, .slice none 0 0] (n * 6)) 25)) (some ⟨W.heap.size, 0, none⟩) n (List.replicate n zl) := by
  obtain ⟨i, hi, hz, hs, hb⟩ := info_parts L.info_loop
  have h1 := run_make (P := Tryd.prog) W 22 25 i _ Tryd.underlying22 hi hz .i64 .i64 (n : Int) (n : Int) (by omega) (by omega) (by rw [hb]; omega) (by omega)
  simp only [Int.toNat_natCast, hs] at h1
  obtain ⟨w', h2, r1, -⟩ := run_make_full (P := Tryd.prog) W lo 22 25 i _ 6 Tryd.underlying22 hi hz hs .i64 .i64 n (by rw [hb]; omega) (by simp [maxLen]; omega) hlo
  rw [h1] at h2
  cases h2
  exact ⟨h1, kp_made r1⟩
set_option maxHeartbeats 8000000 in
set_option maxRecDepth 100000 in
theorem leastOf_any : ∀ (n : Nat) {R : Nat → Prop} (x : Lp) (A As : Option Addr) (c c' : Nat) (w : World), parts x ≤ n → LR R w x A As → Vd x → parts x ≤ 200 →
    Calls Tryd.prog 11 #[lv x A As c c'] w fun e w' => CrRes (fun _ => False) w.heap.size (lst x) e w' ∧ Below w.heap.size w w' := by
  intro n
  induction n with
  | zero => intro R x _ _ _ _ _ h; rw [parts_eq] at h; omega
  | succ n ih =>
  intro R x A As c c' w hn h hv hp
  have HH := Lib.hid h
  have HV := Lib.hid hv
  have HP := Lib.hid hp
  have HIH := Lib.hid (fun (k : Lp) (hk : k ∈ x.kids) (A' As' : Option Addr) (d d' : Nat) (W : World) (h' : LR R W k A' As') => (ih (R := R) k A' As' d d' W (by have := partsL_mem hk; rw [parts_eq] at hn; omega) h' (hv.kid hk) (by have := partsL_mem hk; rw [parts_eq] at hp; omega)).mono fun e w' he => (⟨cr_open he.1, he.2⟩ : _ ∧ _))
  have HCI := Lib.hid (fun (W : World) (hb : Below w.heap.size w W) => L.cloneInt As c' x.shares W (h.sh.mono hb) h.ok.2.2.2.1)
  have LK : x.kids.length ≤ 1048576 := h.ok.2.2.1
  have LS : x.shares.length ≤ 1048576 := h.ok.2.2.2.1
  have HMK := Lib.hid (fun (W : World) (hlo : w.heap.size + 2 ≤ W.heap.size) => make_kids x.kids.length (w.heap.size + 2) LK W hlo)
  have HBW := Lib.hid (@Bz.new w x A As c c')
  have hmk := (HMK.out _ HBW.out.sz).1
  clear ih hn h hv hp
  unfold lv at HIH ⊢
  go_enter Tryd.func11, Tryd.ntmps11
  go_wp2
  clear hmk
  have HK6 := Lib.hid (HMK.out _ HBW.out.sz).2
  have HZ6 := Lib.hid (HBW.out.below ((Below.refl _ _).alloc (Nat.le_refl _) (.cells (madeCells #[.int .i64 0, .string ⟨#[]⟩, .int .i64 0, .int .i64 0, .slice none 0 0, .slice none 0 0] (x.kids.length * 6)) 25)))
  clear HMK HBW
  rw [show ((w.alloc (.cells #[.int .i64 x.kind, .string x.item, .int .i64 x.long, .int .i64 x.many, .slice A x.kids.length c, .slice As x.shares.length c'] 25)).alloc (.cells #[.int .i64 0, .string ⟨#[]⟩, .int .i64 0, .int .i64 0, .slice none 0 0, .slice none 0 0] 25)).heap.size = w.heap.size + 1 + 1 from by simp] at HK6
  generalize hgk : w.heap.size + 1 + 1 = gk
  have HK7 : Hid (Kp (fun _ => False) (w.heap.size + 2) _ (some ⟨gk, 0, none⟩) x.kids.length (List.replicate x.kids.length zl)) := Lib.hid (by subst hgk; exact HK6.out)
  clear HK6 hgk
  generalize (((w.alloc (.cells #[.int .i64 x.kind, .string x.item, .int .i64 x.long, .int .i64 x.many, .slice A x.kids.length c, .slice As x.shares.length c'] 25)).alloc (.cells #[.int .i64 0, .string ⟨#[]⟩, .int .i64 0, .int .i64 0, .slice none 0 0, .slice none 0 0] 25)).alloc (.cells (madeCells #[.int .i64 0, .string ⟨#[]⟩, .int .i64 0, .int .i64 0, .slice none 0 0, .slice none 0 0] (x.kids.length * 6)) 25)) = W6 at *
  go_loopw [14] (fun s14 wr => ∃ i : Nat, s14 = .int .i64 i ∧ i ≤ x.kids.length ∧ Hid (Bz w wr x A As c c') ∧ Hid (Kp (fun _ => False) (w.heap.size + 2) wr (some ⟨gk, 0, none⟩) x.kids.length (mz lst x.kids i))) (fun s _ => x.kids.length - (intOf s).toNat)
  case atStart => exact ⟨0, rfl, by omega, HZ6, Lib.hid (by rw [mz_zero]; exact HK7.out)⟩
  case round =>
    obtain ⟨i, rfl, hi, HZ1, HK1⟩ := hrel
    by_cases hlt : i < x.kids.length
    · have hlm : i < (mz lst x.kids i).length := by rw [mz_len _ _ _ (by omega)]; exact hlt
      obtain ⟨g, e, hg1, hg2, huf⟩ := HK1.out.blk (by omega)
      cases e
      obtain ⟨B1, B1s, b1, b1', hc, -⟩ := HK1.out.at i hlm
      obtain ⟨kb, ko, A', As', d, d', rfl, -, hk, hat⟩ := HH.out.kids.at i hlt
      have HST := Lib.hid (mz_set lst x.kids i hlt)
      have HML := Lib.hid (mz_len lst x.kids i (by omega))
      have HG := Lib.hid (And.intro hg1 hg2)
      have HUF := Lib.hid huf
      generalize (mz lst x.kids i)[i] = y1 at hc
      have HC := Lib.hid hc
      have f0 := B.cell_below HZ1.out.bl (hk 0 _ rfl)
      have f1 := B.cell_below HZ1.out.bl (hk 1 _ rfl)
      have f2 := B.cell_below HZ1.out.bl (hk 2 _ rfl)
      have f3 := B.cell_below HZ1.out.bl (hk 3 _ rfl)
      have f4 := B.cell_below HZ1.out.bl (hk 4 _ rfl)
      have f5 := B.cell_below HZ1.out.bl (hk 5 _ rfl)
      simp only [Nat.add_zero] at f0
      have hk1 : (i : Int) < x.kids.length := by omega
      have HCC := Lib.hid (fun (W : World) (hb : Below w.heap.size w W) => HIH.out x.kids[i] (List.getElem_mem hlt) A' As' d d' W (hat.below hb))
      generalize x.kids[i] = k at *
      generalize lst k = y9 at *
      have HB1 := Lib.hid ((Below.refl wr.heap.size wr).alloc (Nat.le_refl _) (.cells #[.int .i64 k.kind, .string k.item, .int .i64 k.long, .int .i64 k.many, .slice A' k.kids.length d, .slice As' k.shares.length d'] 25))
      have HB0 := Lib.hid (B.below_trans HZ1.out.bl HB1.out)
      clear hc hk hat hg1 hg2 huf
      go_wp2_with (go_at_call 11; go_loud (refine (HCC.out _ HB0.out).mono ?_; rintro e w2 ⟨⟨A9, As9, d9, d9', rfl, hL9⟩, hB9⟩; have HB9 := Lib.hid hB9; have HL9 := Lib.hid hL9; have HB2 := Lib.hid (B.below_trans HB1.out hB9); have r0 := B.cell_below HB2.out (HC.out 0 _ rfl); have r1 := B.cell_below HB2.out (HC.out 1 _ rfl); have r2 := B.cell_below HB2.out (HC.out 2 _ rfl); have r3 := B.cell_below HB2.out (HC.out 3 _ rfl); have r4 := B.cell_below HB2.out (HC.out 4 _ rfl); have r5 := B.cell_below HB2.out (HC.out 5 _ rfl); simp only [Nat.add_zero] at r0; have hfz : ∀ q, w2.frozen? ⟨gk, q, none⟩ = false := HUF.out.below HB2.out HG.out.2; clear hB9 hL9))
      have HKP := Lib.hid (HK1.out.put (fun b hb => hb.elim) HB2.out d9 d9' HB1.out.size (HL9.out.weak (fun b hb => hb.elim (fun h => h.elim) .inr)) i (by rw [HML.out]; exact hlt))
      rw [HST.out] at HKP
      have HZ9 := Lib.hid ((HZ1.out.below HB2.out).fr (put_fr w2 gk i y9 A9 As9 d9 d9') (fun b hb => by rw [hb]; exact HG.out.1))
      unfold put6 at HKP HZ9
      generalize ((((((w2.setCell ⟨gk, i * 6, none⟩ (.int .i64 y9.kind)).setCell ⟨gk, i * 6 + 1, none⟩ (.string y9.item)).setCell ⟨gk, i * 6 + 2, none⟩ (.int .i64 y9.long)).setCell ⟨gk, i * 6 + 3, none⟩ (.int .i64 y9.many)).setCell ⟨gk, i * 6 + 4, none⟩ (.slice A9 y9.kids.length d9)).setCell ⟨gk, i * 6 + 5, none⟩ (.slice As9 y9.shares.length d9')) = W9 at *
      clear r0 r1 r2 r3 r4 r5 hfz f0 f1 f2 f3 f4 f5
      go_roundw
      case rel => exact ⟨i + 1, by go_num, by omega, HZ9, HKP⟩
      case measure => simp [intOf]; omega
    · obtain rfl : i = x.kids.length := by omega
      have hkp := HK1.out
      rw [mz_all] at hkp
      have HSR : Hid (SR (RN (fun _ => False) (w.heap.size + 2) wr) wr (some ⟨gk, 0, none⟩) (x.kids.map lst)) := Lib.hid (by have h := hkp; have hl : (x.kids.map lst).length = x.kids.length := List.length_map _; exact hkp.end (Nat.le_refl _) (by rw [hl]; exact LK))
      obtain ⟨hvl1, hvl2⟩ := lstL_vd x.kids (fun j hj => HV.out.kid hj)
      have hvl3 := lstL_d4 x.kids (fun j hj => HV.out.kid hj)
      rw [lstL_map] at hvl1 hvl2 hvl3
      have HVY : Hid (Vd (upd x (x.kids.map lst))) := Lib.hid (vd_of (own_upd HV.out.own (by rw [List.length_map])) hvl1)
      have HPY : Hid (parts (upd x (x.kids.map lst)) ≤ 200) := Lib.hid (by
        have := HP.out
        rw [parts_eq] at this ⊢
        show 1 + partsL (x.kids.map lst) ≤ 200
        omega)
      have HKD : Hid (∀ k ∈ (upd x (x.kids.map lst)).kids, d4 k = true) := Lib.hid hvl3
      have HFY : Hid (fin (upd x (x.kids.map lst)) = lst x) := Lib.hid (lst_eq x).symm
      have HLE : Hid ((x.kids.map lst).length = x.kids.length) := Lib.hid (List.length_map _)
      have HKU : Hid ((upd x (x.kids.map lst)).kids = x.kids.map lst) := Lib.hid rfl
      have ho := T.own_ok HV.out.own
      have HO4 : Hid (x.kind ≠ 4 → own4 (upd x (x.kids.map lst)) = true) := Lib.hid (fun h => own4_ne h)
      have HS4 : Hid (x.kind = 4 → 0 < x.shares.length) := Lib.hid (fun h => by have := ho.2.2.2.2.1 h; have := ho.2.2.1 (by omega); omega)
      have HN1 : Hid (x.kind = 1 → x.kids.length = 0) := Lib.hid ho.2.1
      generalize hfl : lst x = FF at HFY
      have HFL := Lib.hid hfl
      clear hfl hkp hvl1 hvl2 hvl3 ho hlt hi HK1 HK7 HZ6 HIH
      have y5 := HZ1.out.y 5 _ rfl
      have y0' := HZ1.out.y 0 _ rfl
      generalize hwo : wr = wo at *
      clear hwo
      by_cases hk1 : x.kind = 1
      · have hb1 : (x.kind == 1) = true := by rw [hk1]; rfl
        have HL0 := Lib.hid (HN1.out hk1)
        have HNK : Hid (x.kids.map lst = []) := Lib.hid (List.eq_nil_of_length_eq_zero (by rw [HLE.out]; exact HN1.out hk1))
        have HON := Lib.hid (HO4.out (by omega))
        clear hk1
        go_wp2_with (go_at_call 19; refine (HCI.out wo HZ1.out.bl).mono ?_; rintro e w5 ⟨A5, c5, rfl, hO5, hB5⟩; have HZ5 := Lib.hid (HZ1.out.below hB5); have HB5 := Lib.hid hB5; have HC5 : Hid (B.Kd.int.C w5 A5 x.shares) := Lib.hid (by obtain ⟨A8, c8, e8, hC8⟩ := B.own_int hO5 (by omega); cases e8; exact hC8); have HSB : Hid (0 < x.shares.length → ∃ b, A5 = some ⟨b, 0, none⟩ ∧ wo.heap.size ≤ b ∧ b < w5.heap.size ∧ UF w5 b) := Lib.hid (fun hp => by obtain ⟨b, e, h1, h2⟩ := L.own_blk hO5 hp; exact ⟨b, e, h1, (World.ownsRow.lt hO5 b h2).2, UF.own hO5 h2⟩); have y4 := HZ5.out.y 4 _ rfl; have yz := HZ5.out.yz; have z5 := HZ5.out.y 5 _ rfl; have z0 := HZ5.out.y 0 _ rfl; clear hO5 hB5)
        clear y4 yz z5 z0 y5 y0'
        have hF : Fr (fun b => b = w.heap.size) w5 (((w5.setCell ⟨w.heap.size, 4, none⟩ (.slice (some ⟨gk, 0, none⟩) x.kids.length x.kids.length)).setCell ⟨w.heap.size, 5, none⟩ (.slice A5 x.shares.length c5)).setCell ⟨w.heap.size, 4, none⟩ (.slice none 0 0)) := (((Fr.refl (fun b => b = w.heap.size) w5).set (p := ⟨w.heap.size, 4, none⟩) (fun _ => rfl) _).set (p := ⟨w.heap.size, 5, none⟩) (fun _ => rfl) _).set (p := ⟨w.heap.size, 4, none⟩) (fun _ => rfl) _
        have hbz := ((HZ5.out.set4 (some ⟨gk, 0, none⟩) x.kids.length).set5 A5 c5).set4 none 0
        rw [HL0.out] at hbz hF
        have HOZ : Hid (Oz w ((((w5.setCell ⟨w.heap.size, 4, none⟩ (.slice (some ⟨gk, 0, none⟩) 0 0)).setCell ⟨w.heap.size, 5, none⟩ (.slice A5 x.shares.length c5)).setCell ⟨w.heap.size, 4, none⟩ (.slice none 0 0))) FF (upd x (x.kids.map lst)) none A5 0 c5) := Lib.hid ⟨hbz.cast _ HLE.out, lr_upd HH.out.ok (L.C_fr (R := fun b => wo.heap.size ≤ b) HC5.out (fun hp => by obtain ⟨b, e, h1, h2, h3⟩ := HSB.out hp; exact ⟨b, 0, e, h1⟩) hF (fun b hb e => by have := HZ1.out.sz; omega)) (fun hp => by obtain ⟨b, e, h1, h2, h3⟩ := HSB.out hp; have s1 := HZ1.out.sz; exact ⟨b, 0, e, .inr ⟨by omega, Nat.lt_of_lt_of_le h2 hF.size, h3.fr hF h2 (by omega)⟩⟩) (by rw [HNK.out]; exact SR.nil _ _ _), HVY.out, HPY.out, HFY.out, HKD.out, .inl HON.out⟩
        rw [HL0.out]
        clear hbz hF
        generalize ((w5.setCell ⟨w.heap.size, 4, none⟩ (.slice (some ⟨gk, 0, none⟩) 0 0)).setCell ⟨w.heap.size, 5, none⟩ (.slice A5 x.shares.length c5)).setCell ⟨w.heap.size, 4, none⟩ (.slice none 0 0) = W8 at *
        generalize upd x (x.kids.map lst) = y0 at *
        go_loopg [6] (mu y0) (fun k s6 wr => ∃ (y : Lp) (A As : Option Addr) (c c' : Nat), mu y ≤ k ∧ Hid (Oz w wr FF y A As c c'))
        case atStart => exact ⟨y0, none, A5, 0, c5, Nat.le_refl _, HOZ⟩
        case round =>
          obtain ⟨y, Ay, Asy, cy, cy', hmu, HOY⟩ := hrel
          have by0 := HOY.out.bz.y 0 _ rfl
          have by1 := HOY.out.bz.y 1 _ rfl
          have by2 := HOY.out.bz.y 2 _ rfl
          have by3 := HOY.out.bz.y 3 _ rfl
          have by4 := HOY.out.bz.y 4 _ rfl
          have by5 := HOY.out.bz.y 5 _ rfl
          have byz := HOY.out.bz.yz
          by_cases hsh : y.kind = 4 ∧ 1 < y.kids.length
          · obtain ⟨gb, so, rfl, hg⟩ := HOY.out.gb hsh.1 hsh.2
            have HG := Lib.hid hg
            obtain ⟨k, ks, hks⟩ : ∃ k ks, y.kids = k :: ks := by
              cases hks : y.kids with
              | nil => have := hsh.2; rw [hks] at this; simp at this
              | cons k ks => exact ⟨k, ks, rfl⟩
            have HCC := Lib.hid (chr_share y Ay gb so cy cy' wr HOY.out.ly HOY.out.vy hsh.1 hsh.2 k ks hks hg.2.2)
            have HSH := Lib.hid (fun (w3 : World) hf hC hu => HOY.out.share (w3 := w3) hsh.1 hsh.2 hf hC hg hu)
            have HLE : Hid ((dvd y).shares.length = y.shares.length) := Lib.hid (by show (y.shares.map _).length = _; rw [List.length_map])
            have HLV : Hid (lv (dvd y) Ay (some ⟨gb, so, none⟩) cy cy' = .agg #[.int .i64 y.kind, .string y.item, .int .i64 y.long, .int .i64 y.many, .slice Ay y.kids.length cy, .slice (some ⟨gb, so, none⟩) y.shares.length cy']) := Lib.hid (by unfold lv; rw [HLE.out]; rfl)
            have HSM := Lib.hid (fun (R : Nat → Prop) (W : World) (hL : LR R W (dvd y) Ay (some ⟨gb, so, none⟩)) => equalR (dvd y) (dvd y) Ay (some ⟨gb, so, none⟩) Ay (some ⟨gb, so, none⟩) cy cy' cy cy' W hL hL)
            rw [HLV.out, decide_eq_true rfl] at HSM
            have HUU := Lib.hid (fun (w3 : World) (hf : Fr (fun b => b = gb ∧ ((T.gcdL y.shares 0 : Nat) : Int) ≠ 1) wr w3) (hfz : UF w3 gb) => hfz)
            clear hsh hks hg
            have cc := HCC.out
            unfold lv at cc
            go_wp2_with (first
              | (go_at_call 25; refine cc.mono ?_; rintro e w3 ⟨rfl, hf3, hC3, hu3⟩; obtain ⟨hbz, hlr, hFd⟩ := HSH.out w3 hf3 hC3 hu3; have HBZ := Lib.hid hbz; have HLR := Lib.hid hlr; have HFD := Lib.hid hFd; have HAL := Lib.hid (fun o => (Below.refl w3.heap.size w3).alloc (Nat.le_refl _) o); have HB4 := Lib.hid (fun o => HBZ.out.below (HAL.out o)); have e0 := fun o => (HB4.out o).y 0 _ rfl; have e1 := fun o => (HB4.out o).y 1 _ rfl; have e2 := fun o => (HB4.out o).y 2 _ rfl; have e3 := fun o => (HB4.out o).y 3 _ rfl; have e4 := fun o => (HB4.out o).y 4 _ rfl; have e5 := fun o => (HB4.out o).y 5 _ rfl; clear hbz hlr hFd hf3 hC3 hu3)
              | (go_at_call 10; refine (HSM.out _ _ (HLR.out.below (HAL.out _))).mono ?_; rintro e w5 ⟨rfl, hB5⟩; have HB6 := Lib.hid ((HB4.out _).below hB5); have HL6 := Lib.hid ((HLR.out.below (HAL.out _)).below hB5); have HRN := Lib.hid (fun b hb => rn_fr (R := fun _ => False) (S := fun _ => False) ((Fr.of_below (HAL.out (.cells #[.int .i64 y.kind, .string y.item, .int .i64 y.long, .int .i64 y.many, .slice Ay y.kids.length cy, .slice (some ⟨gb, so, none⟩) y.shares.length cy'] 25))).then_below hB5) (Nat.le_refl (w.heap.size + 2)) (fun _ _ h => h) b hb); have v0 := HB6.out.y 0 _ rfl; have v1 := HB6.out.y 1 _ rfl; have v2 := HB6.out.y 2 _ rfl; have v3 := HB6.out.y 3 _ rfl; have v4 := HB6.out.y 4 _ rfl; have v5 := HB6.out.y 5 _ rfl; have u0 := HB6.out.q 0 _ rfl; have u1 := HB6.out.q 1 _ rfl; have u2 := HB6.out.q 2 _ rfl; have u3 := HB6.out.q 3 _ rfl; have u4 := HB6.out.q 4 _ rfl; have u5 := HB6.out.q 5 _ rfl; have vz := HB6.out.qz; clear hB5))
            go_simp
            have hrow : ((((((w5.setCell ⟨w.heap.size + 1, 0, none⟩ (.int .i64 y.kind)).setCell ⟨w.heap.size + 1, 1, none⟩ (.string y.item)).setCell ⟨w.heap.size + 1, 2, none⟩ (.int .i64 y.long)).setCell ⟨w.heap.size + 1, 3, none⟩ (.int .i64 y.many)).setCell ⟨w.heap.size + 1, 4, none⟩ (.slice Ay y.kids.length cy)).setCell ⟨w.heap.size + 1, 5, none⟩ (.slice (some ⟨gb, so, none⟩) y.shares.length cy')).heap[w.heap.size + 1]? = some (.cells #[.int .i64 y.kind, .string y.item, .int .i64 y.long, .int .i64 y.many, .slice Ay y.kids.length cy, .slice (some ⟨gb, so, none⟩) y.shares.length cy'] 25 (0, 0)) := L.set6 (a := .int .i64 0) (b := .string ⟨#[]⟩) (c := .int .i64 0) (d := .int .i64 0) (e := .slice none 0 0) (f := .slice none 0 0) HB6.out.rw
            have hbd : Below w.heap.size w ((((((w5.setCell ⟨w.heap.size + 1, 0, none⟩ (.int .i64 y.kind)).setCell ⟨w.heap.size + 1, 1, none⟩ (.string y.item)).setCell ⟨w.heap.size + 1, 2, none⟩ (.int .i64 y.long)).setCell ⟨w.heap.size + 1, 3, none⟩ (.int .i64 y.many)).setCell ⟨w.heap.size + 1, 4, none⟩ (.slice Ay y.kids.length cy)).setCell ⟨w.heap.size + 1, 5, none⟩ (.slice (some ⟨gb, so, none⟩) y.shares.length cy')) := below6 HB6.out.bl (by omega) _ _ _ _ _ _
            have hff : Fr (fun b => b = w.heap.size + 1) w5 ((((((w5.setCell ⟨w.heap.size + 1, 0, none⟩ (.int .i64 y.kind)).setCell ⟨w.heap.size + 1, 1, none⟩ (.string y.item)).setCell ⟨w.heap.size + 1, 2, none⟩ (.int .i64 y.long)).setCell ⟨w.heap.size + 1, 3, none⟩ (.int .i64 y.many)).setCell ⟨w.heap.size + 1, 4, none⟩ (.slice Ay y.kids.length cy)).setCell ⟨w.heap.size + 1, 5, none⟩ (.slice (some ⟨gb, so, none⟩) y.shares.length cy')) := fr6 _ _ _ _ _ _ _ _
            generalize ((((((w5.setCell ⟨w.heap.size + 1, 0, none⟩ (.int .i64 y.kind)).setCell ⟨w.heap.size + 1, 1, none⟩ (.string y.item)).setCell ⟨w.heap.size + 1, 2, none⟩ (.int .i64 y.long)).setCell ⟨w.heap.size + 1, 3, none⟩ (.int .i64 y.many)).setCell ⟨w.heap.size + 1, 4, none⟩ (.slice Ay y.kids.length cy)).setCell ⟨w.heap.size + 1, 5, none⟩ (.slice (some ⟨gb, so, none⟩) y.shares.length cy')) = WF at hrow hbd hff ⊢
            refine bodyPost_ret (results_cell1_row rfl _ _ (w.heap.size + 1) 25 #[.int .i64 y.kind, .string y.item, .int .i64 y.long, .int .i64 y.many, .slice Ay y.kids.length cy, .slice (some ⟨gb, so, none⟩) y.shares.length cy'] (0, 0) _ rfl hrow Tryd.underlying25 rfl (by kernel_rfl)) rfl ?_
            refine ⟨⟨Ay, some ⟨gb, so, none⟩, cy, cy', by rw [HFL.out, HFD.out, HLV.out], ?_⟩, hbd⟩
            rw [HFL.out, HFD.out]
            exact HL6.out.fr hff (fun b hb e => by rcases hb with hb | hb; exact hb; omega) (fun b hb => rn_fr hff (by omega) (fun b hb e => by omega) b (HRN.out b hb))
          · cases hc : ch y with
            | none =>
              have HST := Lib.hid (HOY.out.stay hc)
              have HCC := Lib.hid ((changedR_any y Ay Asy cy cy' wr HOY.out.ly HOY.out.vy HOY.out.lt HOY.out.py (fun h4 hl => hsh ⟨h4, hl⟩)).mono fun e w' he => (⟨cr_open he.1, he.2⟩ : _ ∧ _))
              rw [x1_none hc] at HCC
              have HSM := Lib.hid (fun (R R' : Nat → Prop) (W : World) (A' As' : Option Addr) (d d' : Nat) (hL : LR R W y A' As') (hL2 : LR R' W y Ay Asy) => equalR y y A' As' Ay Asy d d' cy cy' W hL hL2)
              rw [decide_eq_true rfl] at HSM
              clear hsh hc
              have cc := HCC.out
              unfold lv at cc HSM
              go_wp2_with (first
                | (go_at_call 25; refine cc.mono ?_; rintro e w3 ⟨⟨A2, As2, d2, d2', rfl, hL2⟩, hB3⟩; have HL2 := Lib.hid hL2; have HB3 := Lib.hid (HOY.out.bz.below hB3); have HLY := Lib.hid (HOY.out.ly.below hB3); have HRN3 := Lib.hid (fun b hb => rn_fr (R := fun _ => False) (S := fun _ => False) (Fr.of_below hB3) (Nat.le_refl (w.heap.size + 2)) (fun _ _ h => h) b hb); have HAL := Lib.hid (fun o => (Below.refl w3.heap.size w3).alloc (Nat.le_refl _) o); have HB4 := Lib.hid (fun o => HB3.out.below (HAL.out o)); have e0 := fun o => (HB4.out o).y 0 _ rfl; have e1 := fun o => (HB4.out o).y 1 _ rfl; have e2 := fun o => (HB4.out o).y 2 _ rfl; have e3 := fun o => (HB4.out o).y 3 _ rfl; have e4 := fun o => (HB4.out o).y 4 _ rfl; have e5 := fun o => (HB4.out o).y 5 _ rfl; clear hL2 hB3)
                | (go_at_call 10; refine (HSM.out _ _ _ _ _ _ _ (HL2.out.below (HAL.out _)) (HLY.out.below (HAL.out _))).mono ?_; rintro e w5 ⟨rfl, hB5⟩; have HB6 := Lib.hid ((HB4.out _).below hB5); have HL6 := Lib.hid ((HLY.out.below (HAL.out _)).below hB5); have HRN := Lib.hid (fun b hb => rn_fr (R := fun _ => False) (S := fun _ => False) ((Fr.of_below (HAL.out (.cells #[.int .i64 y.kind, .string y.item, .int .i64 y.long, .int .i64 y.many, .slice A2 y.kids.length d2, .slice As2 y.shares.length d2'] 25))).then_below hB5) (Nat.le_refl (w.heap.size + 2)) (fun _ _ h => h) b (HRN3.out b hb)); have v0 := HB6.out.y 0 _ rfl; have v1 := HB6.out.y 1 _ rfl; have v2 := HB6.out.y 2 _ rfl; have v3 := HB6.out.y 3 _ rfl; have v4 := HB6.out.y 4 _ rfl; have v5 := HB6.out.y 5 _ rfl; have u0 := HB6.out.q 0 _ rfl; have u1 := HB6.out.q 1 _ rfl; have u2 := HB6.out.q 2 _ rfl; have u3 := HB6.out.q 3 _ rfl; have u4 := HB6.out.q 4 _ rfl; have u5 := HB6.out.q 5 _ rfl; have vz := HB6.out.qz; clear hB5))
              go_simp
              have hrow : ((((((w5.setCell ⟨w.heap.size + 1, 0, none⟩ (.int .i64 y.kind)).setCell ⟨w.heap.size + 1, 1, none⟩ (.string y.item)).setCell ⟨w.heap.size + 1, 2, none⟩ (.int .i64 y.long)).setCell ⟨w.heap.size + 1, 3, none⟩ (.int .i64 y.many)).setCell ⟨w.heap.size + 1, 4, none⟩ (.slice Ay y.kids.length cy)).setCell ⟨w.heap.size + 1, 5, none⟩ (.slice Asy y.shares.length cy')).heap[w.heap.size + 1]? = some (.cells #[.int .i64 y.kind, .string y.item, .int .i64 y.long, .int .i64 y.many, .slice Ay y.kids.length cy, .slice Asy y.shares.length cy'] 25 (0, 0)) := L.set6 (a := .int .i64 0) (b := .string ⟨#[]⟩) (c := .int .i64 0) (d := .int .i64 0) (e := .slice none 0 0) (f := .slice none 0 0) HB6.out.rw
              have hbd : Below w.heap.size w ((((((w5.setCell ⟨w.heap.size + 1, 0, none⟩ (.int .i64 y.kind)).setCell ⟨w.heap.size + 1, 1, none⟩ (.string y.item)).setCell ⟨w.heap.size + 1, 2, none⟩ (.int .i64 y.long)).setCell ⟨w.heap.size + 1, 3, none⟩ (.int .i64 y.many)).setCell ⟨w.heap.size + 1, 4, none⟩ (.slice Ay y.kids.length cy)).setCell ⟨w.heap.size + 1, 5, none⟩ (.slice Asy y.shares.length cy')) := below6 HB6.out.bl (by omega) _ _ _ _ _ _
              have hff : Fr (fun b => b = w.heap.size + 1) w5 ((((((w5.setCell ⟨w.heap.size + 1, 0, none⟩ (.int .i64 y.kind)).setCell ⟨w.heap.size + 1, 1, none⟩ (.string y.item)).setCell ⟨w.heap.size + 1, 2, none⟩ (.int .i64 y.long)).setCell ⟨w.heap.size + 1, 3, none⟩ (.int .i64 y.many)).setCell ⟨w.heap.size + 1, 4, none⟩ (.slice Ay y.kids.length cy)).setCell ⟨w.heap.size + 1, 5, none⟩ (.slice Asy y.shares.length cy')) := fr6 _ _ _ _ _ _ _ _
              generalize ((((((w5.setCell ⟨w.heap.size + 1, 0, none⟩ (.int .i64 y.kind)).setCell ⟨w.heap.size + 1, 1, none⟩ (.string y.item)).setCell ⟨w.heap.size + 1, 2, none⟩ (.int .i64 y.long)).setCell ⟨w.heap.size + 1, 3, none⟩ (.int .i64 y.many)).setCell ⟨w.heap.size + 1, 4, none⟩ (.slice Ay y.kids.length cy)).setCell ⟨w.heap.size + 1, 5, none⟩ (.slice Asy y.shares.length cy')) = WF at hrow hbd hff ⊢
              refine bodyPost_ret (results_cell1_row rfl _ _ (w.heap.size + 1) 25 #[.int .i64 y.kind, .string y.item, .int .i64 y.long, .int .i64 y.many, .slice Ay y.kids.length cy, .slice Asy y.shares.length cy'] (0, 0) _ rfl hrow Tryd.underlying25 rfl (by kernel_rfl)) rfl ?_
              refine ⟨⟨Ay, Asy, cy, cy', by rw [HFL.out, HST.out]; rfl, ?_⟩, hbd⟩
              rw [HFL.out, HST.out]
              exact HL6.out.fr hff (fun b hb e => by rcases hb with hb | hb; exact hb; omega) (fun b hb => rn_fr hff (by omega) (fun b hb e => by omega) b (HRN.out b hb))
            | some z =>
              have HCC := Lib.hid ((changedR_any y Ay Asy cy cy' wr HOY.out.ly HOY.out.vy HOY.out.lt HOY.out.py (fun h4 hl => hsh ⟨h4, hl⟩)).mono fun e w' he => (⟨cr_open he.1, he.2⟩ : _ ∧ _))
              rw [x1_some hc] at HCC
              have hzy : decide (z = y) = false := decide_eq_false (fun e => by have := (ch_spec HOY.out.vy hc).2.2; rw [e] at this; omega)
              have HSM := Lib.hid (fun (R R' : Nat → Prop) (W : World) (A' As' : Option Addr) (d d' : Nat) (hL : LR R W z A' As') (hL2 : LR R' W y Ay Asy) => equalR z y A' As' Ay Asy d d' cy cy' W hL hL2)
              rw [hzy] at HSM
              have HNX := Lib.hid (fun (w3 w5 : World) (A' As' : Option Addr) (d d' : Nat) hB hz hB5 => HOY.out.next (w3 := w3) (w5 := w5) (z := z) (A' := A') (As' := As') (d := d) (d' := d') hsh hc hB hz hB5)
              clear hsh hc hzy
              have cc := HCC.out
              unfold lv at cc HSM
              go_wp2_with (first
                | (go_at_call 25; refine cc.mono ?_; rintro e w3 ⟨⟨A2, As2, d2, d2', rfl, hL2⟩, hB3⟩; have HL2 := Lib.hid hL2; have HB3' := Lib.hid hB3; have HB3 := Lib.hid (HOY.out.bz.below hB3); have HLY := Lib.hid (HOY.out.ly.below hB3); have HAL := Lib.hid (fun o => (Below.refl w3.heap.size w3).alloc (Nat.le_refl _) o); have HB4 := Lib.hid (fun o => HB3.out.below (HAL.out o)); have HTX := Lib.hid (fun (W : World) => @L.boxed z A2 As2 d2 d2' w3 W 25); have e0 := fun o => (HB4.out o).y 0 _ rfl; have e1 := fun o => (HB4.out o).y 1 _ rfl; have e2 := fun o => (HB4.out o).y 2 _ rfl; have e3 := fun o => (HB4.out o).y 3 _ rfl; have e4 := fun o => (HB4.out o).y 4 _ rfl; have e5 := fun o => (HB4.out o).y 5 _ rfl; clear hL2 hB3)
                | (go_at_call 10; refine (HSM.out _ _ _ _ _ _ _ (HL2.out.below (HAL.out _)) (HLY.out.below (HAL.out _))).mono ?_; rintro e w5 ⟨rfl, hB5⟩; have HNX2 := HNX.out w3 w5 A2 As2 d2 d2' HB3'.out HL2.out (B.below_trans (HAL.out _) hB5); have HOZ2 := Lib.hid HNX2.1; have HMU := Lib.hid HNX2.2; have HB6 := Lib.hid ((HB4.out _).below hB5); obtain ⟨t0, t1, t2, t3, t4, t5⟩ := HTX.out w5 hB5; have v0 := HB6.out.y 0 _ rfl; have v1 := HB6.out.y 1 _ rfl; have v2 := HB6.out.y 2 _ rfl; have v3 := HB6.out.y 3 _ rfl; have v4 := HB6.out.y 4 _ rfl; have v5 := HB6.out.y 5 _ rfl; have vz := HB6.out.yz; clear hB5 HNX2))
              go_roundg (mu z)
              case measure => have := HMU.out; omega
              case rel => exact ⟨z, A2, As2, d2, d2', Nat.le_refl _, HOZ2⟩
      · have hb1 : (x.kind == 1) = false := by rw [beq_eq_false_iff_ne]; exact hk1
        clear hk1
        go_wp2_with (go_at_call 19; refine (HCI.out wo HZ1.out.bl).mono ?_; rintro e w5 ⟨A5, c5, rfl, hO5, hB5⟩; have HZ5 := Lib.hid (HZ1.out.below hB5); have HB5 := Lib.hid hB5; have HC5 : Hid (B.Kd.int.C w5 A5 x.shares) := Lib.hid (by obtain ⟨A8, c8, e8, hC8⟩ := B.own_int hO5 (by omega); cases e8; exact hC8); have HSB : Hid (0 < x.shares.length → ∃ b, A5 = some ⟨b, 0, none⟩ ∧ wo.heap.size ≤ b ∧ b < w5.heap.size ∧ UF w5 b) := Lib.hid (fun hp => by obtain ⟨b, e, h1, h2⟩ := L.own_blk hO5 hp; exact ⟨b, e, h1, (World.ownsRow.lt hO5 b h2).2, UF.own hO5 h2⟩); have y4 := HZ5.out.y 4 _ rfl; have yz := HZ5.out.yz; have z5 := HZ5.out.y 5 _ rfl; have z0 := HZ5.out.y 0 _ rfl; clear hO5 hB5)
        clear y4 yz z5 z0 y5 y0'
        have hF : Fr (fun b => b = w.heap.size) w5 ((w5.setCell ⟨w.heap.size, 4, none⟩ (.slice (some ⟨gk, 0, none⟩) x.kids.length x.kids.length)).setCell ⟨w.heap.size, 5, none⟩ (.slice A5 x.shares.length c5)) := ((Fr.refl (fun b => b = w.heap.size) w5).set (p := ⟨w.heap.size, 4, none⟩) (fun _ => rfl) _).set (p := ⟨w.heap.size, 5, none⟩) (fun _ => rfl) _
        have hbz := (HZ5.out.set4 (some ⟨gk, 0, none⟩) x.kids.length).set5 A5 c5
        have hF2 : Fr (fun b => b = w.heap.size) wo _ := (Fr.of_below HB5.out).trans hF (fun _ _ h => h)
        have hS : ∀ Q : Nat → Prop, (∀ b, RN (fun _ => False) (w.heap.size + 2) wo b → Q b) → SR Q _ (some ⟨gk, 0, none⟩) (x.kids.map lst) := fun Q hQ => HSR.out.fr hF2 (fun b hb e => by rcases hb with hb | hb; exact hb; omega) hQ
        have hRN := rn_fr (R := fun _ => False) hF2 (Nat.le_refl (w.heap.size + 2)) (fun b _ e => by omega)
        have HOZ : Hid (Oz w ((w5.setCell ⟨w.heap.size, 4, none⟩ (.slice (some ⟨gk, 0, none⟩) x.kids.length x.kids.length)).setCell ⟨w.heap.size, 5, none⟩ (.slice A5 x.shares.length c5)) FF (upd x (x.kids.map lst)) (some ⟨gk, 0, none⟩) A5 x.kids.length c5) := Lib.hid ⟨hbz.cast _ HLE.out, lr_upd HH.out.ok (L.C_fr (R := fun b => wo.heap.size ≤ b) HC5.out (fun hp => by obtain ⟨b, e, h1, h2, h3⟩ := HSB.out hp; exact ⟨b, 0, e, h1⟩) hF (fun b hb e => by have := HZ1.out.sz; omega)) (fun hp => by obtain ⟨b, e, h1, h2, h3⟩ := HSB.out hp; have s1 := HZ1.out.sz; exact ⟨b, 0, e, .inr ⟨by omega, Nat.lt_of_lt_of_le h2 hF.size, h3.fr hF h2 (by omega)⟩⟩) (hS _ hRN), HVY.out, HPY.out, HFY.out, HKD.out, by
          by_cases h4 : x.kind = 4
          · obtain ⟨b, e, h1, h2, h3⟩ := HSB.out (HS4.out h4)
            refine .inr ⟨b, 0, RN (fun _ => False) (w.heap.size + 2) wo, e, by rw [HKU.out]; exact hS _ (fun _ h => h), fun hb => ?_, hRN⟩
            rcases hb with hb | hb
            · exact hb
            · omega
          · exact .inl (HO4.out h4)⟩
        clear hbz hF hF2 hS hRN
        generalize (w5.setCell ⟨w.heap.size, 4, none⟩ (.slice (some ⟨gk, 0, none⟩) x.kids.length x.kids.length)).setCell ⟨w.heap.size, 5, none⟩ (.slice A5 x.shares.length c5) = W8 at *
        generalize upd x (x.kids.map lst) = y0 at *
        go_loopg [6] (mu y0) (fun k s6 wr => ∃ (y : Lp) (A As : Option Addr) (c c' : Nat), mu y ≤ k ∧ Hid (Oz w wr FF y A As c c'))
        case atStart => exact ⟨y0, some ⟨gk, 0, none⟩, A5, x.kids.length, c5, Nat.le_refl _, HOZ⟩
        case round =>
          obtain ⟨y, Ay, Asy, cy, cy', hmu, HOY⟩ := hrel
          have by0 := HOY.out.bz.y 0 _ rfl
          have by1 := HOY.out.bz.y 1 _ rfl
          have by2 := HOY.out.bz.y 2 _ rfl
          have by3 := HOY.out.bz.y 3 _ rfl
          have by4 := HOY.out.bz.y 4 _ rfl
          have by5 := HOY.out.bz.y 5 _ rfl
          have byz := HOY.out.bz.yz
          by_cases hsh : y.kind = 4 ∧ 1 < y.kids.length
          · obtain ⟨gb, so, rfl, hg⟩ := HOY.out.gb hsh.1 hsh.2
            have HG := Lib.hid hg
            obtain ⟨k, ks, hks⟩ : ∃ k ks, y.kids = k :: ks := by
              cases hks : y.kids with
              | nil => have := hsh.2; rw [hks] at this; simp at this
              | cons k ks => exact ⟨k, ks, rfl⟩
            have HCC := Lib.hid (chr_share y Ay gb so cy cy' wr HOY.out.ly HOY.out.vy hsh.1 hsh.2 k ks hks hg.2.2)
            have HSH := Lib.hid (fun (w3 : World) hf hC hu => HOY.out.share (w3 := w3) hsh.1 hsh.2 hf hC hg hu)
            have HLE : Hid ((dvd y).shares.length = y.shares.length) := Lib.hid (by show (y.shares.map _).length = _; rw [List.length_map])
            have HLV : Hid (lv (dvd y) Ay (some ⟨gb, so, none⟩) cy cy' = .agg #[.int .i64 y.kind, .string y.item, .int .i64 y.long, .int .i64 y.many, .slice Ay y.kids.length cy, .slice (some ⟨gb, so, none⟩) y.shares.length cy']) := Lib.hid (by unfold lv; rw [HLE.out]; rfl)
            have HSM := Lib.hid (fun (R : Nat → Prop) (W : World) (hL : LR R W (dvd y) Ay (some ⟨gb, so, none⟩)) => equalR (dvd y) (dvd y) Ay (some ⟨gb, so, none⟩) Ay (some ⟨gb, so, none⟩) cy cy' cy cy' W hL hL)
            rw [HLV.out, decide_eq_true rfl] at HSM
            have HUU := Lib.hid (fun (w3 : World) (hf : Fr (fun b => b = gb ∧ ((T.gcdL y.shares 0 : Nat) : Int) ≠ 1) wr w3) (hfz : UF w3 gb) => hfz)
            clear hsh hks hg
            have cc := HCC.out
            unfold lv at cc
            go_wp2_with (first
              | (go_at_call 25; refine cc.mono ?_; rintro e w3 ⟨rfl, hf3, hC3, hu3⟩; obtain ⟨hbz, hlr, hFd⟩ := HSH.out w3 hf3 hC3 hu3; have HBZ := Lib.hid hbz; have HLR := Lib.hid hlr; have HFD := Lib.hid hFd; have HAL := Lib.hid (fun o => (Below.refl w3.heap.size w3).alloc (Nat.le_refl _) o); have HB4 := Lib.hid (fun o => HBZ.out.below (HAL.out o)); have e0 := fun o => (HB4.out o).y 0 _ rfl; have e1 := fun o => (HB4.out o).y 1 _ rfl; have e2 := fun o => (HB4.out o).y 2 _ rfl; have e3 := fun o => (HB4.out o).y 3 _ rfl; have e4 := fun o => (HB4.out o).y 4 _ rfl; have e5 := fun o => (HB4.out o).y 5 _ rfl; clear hbz hlr hFd hf3 hC3 hu3)
              | (go_at_call 10; refine (HSM.out _ _ (HLR.out.below (HAL.out _))).mono ?_; rintro e w5 ⟨rfl, hB5⟩; have HB6 := Lib.hid ((HB4.out _).below hB5); have HL6 := Lib.hid ((HLR.out.below (HAL.out _)).below hB5); have HRN := Lib.hid (fun b hb => rn_fr (R := fun _ => False) (S := fun _ => False) ((Fr.of_below (HAL.out (.cells #[.int .i64 y.kind, .string y.item, .int .i64 y.long, .int .i64 y.many, .slice Ay y.kids.length cy, .slice (some ⟨gb, so, none⟩) y.shares.length cy'] 25))).then_below hB5) (Nat.le_refl (w.heap.size + 2)) (fun _ _ h => h) b hb); have v0 := HB6.out.y 0 _ rfl; have v1 := HB6.out.y 1 _ rfl; have v2 := HB6.out.y 2 _ rfl; have v3 := HB6.out.y 3 _ rfl; have v4 := HB6.out.y 4 _ rfl; have v5 := HB6.out.y 5 _ rfl; have u0 := HB6.out.q 0 _ rfl; have u1 := HB6.out.q 1 _ rfl; have u2 := HB6.out.q 2 _ rfl; have u3 := HB6.out.q 3 _ rfl; have u4 := HB6.out.q 4 _ rfl; have u5 := HB6.out.q 5 _ rfl; have vz := HB6.out.qz; clear hB5))
            go_simp
            have hrow : ((((((w5.setCell ⟨w.heap.size + 1, 0, none⟩ (.int .i64 y.kind)).setCell ⟨w.heap.size + 1, 1, none⟩ (.string y.item)).setCell ⟨w.heap.size + 1, 2, none⟩ (.int .i64 y.long)).setCell ⟨w.heap.size + 1, 3, none⟩ (.int .i64 y.many)).setCell ⟨w.heap.size + 1, 4, none⟩ (.slice Ay y.kids.length cy)).setCell ⟨w.heap.size + 1, 5, none⟩ (.slice (some ⟨gb, so, none⟩) y.shares.length cy')).heap[w.heap.size + 1]? = some (.cells #[.int .i64 y.kind, .string y.item, .int .i64 y.long, .int .i64 y.many, .slice Ay y.kids.length cy, .slice (some ⟨gb, so, none⟩) y.shares.length cy'] 25 (0, 0)) := L.set6 (a := .int .i64 0) (b := .string ⟨#[]⟩) (c := .int .i64 0) (d := .int .i64 0) (e := .slice none 0 0) (f := .slice none 0 0) HB6.out.rw
            have hbd : Below w.heap.size w ((((((w5.setCell ⟨w.heap.size + 1, 0, none⟩ (.int .i64 y.kind)).setCell ⟨w.heap.size + 1, 1, none⟩ (.string y.item)).setCell ⟨w.heap.size + 1, 2, none⟩ (.int .i64 y.long)).setCell ⟨w.heap.size + 1, 3, none⟩ (.int .i64 y.many)).setCell ⟨w.heap.size + 1, 4, none⟩ (.slice Ay y.kids.length cy)).setCell ⟨w.heap.size + 1, 5, none⟩ (.slice (some ⟨gb, so, none⟩) y.shares.length cy')) := below6 HB6.out.bl (by omega) _ _ _ _ _ _
            have hff : Fr (fun b => b = w.heap.size + 1) w5 ((((((w5.setCell ⟨w.heap.size + 1, 0, none⟩ (.int .i64 y.kind)).setCell ⟨w.heap.size + 1, 1, none⟩ (.string y.item)).setCell ⟨w.heap.size + 1, 2, none⟩ (.int .i64 y.long)).setCell ⟨w.heap.size + 1, 3, none⟩ (.int .i64 y.many)).setCell ⟨w.heap.size + 1, 4, none⟩ (.slice Ay y.kids.length cy)).setCell ⟨w.heap.size + 1, 5, none⟩ (.slice (some ⟨gb, so, none⟩) y.shares.length cy')) := fr6 _ _ _ _ _ _ _ _
            generalize ((((((w5.setCell ⟨w.heap.size + 1, 0, none⟩ (.int .i64 y.kind)).setCell ⟨w.heap.size + 1, 1, none⟩ (.string y.item)).setCell ⟨w.heap.size + 1, 2, none⟩ (.int .i64 y.long)).setCell ⟨w.heap.size + 1, 3, none⟩ (.int .i64 y.many)).setCell ⟨w.heap.size + 1, 4, none⟩ (.slice Ay y.kids.length cy)).setCell ⟨w.heap.size + 1, 5, none⟩ (.slice (some ⟨gb, so, none⟩) y.shares.length cy')) = WF at hrow hbd hff ⊢
            refine bodyPost_ret (results_cell1_row rfl _ _ (w.heap.size + 1) 25 #[.int .i64 y.kind, .string y.item, .int .i64 y.long, .int .i64 y.many, .slice Ay y.kids.length cy, .slice (some ⟨gb, so, none⟩) y.shares.length cy'] (0, 0) _ rfl hrow Tryd.underlying25 rfl (by kernel_rfl)) rfl ?_
            refine ⟨⟨Ay, some ⟨gb, so, none⟩, cy, cy', by rw [HFL.out, HFD.out, HLV.out], ?_⟩, hbd⟩
            rw [HFL.out, HFD.out]
            exact HL6.out.fr hff (fun b hb e => by rcases hb with hb | hb; exact hb; omega) (fun b hb => rn_fr hff (by omega) (fun b hb e => by omega) b (HRN.out b hb))
          · cases hc : ch y with
            | none =>
              have HST := Lib.hid (HOY.out.stay hc)
              have HCC := Lib.hid ((changedR_any y Ay Asy cy cy' wr HOY.out.ly HOY.out.vy HOY.out.lt HOY.out.py (fun h4 hl => hsh ⟨h4, hl⟩)).mono fun e w' he => (⟨cr_open he.1, he.2⟩ : _ ∧ _))
              rw [x1_none hc] at HCC
              have HSM := Lib.hid (fun (R R' : Nat → Prop) (W : World) (A' As' : Option Addr) (d d' : Nat) (hL : LR R W y A' As') (hL2 : LR R' W y Ay Asy) => equalR y y A' As' Ay Asy d d' cy cy' W hL hL2)
              rw [decide_eq_true rfl] at HSM
              clear hsh hc
              have cc := HCC.out
              unfold lv at cc HSM
              go_wp2_with (first
                | (go_at_call 25; refine cc.mono ?_; rintro e w3 ⟨⟨A2, As2, d2, d2', rfl, hL2⟩, hB3⟩; have HL2 := Lib.hid hL2; have HB3 := Lib.hid (HOY.out.bz.below hB3); have HLY := Lib.hid (HOY.out.ly.below hB3); have HRN3 := Lib.hid (fun b hb => rn_fr (R := fun _ => False) (S := fun _ => False) (Fr.of_below hB3) (Nat.le_refl (w.heap.size + 2)) (fun _ _ h => h) b hb); have HAL := Lib.hid (fun o => (Below.refl w3.heap.size w3).alloc (Nat.le_refl _) o); have HB4 := Lib.hid (fun o => HB3.out.below (HAL.out o)); have e0 := fun o => (HB4.out o).y 0 _ rfl; have e1 := fun o => (HB4.out o).y 1 _ rfl; have e2 := fun o => (HB4.out o).y 2 _ rfl; have e3 := fun o => (HB4.out o).y 3 _ rfl; have e4 := fun o => (HB4.out o).y 4 _ rfl; have e5 := fun o => (HB4.out o).y 5 _ rfl; clear hL2 hB3)
                | (go_at_call 10; refine (HSM.out _ _ _ _ _ _ _ (HL2.out.below (HAL.out _)) (HLY.out.below (HAL.out _))).mono ?_; rintro e w5 ⟨rfl, hB5⟩; have HB6 := Lib.hid ((HB4.out _).below hB5); have HL6 := Lib.hid ((HLY.out.below (HAL.out _)).below hB5); have HRN := Lib.hid (fun b hb => rn_fr (R := fun _ => False) (S := fun _ => False) ((Fr.of_below (HAL.out (.cells #[.int .i64 y.kind, .string y.item, .int .i64 y.long, .int .i64 y.many, .slice A2 y.kids.length d2, .slice As2 y.shares.length d2'] 25))).then_below hB5) (Nat.le_refl (w.heap.size + 2)) (fun _ _ h => h) b (HRN3.out b hb)); have v0 := HB6.out.y 0 _ rfl; have v1 := HB6.out.y 1 _ rfl; have v2 := HB6.out.y 2 _ rfl; have v3 := HB6.out.y 3 _ rfl; have v4 := HB6.out.y 4 _ rfl; have v5 := HB6.out.y 5 _ rfl; have u0 := HB6.out.q 0 _ rfl; have u1 := HB6.out.q 1 _ rfl; have u2 := HB6.out.q 2 _ rfl; have u3 := HB6.out.q 3 _ rfl; have u4 := HB6.out.q 4 _ rfl; have u5 := HB6.out.q 5 _ rfl; have vz := HB6.out.qz; clear hB5))
              go_simp
              have hrow : ((((((w5.setCell ⟨w.heap.size + 1, 0, none⟩ (.int .i64 y.kind)).setCell ⟨w.heap.size + 1, 1, none⟩ (.string y.item)).setCell ⟨w.heap.size + 1, 2, none⟩ (.int .i64 y.long)).setCell ⟨w.heap.size + 1, 3, none⟩ (.int .i64 y.many)).setCell ⟨w.heap.size + 1, 4, none⟩ (.slice Ay y.kids.length cy)).setCell ⟨w.heap.size + 1, 5, none⟩ (.slice Asy y.shares.length cy')).heap[w.heap.size + 1]? = some (.cells #[.int .i64 y.kind, .string y.item, .int .i64 y.long, .int .i64 y.many, .slice Ay y.kids.length cy, .slice Asy y.shares.length cy'] 25 (0, 0)) := L.set6 (a := .int .i64 0) (b := .string ⟨#[]⟩) (c := .int .i64 0) (d := .int .i64 0) (e := .slice none 0 0) (f := .slice none 0 0) HB6.out.rw
              have hbd : Below w.heap.size w ((((((w5.setCell ⟨w.heap.size + 1, 0, none⟩ (.int .i64 y.kind)).setCell ⟨w.heap.size + 1, 1, none⟩ (.string y.item)).setCell ⟨w.heap.size + 1, 2, none⟩ (.int .i64 y.long)).setCell ⟨w.heap.size + 1, 3, none⟩ (.int .i64 y.many)).setCell ⟨w.heap.size + 1, 4, none⟩ (.slice Ay y.kids.length cy)).setCell ⟨w.heap.size + 1, 5, none⟩ (.slice Asy y.shares.length cy')) := below6 HB6.out.bl (by omega) _ _ _ _ _ _
              have hff : Fr (fun b => b = w.heap.size + 1) w5 ((((((w5.setCell ⟨w.heap.size + 1, 0, none⟩ (.int .i64 y.kind)).setCell ⟨w.heap.size + 1, 1, none⟩ (.string y.item)).setCell ⟨w.heap.size + 1, 2, none⟩ (.int .i64 y.long)).setCell ⟨w.heap.size + 1, 3, none⟩ (.int .i64 y.many)).setCell ⟨w.heap.size + 1, 4, none⟩ (.slice Ay y.kids.length cy)).setCell ⟨w.heap.size + 1, 5, none⟩ (.slice Asy y.shares.length cy')) := fr6 _ _ _ _ _ _ _ _
              generalize ((((((w5.setCell ⟨w.heap.size + 1, 0, none⟩ (.int .i64 y.kind)).setCell ⟨w.heap.size + 1, 1, none⟩ (.string y.item)).setCell ⟨w.heap.size + 1, 2, none⟩ (.int .i64 y.long)).setCell ⟨w.heap.size + 1, 3, none⟩ (.int .i64 y.many)).setCell ⟨w.heap.size + 1, 4, none⟩ (.slice Ay y.kids.length cy)).setCell ⟨w.heap.size + 1, 5, none⟩ (.slice Asy y.shares.length cy')) = WF at hrow hbd hff ⊢
              refine bodyPost_ret (results_cell1_row rfl _ _ (w.heap.size + 1) 25 #[.int .i64 y.kind, .string y.item, .int .i64 y.long, .int .i64 y.many, .slice Ay y.kids.length cy, .slice Asy y.shares.length cy'] (0, 0) _ rfl hrow Tryd.underlying25 rfl (by kernel_rfl)) rfl ?_
              refine ⟨⟨Ay, Asy, cy, cy', by rw [HFL.out, HST.out]; rfl, ?_⟩, hbd⟩
              rw [HFL.out, HST.out]
              exact HL6.out.fr hff (fun b hb e => by rcases hb with hb | hb; exact hb; omega) (fun b hb => rn_fr hff (by omega) (fun b hb e => by omega) b (HRN.out b hb))
            | some z =>
              have HCC := Lib.hid ((changedR_any y Ay Asy cy cy' wr HOY.out.ly HOY.out.vy HOY.out.lt HOY.out.py (fun h4 hl => hsh ⟨h4, hl⟩)).mono fun e w' he => (⟨cr_open he.1, he.2⟩ : _ ∧ _))
              rw [x1_some hc] at HCC
              have hzy : decide (z = y) = false := decide_eq_false (fun e => by have := (ch_spec HOY.out.vy hc).2.2; rw [e] at this; omega)
              have HSM := Lib.hid (fun (R R' : Nat → Prop) (W : World) (A' As' : Option Addr) (d d' : Nat) (hL : LR R W z A' As') (hL2 : LR R' W y Ay Asy) => equalR z y A' As' Ay Asy d d' cy cy' W hL hL2)
              rw [hzy] at HSM
              have HNX := Lib.hid (fun (w3 w5 : World) (A' As' : Option Addr) (d d' : Nat) hB hz hB5 => HOY.out.next (w3 := w3) (w5 := w5) (z := z) (A' := A') (As' := As') (d := d) (d' := d') hsh hc hB hz hB5)
              clear hsh hc hzy
              have cc := HCC.out
              unfold lv at cc HSM
              go_wp2_with (first
                | (go_at_call 25; refine cc.mono ?_; rintro e w3 ⟨⟨A2, As2, d2, d2', rfl, hL2⟩, hB3⟩; have HL2 := Lib.hid hL2; have HB3' := Lib.hid hB3; have HB3 := Lib.hid (HOY.out.bz.below hB3); have HLY := Lib.hid (HOY.out.ly.below hB3); have HAL := Lib.hid (fun o => (Below.refl w3.heap.size w3).alloc (Nat.le_refl _) o); have HB4 := Lib.hid (fun o => HB3.out.below (HAL.out o)); have HTX := Lib.hid (fun (W : World) => @L.boxed z A2 As2 d2 d2' w3 W 25); have e0 := fun o => (HB4.out o).y 0 _ rfl; have e1 := fun o => (HB4.out o).y 1 _ rfl; have e2 := fun o => (HB4.out o).y 2 _ rfl; have e3 := fun o => (HB4.out o).y 3 _ rfl; have e4 := fun o => (HB4.out o).y 4 _ rfl; have e5 := fun o => (HB4.out o).y 5 _ rfl; clear hL2 hB3)
                | (go_at_call 10; refine (HSM.out _ _ _ _ _ _ _ (HL2.out.below (HAL.out _)) (HLY.out.below (HAL.out _))).mono ?_; rintro e w5 ⟨rfl, hB5⟩; have HNX2 := HNX.out w3 w5 A2 As2 d2 d2' HB3'.out HL2.out (B.below_trans (HAL.out _) hB5); have HOZ2 := Lib.hid HNX2.1; have HMU := Lib.hid HNX2.2; have HB6 := Lib.hid ((HB4.out _).below hB5); obtain ⟨t0, t1, t2, t3, t4, t5⟩ := HTX.out w5 hB5; have v0 := HB6.out.y 0 _ rfl; have v1 := HB6.out.y 1 _ rfl; have v2 := HB6.out.y 2 _ rfl; have v3 := HB6.out.y 3 _ rfl; have v4 := HB6.out.y 4 _ rfl; have v5 := HB6.out.y 5 _ rfl; have vz := HB6.out.yz; clear hB5 HNX2))
              go_roundg (mu z)
              case measure => have := HMU.out; omega
              case rel => exact ⟨z, A2, As2, d2, d2', Nat.le_refl _, HOZ2⟩
end Go.Proofs.YtlfobpjefklccaaDoor.H
