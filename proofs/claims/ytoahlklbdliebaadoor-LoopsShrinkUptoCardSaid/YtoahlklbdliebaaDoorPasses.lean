/- Passes and PassesOf. -/
import Derived.Test.YtoahlklbdliebaaDoorPassQ
namespace Go.Proofs.YtoahlklbdliebaaDoor.T
open Go.RowKit
open L (Lp row row1 At AtR lv kdL kid_at)
open F (Fr Cl)

/-- So many passes. -/
def playN (n : Nat) (x : Lp) : Nat → St → St × List Step
  | 0, st => (st, [])
  | k + 1, st => ((playN n x k (passS n x st).1).1, (passS n x st).2 ++ (playN n x k (passS n x st).1).2)
def stK : B.Kd Step := .flat 2 stE (fun _ => rfl) stE1
def PRun (tst : Bool) (w0 : World) (n lo hi : Nat) (x : Lp) (b : Nat) (ob : Ob) (tot : List Step) (wr : World) (j : Nat) : Prop :=
  (∃ st v l, Pre tst w0 wr n lo hi x b st ob v l ∧ l ++ (playN (n + 1) x j st).2 = tot) ∨ (∃ v, Over tst wr ob v tot.length)
theorem prun_step {tst : Bool} {w0 wr w' : World} {n lo hi : Nat} {x : Lp} {b : Nat} {st : St} {ob : Ob} {v : Value} {l tot : List Step} {j : Nat} {B : Nat} (h : Pre tst w0 wr n lo hi x b st ob v l) (ht : l ++ (playN (n + 1) x (j + 1) st).2 = tot) (hp : PassPost tst w0 wr n lo hi x b st ob v l w') (h1 : B ≤ lo) (h2 : B ≤ ob.o) (h3 : B ≤ wr.heap.size) :
    (((∃ st v l, Pre tst w0 w' n lo hi x b st ob v l ∧ l ++ (playN (n + 1) x j st).2 = tot) ∧ l.length + (passS (n + 1) x st).2.length ≤ 5000) ∨ ((∃ v, Over tst w' ob v tot.length) ∧ 5000 < l.length + (passS (n + 1) x st).2.length)) ∧ Below B wr w' := by
  obtain ⟨v', hn, hf, hr⟩ := hp
  have hv : ∀ g, v.ownBlock = some g → ob.bs ≤ g := fun g e => (World.ownsRow.lt h.out.2.2.1 g e).1
  have hb : ∀ B, B ≤ lo → B ≤ ob.o → B ≤ wr.heap.size → Below B wr w' := fun B h1 h2 h3 => hf.below h3 (fun k hS => by
    rcases hS with hS | hS | hS
    · omega
    · omega
    · have := hv k hS; have := h.hob; omega)
  refine ⟨?_, hb B h1 h2 h3⟩
  rw [playN] at ht
  rcases hr with ⟨a1, a2, a3⟩ | ⟨a1, a2⟩
  · refine .inl ⟨⟨_, v', _, ⟨a3, h.gd, ?_, h.hob, a2, by rw [List.length_append]; exact a1, h.hw0.trans (hb _ h.hlo h.how0 h.hw0.size), h.hlo, h.how0⟩, by rw [List.append_assoc]; exact ht⟩, a1⟩
    rw [List.length_append]
    exact (pass_bd n x l.length st h.gd h.bd).2 a1
  · refine .inr ⟨⟨v', ?_, a2⟩, a1⟩
    have e := congrArg List.length ht
    simp only [List.length_append] at e
    omega
theorem prun_call {w0 wr : World} {n lo hi : Nat} {x : Lp} {b : Nat} {ob : Ob} {tot : List Step} {j : Nat} {B : Nat} (h : PRun true w0 n lo hi x b ob tot wr (j + 1)) (h1 : B ≤ lo) (h2 : B ≤ ob.o) (h3 : B ≤ wr.heap.size) :
    Calls Tryd.prog 31 #[.pointer (some ⟨b, 0, none⟩), .pointer (some ⟨ob.o, 0, none⟩)] wr fun e w' => e = .returned (.tuple #[]) ∧ PRun true w0 n lo hi x b ob tot w' j ∧ Below B wr w' := by
  rcases h with ⟨st, v, l, hp, ht⟩ | ⟨v, hov⟩
  · refine (pass n _ _ _ _ _ _ _ _ _ _ hp).mono fun e w' he => ⟨he.1, ?_⟩
    obtain ⟨h5, h6⟩ := prun_step hp ht he.2 h1 h2 h3
    exact ⟨h5.elim (fun h => .inl h.1) (fun h => .inr h.1), h6⟩
  · obtain ⟨l', q1, q2, q3⟩ := hov.2
    refine (pass_full wr b ob v l' q3 ⟨q1, q2⟩).mono fun e w' he => ⟨he.1, .inr ⟨v, hov.1, l', q1, q2, q3.below he.2⟩, he.2.mono h3⟩
/-- Where nothing was played yet. -/
theorem pre_start {tst : Bool} {w0 w : World} {n lo hi : Nat} {x : Lp} {b : Nat} {ob : Ob} {A As : Option Addr} (ht : Tr tst w0 n w lo hi x b (st0 n x)) (hat : At n w0 x A As) (hg : L.pf (n + 1) x = 0) (hob : (ob.o < lo ∨ hi ≤ ob.o) ∧ hi ≤ ob.bs ∧ ob.o < ob.bs) (h0 : Cl w ob.o 0 (.slice none 0 0)) (h1 : tst = true → Cl w ob.o 1 (.int .i64 5000)) (hbs : ob.bs ≤ w.heap.size)
    (hb : Below w0.heap.size w0 w) (h2 : w0.heap.size ≤ lo) (h3 : w0.heap.size ≤ ob.o) : Pre tst w0 w n lo hi x b (st0 n x) ob (.slice none 0 0) [] :=
  ⟨ht, gd_at n w0 x A As hat hg, bd_st0 n x (gd_at n w0 x A As hat hg), hob, ⟨h0, h1, B.Own.nil _ _ _ _ _, hbs⟩, Nat.zero_le _, hb, h2, h3⟩
def tot (n : Nat) (x : Lp) (k : Nat) : List Step := (playN (n + 1) x k (st0 n x)).2
def psE (n : Nat) (x : Lp) (many : Int) : Int := if L.lf (n + 1) x ≠ 0 then L.lf (n + 1) x else if L.bad many 0 5000 = true then 1 else if 5000 < (tot n x many.toNat).length then 2 else 0
def psL (n : Nat) (x : Lp) (many : Int) : List Step := if psE n x many = 0 then tot n x many.toNat else []
/-- Steps and an error. -/
def Res2 (l : List Step) (q : Int) (e : Ending) (w' : World) : Prop := ∃ A c, e = .returned (.tuple #[.slice A l.length c, .int .i64 q]) ∧ stK.C w' A l
theorem res_none (q : Int) (w' : World) : Res2 [] q (.returned (.tuple #[.slice none 0 0, .int .i64 q])) w' := ⟨none, 0, rfl, B.Kd.C_nil _ _ _⟩
theorem lf_pf {n : Nat} {x : Lp} (h : L.lf (n + 1) x = 0) : L.pf (n + 1) x = 0 := by
  unfold L.lf at h
  split at h
  · omega
  · exact h
set_option maxHeartbeats 4000000 in
set_option maxRecDepth 100000 in
theorem passes (n : Nat) (x : Lp) (A As : Option Addr) (c c' : Nat) (many : Int) (w : World) (h : At n w x A As) :
    Calls Tryd.prog 12 #[lv x A As c c', .int .i64 many] w fun e w' => Res2 (psL n x many) (psE n x many) e w' ∧ Below w.heap.size w w' := by
  have HA := Lib.hid (fun (c : Array Value) (e : TypeId) => (Below.refl _ w).alloc (Nat.le_refl _) (.cells c e))
  have cl := fun c0 e0 => L.checkLoop n x A As c c' _ (h.mono (HA.out c0 e0))
  have co := L.outB many 0 5000
  have cn := fun W hb => newPart n x A As c c' w W h hb
  have HAT := Lib.hid h
  have HX0 := Lib.hid (fun (e : TypeId) (W : World) => @L.boxed x A As c c' w W e)
  have HE : Hid (psE n x many = if L.lf (n + 1) x ≠ 0 then L.lf (n + 1) x else if L.bad many 0 5000 = true then 1 else if 5000 < (tot n x many.toNat).length then 2 else 0) := Lib.hid rfl
  have HPL : Hid (psL n x many = if psE n x many = 0 then tot n x many.toNat else []) := Lib.hid rfl
  generalize psE n x many = E at HE HPL ⊢
  generalize psL n x many = PL at HPL ⊢
  have HLF : Hid (L.lf (n + 1) x = 0 → L.pf (n + 1) x = 0) := Lib.hid lf_pf
  clear h
  unfold lv at cl cn ⊢
  generalize L.lf (n + 1) x = q at cl HE HLF
  by_cases hq : q = 0
  · subst hq
    have HE2 : Hid (E = if L.bad many 0 5000 = true then 1 else if 5000 < (tot n x many.toNat).length then 2 else 0) := Lib.hid (by rw [HE.out, if_neg (by simp)])
    clear HE
    cases hbd : L.bad many 0 5000 with
    | true =>
      rw [hbd] at co
      have HE3 : Hid (E = 1) := Lib.hid (by rw [HE2.out, if_pos hbd])
      clear hbd HE2 cn
      go_enter Tryd.func12, Tryd.ntmps12
      go_wp2_with (first
        | (go_at_call 11; refine (cl _ _).mono ?_; rintro e w2 ⟨rfl, hB2⟩; have HB2 := Lib.hid hB2; clear hB2)
        | (go_at_call 29; refine (co _).mono ?_; rintro e w2 ⟨rfl, rfl⟩))
      go_ret2
      exact ⟨by rw [HPL.out, HE3.out, if_neg (by omega)]; exact res_none _ _, B.below_trans (HA.out _ _) HB2.out⟩
    | false =>
      rw [hbd] at co
      have HE3 : Hid (E = if 5000 < (tot n x many.toNat).length then 2 else 0) := Lib.hid (by rw [HE2.out, if_neg (by rw [hbd]; decide)])
      have hbd' : 0 ≤ many ∧ many ≤ 5000 := by simpa [L.bad] using hbd
      obtain ⟨M, rfl⟩ : ∃ M : Nat, many = M := ⟨many.toNat, by omega⟩
      rw [Int.toNat_natCast] at HE3 HPL
      have hM : M ≤ 5000 := by omega
      have HLF2 := Lib.hid (HLF.out rfl)
      clear hbd HE2 hbd' HLF
      go_enter Tryd.func12, Tryd.ntmps12
      go_wp2_with (first
        | (go_at_call 11; refine (cl _ _).mono ?_; rintro e w2 ⟨rfl, hB2⟩; have HB2 := Lib.hid hB2; clear hB2; obtain ⟨y0, y1, y2, y3, y4, y5⟩ := HX0.out _ _ HB2.out)
        | (go_at_call 29; refine (co _).mono ?_; rintro e w2 ⟨rfl, rfl⟩)
        | (go_at_call 30; refine (cn _ (B.below_trans (HA.out _ _) HB2.out)).mono ?_; rintro e w3 ⟨bk, rfl, hT3, hB3⟩; have HT3 := Lib.hid hT3; have HB3 := Lib.hid hB3; clear hT3 hB3))
      have HW4 : Hid (Below w.heap.size w (w3.alloc (.cells #[.slice none 0 0, .int .i64 5000] 56))) := Lib.hid (B.below_trans (B.below_trans (B.below_trans (HA.out _ _) HB2.out) HB3.out) ((Below.refl _ _).alloc (Nat.le_refl _) _))
      have HPR : Hid (PRun true w n w2.heap.size w3.heap.size x bk ⟨w3.heap.size, w3.heap.size + 1⟩ (tot n x M) (w3.alloc (.cells #[.slice none 0 0, .int .i64 5000] 56)) M) := Lib.hid (.inl ⟨_, _, _, pre_start (A := A) (As := As) (HT3.out.fr (S := fun _ => False) (Fr.of_below ((Below.refl _ _).alloc (Nat.le_refl _) _)) (fun _ _ _ h => h)) HAT.out HLF2.out ⟨.inr (Nat.le_refl _), Nat.le_succ _, Nat.lt_succ_self _⟩
        (Cl.new w3 _ _ 0 _ rfl) (fun _ => Cl.new w3 _ _ 1 _ rfl) (by simp) HW4.out (by have := HB2.out.size; simp at this; omega) (by have := HB2.out.size; have := HB3.out.size; simp at *; omega), rfl⟩)
      have HSZ : Hid (w.heap.size ≤ w2.heap.size ∧ w2.heap.size ≤ w3.heap.size) := Lib.hid (by have := HB2.out.size; have := HB3.out.size; simp at *; omega)
      generalize w3.alloc (.cells #[.slice none 0 0, .int .i64 5000] 56) = W4 at *
      generalize hob : w3.heap.size = ob at HPR HSZ ⊢
      generalize w2.heap.size = lo at HPR HSZ
      clear hob HB3 HT3 HB2 y0 y1 y2 y3 y4 y5 cl cn
      go_loopw [21] (fun s wr => ∃ k : Nat, s = .int .i64 k ∧ k ≤ M ∧ Hid (PRun true w n lo ob x bk ⟨ob, ob + 1⟩ (tot n x M) wr (M - k)) ∧ Hid (Below w.heap.size w wr)) (fun s _ => M - (intOf s).toNat)
      case atStart => exact ⟨0, rfl, by omega, HPR, HW4⟩
      case round =>
        obtain ⟨k, rfl, hk, HP, HB⟩ := hrel
        by_cases hlt : k < M
        · have hp := HP.out
          rw [show M - k = M - (k + 1) + 1 by omega] at hp
          have cc := prun_call hp (B := w.heap.size) HSZ.out.1 (by have := HSZ.out; show w.heap.size ≤ ob; omega) HB.out.size
          have hk1 : (k : Int) < M := by omega
          clear hp
          go_wp2_with (go_at_call 31; refine cc.mono ?_; rintro e w5 ⟨rfl, hP5, hB5⟩; have HP5 := Lib.hid hP5; have HB5 := Lib.hid (HB.out.trans hB5); clear hP5 hB5)
          go_roundw
          case rel => exact ⟨k + 1, by go_num, by omega, HP5, HB5⟩
          case measure => simp [intOf]; omega
        · obtain rfl : k = M := by omega
          have hp := HP.out
          rw [Nat.sub_self] at hp
          by_cases htt : (tot n x k).length ≤ 5000
          · have HE4 : Hid (E = 0) := Lib.hid (by rw [HE3.out, if_neg (by omega)])
            obtain ⟨v, hov⟩ : ∃ v, OutV true wr ⟨ob, ob + 1⟩ v (tot n x k) := by
              rcases hp with ⟨st, v, l, hp, ht⟩ | ⟨v, hov⟩
              · have ht' : l ++ [] = tot n x k := ht
                rw [List.append_nil] at ht'
                exact ⟨v, ht' ▸ hp.out⟩
              · have := hov.1; omega
            obtain ⟨A5, c5, rfl⟩ := Copy.shape hov.2.2.1
            have HOV := Lib.hid hov
            have cf := full ob A5 (tot n x k).length c5 5000 wr hov.1.1 (hov.2.1 rfl).1
            have g0 := hov.1.1
            have hle : decide ((5000 : Int) < (tot n x k).length) = false := decide_eq_false (by omega)
            have HTT := Lib.hid htt
            clear hov hp htt
            generalize tot n x k = L0 at *
            go_wp2_with (go_at_call 32; refine cf.mono ?_; rintro e w5 ⟨rfl, q5, rfl⟩)
            go_ret2
            refine ⟨?_, HB.out.trans (B.below_drew (Below.refl _ _) _ |>.mono HB.out.size)⟩
            rw [HPL.out, HE4.out, if_pos rfl]
            obtain ⟨A6, c6, e6, hC⟩ := B.own_S (k := 2) (enc := stE) (hl := fun _ => rfl) (h1 := stE1) HOV.out.2.2.1 (by have := HTT.out; omega)
            cases e6
            exact ⟨_, _, rfl, hC.mono (B.below_drew (Below.refl _ _) _)⟩
          · have HE4 : Hid (E = 2) := Lib.hid (by rw [HE3.out, if_pos (by omega)])
            obtain ⟨v, l', hov, hl5⟩ : ∃ v, ∃ l' : List Step, OutV true wr ⟨ob, ob + 1⟩ v l' ∧ 5000 < l'.length := by
              rcases hp with ⟨st, v, l, hp, ht⟩ | ⟨v, hov⟩
              · have ht' : l ++ [] = tot n x k := ht
                rw [List.append_nil] at ht'
                have := hp.le
                rw [ht'] at this
                omega
              · obtain ⟨l', q1, q2, q3⟩ := hov.2; exact ⟨v, l', q3, q1⟩
            obtain ⟨A5, c5, rfl⟩ := Copy.shape hov.2.2.1
            have cf := full ob A5 l'.length c5 5000 wr hov.1.1 (hov.2.1 rfl).1
            have hle : decide ((5000 : Int) < l'.length) = true := decide_eq_true (by omega)
            clear hov hp htt hl5
            go_wp2_with (go_at_call 32; refine cf.mono ?_; rintro e w5 ⟨rfl, q5, rfl⟩)
            go_ret2
            exact ⟨by rw [HPL.out, HE4.out, if_neg (by omega)]; exact res_none _ _, HB.out.trans (B.below_drew (Below.refl _ _) _ |>.mono HB.out.size)⟩
  · have HE2 : Hid (E = q) := Lib.hid (by rw [HE.out, if_pos hq])
    have hq' : (q != 0) = true := bne_iff_ne.2 hq
    have HQ := Lib.hid hq
    clear hq HE cn co HLF
    go_enter Tryd.func12, Tryd.ntmps12
    go_wp2_with (go_at_call 11; refine (cl _ _).mono ?_; rintro e w2 ⟨rfl, hB2⟩; have HB2 := Lib.hid hB2; clear hB2)
    go_ret2
    exact ⟨by rw [HPL.out, HE2.out, if_neg HQ.out]; exact res_none _ _, B.below_trans (HA.out _ _) HB2.out⟩
/-! ### PassesOf -/
def PRunA (w0 : World) (n lo hi : Nat) (x : Lp) (b : Nat) (ob : Ob) (tot : List Step) (wr : World) (j : Nat) (st : St) (v : Value) (l : List Step) : Prop := Pre false w0 wr n lo hi x b st ob v l ∧ l ++ (playN (n + 1) x j st).2 = tot
theorem prun_callR {w0 wr : World} {n lo hi : Nat} {x : Lp} {b : Nat} {ob : Ob} {tot : List Step} {j : Nat} {st : St} {v : Value} {l : List Step} {B : Nat} (h : PRunA w0 n lo hi x b ob tot wr (j + 1) st v l) (h1 : B ≤ lo) (h2 : B ≤ ob.o) (h3 : B ≤ wr.heap.size) :
    Calls Tryd.prog 34 #[.pointer (some ⟨b, 0, none⟩), .pointer (some ⟨ob.o, 0, none⟩), .int .i64 5000] wr fun e w' => e = .returned (.bool (decide (l.length + (passS (n + 1) x st).2.length ≤ 5000))) ∧ (l.length + (passS (n + 1) x st).2.length ≤ 5000 → ∃ st v l, PRunA w0 n lo hi x b ob tot w' j st v l) ∧ (5000 < l.length + (passS (n + 1) x st).2.length → 5000 < tot.length) ∧ Below B wr w' := by
  refine (passR n _ _ _ _ _ _ _ _ _ _ h.1).mono fun e w' he => ⟨he.1, ?_⟩
  obtain ⟨h5, h6⟩ := prun_step h.1 h.2 he.2 h1 h2 h3
  refine ⟨fun hf => ?_, fun hf => ?_, h6⟩
  · rcases h5 with h | h
    · exact h.1
    · omega
  · rcases h5 with h | ⟨⟨v, hov⟩, _⟩
    · omega
    · exact hov.1
set_option maxHeartbeats 4000000 in
set_option maxRecDepth 100000 in
theorem passesOf (n : Nat) (x : Lp) (A As : Option Addr) (c c' : Nat) (M : Nat) (w : World) (h : At n w x A As) (hl : L.lf (n + 1) x = 0) (hM : M ≤ 5000) :
    Calls Tryd.prog 15 #[lv x A As c c', .int .i64 M] w fun e w' => Res2 (psL n x M) (psE n x M) e w' ∧ Below w.heap.size w w' := by
  have HA := Lib.hid (fun (c d : Array Value) (e e' : TypeId) => (((Below.refl w.heap.size w).alloc (Nat.le_refl _) (.cells c e)).alloc (by simp) (.cells d e')))
  have cn := fun W hb => newRunner n x A As c c' w W h hb
  have HAT := Lib.hid h
  have HE3 : Hid (psE n x M = if 5000 < (tot n x M).length then 2 else 0) := Lib.hid (by
    have hb : L.bad (M : Int) 0 5000 = false := by simp [L.bad]; omega
    rw [psE, if_neg (by omega), if_neg (by rw [hb]; decide), Int.toNat_natCast])
  have HPL : Hid (psL n x M = if psE n x M = 0 then tot n x M else []) := Lib.hid (by rw [psL, Int.toNat_natCast])
  generalize psE n x M = E at HE3 HPL ⊢
  generalize psL n x M = PL at HPL ⊢
  have HLF2 : Hid (L.pf (n + 1) x = 0) := Lib.hid (lf_pf hl)
  clear h hl
  unfold lv at cn ⊢
  have HOBC := Lib.hid (fun (c : Array Value) (e e' : TypeId) => Cl.new (w.alloc (.cells c e)) #[.slice none 0 0] e' 0 _ rfl)
  have HSQ := Lib.hid (fun (c : Array Value) (e : TypeId) => (by simp : (w.alloc (.cells c e)).heap.size = w.heap.size + 1))
  have HSR := Lib.hid (fun (c d : Array Value) (e e' : TypeId) => (by simp : ((w.alloc (.cells c e)).alloc (.cells d e')).heap.size = w.heap.size + 2))
  go_enter Tryd.func15, Tryd.ntmps15
  go_wp2_with (go_at_call 33; refine (cn _ (HA.out _ _ _ _)).mono ?_; rintro e w3 ⟨bk, rfl, hT3, hB3⟩; rw [HSR.out] at hT3; have HT3 := Lib.hid hT3; have HB3 := Lib.hid hB3; clear hT3 hB3)
  have HW4 : Hid (Below w.heap.size w w3) := Lib.hid (B.below_trans (HA.out _ _ _ _) HB3.out)
  have HPR : Hid (∃ st v l, PRunA w n (w.heap.size + 2) w3.heap.size x bk ⟨w.heap.size + 1, w3.heap.size⟩ (tot n x M) w3 M st v l) := Lib.hid ⟨_, _, _, pre_start (A := A) (As := As) HT3.out HAT.out HLF2.out ⟨.inl (by show w.heap.size + 1 < _; omega), Nat.le_refl _, by have := HB3.out.size; rw [HSR.out] at this; show w.heap.size + 1 < w3.heap.size; omega⟩
    (by have := (HOBC.out _ _ _).below HB3.out; rw [HSQ.out] at this; exact this) (fun h => by cases h) (Nat.le_refl _) HW4.out (by omega) (by show w.heap.size ≤ w.heap.size + 1; omega), rfl⟩
  generalize hhi : w3.heap.size = hi at HPR
  have HHI : Hid (w.heap.size + 2 ≤ hi) := Lib.hid (by have := HB3.out.size; rw [HSR.out] at this; omega)
  clear HB3 HT3 hhi cn
  go_loopw [11] (fun s wr => ∃ (k : Nat) (st : St) (v : Value) (l : List Step), s = .int .i64 k ∧ k ≤ M ∧ Hid (PRunA w n (w.heap.size + 2) hi x bk ⟨w.heap.size + 1, hi⟩ (tot n x M) wr (M - k) st v l) ∧ Hid (Below w.heap.size w wr)) (fun s _ => M - (intOf s).toNat)
  case atStart =>
    obtain ⟨st, v, l, hp⟩ := HPR.out
    exact ⟨0, st, v, l, rfl, by omega, Lib.hid hp, HW4⟩
  case round =>
    obtain ⟨k, st, v, l, rfl, hk, HP, HB⟩ := hrel
    by_cases hlt : k < M
    · have hp := HP.out
      rw [show M - k = M - (k + 1) + 1 by omega] at hp
      have cc := prun_callR hp (B := w.heap.size) (by omega) (by show w.heap.size ≤ w.heap.size + 1; omega) HB.out.size
      have hk1 : (k : Int) < M := by omega
      generalize l.length + (passS (n + 1) x st).2.length = z at cc
      clear hp
      by_cases hf : z ≤ 5000
      · have cc' := cc.mono (R' := fun e w' => e = .returned (.bool true) ∧ _ ∧ _) fun e w' he => ⟨by rw [he.1, decide_eq_true hf], he.2.1 hf, he.2.2.2⟩
        clear cc hf
        go_wp2_with (go_at_call 34; refine cc'.mono ?_; rintro e w5 ⟨rfl, ⟨st5, v5, l5, hP5⟩, hB5⟩; have HP5 := Lib.hid hP5; have HB5 := Lib.hid (HB.out.trans hB5); clear hP5 hB5)
        go_roundw
        case rel => exact ⟨k + 1, st5, v5, l5, by go_num, by omega, HP5, HB5⟩
        case measure => simp [intOf]; omega
      · have cc' := cc.mono (R' := fun e w' => e = .returned (.bool false) ∧ _ ∧ _) fun e w' he => ⟨by rw [he.1, decide_eq_false hf], he.2.2.1 (by omega), he.2.2.2⟩
        clear cc hf
        go_wp2_with (go_at_call 34; refine cc'.mono ?_; rintro e w5 ⟨rfl, hT5, hB5⟩; have HT5 := Lib.hid hT5; have HB5 := Lib.hid (HB.out.trans hB5); clear hT5 hB5)
        go_ret2
        exact ⟨by rw [HPL.out, HE3.out, if_pos HT5.out, if_neg (by omega)]; exact res_none _ _, HB5.out⟩
    · obtain rfl : k = M := by omega
      have hp := HP.out.1
      have ht : l ++ (playN (n + 1) x (k - k) st).2 = tot n x k := HP.out.2
      rw [Nat.sub_self] at ht
      have ht' : l ++ [] = tot n x k := ht
      rw [List.append_nil] at ht'
      obtain ⟨A5, c5, rfl⟩ := Copy.shape hp.out.2.2.1
      have HOV := Lib.hid hp.out
      have HLE := Lib.hid hp.le
      have HTL := Lib.hid ht'
      have g0 : wr.cell? ⟨w.heap.size + 1, 0, none⟩ = some (.slice A5 l.length c5) := hp.out.1.1
      clear hp ht ht'
      go_wp2
      go_ret2
      refine ⟨?_, HB.out⟩
      have hE : E = 0 := by rw [HE3.out, if_neg (by rw [← HTL.out]; have := HLE.out; omega)]
      rw [HPL.out, hE, if_pos rfl, ← HTL.out]
      obtain ⟨A6, c6, e6, hC⟩ := B.own_S (k := 2) (enc := stE) (hl := fun _ => rfl) (h1 := stE1) HOV.out.2.2.1 (by have := HLE.out; omega)
      cases e6
      exact ⟨_, _, rfl, hC⟩
end Go.Proofs.YtoahlklbdliebaaDoor.T
