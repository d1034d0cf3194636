/- Rounds of the program: roundOf, checked, Round. -/
import Derived.Test.YtfillnkebohciaaGreatDoorHome
import Derived.Laws.ResultCell
import Derived.Laws.Rows
namespace Go.Proofs.YtfillnkebohciaaGreatDoor.T
open Go.RowKit
open L (Lp row row1 At AtR lv kdL kid_at)
open F (Fr Cl)

/-- Passes until all is as at the beginning: how many, and the steps; none: they are too many. -/
def rnd (n : Nat) (x : Lp) : Nat → St → Nat → List Step → Option (Nat × List Step)
  | 0, _, _, _ => none
  | fu + 1, st, p, l => if 5000 < (l ++ (passS (n + 1) x st).2).length then none else if homeB n x (passS (n + 1) x st).1 = true then some (p + 1, l ++ (passS (n + 1) x st).2) else rnd n x fu (passS (n + 1) x st).1 (p + 1) (l ++ (passS (n + 1) x st).2)
def roundM (n : Nat) (x : Lp) : Option (Nat × List Step) := rnd n x 5001 (st0 n x) 0 []
theorem rnd_over {n : Nat} {x : Lp} {fu : Nat} {st : St} {p : Nat} {l : List Step} (h : 5000 < l.length + (passS (n + 1) x st).2.length) : rnd n x (fu + 1) st p l = none := by rw [rnd, if_pos (by rw [List.length_append]; exact h)]
theorem rnd_fit {n : Nat} {x : Lp} {fu : Nat} {st : St} {p : Nat} {l : List Step} (h : l.length + (passS (n + 1) x st).2.length ≤ 5000) : rnd n x (fu + 1) st p l = if homeB n x (passS (n + 1) x st).1 = true then some (p + 1, l ++ (passS (n + 1) x st).2) else rnd n x fu (passS (n + 1) x st).1 (p + 1) (l ++ (passS (n + 1) x st).2) := by
  rw [rnd, if_neg (by rw [List.length_append]; omega)]
theorem post_fit {tst : Bool} {w0 wr w' : World} {n lo hi : Nat} {x : Lp} {b : Nat} {st : St} {ob : Ob} {v : Value} {l : List Step} (h : Pre tst w0 wr n lo hi x b st ob v l) (hf : l.length + (passS (n + 1) x st).2.length ≤ 5000) (hp : PassPost tst w0 wr n lo hi x b st ob v l w') :
    (∃ v', Pre tst w0 w' n lo hi x b (passS (n + 1) x st).1 ob v' (l ++ (passS (n + 1) x st).2) ∧ NewV wr v v') ∧ Fr (Sx lo hi ob v) wr w' := by
  obtain ⟨v', hn, hf', hr⟩ := hp
  have hv : ∀ g, v.ownBlock = some g → ob.bs ≤ g := fun g e => (World.ownsRow.lt h.out.2.2.1 g e).1
  have hb : Below w0.heap.size w0 w' := h.hw0.trans (hf'.below h.hw0.size (fun k hS => by
    have h1 := h.hlo
    have h2 := h.how0
    have h3 := h.hob
    rcases hS with hS | hS | hS
    · omega
    · omega
    · have := hv k hS; omega))
  refine ⟨?_, hf'⟩
  rcases hr with ⟨a1, a2, a3⟩ | ⟨a1, a2⟩
  · exact ⟨v', ⟨a3, h.gd, by rw [List.length_append]; exact (pass_bd n x l.length st h.gd h.bd).2 a1, h.hob, a2, by rw [List.length_append]; exact a1, hb, h.hlo, h.how0⟩, hn⟩
  · omega
theorem pass_fit {w0 wr : World} {n lo hi : Nat} {x : Lp} {b : Nat} {st : St} {ob : Ob} {v : Value} {l : List Step} (h : Pre true w0 wr n lo hi x b st ob v l) (hf : l.length + (passS (n + 1) x st).2.length ≤ 5000) :
    Calls Tryz.prog 80 #[.pointer (some ⟨b, 0, none⟩), .pointer (some ⟨ob.o, 0, none⟩)] wr fun e w' => e = .returned (.tuple #[]) ∧ (∃ v', Pre true w0 w' n lo hi x b (passS (n + 1) x st).1 ob v' (l ++ (passS (n + 1) x st).2) ∧ NewV wr v v') ∧ Fr (Sx lo hi ob v) wr w' :=
  (pass n _ _ _ _ _ _ _ _ _ _ h).mono fun _ _ he => ⟨he.1, post_fit h hf he.2⟩
theorem pass_over {w0 wr : World} {n lo hi : Nat} {x : Lp} {b : Nat} {st : St} {ob : Ob} {v : Value} {l : List Step} (h : Pre true w0 wr n lo hi x b st ob v l) (hf : 5000 < l.length + (passS (n + 1) x st).2.length) :
    Calls Tryz.prog 80 #[.pointer (some ⟨b, 0, none⟩), .pointer (some ⟨ob.o, 0, none⟩)] wr fun e w' => e = .returned (.tuple #[]) ∧ (∃ v' l', OutV true w' ob v' l' ∧ 5000 < l'.length) ∧ Fr (Sx lo hi ob v) wr w' :=
  (pass n _ _ _ _ _ _ _ _ _ _ h).mono fun _ _ he => ⟨he.1, by
    obtain ⟨v', hn, hf', hr⟩ := he.2
    refine ⟨?_, hf'⟩
    rcases hr with ⟨a1, a2, a3⟩ | ⟨a1, l', a2, a3, a4⟩
    · omega
    · exact ⟨v', l', a4, a2⟩⟩
theorem Pre.fr {tst : Bool} {w0 w w' : World} {n lo hi : Nat} {x : Lp} {b : Nat} {st : St} {ob : Ob} {v : Value} {l : List Step} {S : Nat → Prop} (h : Pre tst w0 w n lo hi x b st ob v l) (hf : Fr S w w') (h1 : ∀ k, lo ≤ k → k < hi → ¬ S k) (h2 : ¬ S ob.o) (h3 : ∀ g, v.ownBlock = some g → ¬ S g) (h4 : ∀ k, S k → w0.heap.size ≤ k) : Pre tst w0 w' n lo hi x b st ob v l :=
  ⟨h.tr.fr hf h1, h.gd, h.bd, h.hob, h.out.fr hf h2 h3, h.le, h.hw0.trans (hf.below h.hw0.size h4), h.hlo, h.how0⟩
theorem stC_fr {w w' : World} {g : Nat} {l : List Step} {S : Nat → Prop} (h : stK.C w (some ⟨g, 0, none⟩) l) (hf : Fr S w w') (hg : ¬ S g) : stK.C w' (some ⟨g, 0, none⟩) l :=
  ⟨h.1, fun hp => by
    obtain ⟨b, off, e, hc⟩ := h.2 hp
    cases e
    refine ⟨g, 0, rfl, fun j hj => ?_⟩
    obtain ⟨cs, hK, hcs⟩ := hc j hj
    exact ⟨cs, hK, fun i hi => hf.cell hg (hcs i hi)⟩⟩
theorem step_at {w : World} {g : Nat} {l : List Step} (h : stK.C w (some ⟨g, 0, none⟩) l) (k : Nat) (hk : k < l.length) : w.cell? ⟨g, k * 2, none⟩ = some (.string l[k].1) ∧ w.cell? ⟨g, k * 2 + 1, none⟩ = some (.int .i64 l[k].2) := by
  obtain ⟨b, off, cs, e, K, hc⟩ := h.at k hk
  cases e
  have K' : cs = [.string l[k].1, .int .i64 l[k].2] := K
  subst K'
  have h0 := hc 0 (by simp)
  have h1 := hc 1 (by simp)
  exact ⟨by simpa [stK, B.Kd.flat] using h0, by simpa [stK, B.Kd.flat] using h1⟩
/-- How long steps are. -/
def lng (l : List Step) : Int := sumI (l.map (·.2)) 0
def cellNat (w : World) (b : Nat) : Nat := match w.cell? ⟨b, 0, none⟩ with | some (.int _ n) => n.toNat | _ => 0
/-- A round, or the error. -/
def ResR (R : Option (Nat × List Step)) (e : Ending) (w' : World) : Prop := match R with
  | some (p, l) => ∃ A c, e = .returned (.tuple #[.agg #[.int .i64 p, .slice A l.length c, .int .i64 (lng l)], .int .i64 0]) ∧ stK.C w' A l
  | none => e = .returned (.tuple #[.agg #[.int .i64 0, .slice none 0 0, .int .i64 0], .int .i64 2])
theorem results_cell_tmp_row {P : Program} {fn : Func} {p u : Tmp} {ty : TypeId} (h : fn.results = #[.cell p ty, .tmp u]) (tmps : Array Value) (w : World) (g : Nat) (t : TypeId) (cs : Array Value) (fr : Nat × Nat) (d : TypeDesc)
    (hp : tmps.getD p undef = .pointer (some ⟨g, 0, none⟩)) (hg : w.heap[g]? = some (.cells cs t fr)) (hu : P.underlying ty = some d) (hd : (match d with | .struct _ | .array _ _ => true | _ => false) = true) (hi : (P.info? ty).map (·.size) = some cs.size) :
    (results fn tmps).run P w = .ok (.tuple #[.agg cs, tmps.getD u undef]) w := by
  rw [results_cell_tmp h, hp]
  simp [asAddr, run_loadVar_row w g t ty cs fr d hg hu hd hi, Result.andThen]
theorem set3 {w : World} {g : Nat} {a b c a' b' c' : Value} {t : TypeId} {fr : Nat × Nat} (h : w.heap[g]? = some (.cells #[a, b, c] t fr)) :
    (((w.setCell ⟨g, 0, none⟩ a').setCell ⟨g, 1, none⟩ b').setCell ⟨g, 2, none⟩ c').heap[g]? = some (.cells #[a', b', c'] t fr) := by
  simp [World.setCell, Array.getElem?_modify, h]
theorem below3 {B : Nat} {w W : World} (h : Below B w W) {g : Nat} (hg : B ≤ g) (u v y : Value) : Below B w (((W.setCell ⟨g, 0, none⟩ u).setCell ⟨g, 1, none⟩ v).setCell ⟨g, 2, none⟩ y) := ((h.setCell hg u).setCell hg v).setCell hg y
set_option maxHeartbeats 8000000 in
set_option maxRecDepth 100000 in
theorem roundOf (n : Nat) (x : Lp) (A As : Option Addr) (c c' : Nat) (w : World) (h : At n w x A As) (hp : L.pf (n + 1) x = 0) :
    Calls Tryz.prog 49 #[lv x A As c c'] w fun e w' => ResR (roundM n x) e w' ∧ Below w.heap.size w w' := by
  have HA := Lib.hid (fun (c d : Array Value) (e e' : TypeId) => (((Below.refl w.heap.size w).alloc (Nat.le_refl _) (.cells c e)).alloc (by simp) (.cells d e')))
  have cn := fun W hb => newPart n x A As c c' w W h hb
  have HAT := Lib.hid h
  have HP := Lib.hid hp
  have HT := Lib.hid (fun (c c' : Array Value) (o o' : TypeId) (w2 : World) => @Copy.two w w2 c c' o o')
  have HSR := Lib.hid (fun (c d : Array Value) (e e' : TypeId) => (by simp : ((w.alloc (.cells c e)).alloc (.cells d e')).heap.size = w.heap.size + 2))
  have HRM : Hid (roundM n x = rnd n x 5001 (st0 n x) 0 []) := Lib.hid rfl
  generalize roundM n x = R at HRM ⊢
  clear h hp
  unfold lv at cn ⊢
  go_enter Tryz.func49, Tryz.ntmps49
  go_wp2_with (go_at_call 78; refine (cn _ (HA.out _ _ _ _)).mono ?_; rintro e w3 ⟨bk, rfl, hT3, hB3⟩; have HT2 := Lib.hid (HT.out _ _ _ _ _ hB3); rw [HSR.out] at hT3; have HT3 := Lib.hid hT3; have HB3 := Lib.hid hB3; clear hT3 hB3)
  have HSZ : Hid (w.heap.size + 2 ≤ w3.heap.size) := Lib.hid (by have := HB3.out.size; rw [HSR.out] at this; exact this)
  have HC1 := Lib.hid (fun i u (h : (#[Value.slice none 0 0, .int .i64 5000] : Array Value)[i]? = some u) => (Cl.new w3 #[.slice none 0 0, .int .i64 5000] 139 i u h).below ((Below.refl _ _).alloc (Nat.le_refl _) (.cells #[.int .i64 0, .slice none 0 0, .int .i64 0] 82)))
  have HC2 : Hid (∀ i u, (#[Value.int .i64 0, .slice none 0 0, .int .i64 0] : Array Value)[i]? = some u → Cl ((w3.alloc (.cells #[.slice none 0 0, .int .i64 5000] 139)).alloc (.cells #[.int .i64 0, .slice none 0 0, .int .i64 0] 82)) (w3.heap.size + 1) i u) := Lib.hid (fun i u h => by
    have := Cl.new (w3.alloc (.cells #[.slice none 0 0, .int .i64 5000] 139)) #[.int .i64 0, .slice none 0 0, .int .i64 0] 82 i u h
    simpa using this)
  have HB5 : Hid (Below w3.heap.size w3 ((w3.alloc (.cells #[.slice none 0 0, .int .i64 5000] 139)).alloc (.cells #[.int .i64 0, .slice none 0 0, .int .i64 0] 82))) := Lib.hid (((Below.refl _ w3).alloc (Nat.le_refl _) _).alloc (by simp) _)
  have HPR : Hid (Pre true w ((w3.alloc (.cells #[.slice none 0 0, .int .i64 5000] 139)).alloc (.cells #[.int .i64 0, .slice none 0 0, .int .i64 0] 82)) n (w.heap.size + 2) w3.heap.size x bk (st0 n x) ⟨w3.heap.size, w3.heap.size + 2⟩ (.slice none 0 0) []) := Lib.hid
    (pre_start (A := A) (As := As) (HT3.out.fr (S := fun _ => False) (Fr.of_below HB5.out) (fun _ _ _ h => h)) HAT.out HP.out ⟨.inr (Nat.le_refl _), by show w3.heap.size ≤ w3.heap.size + 2; omega, by show w3.heap.size < w3.heap.size + 2; omega⟩
      (HC1.out 0 _ rfl) (fun _ => HC1.out 1 _ rfl) (by simp) ((B.below_trans (HA.out _ _ _ _) HB3.out).trans (HB5.out.mono (by have := HSZ.out; omega))) (by omega) (by have := HSZ.out; show w.heap.size ≤ w3.heap.size; omega))
  have HB6 := Lib.hid (HB5.out.mono HSZ.out)
  have HTT := Lib.hid (fun W (hb : Below (w.heap.size + 2) w3 W) => HT.out _ _ _ _ W (HB3.out.trans (by rw [HSR.out]; exact hb)))
  have HBW := Lib.hid (fun W (hb : Below (w.heap.size + 2) w3 W) => (B.below_trans (HA.out _ _ _ _) HB3.out).trans (hb.mono (by omega)))
  have HROW : Hid (∀ W, Below (w.heap.size + 2) w3 W → W.heap[w.heap.size + 1]? = some (.cells #[.int .i64 0, .slice none 0 0, .int .i64 0] 82 (0, 0))) := Lib.hid (fun W hb => by
    rw [hb.block _ (by omega), HB3.out.block _ (by rw [HSR.out]; omega)]
    exact heap_alloc2_new w _ _)
  clear HB3 HT3 HT2 cn
  generalize ((w3.alloc (.cells #[.slice none 0 0, .int .i64 5000] 139)).alloc (.cells #[.int .i64 0, .slice none 0 0, .int .i64 0] 82)) = W5 at *
  have HS3 := Lib.hid HSZ.out
  generalize hob : w3.heap.size = ob at HPR HSZ HC1 HC2 ⊢
  clear hob
  go_loopw [15] (fun _ wr => ∃ (p : Nat) (st : St) (v : Value) (l : List Step), p ≤ 5000 ∧ Hid (p ≤ l.length) ∧ Hid (Pre true w wr n (w.heap.size + 2) ob x bk st ⟨ob, ob + 2⟩ v l) ∧ Hid (Cl wr (ob + 1) 0 (.int .i64 p)) ∧ Hid (Cl wr (ob + 1) 1 (.slice none 0 0)) ∧ Hid (Cl wr (ob + 1) 2 (.int .i64 0)) ∧ Hid (Below (w.heap.size + 2) w3 wr) ∧ Hid (p = 0 ∨ homeB n x st = false → rnd n x (5001 - p) st p l = R) ∧ Hid (0 < p → homeB n x st = true → R = some (p, l))) (fun _ w => 5001 - cellNat w (ob + 1))
  case atStart => exact ⟨0, st0 n x, _, [], by omega, Lib.hid (Nat.zero_le _), HPR, Lib.hid (HC2.out 0 _ rfl), Lib.hid (HC2.out 1 _ rfl), Lib.hid (HC2.out 2 _ rfl), HB6, Lib.hid (fun _ => HRM.out.symm), Lib.hid (fun h => absurd h (by omega))⟩
  case round =>
    obtain ⟨p, st, v, l, hp5, HPL, HPre, H0, H1, H2, HBL, HR1, HR2⟩ := hrel
    have cb := begins n x bk st (w.heap.size + 2) ob w wr HPre.out.tr HPre.out.gd (HPre.out.bd.le HPre.out.le) HPre.out.hw0
    have g0 := H0.out.1
    have gz := H0.out.2
    by_cases hgo : p = 0 ∨ homeB n x st = false
    · have HRR := Lib.hid (HR1.out hgo)
      have hpc : (∃ _ : Hid (p = 0), ((p : Int) == 0) = true) ∨ (∃ _ : Hid (homeB n x st = false), ((p : Int) == 0) = false) := by
        by_cases h0 : p = 0
        · exact .inl ⟨Lib.hid h0, by subst h0; rfl⟩
        · exact .inr ⟨Lib.hid (hgo.resolve_left h0), by rw [beq_eq_false_iff_ne]; omega⟩
      clear hgo
      have hfu : 5001 - p = (5000 - p) + 1 := by omega
      have HFU := Lib.hid hfu
      clear hfu
      have HSX : Hid (∀ k, Sx (w.heap.size + 2) ob ⟨ob, ob + 2⟩ v k → w.heap.size + 2 ≤ k) := Lib.hid (fun k hS => by
        rcases hS with hS | hS | hS
        · exact hS.1
        · have hS' : k = ob := hS
          have := HSZ.out
          omega
        · have h1 : ob + 2 ≤ k := (World.ownsRow.lt HPre.out.out.2.2.1 _ hS).1
          have := HSZ.out
          omega)
      by_cases hf : l.length + (passS (n + 1) x st).2.length ≤ 5000
      · have HPO := Lib.hid ((pass_bd n x l.length st HPre.out.gd HPre.out.bd).1)
        have cc := fun W (hb : Below wr.heap.size wr W) => pass_fit (st := st) (v := v) (l := l) (w0 := w) (wr := W) (n := n) (x := x) (b := bk) (ob := ⟨ob, ob + 2⟩) (lo := w.heap.size + 2) (hi := ob) ⟨HPre.out.tr.fr (S := fun _ => False) (Fr.of_below hb) (fun _ _ _ h => h), HPre.out.gd, HPre.out.bd, HPre.out.hob, HPre.out.out.below hb, HPre.out.le, HPre.out.hw0.trans (hb.mono HPre.out.hw0.size), HPre.out.hlo, HPre.out.how0⟩ hf
        have hrr := HRR.out
        rw [HFU.out, rnd_fit hf] at hrr
        have HRF := Lib.hid hrr
        have HF := Lib.hid hf
        have HS1 : Hid (∀ W W' i u, Below wr.heap.size wr W → Fr (Sx (w.heap.size + 2) ob ⟨ob, ob + 2⟩ v) W W' → Cl wr (ob + 1) i u → Cl W' (ob + 1) i u) := Lib.hid (fun W W' i u hb hf hc => ((hc.below hb).fr hf (fun hS => by
          rcases hS with hS | hS | hS
          · omega
          · have hS' : ob + 1 = ob := hS
            omega
          · have h1 : ob + 2 ≤ ob + 1 := (World.ownsRow.lt HPre.out.out.2.2.1 _ hS).1
            omega)))
        clear hrr hf
        rcases hpc with ⟨h0, hb0⟩ | ⟨h0, hb0⟩
        rotate_left
        rw [h0.out] at cb
        all_goals
          clear h0
          go_wp2_with (first
            | (go_at_call 79; refine cb.mono ?_; rintro e w4 ⟨rfl, hB4⟩; have HB4 := Lib.hid hB4; clear hB4)
            | (go_at_call 80; refine (cc _ (by first | exact HB4.out | exact Below.refl _ _)).mono ?_; rintro e w5 ⟨rfl, ⟨v5, hP5, -⟩, hF5⟩; have HF5 := Lib.hid hF5; have HQ5 := Lib.hid (fun i u hc => HS1.out _ w5 i u (by first | exact HB4.out | exact Below.refl _ _) HF5.out hc); have y0 := (HQ5.out 0 _ H0.out).1; have yz := (HQ5.out 0 _ H0.out).2; have HP6 := Lib.hid (hP5.fr (S := fun k => k = ob + 1) (Fr.set (p := ⟨ob + 1, 0, none⟩) (Fr.refl (fun k => k = ob + 1) w5) (fun _ => rfl) (.int .i64 (p + 1))) (fun k k1 k2 e => by omega) (by show ¬ ob = ob + 1; omega) (fun g e e2 => by have h1 : ob + 2 ≤ g := (World.ownsRow.lt hP5.out.2.2.1 _ e).1; omega) (fun k e => by have := HSZ.out; omega)); have HBX : Hid (Below (w.heap.size + 2) w3 w5) := Lib.hid ((by first | exact HBL.out.trans (HB4.out.mono (Nat.le_trans HS3.out HBL.out.size)) | exact HBL.out : Below (w.heap.size + 2) w3 _).trans (hF5.below (by first | exact Nat.le_trans HS3.out (Nat.le_trans HBL.out.size HB4.out.size) | exact Nat.le_trans HS3.out HBL.out.size) (HSX.out))); clear hP5 hF5; obtain ⟨A5, c5, e5⟩ := Copy.shape HP6.out.out.2.2.1; have HE5 := Lib.hid e5; clear e5; have cf := full ob A5 _ c5 5000 _ (by rw [← HE5.out]; exact HP6.out.out.1.1) (HP6.out.out.2.1 rfl).1; have hle : decide ((5000 : Int) < ((l ++ (passS (n + 1) x st).2).length : Nat)) = false := decide_eq_false (by have := HP6.out.le; omega); rw [hle] at cf; clear hle; have hp6 : p + 1 ≤ 5000 := (by have := HPL.out; have := HPO.out; have := HF.out; omega); have hp7 : decide ((5000 : Int) < (p : Int) + 1) = false := decide_eq_false (by omega))
            | (go_at_call 81; refine cf.mono ?_; rintro e w6 ⟨rfl, q6, rfl⟩))
          go_roundw
          case rel => exact ⟨p + 1, (passS (n + 1) x st).1, v5, l ++ (passS (n + 1) x st).2, hp6, Lib.hid (by rw [List.length_append]; have := HPL.out; have := HPO.out; omega), Lib.hid (HP6.out.fr (S := fun _ => False) (Fr.of_below (B.below_drew (Below.refl _ _) _)) (fun _ _ _ h => h) (fun h => h) (fun _ _ h => h) (fun _ h => h.elim)), Lib.hid (((HQ5.out 0 _ H0.out).set _).below (B.below_drew (Below.refl _ _) _)), Lib.hid (((HQ5.out 1 _ H1.out).set_ne (by intro e; cases e) _).below (B.below_drew (Below.refl _ _) _)), Lib.hid (((HQ5.out 2 _ H2.out).set_ne (by intro e; cases e) _).below (B.below_drew (Below.refl _ _) _)),
            Lib.hid (HBX.out.trans (((Fr.set (p := ⟨ob + 1, 0, none⟩) (Fr.refl (fun k => k = ob + 1) w5) (fun _ => rfl) (.int .i64 (p + 1))).drew _).below (Nat.le_trans HS3.out HBX.out.size) (fun k e => by have := HSZ.out; omega))),
            Lib.hid (fun h => by
              have hh : homeB n x (passS (n + 1) x st).1 = false := h.resolve_left (by omega)
              have := HRF.out
              rw [if_neg (by rw [hh]; decide)] at this
              rw [show 5001 - (p + 1) = 5000 - p by omega]
              exact this), Lib.hid (fun _ h => by have := HRF.out; rw [if_pos h] at this; exact this.symm)⟩
          case measure =>
            have e1 := ((HQ5.out 0 _ H0.out).set (.int .i64 ((p : Int) + 1))).1
            have e2 : cellNat ((w5.setCell ⟨ob + 1, 0, none⟩ (.int .i64 ((p : Int) + 1))).drewN q6) (ob + 1) = p + 1 := by
              have e3 : ((w5.setCell ⟨ob + 1, 0, none⟩ (.int .i64 ((p : Int) + 1))).drewN q6).cell? ⟨ob + 1, 0, none⟩ = some (.int .i64 ((p : Int) + 1)) := e1
              unfold cellNat
              rw [e3]
              show ((p : Int) + 1).toNat = p + 1
              omega
            have e4 : cellNat wr (ob + 1) = p := by
              unfold cellNat
              rw [H0.out.1]
              show (p : Int).toNat = p
              omega
            rw [e2, e4]
            omega
      · have hf' : 5000 < l.length + (passS (n + 1) x st).2.length := by omega
        have cc := fun W (hb : Below wr.heap.size wr W) => pass_over (st := st) (v := v) (l := l) (w0 := w) (wr := W) (n := n) (x := x) (b := bk) (ob := ⟨ob, ob + 2⟩) (lo := w.heap.size + 2) (hi := ob) ⟨HPre.out.tr.fr (S := fun _ => False) (Fr.of_below hb) (fun _ _ _ h => h), HPre.out.gd, HPre.out.bd, HPre.out.hob, HPre.out.out.below hb, HPre.out.le, HPre.out.hw0.trans (hb.mono HPre.out.hw0.size), HPre.out.hlo, HPre.out.how0⟩ hf'
        have hrr := HRR.out
        rw [HFU.out, rnd_over hf'] at hrr
        have HRF := Lib.hid hrr
        have HS1 : Hid (∀ W W' i u, Below wr.heap.size wr W → Fr (Sx (w.heap.size + 2) ob ⟨ob, ob + 2⟩ v) W W' → Cl wr (ob + 1) i u → Cl W' (ob + 1) i u) := Lib.hid (fun W W' i u hb hf hc => ((hc.below hb).fr hf (fun hS => by
          rcases hS with hS | hS | hS
          · omega
          · have hS' : ob + 1 = ob := hS
            omega
          · have h1 : ob + 2 ≤ ob + 1 := (World.ownsRow.lt HPre.out.out.2.2.1 _ hS).1
            omega)))
        clear hrr hf hf'
        rcases hpc with ⟨h0, hb0⟩ | ⟨h0, hb0⟩
        rotate_left
        rw [h0.out] at cb
        all_goals
          clear h0
          go_wp2_with (first
            | (go_at_call 79; refine cb.mono ?_; rintro e w4 ⟨rfl, hB4⟩; have HB4 := Lib.hid hB4; clear hB4)
            | (go_at_call 80; refine (cc _ (by first | exact HB4.out | exact Below.refl _ _)).mono ?_; rintro e w5 ⟨rfl, ⟨v5, l5, hO5, hL5⟩, hF5⟩; have HF5 := Lib.hid hF5; have HQ5 := Lib.hid (fun i u hc => HS1.out _ w5 i u (by first | exact HB4.out | exact Below.refl _ _) HF5.out hc); have y0 := (HQ5.out 0 _ H0.out).1; have yz := (HQ5.out 0 _ H0.out).2; have HO6 := Lib.hid (hO5.fr (S := fun k => k = ob + 1) (Fr.set (p := ⟨ob + 1, 0, none⟩) (Fr.refl (fun k => k = ob + 1) w5) (fun _ => rfl) (.int .i64 (p + 1))) (by show ¬ ob = ob + 1; omega) (fun g e e2 => by have h1 : ob + 2 ≤ g := (World.ownsRow.lt hO5.2.2.1 _ e).1; omega)); have HBX : Hid (Below (w.heap.size + 2) w3 ((w5.setCell ⟨ob + 1, 0, none⟩ (.int .i64 (p + 1))))) := Lib.hid (((by first | exact HBL.out.trans (HB4.out.mono (Nat.le_trans HS3.out HBL.out.size)) | exact HBL.out : Below (w.heap.size + 2) w3 _).trans (hF5.below (by first | exact Nat.le_trans HS3.out (Nat.le_trans HBL.out.size HB4.out.size) | exact Nat.le_trans HS3.out HBL.out.size) (HSX.out))).trans ((Fr.set (p := ⟨ob + 1, 0, none⟩) (Fr.refl (fun k => k = ob + 1) w5) (fun _ => rfl) (.int .i64 (p + 1))).below (Nat.le_trans HS3.out (by first | exact Nat.le_trans (Nat.le_trans HBL.out.size HB4.out.size) hF5.size | exact Nat.le_trans HBL.out.size hF5.size)) (fun k e => by have := HSZ.out; omega))); clear hF5 hO5; obtain ⟨A5, c5, e5⟩ := Copy.shape HO6.out.2.2.1; have HE5 := Lib.hid e5; clear e5; have cf := full ob A5 _ c5 5000 _ (by rw [← HE5.out]; exact HO6.out.1.1) (HO6.out.2.1 rfl).1; have hle : decide ((5000 : Int) < (l5.length : Nat)) = true := decide_eq_true (by omega); rw [hle] at cf; clear hle hL5)
            | (go_at_call 81; refine cf.mono ?_; rintro e w6 ⟨rfl, q6, rfl⟩; have HBY := Lib.hid (HBX.out.trans (B.below_drew (Below.refl _ _) q6 |>.mono (Nat.le_trans HS3.out HBX.out.size))); have HZ := HTT.out _ HBY.out; have z0 := HZ.2.1 0 _ rfl; have z1 := HZ.2.1 1 _ rfl; have z2 := HZ.2.1 2 _ rfl; have fz := HZ.2.2.2; clear HZ))
          refine bodyPost_ret (results_cell_tmp_row rfl _ _ (w.heap.size + 1) 82 #[.int .i64 0, .slice none 0 0, .int .i64 0] (0, 0) _ rfl (set3 (a := .int .i64 0) (b := .slice none 0 0) (c := .int .i64 0) (HROW.out _ HBY.out)) Tryz.underlying82 rfl (by kernel_rfl)) rfl ?_
          exact ⟨by rw [← HRF.out]; rfl, below3 (HBW.out _ HBY.out) (by omega) _ _ _⟩
    · have hp0 : 0 < p := by
        rcases Nat.eq_zero_or_pos p with h | h
        · exact absurd (.inl h) hgo
        · exact h
      have hho : homeB n x st = true := by
        cases hh : homeB n x st with
        | true => rfl
        | false => exact absurd (.inr hh) hgo
      have HRF := Lib.hid (HR2.out hp0 hho)
      have hb0 : ((p : Int) == 0) = false := by rw [beq_eq_false_iff_ne]; omega
      rw [hho] at cb
      obtain ⟨A5, c5, rfl⟩ := Copy.shape HPre.out.out.2.2.1
      have HOV := Lib.hid HPre.out.out
      have HLE := Lib.hid HPre.out.le
      have hll : l.length ≤ 5000 := HPre.out.le
      have HP0 := Lib.hid hp0
      clear hgo hho hp0 HR1 HR2
      have HY : Hid (∀ W, Below wr.heap.size wr W → Cl W ob 0 (.slice A5 l.length c5) ∧ Cl W (ob + 1) 0 (.int .i64 p) ∧ Cl W (ob + 1) 1 (.slice none 0 0) ∧ Cl W (ob + 1) 2 (.int .i64 0) ∧ stK.C W A5 l ∧ Below (w.heap.size + 2) w3 W) := Lib.hid (fun W hb => by
        obtain ⟨A6, c6, e6, hC⟩ := B.own_S (k := 2) (enc := stE) (hl := fun _ => rfl) (h1 := stE1) HOV.out.2.2.1 (by omega)
        cases e6
        exact ⟨HOV.out.1.below hb, H0.out.below hb, H1.out.below hb, H2.out.below hb, hC.mono hb, HBL.out.trans (hb.mono (Nat.le_trans HS3.out HBL.out.size))⟩)
      go_wp2_with (go_at_call 79; refine cb.mono ?_; rintro e w4 ⟨rfl, hB4⟩; have HY4 := Lib.hid (HY.out w4 hB4); clear hB4; have y0 := HY4.out.1.1; have y1 := HY4.out.2.2.1.1; have y2 := HY4.out.2.2.1.2)
      obtain ⟨g, rfl, hg5, -⟩ := L.own_blk HOV.out.2.2.1 (by have := HPL.out; have := HP0.out; omega)
      have HG5 : Hid (ob + 2 ≤ g) := Lib.hid hg5
      have HC4 := Lib.hid HY4.out.2.2.2.2.1
      have HB4 := Lib.hid HY4.out.2.2.2.2.2
      have H64 : Hid (Cl w4 (ob + 1) 0 (.int .i64 p)) := Lib.hid HY4.out.2.1
      have H65 : Hid (Cl (w4.setCell ⟨ob + 1, 1, none⟩ (.slice (some ⟨g, 0, none⟩) l.length c5)) (ob + 1) 1 (.slice (some ⟨g, 0, none⟩) l.length c5)) := Lib.hid (HY4.out.2.2.1.set _)
      have H66 : Hid (Cl (w4.setCell ⟨ob + 1, 1, none⟩ (.slice (some ⟨g, 0, none⟩) l.length c5)) (ob + 1) 2 (.int .i64 0)) := Lib.hid (HY4.out.2.2.2.1.set_ne (by intro e; cases e) _)
      have H67 : Hid (Cl (w4.setCell ⟨ob + 1, 1, none⟩ (.slice (some ⟨g, 0, none⟩) l.length c5)) (ob + 1) 0 (.int .i64 p)) := Lib.hid (H64.out.set_ne (by intro e; cases e) _)
      have HF6 : Hid (Fr (fun k => k = ob + 1) w4 (w4.setCell ⟨ob + 1, 1, none⟩ (.slice (some ⟨g, 0, none⟩) l.length c5))) := Lib.hid (Fr.set (p := ⟨ob + 1, 1, none⟩) (Fr.refl (fun k => k = ob + 1) w4) (fun _ => rfl) _)
      clear HY4 y0 y1 y2 hg5
      generalize w4.setCell ⟨ob + 1, 1, none⟩ (.slice (some ⟨g, 0, none⟩) l.length c5) = W6 at *
      go_loopw [45] (fun s wr => ∃ (k : Nat) (t : Int), s = .int .i64 k ∧ k ≤ l.length ∧ Hid (sumI ((l.drop k).map (·.2)) t = lng l) ∧ Hid (Cl wr (ob + 1) 0 (.int .i64 p)) ∧ Hid (Cl wr (ob + 1) 1 (.slice (some ⟨g, 0, none⟩) l.length c5)) ∧ Hid (Cl wr (ob + 1) 2 (.int .i64 t)) ∧ Hid (Fr (fun k => k = ob + 1) w4 wr)) (fun s _ => l.length - (intOf s).toNat)
      case atStart => exact ⟨0, 0, rfl, by omega, Lib.hid (by rw [List.drop_zero]; rfl), H67, H65, H66, HF6⟩
      case round =>
        obtain ⟨k, t, rfl, hk, HT9, K0, K1, K2, HF7⟩ := hrel
        by_cases hlt : k < l.length
        · obtain ⟨f0, f1⟩ := step_at (stC_fr HC4.out HF7.out (by have := HG5.out; omega)) k hlt
          have hk1 : (k : Int) < l.length := by omega
          have h9 := HT9.out
          rw [List.drop_eq_getElem_cons hlt, List.map_cons, sumI, w64_eq] at h9
          have HT10 := Lib.hid h9
          generalize l[k].1 = s1 at f0
          generalize l[k].2 = s2 at f1 HT10
          have HLT : Hid (ob + 1 < wr.heap.size) := Lib.hid K0.out.lt
          have HK2 := Lib.hid (fun o => (K2.out.below ((Below.refl _ wr).alloc (Nat.le_refl _) o)))
          have k2 := fun o => (HK2.out o).1
          have k2z := fun o => (HK2.out o).2
          clear h9
          go_wp2
          go_roundw
          case rel => exact ⟨k + 1, wrap64 (t + s2), by go_num, by omega, HT10, Lib.hid ((K0.out.below ((Below.refl _ wr).alloc (Nat.le_refl _) _)).set_ne (by intro e; cases e) _), Lib.hid ((K1.out.below ((Below.refl _ wr).alloc (Nat.le_refl _) _)).set_ne (by intro e; cases e) _), Lib.hid ((HK2.out _).set _), Lib.hid ((HF7.out.alloc _).set (fun _ => rfl) _)⟩
          case measure => simp [intOf]; omega
        · obtain rfl : k = l.length := by omega
          have h9 := HT9.out
          rw [List.drop_length] at h9
          have HT10 : Hid (t = lng l) := Lib.hid h9
          have k0 := K0.out.1
          have k1 := K1.out.1
          have k2 := K2.out.1
          have HBZ : Hid (Below (w.heap.size + 2) w3 wr) := Lib.hid (HB4.out.trans (HF7.out.below (Nat.le_trans HS3.out HB4.out.size) (fun k e => by have := HSZ.out; omega)))
          have HZ := HTT.out _ HBZ.out
          have z0 := HZ.2.1 0 _ rfl
          have z1 := HZ.2.1 1 _ rfl
          have z2 := HZ.2.1 2 _ rfl
          have fz := HZ.2.2.2
          clear HZ h9 hlt hk
          go_wp2
          refine bodyPost_ret (results_cell_tmp_row rfl _ _ (w.heap.size + 1) 82 #[.int .i64 p, .slice (some ⟨g, 0, none⟩) l.length c5, .int .i64 t] (0, 0) _ rfl (set3 (a := .int .i64 0) (b := .slice none 0 0) (c := .int .i64 0) (HROW.out _ HBZ.out)) Tryz.underlying82 rfl (by kernel_rfl)) rfl ?_
          refine ⟨?_, below3 (HBW.out _ HBZ.out) (by omega) _ _ _⟩
          rw [HRF.out]
          refine ⟨_, _, by rw [HT10.out]; rfl, stC_fr (S := fun k => k = ob + 1 ∨ k = w.heap.size + 1) HC4.out ((((Fr.weak HF7.out (fun _ _ h => .inl h)).set (p := ⟨w.heap.size + 1, 0, none⟩) (fun _ => .inr rfl) _).set (p := ⟨w.heap.size + 1, 1, none⟩) (fun _ => .inr rfl) _).set (p := ⟨w.heap.size + 1, 2, none⟩) (fun _ => .inr rfl) _) (by have := HG5.out; have := HSZ.out; omega)⟩
end Go.Proofs.YtfillnkebohciaaGreatDoor.T
