/- signlaw1.loopsShrink and LoopsShrink answer true. Printed by wip/gen/lsgen.py. -/
import Derived.Test.YtlfobpjefklccaaDoorLeastOf
import Derived.Test.YtlfobpjefklccaaDoorSameP
import Derived.Test.YtlfobpjefklccaaDoorOr
import Derived.Test.YtlfobpjefklccaaDoorLpStay
import Derived.Deep.RegionHeld3
import Derived.Deep.Cut
import Derived.Test.YtlfobpjefklccaaDoorClone

/- The program's Least. Printed by wip/gen/lstgen.py. -/
namespace Go.Proofs.YtlfobpjefklccaaDoor.H
open Go.RowKit
open L (Lp row row1 At AtR lv kdL kid_at rowR)
open F (Fr Cl)

theorem lgs_parts (f : Lp → Int → Int → Bool × Int) (d : Int) : ∀ (ks : List Lp) (m : Int), (∀ k ∈ ks, ∀ m, (f k d m).1 = false → (f k d m).2 = m + parts k) → (L.lgs f ks d m).1 = false → (L.lgs f ks d m).2 = m + partsL ks := by
  intro ks
  induction ks with
  | nil => intro m _ _; simp [L.lgs, partsL]
  | cons k ks ih =>
    intro m hf h
    rw [L.lgs] at h ⊢
    by_cases hk : (f k d m).1 = true
    · rw [if_pos hk] at h; cases h
    · rw [if_neg hk] at h ⊢
      rw [ih _ (fun j hj => hf j (List.mem_cons_of_mem _ hj)) h, hf k List.mem_cons_self m (by simpa using hk), partsL]
      omega
theorem lg_parts : ∀ (n : Nat) (x : Lp) (d m : Int), Dp n x → (L.lg (n + 1) x d m).1 = false → (L.lg (n + 1) x d m).2 = m + parts x := by
  intro n
  induction n with
  | zero =>
    intro x d m hd h
    have hd' : x.kids = [] := hd
    unfold L.lg at h ⊢
    split
    · rename_i h1; rw [if_pos h1] at h; cases h
    · rw [hd', L.lgs, parts_eq, hd', partsL]; omega
  | succ n ih =>
    intro x d m hd h
    unfold L.lg at h ⊢
    split
    · rename_i h1; rw [if_pos h1] at h; cases h
    · rename_i h1
      rw [if_neg h1] at h
      rw [lgs_parts _ _ x.kids (m + 1) (fun k hk m hm => ih k _ m (hd k hk) hm) h, parts_eq]
      omega
theorem lf_vd {n : Nat} {w : World} {x : Lp} {A As : Option Addr} (h : At n w x A As) (hl : L.lf (n + 1) x = 0) : Vd x ∧ parts x ≤ 200 := by
  unfold L.lf at hl
  cases hg : (L.lg (n + 1) x 1 0).1 with
  | true => rw [if_pos hg] at hl; omega
  | false =>
    rw [if_neg (by rw [hg]; simp)] at hl
    have h1 := lg_parts n x 1 0 (at_dp n w x A As h) hg
    have h2 := L.lg_le (n + 1) x 1 0 hg (by omega)
    exact ⟨⟨n, T.gd_at n w x A As h hl⟩, by omega⟩
/-- A loop that Least answers. -/
def LsRes (y : Lp) (e : Ending) (w' : World) : Prop := ∃ (R : Nat → Prop) (A' As' : Option Addr) (d d' : Nat), e = .returned (.tuple #[.agg #[.int .i64 y.kind, .string y.item, .int .i64 y.long, .int .i64 y.many, .slice A' y.kids.length d, .slice As' y.shares.length d'], .int .i64 0]) ∧ LR R w' y A' As'
set_option maxHeartbeats 4000000 in
set_option maxRecDepth 100000 in
theorem Least_bad (n : Nat) (x : Lp) (A As : Option Addr) (c c' : Nat) (w : World) (h : At n w x A As) (hq : L.lf (n + 1) x ≠ 0) :
    Calls Tryd.prog 9 #[lv x A As c c'] w fun e w' => e = .returned (.tuple #[.agg #[.int .i64 0, .string ⟨#[]⟩, .int .i64 0, .int .i64 0, .slice none 0 0, .slice none 0 0], .int .i64 (L.lf (n + 1) x)]) ∧ Below w.heap.size w w' := by
  have HC := Lib.hid (fun (W : World) (hb : Below w.heap.size w W) => L.checkLoop n x A As c c' W (h.mono hb))
  have hq0 : (L.lf (n + 1) x != 0) = true := bne_iff_ne.2 hq
  generalize L.lf (n + 1) x = q at *
  clear h
  unfold lv at HC ⊢
  go_enter Tryd.func9, Tryd.ntmps9
  go_wp2_with (go_at_call 20; have HZ := Lib.hid (@Bz.new w x A As c c'); refine (HC.out _ HZ.out.bl).mono ?_; rintro e w1 ⟨rfl, hB1⟩; have HZ1 := Lib.hid (HZ.out.below hB1); clear hB1; have r0 := HZ1.out.q 0 _ rfl; have r1 := HZ1.out.q 1 _ rfl; have r2 := HZ1.out.q 2 _ rfl; have r3 := HZ1.out.q 3 _ rfl; have r4 := HZ1.out.q 4 _ rfl; have r5 := HZ1.out.q 5 _ rfl; have rz := HZ1.out.qz)
  go_simp
  have hrow : ((((((w1.setCell ⟨w.heap.size + 1, 0, none⟩ (.int .i64 0)).setCell ⟨w.heap.size + 1, 1, none⟩ (.string ⟨#[]⟩)).setCell ⟨w.heap.size + 1, 2, none⟩ (.int .i64 0)).setCell ⟨w.heap.size + 1, 3, none⟩ (.int .i64 0)).setCell ⟨w.heap.size + 1, 4, none⟩ (.slice none 0 0)).setCell ⟨w.heap.size + 1, 5, none⟩ (.slice none 0 0)).heap[w.heap.size + 1]? = some (.cells #[.int .i64 0, .string ⟨#[]⟩, .int .i64 0, .int .i64 0, .slice none 0 0, .slice none 0 0] 25 (0, 0)) := L.set6 (a := .int .i64 0) (b := .string ⟨#[]⟩) (c := .int .i64 0) (d := .int .i64 0) (e := .slice none 0 0) (f := .slice none 0 0) HZ1.out.rw
  have hbd : Below w.heap.size w ((((((w1.setCell ⟨w.heap.size + 1, 0, none⟩ (.int .i64 0)).setCell ⟨w.heap.size + 1, 1, none⟩ (.string ⟨#[]⟩)).setCell ⟨w.heap.size + 1, 2, none⟩ (.int .i64 0)).setCell ⟨w.heap.size + 1, 3, none⟩ (.int .i64 0)).setCell ⟨w.heap.size + 1, 4, none⟩ (.slice none 0 0)).setCell ⟨w.heap.size + 1, 5, none⟩ (.slice none 0 0)) := below6 HZ1.out.bl (by omega) _ _ _ _ _ _
  have hff : Fr (fun b => b = w.heap.size + 1) w1 ((((((w1.setCell ⟨w.heap.size + 1, 0, none⟩ (.int .i64 0)).setCell ⟨w.heap.size + 1, 1, none⟩ (.string ⟨#[]⟩)).setCell ⟨w.heap.size + 1, 2, none⟩ (.int .i64 0)).setCell ⟨w.heap.size + 1, 3, none⟩ (.int .i64 0)).setCell ⟨w.heap.size + 1, 4, none⟩ (.slice none 0 0)).setCell ⟨w.heap.size + 1, 5, none⟩ (.slice none 0 0)) := fr6 _ _ _ _ _ _ _ _
  generalize ((((((w1.setCell ⟨w.heap.size + 1, 0, none⟩ (.int .i64 0)).setCell ⟨w.heap.size + 1, 1, none⟩ (.string ⟨#[]⟩)).setCell ⟨w.heap.size + 1, 2, none⟩ (.int .i64 0)).setCell ⟨w.heap.size + 1, 3, none⟩ (.int .i64 0)).setCell ⟨w.heap.size + 1, 4, none⟩ (.slice none 0 0)).setCell ⟨w.heap.size + 1, 5, none⟩ (.slice none 0 0)) = WF at hrow hbd hff ⊢
  refine bodyPost_ret (T.results_cell_tmp_row rfl _ _ (w.heap.size + 1) 25 #[.int .i64 0, .string ⟨#[]⟩, .int .i64 0, .int .i64 0, .slice none 0 0, .slice none 0 0] (0, 0) _ rfl hrow Tryd.underlying25 rfl (by kernel_rfl)) rfl ?_
  exact ⟨rfl, hbd⟩
set_option maxHeartbeats 4000000 in
set_option maxRecDepth 100000 in
theorem Least_ok (n : Nat) (x : Lp) (A As : Option Addr) (c c' : Nat) (w : World) (h : At n w x A As) (hq : L.lf (n + 1) x = 0) :
    Calls Tryd.prog 9 #[lv x A As c c'] w fun e w' => LsRes (lst x) e w' ∧ Below w.heap.size w w' := by
  have hL := at_LR h
  obtain ⟨hv, hp⟩ := lf_vd h hq
  have HC := Lib.hid (fun (W : World) (hb : Below w.heap.size w W) => L.checkLoop n x A As c c' W (h.mono hb))
  have HL := Lib.hid (fun (W : World) (hb : Below w.heap.size w W) => (least_any _ x A As c c' W (Nat.le_refl _) (hL.below hb) hv (fun b h => Nat.lt_of_lt_of_le h hb.size) hp).mono fun e w' he => (⟨cr_open he.1, he.2⟩ : _ ∧ _))
  have HK := Lib.hid (fun (R : Nat → Prop) (A' As' : Option Addr) (d d' : Nat) (W : World) (h' : LR R W (lst x) A' As') (hR : ∀ b, R b → b < W.heap.size) => (clone_any _ (lst x) A' As' d d' W (Nat.le_refl _) h' hR).mono fun e w' he => (⟨cr_open he.1, he.2⟩ : _ ∧ _))
  rw [hq] at HC
  generalize lst x = y at *
  clear h hL hv hp hq
  unfold lv at HC HL HK ⊢
  go_enter Tryd.func9, Tryd.ntmps9
  go_wp2_with (first
    | (go_at_call 20; have HZ := Lib.hid (@Bz.new w x A As c c'); refine (HC.out _ HZ.out.bl).mono ?_; rintro e w1 ⟨rfl, hB1⟩; have HZ1 := Lib.hid (HZ.out.below hB1); clear hB1; have y0 := HZ1.out.y 0 _ rfl; have y1 := HZ1.out.y 1 _ rfl; have y2 := HZ1.out.y 2 _ rfl; have y3 := HZ1.out.y 3 _ rfl; have y4 := HZ1.out.y 4 _ rfl; have y5 := HZ1.out.y 5 _ rfl)
    | (go_at_call 22; refine (HL.out _ HZ1.out.bl).mono ?_; rintro e w2 ⟨⟨A2, As2, d2, d2', rfl, hL2⟩, hB2⟩; have HZ2 := Lib.hid (HZ1.out.below hB2); have hlt : ∀ b, RN (fun b => b < w.heap.size) w1.heap.size w2 b → b < w2.heap.size := fun b hb => hb.elim (fun h => Nat.lt_of_lt_of_le h (Nat.le_trans HZ1.out.bl.size hB2.size)) (fun h => h.2.1); have HK2 := Lib.hid (HK.out _ A2 As2 d2 d2' w2 hL2 hlt); clear hB2 hL2 hlt)
    | (go_at_call 21; refine HK2.out.mono ?_; rintro e w3 ⟨⟨A3, As3, d3, d3', rfl, hL3⟩, hB3⟩; have HL3 := Lib.hid hL3; have HZ3 := Lib.hid (HZ2.out.below hB3); clear hB3 hL3; have r0 := HZ3.out.q 0 _ rfl; have r1 := HZ3.out.q 1 _ rfl; have r2 := HZ3.out.q 2 _ rfl; have r3 := HZ3.out.q 3 _ rfl; have r4 := HZ3.out.q 4 _ rfl; have r5 := HZ3.out.q 5 _ rfl; have rz := HZ3.out.qz))
  go_simp
  have hrow : ((((((w3.setCell ⟨w.heap.size + 1, 0, none⟩ (.int .i64 y.kind)).setCell ⟨w.heap.size + 1, 1, none⟩ (.string y.item)).setCell ⟨w.heap.size + 1, 2, none⟩ (.int .i64 y.long)).setCell ⟨w.heap.size + 1, 3, none⟩ (.int .i64 y.many)).setCell ⟨w.heap.size + 1, 4, none⟩ (.slice A3 y.kids.length d3)).setCell ⟨w.heap.size + 1, 5, none⟩ (.slice As3 y.shares.length d3')).heap[w.heap.size + 1]? = some (.cells #[.int .i64 y.kind, .string y.item, .int .i64 y.long, .int .i64 y.many, .slice A3 y.kids.length d3, .slice As3 y.shares.length d3'] 25 (0, 0)) := L.set6 (a := .int .i64 0) (b := .string ⟨#[]⟩) (c := .int .i64 0) (d := .int .i64 0) (e := .slice none 0 0) (f := .slice none 0 0) HZ3.out.rw
  have hbd : Below w.heap.size w ((((((w3.setCell ⟨w.heap.size + 1, 0, none⟩ (.int .i64 y.kind)).setCell ⟨w.heap.size + 1, 1, none⟩ (.string y.item)).setCell ⟨w.heap.size + 1, 2, none⟩ (.int .i64 y.long)).setCell ⟨w.heap.size + 1, 3, none⟩ (.int .i64 y.many)).setCell ⟨w.heap.size + 1, 4, none⟩ (.slice A3 y.kids.length d3)).setCell ⟨w.heap.size + 1, 5, none⟩ (.slice As3 y.shares.length d3')) := below6 HZ3.out.bl (by omega) _ _ _ _ _ _
  have hff : Fr (fun b => b = w.heap.size + 1) w3 ((((((w3.setCell ⟨w.heap.size + 1, 0, none⟩ (.int .i64 y.kind)).setCell ⟨w.heap.size + 1, 1, none⟩ (.string y.item)).setCell ⟨w.heap.size + 1, 2, none⟩ (.int .i64 y.long)).setCell ⟨w.heap.size + 1, 3, none⟩ (.int .i64 y.many)).setCell ⟨w.heap.size + 1, 4, none⟩ (.slice A3 y.kids.length d3)).setCell ⟨w.heap.size + 1, 5, none⟩ (.slice As3 y.shares.length d3')) := fr6 _ _ _ _ _ _ _ _
  generalize ((((((w3.setCell ⟨w.heap.size + 1, 0, none⟩ (.int .i64 y.kind)).setCell ⟨w.heap.size + 1, 1, none⟩ (.string y.item)).setCell ⟨w.heap.size + 1, 2, none⟩ (.int .i64 y.long)).setCell ⟨w.heap.size + 1, 3, none⟩ (.int .i64 y.many)).setCell ⟨w.heap.size + 1, 4, none⟩ (.slice A3 y.kids.length d3)).setCell ⟨w.heap.size + 1, 5, none⟩ (.slice As3 y.shares.length d3')) = WF at hrow hbd hff ⊢
  refine bodyPost_ret (T.results_cell_tmp_row rfl _ _ (w.heap.size + 1) 25 #[.int .i64 y.kind, .string y.item, .int .i64 y.long, .int .i64 y.many, .slice A3 y.kids.length d3, .slice As3 y.shares.length d3'] (0, 0) _ rfl hrow Tryd.underlying25 rfl (by kernel_rfl)) rfl ?_
  refine ⟨⟨_, A3, As3, d3, d3', rfl, HL3.out.fr hff (fun b hb e => ?_) (fun _ h => h)⟩, hbd⟩
  have s1 := HZ1.out.sz
  have s2 := HZ2.out.sz
  rcases hb with (hb | hb) | hb <;> omega
end Go.Proofs.YtlfobpjefklccaaDoor.H

namespace Go.Proofs.YtlfobpjefklccaaDoor.H
open Go.RowKit
open L (Lp row row1 At AtR lv kdL kid_at)
open F (Fr Cl)

/-- The first error of those that the law asks for is that of Same. -/
theorem sE_or (qa qb : Int) (Ra Rb : Option (Nat × List T.Step)) : Or.firstNZ [qa, qb, T.rE qa Ra, T.rE qb Rb] = T.sE qa qb Ra Rb := by
  unfold T.sE T.rE
  by_cases ha : qa = 0
  · subst ha
    by_cases hb : qb = 0
    · subst hb
      cases Ra <;> cases Rb <;> rfl
    · simp [Or.firstNZ, hb]
  · simp [Or.firstNZ, ha]
theorem sB_bad {qa qb : Int} {Ra Rb : Option (Nat × List T.Step)} (h : T.sE qa qb Ra Rb ≠ 0) : T.sB qa qb Ra Rb = false := by
  unfold T.sE at h
  unfold T.sB
  by_cases ha : qa = 0
  · subst ha
    by_cases hb : qb = 0
    · subst hb
      cases Ra <;> cases Rb <;> first | rfl | exact absurd rfl h
    · simp [hb]
  · simp [ha]
theorem sE_ok {qa qb : Int} {Ra Rb : Option (Nat × List T.Step)} (h : T.sE qa qb Ra Rb = 0) : qa = 0 ∧ qb = 0 ∧ ∃ p l p' l', Ra = some (p, l) ∧ Rb = some (p', l') := by
  unfold T.sE at h
  by_cases ha : qa = 0
  · subst ha
    by_cases hb : qb = 0
    · subst hb
      cases Ra with
      | none => rw [if_neg (by omega), if_neg (by omega)] at h; exact absurd h (show ¬ (2 : Int) = 0 by omega)
      | some r =>
        cases Rb with
        | none => rw [if_neg (by omega), if_neg (by omega)] at h; exact absurd h (show ¬ (2 : Int) = 0 by omega)
        | some r' => exact ⟨rfl, rfl, r.1, r.2, r'.1, r'.2, rfl, rfl⟩
    · rw [if_neg (by omega), if_pos hb] at h; exact absurd h hb
  · rw [if_pos ha] at h; exact absurd h ha
theorem at0 {o : Oper} {l : List Oper} : (List.toArray (o :: l))[0]? = some o := rfl
theorem at1 {a0 o : Oper} {l : List Oper} : (List.toArray (a0 :: o :: l))[1]? = some o := rfl
theorem at2 {a0 a1 o : Oper} {l : List Oper} : (List.toArray (a0 :: a1 :: o :: l))[2]? = some o := rfl
theorem at3 {a0 a1 a2 o : Oper} {l : List Oper} : (List.toArray (a0 :: a1 :: a2 :: o :: l))[3]? = some o := rfl
theorem at4 {a0 a1 a2 a3 o : Oper} {l : List Oper} : (List.toArray (a0 :: a1 :: a2 :: a3 :: o :: l))[4]? = some o := rfl
theorem at5 {a0 a1 a2 a3 a4 o : Oper} {l : List Oper} : (List.toArray (a0 :: a1 :: a2 :: a3 :: a4 :: o :: l))[5]? = some o := rfl
theorem at6 {a0 a1 a2 a3 a4 a5 o : Oper} {l : List Oper} : (List.toArray (a0 :: a1 :: a2 :: a3 :: a4 :: a5 :: o :: l))[6]? = some o := rfl
theorem at7 {a0 a1 a2 a3 a4 a5 a6 o : Oper} {l : List Oper} : (List.toArray (a0 :: a1 :: a2 :: a3 :: a4 :: a5 :: a6 :: o :: l))[7]? = some o := rfl
theorem at8 {a0 a1 a2 a3 a4 a5 a6 a7 o : Oper} {l : List Oper} : (List.toArray (a0 :: a1 :: a2 :: a3 :: a4 :: a5 :: a6 :: a7 :: o :: l))[8]? = some o := rfl
theorem at9 {a0 a1 a2 a3 a4 a5 a6 a7 a8 o : Oper} {l : List Oper} : (List.toArray (a0 :: a1 :: a2 :: a3 :: a4 :: a5 :: a6 :: a7 :: a8 :: o :: l))[9]? = some o := rfl
theorem at10 {a0 a1 a2 a3 a4 a5 a6 a7 a8 a9 o : Oper} {l : List Oper} : (List.toArray (a0 :: a1 :: a2 :: a3 :: a4 :: a5 :: a6 :: a7 :: a8 :: a9 :: o :: l))[10]? = some o := rfl
theorem at11 {a0 a1 a2 a3 a4 a5 a6 a7 a8 a9 a10 o : Oper} {l : List Oper} : (List.toArray (a0 :: a1 :: a2 :: a3 :: a4 :: a5 :: a6 :: a7 :: a8 :: a9 :: a10 :: o :: l))[11]? = some o := rfl
theorem at12 {a0 a1 a2 a3 a4 a5 a6 a7 a8 a9 a10 a11 o : Oper} {l : List Oper} : (List.toArray (a0 :: a1 :: a2 :: a3 :: a4 :: a5 :: a6 :: a7 :: a8 :: a9 :: a10 :: a11 :: o :: l))[12]? = some o := rfl
theorem at13 {a0 a1 a2 a3 a4 a5 a6 a7 a8 a9 a10 a11 a12 o : Oper} {l : List Oper} : (List.toArray (a0 :: a1 :: a2 :: a3 :: a4 :: a5 :: a6 :: a7 :: a8 :: a9 :: a10 :: a11 :: a12 :: o :: l))[13]? = some o := rfl
theorem at14 {a0 a1 a2 a3 a4 a5 a6 a7 a8 a9 a10 a11 a12 a13 o : Oper} {l : List Oper} : (List.toArray (a0 :: a1 :: a2 :: a3 :: a4 :: a5 :: a6 :: a7 :: a8 :: a9 :: a10 :: a11 :: a12 :: a13 :: o :: l))[14]? = some o := rfl
theorem at15 {a0 a1 a2 a3 a4 a5 a6 a7 a8 a9 a10 a11 a12 a13 a14 o : Oper} {l : List Oper} : (List.toArray (a0 :: a1 :: a2 :: a3 :: a4 :: a5 :: a6 :: a7 :: a8 :: a9 :: a10 :: a11 :: a12 :: a13 :: a14 :: o :: l))[15]? = some o := rfl
theorem at16 {a0 a1 a2 a3 a4 a5 a6 a7 a8 a9 a10 a11 a12 a13 a14 a15 o : Oper} {l : List Oper} : (List.toArray (a0 :: a1 :: a2 :: a3 :: a4 :: a5 :: a6 :: a7 :: a8 :: a9 :: a10 :: a11 :: a12 :: a13 :: a14 :: a15 :: o :: l))[16]? = some o := rfl
theorem at17 {a0 a1 a2 a3 a4 a5 a6 a7 a8 a9 a10 a11 a12 a13 a14 a15 a16 o : Oper} {l : List Oper} : (List.toArray (a0 :: a1 :: a2 :: a3 :: a4 :: a5 :: a6 :: a7 :: a8 :: a9 :: a10 :: a11 :: a12 :: a13 :: a14 :: a15 :: a16 :: o :: l))[17]? = some o := rfl
theorem at18 {a0 a1 a2 a3 a4 a5 a6 a7 a8 a9 a10 a11 a12 a13 a14 a15 a16 a17 o : Oper} {l : List Oper} : (List.toArray (a0 :: a1 :: a2 :: a3 :: a4 :: a5 :: a6 :: a7 :: a8 :: a9 :: a10 :: a11 :: a12 :: a13 :: a14 :: a15 :: a16 :: a17 :: o :: l))[18]? = some o := rfl
theorem at19 {a0 a1 a2 a3 a4 a5 a6 a7 a8 a9 a10 a11 a12 a13 a14 a15 a16 a17 a18 o : Oper} {l : List Oper} : (List.toArray (a0 :: a1 :: a2 :: a3 :: a4 :: a5 :: a6 :: a7 :: a8 :: a9 :: a10 :: a11 :: a12 :: a13 :: a14 :: a15 :: a16 :: a17 :: a18 :: o :: l))[19]? = some o := rfl
theorem at20 {a0 a1 a2 a3 a4 a5 a6 a7 a8 a9 a10 a11 a12 a13 a14 a15 a16 a17 a18 a19 o : Oper} {l : List Oper} : (List.toArray (a0 :: a1 :: a2 :: a3 :: a4 :: a5 :: a6 :: a7 :: a8 :: a9 :: a10 :: a11 :: a12 :: a13 :: a14 :: a15 :: a16 :: a17 :: a18 :: a19 :: o :: l))[20]? = some o := rfl
theorem at21 {a0 a1 a2 a3 a4 a5 a6 a7 a8 a9 a10 a11 a12 a13 a14 a15 a16 a17 a18 a19 a20 o : Oper} {l : List Oper} : (List.toArray (a0 :: a1 :: a2 :: a3 :: a4 :: a5 :: a6 :: a7 :: a8 :: a9 :: a10 :: a11 :: a12 :: a13 :: a14 :: a15 :: a16 :: a17 :: a18 :: a19 :: a20 :: o :: l))[21]? = some o := rfl
theorem at22 {a0 a1 a2 a3 a4 a5 a6 a7 a8 a9 a10 a11 a12 a13 a14 a15 a16 a17 a18 a19 a20 a21 o : Oper} {l : List Oper} : (List.toArray (a0 :: a1 :: a2 :: a3 :: a4 :: a5 :: a6 :: a7 :: a8 :: a9 :: a10 :: a11 :: a12 :: a13 :: a14 :: a15 :: a16 :: a17 :: a18 :: a19 :: a20 :: a21 :: o :: l))[22]? = some o := rfl
theorem at23 {a0 a1 a2 a3 a4 a5 a6 a7 a8 a9 a10 a11 a12 a13 a14 a15 a16 a17 a18 a19 a20 a21 a22 o : Oper} {l : List Oper} : (List.toArray (a0 :: a1 :: a2 :: a3 :: a4 :: a5 :: a6 :: a7 :: a8 :: a9 :: a10 :: a11 :: a12 :: a13 :: a14 :: a15 :: a16 :: a17 :: a18 :: a19 :: a20 :: a21 :: a22 :: o :: l))[23]? = some o := rfl
set_option maxHeartbeats 8000000 in
set_option maxRecDepth 100000 in
theorem shrink_good (n m : Nat) (x y : Lp) (A As A' As' : Option Addr) (c c' d d' : Nat) (w : World) (h : At n w x A As) (h' : At m w y A' As') (hq : L.lf (n + 1) x = 0) (hE : T.sE (L.lf (n + 1) x) (L.lf (m + 1) y) (T.roundM n x) (T.roundM m y) = 0) :
    Calls Tryd.prog 5 #[lv x A As c c', lv y A' As' d d'] w fun e w' => e = .returned (.bool true) ∧ Below w.heap.size w w' := by
  have HT := Lib.hid (fun (W : World) => @T.two_boxes x y A As A' As' c c' d d' w W 25 25)
  have HA := Lib.hid (fun (a b : Array Value) (e e' : TypeId) => (((Below.refl w.heap.size w).alloc (Nat.le_refl _) (.cells a e)).alloc (by simp) (.cells b e')))
  have S1 := Lib.hid (fun W (hb : Below w.heap.size w W) => T.same_any n m x y A As A' As' c c' d d' W (h.mono hb) (h'.mono hb))
  have D1 := Lib.hid (fun W (hb : Below w.heap.size w W) => T.rounded_any n x A As c c' W (h.mono hb))
  have D2 := Lib.hid (fun W (hb : Below w.heap.size w W) => T.rounded_any m y A' As' d d' W (h'.mono hb))
  have F2 := Lib.hid (fun W (hb : Below w.heap.size w W) => L.refLoop m y A' As' d d' W (h'.mono hb))
  have K2 := Lib.hid (fun W (hb : Below w.heap.size w W) => L.refLoop n x A As c c' W (h.mono hb))
  have HFN := Lib.hid (sE_or (L.lf (n + 1) x) (L.lf (m + 1) y) (T.roundM n x) (T.roundM m y))
  have K1 := Lib.hid (fun W (hb : Below w.heap.size w W) => Least_ok n x A As c c' W (h.mono hb) hq)
  obtain ⟨hv, hp⟩ := lf_vd h hq
  have K3 := Lib.hid (fun W (hb : Below w.heap.size w W) => (leastOf_any _ x A As c c' W (Nat.le_refl _) ((at_LR h).below hb) hv hp).mono fun e w' he => (⟨cr_open he.1, he.2⟩ : _ ∧ _))
  have K4 := Lib.hid (fun (R R' : Nat → Prop) (A1 B1 A2 B2 : Option Addr) (k1 k2 k3 k4 : Nat) (W : World) (h1 : LR R W (lst x) A1 B1) (h2 : LR R' W (lst x) A2 B2) => equalR (lst x) (lst x) A1 B1 A2 B2 k1 k2 k3 k4 W h1 h2)
  rw [decide_eq_true rfl] at K4
  clear hv hp
  obtain ⟨-, hqb, p, l, p', l', hRa, hRb⟩ := sE_ok hE
  have hla := T.roundM_len h hq hRa
  have hlb := T.roundM_len h' hqb hRb
  have SS := Lib.hid (fun (A8 A9 : Option Addr) (k8 k9 : Nat) (W : World) (h1 : T.stK.C W A8 l) (h2 : T.stK.C W A9 l') => T.sameSteps A8 A9 k8 k9 l l' W h1 h2 hla hlb)
  rw [hq] at K2
  rw [hq, hqb, hRa, hRb] at HFN S1
  rw [hq, hRa] at D1
  rw [hqb, hRb] at D2
  rw [hqb] at F2
  change Hid (∀ W, Below w.heap.size w W → Calls _ _ _ W (fun e w' => e = .returned (.tuple #[.bool (T.smS l l'), .int .i64 0]) ∧ _)) at S1
  change Hid (∀ W, Below w.heap.size w W → Calls _ _ _ W (fun e w' => T.RdRes p l 0 e w' ∧ _)) at D1
  change Hid (∀ W, Below w.heap.size w W → Calls _ _ _ W (fun e w' => T.RdRes p' l' 0 e w' ∧ _)) at D2
  change Hid (Or.firstNZ [0, 0, 0, 0] = 0) at HFN
  generalize T.smS l l' = S at *
  clear hla hlb hqb hRa hRb hE
  generalize lst x = z at *
  clear h h' hq
  unfold lv at S1 D1 D2 F2 K1 K2 K3 K4 ⊢
  go_enter Tryd.func5, Tryd.ntmps5
  go_wp2_with (first
    | (go_at_call 9; refine (K1.out _ (HA.out _ _ _ _)).mono ?_; rintro e w1 ⟨⟨R1, A1, B1, k1, k2, rfl, hL1⟩, hB1⟩; have HL1 := Lib.hid hL1; have HB1 := Lib.hid (B.below_trans (HA.out _ _ _ _) hB1); have HX1 := Lib.hid hB1; clear hL1 hB1; have HAL := Lib.hid ((Below.refl w1.heap.size w1).alloc (Nat.le_refl _) (.cells #[.int .i64 z.kind, .string z.item, .int .i64 z.long, .int .i64 z.many, .slice A1 z.kids.length k1, .slice B1 z.shares.length k2] 25)); have HY := Lib.hid (HT.out _ (B.below_trans HX1.out HAL.out)).1; have y0 := HY.out 0 _ rfl; have y1 := HY.out 1 _ rfl; have y2 := HY.out 2 _ rfl; have y3 := HY.out 3 _ rfl; have y4 := HY.out 4 _ rfl; have y5 := HY.out 5 _ rfl)
    | (go_at_call 7; refine (K2.out _ (B.below_trans HB1.out HAL.out)).mono ?_; rintro e w2 ⟨rfl, hB2⟩; have HX2 := Lib.hid (B.below_trans HX1.out (B.below_trans HAL.out hB2)); have HB2 := Lib.hid (B.below_trans HB1.out (B.below_trans HAL.out hB2)); have HW2 := Lib.hid hB2; clear hB2))
  have HXX := Lib.hid (HT.out _ HX2.out)
  have HZ1 := Lib.hid (fun (W : World) => @L.boxed z A1 B1 k1 k2 w1 W 25)
  have x0 := HXX.out.1 0 _ rfl
  have x1 := HXX.out.1 1 _ rfl
  have x2 := HXX.out.1 2 _ rfl
  have x3 := HXX.out.1 3 _ rfl
  have x4 := HXX.out.1 4 _ rfl
  have x5 := HXX.out.1 5 _ rfl
  have HZ2 := Lib.hid (HZ1.out w2 HW2.out)
  obtain ⟨v0, v1, v2, v3, v4, v5⟩ := HZ2.out
  have HXS := Lib.hid (fun (W : World) (hb : Below w2.heap.size w2 W) => (⟨B.cell_below hb x0, B.cell_below hb x1, B.cell_below hb x2, B.cell_below hb x3, B.cell_below hb x4, B.cell_below hb x5⟩ : _ ∧ _ ∧ _ ∧ _ ∧ _ ∧ _))
  have HBD := Lib.hid (B.below_drew HB2.out 1)
  have HDD := Lib.hid (B.below_drew (Below.refl w2.heap.size w2) 1)
  have HWD := Lib.hid (B.below_drew HW2.out 1)
  clear y0 y1 y2 y3 y4 y5
  refine wp_region_held_drew (S := fun w' => (w'.cell? ⟨w1.heap.size, 0, none⟩ = some (.int .i64 z.kind) ∧ w'.cell? ⟨w1.heap.size, 1, none⟩ = some (.string z.item) ∧ w'.cell? ⟨w1.heap.size, 2, none⟩ = some (.int .i64 z.long) ∧ w'.cell? ⟨w1.heap.size, 3, none⟩ = some (.int .i64 z.many) ∧ w'.cell? ⟨w1.heap.size, 4, none⟩ = some (.slice A1 z.kids.length k1) ∧ w'.cell? ⟨w1.heap.size, 5, none⟩ = some (.slice B1 z.shares.length k2)) ∧ (w'.cell? ⟨w.heap.size, 0, none⟩ = some (.int .i64 x.kind) ∧ w'.cell? ⟨w.heap.size, 1, none⟩ = some (.string x.item) ∧ w'.cell? ⟨w.heap.size, 2, none⟩ = some (.int .i64 x.long) ∧ w'.cell? ⟨w.heap.size, 3, none⟩ = some (.int .i64 x.many) ∧ w'.cell? ⟨w.heap.size, 4, none⟩ = some (.slice A x.kids.length c) ∧ w'.cell? ⟨w.heap.size, 5, none⟩ = some (.slice As x.shares.length c'))) (by kernel_rfl) (⟨HZ2.out, HXS.out _ HDD.out⟩) (fun hHeld => ?_)
  refine wpAnyH_take (i := 0) (v := ?_) at0 (by kernel_rfl) (by kernel_rfl) (by kernel_rfl) (fun _ _ _ h => h) (Or.inl ⟨by rfl, ?_⟩) (by assumption) ?_
  rotate_left
  · (intro w9 hSw; (try dsimp only at hSw); go_simp; try (with_reducible rfl))
  try simp only [Act.put, List.setIfInBounds_toArray, List.set_cons_zero, List.set_cons_succ]
  refine wpAnyH_take (i := 1) (v := ?_) at1 (by kernel_rfl) (by kernel_rfl) (by kernel_rfl) (fun _ _ _ h => h) (Or.inl ⟨by rfl, ?_⟩) (by assumption) ?_
  rotate_left
  · (intro w9 hSw; (try dsimp only at hSw); go_simp; try (with_reducible rfl))
  try simp only [Act.put, List.setIfInBounds_toArray, List.set_cons_zero, List.set_cons_succ]
  refine wpAnyH_take (i := 2) (v := ?_) at2 (by kernel_rfl) (by kernel_rfl) (by kernel_rfl) (fun _ _ _ h => h) (Or.inl ⟨by rfl, ?_⟩) (by assumption) ?_
  rotate_left
  · (intro w9 hSw; (try dsimp only at hSw); go_simp; try (with_reducible rfl))
  try simp only [Act.put, List.setIfInBounds_toArray, List.set_cons_zero, List.set_cons_succ]
  refine wpAnyH_take (i := 3) (v := ?_) at3 (by kernel_rfl) (by kernel_rfl) (by kernel_rfl) (fun _ _ _ h => h) (Or.inl ⟨by rfl, ?_⟩) (by assumption) ?_
  rotate_left
  · (intro w9 hSw; (try dsimp only at hSw); go_simp; try (with_reducible rfl))
  try simp only [Act.put, List.setIfInBounds_toArray, List.set_cons_zero, List.set_cons_succ]
  refine wpAnyH_take (i := 4) (v := ?_) at4 (by kernel_rfl) (by kernel_rfl) (by kernel_rfl) (fun _ _ _ h => h) (Or.inl ⟨by rfl, ?_⟩) (by assumption) ?_
  rotate_left
  · (intro w9 hSw; (try dsimp only at hSw); go_simp; try (with_reducible rfl))
  try simp only [Act.put, List.setIfInBounds_toArray, List.set_cons_zero, List.set_cons_succ]
  refine wpAnyH_take (i := 5) (v := ?_) at5 (by kernel_rfl) (by kernel_rfl) (by kernel_rfl) (fun _ _ _ h => h) (Or.inl ⟨by rfl, ?_⟩) (by assumption) ?_
  rotate_left
  · (intro w9 hSw; (try dsimp only at hSw); go_simp; try (with_reducible rfl))
  try simp only [Act.put, List.setIfInBounds_toArray, List.set_cons_zero, List.set_cons_succ]
  refine wpAnyH_take (i := 6) (v := ?_) at6 (by kernel_rfl) (by kernel_rfl) (by kernel_rfl) (fun _ _ _ h => h) (Or.inl ⟨by rfl, ?_⟩) (by assumption) ?_
  rotate_left
  · (intro w9 hSw; (try dsimp only at hSw); go_simp; try (with_reducible rfl))
  try simp only [Act.put, List.setIfInBounds_toArray, List.set_cons_zero, List.set_cons_succ]
  refine wpAnyH_take (i := 7) (v := ?_) at7 (by kernel_rfl) (by kernel_rfl) (by kernel_rfl) (fun _ _ _ h => h) (Or.inl ⟨by rfl, ?_⟩) (by assumption) ?_
  rotate_left
  · (intro w9 hSw; (try dsimp only at hSw); go_simp; try (with_reducible rfl))
  try simp only [Act.put, List.setIfInBounds_toArray, List.set_cons_zero, List.set_cons_succ]
  refine wpAnyH_take (i := 8) (v := ?_) at8 (by kernel_rfl) (by kernel_rfl) (by kernel_rfl) (fun _ _ _ h => h) (Or.inl ⟨by rfl, ?_⟩) (by assumption) ?_
  rotate_left
  · (intro w9 hSw; (try dsimp only at hSw); go_simp; try (with_reducible rfl))
  try simp only [Act.put, List.setIfInBounds_toArray, List.set_cons_zero, List.set_cons_succ]
  refine wpAnyH_ready (rs := [9]) (by kernel_rfl) (by simp) ?_
  refine AllReadyH.cons at9 (fun K hK => ?_) AllReadyH.nil
  go_simp
  go_at_call 11; refine (K3.out (w2.drewN 1) HBD.out).mono ?_; rintro e w5 ⟨⟨A5, B5, j5, j6, rfl, hL5⟩, hB5⟩; have HL5 := Lib.hid hL5; have HB5 := Lib.hid (B.below_trans HBD.out hB5); have HW5 := Lib.hid (B.below_trans HWD.out hB5); have HX5 := Lib.hid (B.below_trans HDD.out hB5); clear hL5 hB5
  go_simp
  refine hK.out _ _ (⟨HZ1.out _ HW5.out, HXS.out _ HX5.out⟩) (fun hHeld => ?_)
  clear hK K
  try simp only [Act.put, List.setIfInBounds_toArray, List.set_cons_zero, List.set_cons_succ]
  refine wpAnyH_ready (rs := [10]) (by kernel_rfl) (by simp) ?_
  refine AllReadyH.cons at10 (fun K hK => ?_) AllReadyH.nil
  go_simp
  go_at_call 10; refine (K4.out _ _ _ _ _ _ _ _ _ _ w5 (HL1.out.below (B.below_trans HAL.out HW5.out)) HL5.out).mono ?_; rintro e w6 ⟨rfl, hB6⟩; have HB6 := Lib.hid (B.below_trans HB5.out hB6); have HV6 := Lib.hid (B.below_trans HX2.out (B.below_trans HX5.out hB6))
  go_simp
  refine hK.out _ _ (⟨HZ1.out _ (B.below_trans HW5.out hB6), HXS.out _ (B.below_trans HX5.out hB6)⟩) (fun hHeld => ?_)
  clear hK K
  try simp only [Act.put, List.setIfInBounds_toArray, List.set_cons_zero, List.set_cons_succ]
  refine wpAnyH_take (i := 11) (v := ?_) at11 (by kernel_rfl) (by kernel_rfl) (by kernel_rfl) (fun _ _ _ h => h) (Or.inl ⟨by rfl, ?_⟩) (by assumption) ?_
  rotate_left
  · (intro w9 hSw; (try dsimp only at hSw); go_simp; try (with_reducible rfl))
  try simp only [Act.put, List.setIfInBounds_toArray, List.set_cons_zero, List.set_cons_succ]
  refine wpAnyH_take (i := 12) (v := ?_) at12 (by kernel_rfl) (by kernel_rfl) (by kernel_rfl) (fun _ _ _ h => h) (Or.inl ⟨by rfl, ?_⟩) (by assumption) ?_
  rotate_left
  · (intro w9 hSw; (try dsimp only at hSw); go_simp; try (with_reducible rfl))
  try simp only [Act.put, List.setIfInBounds_toArray, List.set_cons_zero, List.set_cons_succ]
  refine wpAnyH_take (i := 13) (v := ?_) at13 (by kernel_rfl) (by kernel_rfl) (by kernel_rfl) (fun _ _ _ h => h) (Or.inl ⟨by rfl, ?_⟩) (by assumption) ?_
  rotate_left
  · (intro w9 hSw; (try dsimp only at hSw); go_simp; try (with_reducible rfl))
  try simp only [Act.put, List.setIfInBounds_toArray, List.set_cons_zero, List.set_cons_succ]
  refine wpAnyH_take (i := 14) (v := ?_) at14 (by kernel_rfl) (by kernel_rfl) (by kernel_rfl) (fun _ _ _ h => h) (Or.inl ⟨by rfl, ?_⟩) (by assumption) ?_
  rotate_left
  · (intro w9 hSw; (try dsimp only at hSw); go_simp; try (with_reducible rfl))
  try simp only [Act.put, List.setIfInBounds_toArray, List.set_cons_zero, List.set_cons_succ]
  refine wpAnyH_take (i := 15) (v := ?_) at15 (by kernel_rfl) (by kernel_rfl) (by kernel_rfl) (fun _ _ _ h => h) (Or.inl ⟨by rfl, ?_⟩) (by assumption) ?_
  rotate_left
  · (intro w9 hSw; (try dsimp only at hSw); go_simp; try (with_reducible rfl))
  try simp only [Act.put, List.setIfInBounds_toArray, List.set_cons_zero, List.set_cons_succ]
  refine wpAnyH_take (i := 16) (v := ?_) at16 (by kernel_rfl) (by kernel_rfl) (by kernel_rfl) (fun _ _ _ h => h) (Or.inl ⟨by rfl, ?_⟩) (by assumption) ?_
  rotate_left
  · (intro w9 hSw; (try dsimp only at hSw); go_simp; try (with_reducible rfl))
  try simp only [Act.put, List.setIfInBounds_toArray, List.set_cons_zero, List.set_cons_succ]
  refine wpAnyH_take (i := 17) (v := ?_) at17 (by kernel_rfl) (by kernel_rfl) (by kernel_rfl) (fun _ _ _ h => h) (Or.inl ⟨by rfl, ?_⟩) (by assumption) ?_
  rotate_left
  · (intro w9 hSw; (try dsimp only at hSw); go_simp; try (with_reducible rfl))
  try simp only [Act.put, List.setIfInBounds_toArray, List.set_cons_zero, List.set_cons_succ]
  refine wpAnyH_take (i := 18) (v := undef) at18 (by kernel_rfl) (by kernel_rfl) (by kernel_rfl) (fun _ _ _ h => h) (Or.inr ⟨by rfl, rfl⟩) (by assumption) ?_
  try simp only [Act.put, List.setIfInBounds_toArray, List.set_cons_zero, List.set_cons_succ]
  refine wpAnyH_take (i := 19) (v := undef) at19 (by kernel_rfl) (by kernel_rfl) (by kernel_rfl) (fun _ _ _ h => h) (Or.inr ⟨by rfl, rfl⟩) (by assumption) ?_
  try simp only [Act.put, List.setIfInBounds_toArray, List.set_cons_zero, List.set_cons_succ]
  refine wpAnyH_take (i := 20) (v := undef) at20 (by kernel_rfl) (by kernel_rfl) (by kernel_rfl) (fun _ _ _ h => h) (Or.inr ⟨by rfl, rfl⟩) (by assumption) ?_
  try simp only [Act.put, List.setIfInBounds_toArray, List.set_cons_zero, List.set_cons_succ]
  refine wpAnyH_take (i := 21) (v := undef) at21 (by kernel_rfl) (by kernel_rfl) (by kernel_rfl) (fun _ _ _ h => h) (Or.inr ⟨by rfl, rfl⟩) (by assumption) ?_
  try simp only [Act.put, List.setIfInBounds_toArray, List.set_cons_zero, List.set_cons_succ]
  refine wpAnyH_take (i := 22) (v := ?_) at22 (by kernel_rfl) (by kernel_rfl) (by kernel_rfl) (fun _ _ _ h => h) (Or.inl ⟨by rfl, ?_⟩) (by assumption) ?_
  rotate_left
  · (intro w9 hSw; (try dsimp only at hSw); go_simp; try (with_reducible rfl))
  try simp only [Act.put, List.setIfInBounds_toArray, List.set_cons_zero, List.set_cons_succ]
  refine wpAnyH_take (i := 23) (v := ?_) at23 (by kernel_rfl) (by kernel_rfl) (by kernel_rfl) (fun _ _ _ h => h) (Or.inl ⟨by rfl, ?_⟩) (by assumption) ?_
  rotate_left
  · (intro w9 hSw; (try dsimp only at hSw); go_simp; try (with_reducible rfl))
  try simp only [Act.put, List.setIfInBounds_toArray, List.set_cons_zero, List.set_cons_succ]
  refine wpAnyH_done (by kernel_rfl) ?_ _
  all_goals
    clear x0 x1 x2 x3 x4 x5 v0 v1 v2 v3 v4 v5 hB6
    have HC6 := Lib.hid (HT.out w6 HV6.out)
    clear HB2 HBD HWD HDD HX2 HX1 HXX HXS
    have x0 := HC6.out.1 0 _ rfl
    have x1 := HC6.out.1 1 _ rfl
    have x2 := HC6.out.1 2 _ rfl
    have x3 := HC6.out.1 3 _ rfl
    have x4 := HC6.out.1 4 _ rfl
    have x5 := HC6.out.1 5 _ rfl
    have y0 := HC6.out.2 0 _ rfl
    have y1 := HC6.out.2 1 _ rfl
    have y2 := HC6.out.2 2 _ rfl
    have y3 := HC6.out.2 3 _ rfl
    have y4 := HC6.out.2 4 _ rfl
    have y5 := HC6.out.2 5 _ rfl
    have s1 := S1.out w6 HB6.out
    go_simp
    go_upto_region 6 with (go_at_call 12; refine s1.mono ?_; rintro e w7 ⟨rfl, hB7⟩; have HV7 := Lib.hid (B.below_trans HV6.out hB7); have HB7 := Lib.hid (B.below_trans HB6.out hB7); clear hB7)
    clear s1 x0 x1 x2 x3 x4 x5 y0 y1 y2 y3 y4 y5
    have HC7 := Lib.hid (HT.out w7 HV7.out)
    have x0 := HC7.out.1 0 _ rfl
    have x1 := HC7.out.1 1 _ rfl
    have x2 := HC7.out.1 2 _ rfl
    have x3 := HC7.out.1 3 _ rfl
    have x4 := HC7.out.1 4 _ rfl
    have x5 := HC7.out.1 5 _ rfl
    have d1 := D1.out w7 HB7.out
    go_upto_region 7 with (go_at_call 13; refine d1.mono ?_; rintro e w8 ⟨⟨A8, k8, rfl, hC8⟩, hB8⟩; have HS8 := Lib.hid hC8; have HV8 := Lib.hid (B.below_trans HV7.out hB8); have HB8 := Lib.hid (B.below_trans HB7.out hB8); clear hB8 hC8)
    clear d1 x0 x1 x2 x3 x4 x5
    have HC8 := Lib.hid (HT.out w8 HV8.out)
    have y0 := HC8.out.2 0 _ rfl
    have y1 := HC8.out.2 1 _ rfl
    have y2 := HC8.out.2 2 _ rfl
    have y3 := HC8.out.2 3 _ rfl
    have y4 := HC8.out.2 4 _ rfl
    have y5 := HC8.out.2 5 _ rfl
    have d2 := D2.out w8 HB8.out
    go_upto_region 8 with (go_at_call 13; refine d2.mono ?_; rintro e w9 ⟨⟨A9, k9, rfl, hC9⟩, hB9⟩; have HS9 := Lib.hid hC9; have HS89 := Lib.hid (HS8.out.mono hB9); have HV9 := Lib.hid (B.below_trans HV8.out hB9); have HB9 := Lib.hid (B.below_trans HB8.out hB9); clear hB9 hC9)
    clear d2 y0 y1 y2 y3 y4 y5
    have HC9 := Lib.hid (HT.out w9 HV9.out)
    have y0 := HC9.out.2 0 _ rfl
    have y1 := HC9.out.2 1 _ rfl
    have y2 := HC9.out.2 2 _ rfl
    have y3 := HC9.out.2 3 _ rfl
    have y4 := HC9.out.2 4 _ rfl
    have y5 := HC9.out.2 5 _ rfl
    have f2 := F2.out w9 HB9.out
    go_wp2_with (first
      | (go_at_call 7; refine f2.mono ?_; rintro e w10 ⟨rfl, hB10⟩; have HB10 := Lib.hid (B.below_trans HB9.out hB10); have HT9 := Lib.hid (HS9.out.mono hB10); have HT89 := Lib.hid (HS89.out.mono hB10); clear hB10)
      | (go_at_call 14; refine (Or.orOf _ [0, 0, 0, 0] _ (Or.lit_ints _ _ _ _ 4 rfl (by rfl) (show 4 ≤ 140737488355328 by decide))).mono ?_; rintro e w11 ⟨he11, hB11⟩; rw [HFN.out] at he11; obtain rfl := he11; have HB11 := Lib.hid (B.below_trans (B.below_trans HB10.out ((Below.refl _ _).alloc (Nat.le_refl _) _)) hB11); have HU9 := Lib.hid ((HT9.out.mono ((Below.refl _ _).alloc (Nat.le_refl _) _)).mono hB11); have HU89 := Lib.hid ((HT89.out.mono ((Below.refl _ _).alloc (Nat.le_refl _) _)).mono hB11); clear hB11)
      | (go_at_call 16; refine (SS.out _ _ _ _ _ HU89.out HU9.out).mono ?_; rintro e w12 ⟨rfl, hB12⟩; have HB12 := Lib.hid (B.below_trans HB11.out hB12); clear hB12)
      | (go_at_call 15; refine (T.looped _).mono ?_; rintro e w13 ⟨rfl, hB13⟩; have HB13 := Lib.hid (B.below_trans HB12.out hB13); clear hB13))
    go_ret
    exact ⟨rfl, HB13.out⟩
set_option maxHeartbeats 8000000 in
set_option maxRecDepth 100000 in
theorem shrink_late (n m : Nat) (x y : Lp) (A As A' As' : Option Addr) (c c' d d' : Nat) (w : World) (h : At n w x A As) (h' : At m w y A' As') (hq : L.lf (n + 1) x = 0) (hE : T.sE (L.lf (n + 1) x) (L.lf (m + 1) y) (T.roundM n x) (T.roundM m y) ≠ 0) :
    Calls Tryd.prog 5 #[lv x A As c c', lv y A' As' d d'] w fun e w' => e = .returned (.bool true) ∧ Below w.heap.size w w' := by
  have HT := Lib.hid (fun (W : World) => @T.two_boxes x y A As A' As' c c' d d' w W 25 25)
  have HA := Lib.hid (fun (a b : Array Value) (e e' : TypeId) => (((Below.refl w.heap.size w).alloc (Nat.le_refl _) (.cells a e)).alloc (by simp) (.cells b e')))
  have S1 := Lib.hid (fun W (hb : Below w.heap.size w W) => T.same_any n m x y A As A' As' c c' d d' W (h.mono hb) (h'.mono hb))
  have D1 := Lib.hid (fun W (hb : Below w.heap.size w W) => T.rounded_any n x A As c c' W (h.mono hb))
  have D2 := Lib.hid (fun W (hb : Below w.heap.size w W) => T.rounded_any m y A' As' d d' W (h'.mono hb))
  have F2 := Lib.hid (fun W (hb : Below w.heap.size w W) => L.refLoop m y A' As' d d' W (h'.mono hb))
  have K2 := Lib.hid (fun W (hb : Below w.heap.size w W) => L.refLoop n x A As c c' W (h.mono hb))
  have HFN := Lib.hid (sE_or (L.lf (n + 1) x) (L.lf (m + 1) y) (T.roundM n x) (T.roundM m y))
  have K1 := Lib.hid (fun W (hb : Below w.heap.size w W) => Least_ok n x A As c c' W (h.mono hb) hq)
  obtain ⟨hv, hp⟩ := lf_vd h hq
  have K3 := Lib.hid (fun W (hb : Below w.heap.size w W) => (leastOf_any _ x A As c c' W (Nat.le_refl _) ((at_LR h).below hb) hv hp).mono fun e w' he => (⟨cr_open he.1, he.2⟩ : _ ∧ _))
  have K4 := Lib.hid (fun (R R' : Nat → Prop) (A1 B1 A2 B2 : Option Addr) (k1 k2 k3 k4 : Nat) (W : World) (h1 : LR R W (lst x) A1 B1) (h2 : LR R' W (lst x) A2 B2) => equalR (lst x) (lst x) A1 B1 A2 B2 k1 k2 k3 k4 W h1 h2)
  rw [decide_eq_true rfl] at K4
  clear hv hp
  have hS := sB_bad hE
  have hE1 : (T.sE (L.lf (n + 1) x) (L.lf (m + 1) y) (T.roundM n x) (T.roundM m y) != 0) = true := bne_iff_ne.2 hE
  rw [hS] at S1
  generalize T.sE (L.lf (n + 1) x) (L.lf (m + 1) y) (T.roundM n x) (T.roundM m y) = E at *
  generalize T.rE (L.lf (n + 1) x) (T.roundM n x) = e1 at *
  generalize T.rE (L.lf (m + 1) y) (T.roundM m y) = e2 at *
  generalize T.rP (L.lf (n + 1) x) (T.roundM n x) = p1 at *
  generalize T.rP (L.lf (m + 1) y) (T.roundM m y) = p2 at *
  generalize T.rL (L.lf (n + 1) x) (T.roundM n x) = l1 at *
  generalize T.rL (L.lf (m + 1) y) (T.roundM m y) = l2 at *
  generalize L.lf (m + 1) y = qb at *
  rw [hq] at K2 HFN
  clear hE hS
  generalize lst x = z at *
  clear h h' hq
  unfold lv at S1 D1 D2 F2 K1 K2 K3 K4 ⊢
  go_enter Tryd.func5, Tryd.ntmps5
  go_wp2_with (first
    | (go_at_call 9; refine (K1.out _ (HA.out _ _ _ _)).mono ?_; rintro e w1 ⟨⟨R1, A1, B1, k1, k2, rfl, hL1⟩, hB1⟩; have HL1 := Lib.hid hL1; have HB1 := Lib.hid (B.below_trans (HA.out _ _ _ _) hB1); have HX1 := Lib.hid hB1; clear hL1 hB1; have HAL := Lib.hid ((Below.refl w1.heap.size w1).alloc (Nat.le_refl _) (.cells #[.int .i64 z.kind, .string z.item, .int .i64 z.long, .int .i64 z.many, .slice A1 z.kids.length k1, .slice B1 z.shares.length k2] 25)); have HY := Lib.hid (HT.out _ (B.below_trans HX1.out HAL.out)).1; have y0 := HY.out 0 _ rfl; have y1 := HY.out 1 _ rfl; have y2 := HY.out 2 _ rfl; have y3 := HY.out 3 _ rfl; have y4 := HY.out 4 _ rfl; have y5 := HY.out 5 _ rfl)
    | (go_at_call 7; refine (K2.out _ (B.below_trans HB1.out HAL.out)).mono ?_; rintro e w2 ⟨rfl, hB2⟩; have HX2 := Lib.hid (B.below_trans HX1.out (B.below_trans HAL.out hB2)); have HB2 := Lib.hid (B.below_trans HB1.out (B.below_trans HAL.out hB2)); have HW2 := Lib.hid hB2; clear hB2))
  have HXX := Lib.hid (HT.out _ HX2.out)
  have HZ1 := Lib.hid (fun (W : World) => @L.boxed z A1 B1 k1 k2 w1 W 25)
  have x0 := HXX.out.1 0 _ rfl
  have x1 := HXX.out.1 1 _ rfl
  have x2 := HXX.out.1 2 _ rfl
  have x3 := HXX.out.1 3 _ rfl
  have x4 := HXX.out.1 4 _ rfl
  have x5 := HXX.out.1 5 _ rfl
  have HZ2 := Lib.hid (HZ1.out w2 HW2.out)
  obtain ⟨v0, v1, v2, v3, v4, v5⟩ := HZ2.out
  have HXS := Lib.hid (fun (W : World) (hb : Below w2.heap.size w2 W) => (⟨B.cell_below hb x0, B.cell_below hb x1, B.cell_below hb x2, B.cell_below hb x3, B.cell_below hb x4, B.cell_below hb x5⟩ : _ ∧ _ ∧ _ ∧ _ ∧ _ ∧ _))
  have HBD := Lib.hid (B.below_drew HB2.out 1)
  have HDD := Lib.hid (B.below_drew (Below.refl w2.heap.size w2) 1)
  have HWD := Lib.hid (B.below_drew HW2.out 1)
  clear y0 y1 y2 y3 y4 y5
  refine wp_region_held_drew (S := fun w' => (w'.cell? ⟨w1.heap.size, 0, none⟩ = some (.int .i64 z.kind) ∧ w'.cell? ⟨w1.heap.size, 1, none⟩ = some (.string z.item) ∧ w'.cell? ⟨w1.heap.size, 2, none⟩ = some (.int .i64 z.long) ∧ w'.cell? ⟨w1.heap.size, 3, none⟩ = some (.int .i64 z.many) ∧ w'.cell? ⟨w1.heap.size, 4, none⟩ = some (.slice A1 z.kids.length k1) ∧ w'.cell? ⟨w1.heap.size, 5, none⟩ = some (.slice B1 z.shares.length k2)) ∧ (w'.cell? ⟨w.heap.size, 0, none⟩ = some (.int .i64 x.kind) ∧ w'.cell? ⟨w.heap.size, 1, none⟩ = some (.string x.item) ∧ w'.cell? ⟨w.heap.size, 2, none⟩ = some (.int .i64 x.long) ∧ w'.cell? ⟨w.heap.size, 3, none⟩ = some (.int .i64 x.many) ∧ w'.cell? ⟨w.heap.size, 4, none⟩ = some (.slice A x.kids.length c) ∧ w'.cell? ⟨w.heap.size, 5, none⟩ = some (.slice As x.shares.length c'))) (by kernel_rfl) (⟨HZ2.out, HXS.out _ HDD.out⟩) (fun hHeld => ?_)
  refine wpAnyH_take (i := 0) (v := ?_) at0 (by kernel_rfl) (by kernel_rfl) (by kernel_rfl) (fun _ _ _ h => h) (Or.inl ⟨by rfl, ?_⟩) (by assumption) ?_
  rotate_left
  · (intro w9 hSw; (try dsimp only at hSw); go_simp; try (with_reducible rfl))
  try simp only [Act.put, List.setIfInBounds_toArray, List.set_cons_zero, List.set_cons_succ]
  refine wpAnyH_take (i := 1) (v := ?_) at1 (by kernel_rfl) (by kernel_rfl) (by kernel_rfl) (fun _ _ _ h => h) (Or.inl ⟨by rfl, ?_⟩) (by assumption) ?_
  rotate_left
  · (intro w9 hSw; (try dsimp only at hSw); go_simp; try (with_reducible rfl))
  try simp only [Act.put, List.setIfInBounds_toArray, List.set_cons_zero, List.set_cons_succ]
  refine wpAnyH_take (i := 2) (v := ?_) at2 (by kernel_rfl) (by kernel_rfl) (by kernel_rfl) (fun _ _ _ h => h) (Or.inl ⟨by rfl, ?_⟩) (by assumption) ?_
  rotate_left
  · (intro w9 hSw; (try dsimp only at hSw); go_simp; try (with_reducible rfl))
  try simp only [Act.put, List.setIfInBounds_toArray, List.set_cons_zero, List.set_cons_succ]
  refine wpAnyH_take (i := 3) (v := ?_) at3 (by kernel_rfl) (by kernel_rfl) (by kernel_rfl) (fun _ _ _ h => h) (Or.inl ⟨by rfl, ?_⟩) (by assumption) ?_
  rotate_left
  · (intro w9 hSw; (try dsimp only at hSw); go_simp; try (with_reducible rfl))
  try simp only [Act.put, List.setIfInBounds_toArray, List.set_cons_zero, List.set_cons_succ]
  refine wpAnyH_take (i := 4) (v := ?_) at4 (by kernel_rfl) (by kernel_rfl) (by kernel_rfl) (fun _ _ _ h => h) (Or.inl ⟨by rfl, ?_⟩) (by assumption) ?_
  rotate_left
  · (intro w9 hSw; (try dsimp only at hSw); go_simp; try (with_reducible rfl))
  try simp only [Act.put, List.setIfInBounds_toArray, List.set_cons_zero, List.set_cons_succ]
  refine wpAnyH_take (i := 5) (v := ?_) at5 (by kernel_rfl) (by kernel_rfl) (by kernel_rfl) (fun _ _ _ h => h) (Or.inl ⟨by rfl, ?_⟩) (by assumption) ?_
  rotate_left
  · (intro w9 hSw; (try dsimp only at hSw); go_simp; try (with_reducible rfl))
  try simp only [Act.put, List.setIfInBounds_toArray, List.set_cons_zero, List.set_cons_succ]
  refine wpAnyH_take (i := 6) (v := ?_) at6 (by kernel_rfl) (by kernel_rfl) (by kernel_rfl) (fun _ _ _ h => h) (Or.inl ⟨by rfl, ?_⟩) (by assumption) ?_
  rotate_left
  · (intro w9 hSw; (try dsimp only at hSw); go_simp; try (with_reducible rfl))
  try simp only [Act.put, List.setIfInBounds_toArray, List.set_cons_zero, List.set_cons_succ]
  refine wpAnyH_take (i := 7) (v := ?_) at7 (by kernel_rfl) (by kernel_rfl) (by kernel_rfl) (fun _ _ _ h => h) (Or.inl ⟨by rfl, ?_⟩) (by assumption) ?_
  rotate_left
  · (intro w9 hSw; (try dsimp only at hSw); go_simp; try (with_reducible rfl))
  try simp only [Act.put, List.setIfInBounds_toArray, List.set_cons_zero, List.set_cons_succ]
  refine wpAnyH_take (i := 8) (v := ?_) at8 (by kernel_rfl) (by kernel_rfl) (by kernel_rfl) (fun _ _ _ h => h) (Or.inl ⟨by rfl, ?_⟩) (by assumption) ?_
  rotate_left
  · (intro w9 hSw; (try dsimp only at hSw); go_simp; try (with_reducible rfl))
  try simp only [Act.put, List.setIfInBounds_toArray, List.set_cons_zero, List.set_cons_succ]
  refine wpAnyH_ready (rs := [9]) (by kernel_rfl) (by simp) ?_
  refine AllReadyH.cons at9 (fun K hK => ?_) AllReadyH.nil
  go_simp
  go_at_call 11; refine (K3.out (w2.drewN 1) HBD.out).mono ?_; rintro e w5 ⟨⟨A5, B5, j5, j6, rfl, hL5⟩, hB5⟩; have HL5 := Lib.hid hL5; have HB5 := Lib.hid (B.below_trans HBD.out hB5); have HW5 := Lib.hid (B.below_trans HWD.out hB5); have HX5 := Lib.hid (B.below_trans HDD.out hB5); clear hL5 hB5
  go_simp
  refine hK.out _ _ (⟨HZ1.out _ HW5.out, HXS.out _ HX5.out⟩) (fun hHeld => ?_)
  clear hK K
  try simp only [Act.put, List.setIfInBounds_toArray, List.set_cons_zero, List.set_cons_succ]
  refine wpAnyH_ready (rs := [10]) (by kernel_rfl) (by simp) ?_
  refine AllReadyH.cons at10 (fun K hK => ?_) AllReadyH.nil
  go_simp
  go_at_call 10; refine (K4.out _ _ _ _ _ _ _ _ _ _ w5 (HL1.out.below (B.below_trans HAL.out HW5.out)) HL5.out).mono ?_; rintro e w6 ⟨rfl, hB6⟩; have HB6 := Lib.hid (B.below_trans HB5.out hB6); have HV6 := Lib.hid (B.below_trans HX2.out (B.below_trans HX5.out hB6))
  go_simp
  refine hK.out _ _ (⟨HZ1.out _ (B.below_trans HW5.out hB6), HXS.out _ (B.below_trans HX5.out hB6)⟩) (fun hHeld => ?_)
  clear hK K
  try simp only [Act.put, List.setIfInBounds_toArray, List.set_cons_zero, List.set_cons_succ]
  refine wpAnyH_take (i := 11) (v := ?_) at11 (by kernel_rfl) (by kernel_rfl) (by kernel_rfl) (fun _ _ _ h => h) (Or.inl ⟨by rfl, ?_⟩) (by assumption) ?_
  rotate_left
  · (intro w9 hSw; (try dsimp only at hSw); go_simp; try (with_reducible rfl))
  try simp only [Act.put, List.setIfInBounds_toArray, List.set_cons_zero, List.set_cons_succ]
  refine wpAnyH_take (i := 12) (v := ?_) at12 (by kernel_rfl) (by kernel_rfl) (by kernel_rfl) (fun _ _ _ h => h) (Or.inl ⟨by rfl, ?_⟩) (by assumption) ?_
  rotate_left
  · (intro w9 hSw; (try dsimp only at hSw); go_simp; try (with_reducible rfl))
  try simp only [Act.put, List.setIfInBounds_toArray, List.set_cons_zero, List.set_cons_succ]
  refine wpAnyH_take (i := 13) (v := ?_) at13 (by kernel_rfl) (by kernel_rfl) (by kernel_rfl) (fun _ _ _ h => h) (Or.inl ⟨by rfl, ?_⟩) (by assumption) ?_
  rotate_left
  · (intro w9 hSw; (try dsimp only at hSw); go_simp; try (with_reducible rfl))
  try simp only [Act.put, List.setIfInBounds_toArray, List.set_cons_zero, List.set_cons_succ]
  refine wpAnyH_take (i := 14) (v := ?_) at14 (by kernel_rfl) (by kernel_rfl) (by kernel_rfl) (fun _ _ _ h => h) (Or.inl ⟨by rfl, ?_⟩) (by assumption) ?_
  rotate_left
  · (intro w9 hSw; (try dsimp only at hSw); go_simp; try (with_reducible rfl))
  try simp only [Act.put, List.setIfInBounds_toArray, List.set_cons_zero, List.set_cons_succ]
  refine wpAnyH_take (i := 15) (v := ?_) at15 (by kernel_rfl) (by kernel_rfl) (by kernel_rfl) (fun _ _ _ h => h) (Or.inl ⟨by rfl, ?_⟩) (by assumption) ?_
  rotate_left
  · (intro w9 hSw; (try dsimp only at hSw); go_simp; try (with_reducible rfl))
  try simp only [Act.put, List.setIfInBounds_toArray, List.set_cons_zero, List.set_cons_succ]
  refine wpAnyH_take (i := 16) (v := ?_) at16 (by kernel_rfl) (by kernel_rfl) (by kernel_rfl) (fun _ _ _ h => h) (Or.inl ⟨by rfl, ?_⟩) (by assumption) ?_
  rotate_left
  · (intro w9 hSw; (try dsimp only at hSw); go_simp; try (with_reducible rfl))
  try simp only [Act.put, List.setIfInBounds_toArray, List.set_cons_zero, List.set_cons_succ]
  refine wpAnyH_take (i := 17) (v := ?_) at17 (by kernel_rfl) (by kernel_rfl) (by kernel_rfl) (fun _ _ _ h => h) (Or.inl ⟨by rfl, ?_⟩) (by assumption) ?_
  rotate_left
  · (intro w9 hSw; (try dsimp only at hSw); go_simp; try (with_reducible rfl))
  try simp only [Act.put, List.setIfInBounds_toArray, List.set_cons_zero, List.set_cons_succ]
  refine wpAnyH_take (i := 18) (v := undef) at18 (by kernel_rfl) (by kernel_rfl) (by kernel_rfl) (fun _ _ _ h => h) (Or.inr ⟨by rfl, rfl⟩) (by assumption) ?_
  try simp only [Act.put, List.setIfInBounds_toArray, List.set_cons_zero, List.set_cons_succ]
  refine wpAnyH_take (i := 19) (v := undef) at19 (by kernel_rfl) (by kernel_rfl) (by kernel_rfl) (fun _ _ _ h => h) (Or.inr ⟨by rfl, rfl⟩) (by assumption) ?_
  try simp only [Act.put, List.setIfInBounds_toArray, List.set_cons_zero, List.set_cons_succ]
  refine wpAnyH_take (i := 20) (v := undef) at20 (by kernel_rfl) (by kernel_rfl) (by kernel_rfl) (fun _ _ _ h => h) (Or.inr ⟨by rfl, rfl⟩) (by assumption) ?_
  try simp only [Act.put, List.setIfInBounds_toArray, List.set_cons_zero, List.set_cons_succ]
  refine wpAnyH_take (i := 21) (v := undef) at21 (by kernel_rfl) (by kernel_rfl) (by kernel_rfl) (fun _ _ _ h => h) (Or.inr ⟨by rfl, rfl⟩) (by assumption) ?_
  try simp only [Act.put, List.setIfInBounds_toArray, List.set_cons_zero, List.set_cons_succ]
  refine wpAnyH_take (i := 22) (v := ?_) at22 (by kernel_rfl) (by kernel_rfl) (by kernel_rfl) (fun _ _ _ h => h) (Or.inl ⟨by rfl, ?_⟩) (by assumption) ?_
  rotate_left
  · (intro w9 hSw; (try dsimp only at hSw); go_simp; try (with_reducible rfl))
  try simp only [Act.put, List.setIfInBounds_toArray, List.set_cons_zero, List.set_cons_succ]
  refine wpAnyH_take (i := 23) (v := ?_) at23 (by kernel_rfl) (by kernel_rfl) (by kernel_rfl) (fun _ _ _ h => h) (Or.inl ⟨by rfl, ?_⟩) (by assumption) ?_
  rotate_left
  · (intro w9 hSw; (try dsimp only at hSw); go_simp; try (with_reducible rfl))
  try simp only [Act.put, List.setIfInBounds_toArray, List.set_cons_zero, List.set_cons_succ]
  refine wpAnyH_done (by kernel_rfl) ?_ _
  all_goals
    clear x0 x1 x2 x3 x4 x5 v0 v1 v2 v3 v4 v5 hB6
    have HC6 := Lib.hid (HT.out w6 HV6.out)
    clear HB2 HBD HWD HDD HX2 HX1 HXX HXS
    have x0 := HC6.out.1 0 _ rfl
    have x1 := HC6.out.1 1 _ rfl
    have x2 := HC6.out.1 2 _ rfl
    have x3 := HC6.out.1 3 _ rfl
    have x4 := HC6.out.1 4 _ rfl
    have x5 := HC6.out.1 5 _ rfl
    have y0 := HC6.out.2 0 _ rfl
    have y1 := HC6.out.2 1 _ rfl
    have y2 := HC6.out.2 2 _ rfl
    have y3 := HC6.out.2 3 _ rfl
    have y4 := HC6.out.2 4 _ rfl
    have y5 := HC6.out.2 5 _ rfl
    have s1 := S1.out w6 HB6.out
    go_simp
    go_upto_region 6 with (go_at_call 12; refine s1.mono ?_; rintro e w7 ⟨rfl, hB7⟩; have HV7 := Lib.hid (B.below_trans HV6.out hB7); have HB7 := Lib.hid (B.below_trans HB6.out hB7); clear hB7)
    clear s1 x0 x1 x2 x3 x4 x5 y0 y1 y2 y3 y4 y5
    have HC7 := Lib.hid (HT.out w7 HV7.out)
    have x0 := HC7.out.1 0 _ rfl
    have x1 := HC7.out.1 1 _ rfl
    have x2 := HC7.out.1 2 _ rfl
    have x3 := HC7.out.1 3 _ rfl
    have x4 := HC7.out.1 4 _ rfl
    have x5 := HC7.out.1 5 _ rfl
    have d1 := D1.out w7 HB7.out
    go_upto_region 7 with (go_at_call 13; refine d1.mono ?_; rintro e w8 ⟨⟨A8, k8, rfl, hC8⟩, hB8⟩; have HS8 := Lib.hid hC8; have HV8 := Lib.hid (B.below_trans HV7.out hB8); have HB8 := Lib.hid (B.below_trans HB7.out hB8); clear hB8 hC8)
    clear d1 x0 x1 x2 x3 x4 x5
    have HC8 := Lib.hid (HT.out w8 HV8.out)
    have y0 := HC8.out.2 0 _ rfl
    have y1 := HC8.out.2 1 _ rfl
    have y2 := HC8.out.2 2 _ rfl
    have y3 := HC8.out.2 3 _ rfl
    have y4 := HC8.out.2 4 _ rfl
    have y5 := HC8.out.2 5 _ rfl
    have d2 := D2.out w8 HB8.out
    go_upto_region 8 with (go_at_call 13; refine d2.mono ?_; rintro e w9 ⟨⟨A9, k9, rfl, hC9⟩, hB9⟩; have HS9 := Lib.hid hC9; have HS89 := Lib.hid (HS8.out.mono hB9); have HV9 := Lib.hid (B.below_trans HV8.out hB9); have HB9 := Lib.hid (B.below_trans HB8.out hB9); clear hB9 hC9)
    clear d2 y0 y1 y2 y3 y4 y5
    have HC9 := Lib.hid (HT.out w9 HV9.out)
    have y0 := HC9.out.2 0 _ rfl
    have y1 := HC9.out.2 1 _ rfl
    have y2 := HC9.out.2 2 _ rfl
    have y3 := HC9.out.2 3 _ rfl
    have y4 := HC9.out.2 4 _ rfl
    have y5 := HC9.out.2 5 _ rfl
    have f2 := F2.out w9 HB9.out
    go_wp2_with (first
      | (go_at_call 7; refine f2.mono ?_; rintro e w10 ⟨rfl, hB10⟩; have HB10 := Lib.hid (B.below_trans HB9.out hB10); have HT9 := Lib.hid (HS9.out.mono hB10); have HT89 := Lib.hid (HS89.out.mono hB10); clear hB10)
      | (go_at_call 14; refine (Or.orOf _ [0, qb, e1, e2] _ (Or.lit_ints _ _ _ _ 4 rfl (by rfl) (show 4 ≤ 140737488355328 by decide))).mono ?_; rintro e w11 ⟨he11, hB11⟩; rw [HFN.out] at he11; obtain rfl := he11; have HB11 := Lib.hid (B.below_trans (B.below_trans HB10.out ((Below.refl _ _).alloc (Nat.le_refl _) _)) hB11); have HU9 := Lib.hid ((HT9.out.mono ((Below.refl _ _).alloc (Nat.le_refl _) _)).mono hB11); have HU89 := Lib.hid ((HT89.out.mono ((Below.refl _ _).alloc (Nat.le_refl _) _)).mono hB11); clear hB11)
      --| (go_at_call 16; refine (SS.out _ HU89.out HU9.out).mono ?_; rintro e w12 ⟨rfl, hB12⟩; have HB12 := Lib.hid (B.below_trans HB11.out hB12); clear hB12)
      | (go_at_call 15; refine (T.looped _).mono ?_; rintro e w13 ⟨rfl, hB13⟩; have HB13 := Lib.hid (B.below_trans HB11.out hB13); clear hB13))
    go_ret
    exact ⟨rfl, HB13.out⟩
set_option maxHeartbeats 8000000 in
set_option maxRecDepth 100000 in
theorem shrink_bad (n m : Nat) (x y : Lp) (A As A' As' : Option Addr) (c c' d d' : Nat) (w : World) (h : At n w x A As) (h' : At m w y A' As') (hq : L.lf (n + 1) x ≠ 0) :
    Calls Tryd.prog 5 #[lv x A As c c', lv y A' As' d d'] w fun e w' => e = .returned (.bool true) ∧ Below w.heap.size w w' := by
  have HT := Lib.hid (fun (W : World) => @T.two_boxes x y A As A' As' c c' d d' w W 25 25)
  have HA := Lib.hid (fun (a b : Array Value) (e e' : TypeId) => (((Below.refl w.heap.size w).alloc (Nat.le_refl _) (.cells a e)).alloc (by simp) (.cells b e')))
  have S1 := Lib.hid (fun W (hb : Below w.heap.size w W) => T.same_any n m x y A As A' As' c c' d d' W (h.mono hb) (h'.mono hb))
  have D1 := Lib.hid (fun W (hb : Below w.heap.size w W) => T.rounded_any n x A As c c' W (h.mono hb))
  have D2 := Lib.hid (fun W (hb : Below w.heap.size w W) => T.rounded_any m y A' As' d d' W (h'.mono hb))
  have F2 := Lib.hid (fun W (hb : Below w.heap.size w W) => L.refLoop m y A' As' d d' W (h'.mono hb))
  have K2 := Lib.hid (fun W (hb : Below w.heap.size w W) => L.refLoop n x A As c c' W (h.mono hb))
  have HFN := Lib.hid (sE_or (L.lf (n + 1) x) (L.lf (m + 1) y) (T.roundM n x) (T.roundM m y))
  have K1 := Lib.hid (fun W (hb : Below w.heap.size w W) => Least_bad n x A As c c' W (h.mono hb) hq)
  have K4 : Hid (∀ W, Calls Tryd.prog 10 #[.agg #[.int .i64 0, .string ⟨#[]⟩, .int .i64 0, .int .i64 0, .slice none 0 0, .slice none 0 0], .agg #[.int .i64 0, .string ⟨#[]⟩, .int .i64 0, .int .i64 0, .slice none 0 0, .slice none 0 0]] W fun e w' => e = .returned (.bool true) ∧ Below W.heap.size W w') := Lib.hid (fun W => by
    have := equalR zl zl none none none none 0 0 0 0 W (lr_zl (fun _ => True) W) (lr_zl (fun _ => True) W)
    rw [decide_eq_true rfl] at this
    exact this)
  have hqe : T.sE (L.lf (n + 1) x) (L.lf (m + 1) y) (T.roundM n x) (T.roundM m y) = L.lf (n + 1) x := by unfold T.sE; rw [if_pos hq]
  have hS := sB_bad (qa := L.lf (n + 1) x) (qb := L.lf (m + 1) y) (Ra := T.roundM n x) (Rb := T.roundM m y) (by rw [hqe]; exact hq)
  have hq1 : (L.lf (n + 1) x == 0) = false := by rw [beq_eq_false_iff_ne]; exact hq
  have hq2 : (L.lf (n + 1) x != 0) = true := bne_iff_ne.2 hq
  rw [hS, hqe] at S1
  rw [hqe] at HFN
  generalize T.rE (L.lf (n + 1) x) (T.roundM n x) = e1 at *
  generalize T.rE (L.lf (m + 1) y) (T.roundM m y) = e2 at *
  generalize T.rP (L.lf (n + 1) x) (T.roundM n x) = p1 at *
  generalize T.rP (L.lf (m + 1) y) (T.roundM m y) = p2 at *
  generalize T.rL (L.lf (n + 1) x) (T.roundM n x) = l1 at *
  generalize T.rL (L.lf (m + 1) y) (T.roundM m y) = l2 at *
  generalize L.lf (m + 1) y = qb at *
  generalize L.lf (n + 1) x = qa at *
  clear hS hqe hq h h'
  unfold lv at S1 D1 D2 F2 K1 K2 ⊢
  go_enter Tryd.func5, Tryd.ntmps5
  go_wp2_with (first
    | (go_at_call 9; refine (K1.out _ (HA.out _ _ _ _)).mono ?_; rintro e w1 ⟨rfl, hB1⟩; have HB1 := Lib.hid (B.below_trans (HA.out _ _ _ _) hB1); have HX1 := Lib.hid hB1; clear hB1; have HAL := Lib.hid ((Below.refl w1.heap.size w1).alloc (Nat.le_refl _) (.cells #[.int .i64 0, .string ⟨#[]⟩, .int .i64 0, .int .i64 0, .slice none 0 0, .slice none 0 0] 25)); have HY := Lib.hid (HT.out _ (B.below_trans HX1.out HAL.out)).1; have y0 := HY.out 0 _ rfl; have y1 := HY.out 1 _ rfl; have y2 := HY.out 2 _ rfl; have y3 := HY.out 3 _ rfl; have y4 := HY.out 4 _ rfl; have y5 := HY.out 5 _ rfl)
    | (go_at_call 7; refine (K2.out _ (B.below_trans HB1.out HAL.out)).mono ?_; rintro e w2 ⟨rfl, hB2⟩; have HX2 := Lib.hid (B.below_trans HX1.out (B.below_trans HAL.out hB2)); have HB2 := Lib.hid (B.below_trans HB1.out (B.below_trans HAL.out hB2)); have HW2 := Lib.hid hB2; clear hB2))
  have HXX := Lib.hid (HT.out _ HX2.out)
  have HZ1 := Lib.hid (fun (W : World) (hb : Below (w1.alloc (.cells #[.int .i64 0, .string ⟨#[]⟩, .int .i64 0, .int .i64 0, .slice none 0 0, .slice none 0 0] 25)).heap.size (w1.alloc (.cells #[.int .i64 0, .string ⟨#[]⟩, .int .i64 0, .int .i64 0, .slice none 0 0, .slice none 0 0] 25)) W) => (@L.boxed zl none none 0 0 w1 W 25 hb : W.cell? ⟨w1.heap.size, 0, none⟩ = some (.int .i64 0) ∧ W.cell? ⟨w1.heap.size, 1, none⟩ = some (.string ⟨#[]⟩) ∧ W.cell? ⟨w1.heap.size, 2, none⟩ = some (.int .i64 0) ∧ W.cell? ⟨w1.heap.size, 3, none⟩ = some (.int .i64 0) ∧ W.cell? ⟨w1.heap.size, 4, none⟩ = some (.slice none 0 0) ∧ W.cell? ⟨w1.heap.size, 5, none⟩ = some (.slice none 0 0)))
  have x0 := HXX.out.1 0 _ rfl
  have x1 := HXX.out.1 1 _ rfl
  have x2 := HXX.out.1 2 _ rfl
  have x3 := HXX.out.1 3 _ rfl
  have x4 := HXX.out.1 4 _ rfl
  have x5 := HXX.out.1 5 _ rfl
  have HZ2 := Lib.hid (HZ1.out w2 HW2.out)
  obtain ⟨v0, v1, v2, v3, v4, v5⟩ := HZ2.out
  have HBD := Lib.hid (B.below_drew HB2.out 1)
  have HWD := Lib.hid (B.below_drew HW2.out 1)
  have HDD := Lib.hid (B.below_drew (Below.refl w2.heap.size w2) 1)
  have HXS := Lib.hid HX2.out
  clear y0 y1 y2 y3 y4 y5
  refine wp_region_held_drew (S := fun w' => w'.cell? ⟨w1.heap.size, 0, none⟩ = some (.int .i64 0) ∧ w'.cell? ⟨w1.heap.size, 1, none⟩ = some (.string ⟨#[]⟩) ∧ w'.cell? ⟨w1.heap.size, 2, none⟩ = some (.int .i64 0) ∧ w'.cell? ⟨w1.heap.size, 3, none⟩ = some (.int .i64 0) ∧ w'.cell? ⟨w1.heap.size, 4, none⟩ = some (.slice none 0 0) ∧ w'.cell? ⟨w1.heap.size, 5, none⟩ = some (.slice none 0 0)) (by kernel_rfl) (HZ2.out) (fun hHeld => ?_)
  refine wpAnyH_take (i := 0) (v := ?_) at0 (by kernel_rfl) (by kernel_rfl) (by kernel_rfl) (fun _ _ _ h => h) (Or.inl ⟨by rfl, ?_⟩) (by assumption) ?_
  rotate_left
  · (intro w9 hSw; (try dsimp only at hSw); go_simp; try (with_reducible rfl))
  try simp only [Act.put, List.setIfInBounds_toArray, List.set_cons_zero, List.set_cons_succ]
  refine wpAnyH_take (i := 1) (v := ?_) at1 (by kernel_rfl) (by kernel_rfl) (by kernel_rfl) (fun _ _ _ h => h) (Or.inl ⟨by rfl, ?_⟩) (by assumption) ?_
  rotate_left
  · (intro w9 hSw; (try dsimp only at hSw); go_simp; try (with_reducible rfl))
  try simp only [Act.put, List.setIfInBounds_toArray, List.set_cons_zero, List.set_cons_succ]
  refine wpAnyH_take (i := 2) (v := ?_) at2 (by kernel_rfl) (by kernel_rfl) (by kernel_rfl) (fun _ _ _ h => h) (Or.inl ⟨by rfl, ?_⟩) (by assumption) ?_
  rotate_left
  · (intro w9 hSw; (try dsimp only at hSw); go_simp; try (with_reducible rfl))
  try simp only [Act.put, List.setIfInBounds_toArray, List.set_cons_zero, List.set_cons_succ]
  refine wpAnyH_take (i := 3) (v := ?_) at3 (by kernel_rfl) (by kernel_rfl) (by kernel_rfl) (fun _ _ _ h => h) (Or.inl ⟨by rfl, ?_⟩) (by assumption) ?_
  rotate_left
  · (intro w9 hSw; (try dsimp only at hSw); go_simp; try (with_reducible rfl))
  try simp only [Act.put, List.setIfInBounds_toArray, List.set_cons_zero, List.set_cons_succ]
  refine wpAnyH_take (i := 4) (v := ?_) at4 (by kernel_rfl) (by kernel_rfl) (by kernel_rfl) (fun _ _ _ h => h) (Or.inl ⟨by rfl, ?_⟩) (by assumption) ?_
  rotate_left
  · (intro w9 hSw; (try dsimp only at hSw); go_simp; try (with_reducible rfl))
  try simp only [Act.put, List.setIfInBounds_toArray, List.set_cons_zero, List.set_cons_succ]
  refine wpAnyH_take (i := 5) (v := ?_) at5 (by kernel_rfl) (by kernel_rfl) (by kernel_rfl) (fun _ _ _ h => h) (Or.inl ⟨by rfl, ?_⟩) (by assumption) ?_
  rotate_left
  · (intro w9 hSw; (try dsimp only at hSw); go_simp; try (with_reducible rfl))
  try simp only [Act.put, List.setIfInBounds_toArray, List.set_cons_zero, List.set_cons_succ]
  refine wpAnyH_take (i := 6) (v := ?_) at6 (by kernel_rfl) (by kernel_rfl) (by kernel_rfl) (fun _ _ _ h => h) (Or.inl ⟨by rfl, ?_⟩) (by assumption) ?_
  rotate_left
  · (intro w9 hSw; (try dsimp only at hSw); go_simp; try (with_reducible rfl))
  try simp only [Act.put, List.setIfInBounds_toArray, List.set_cons_zero, List.set_cons_succ]
  refine wpAnyH_take (i := 7) (v := undef) at7 (by kernel_rfl) (by kernel_rfl) (by kernel_rfl) (fun _ _ _ h => h) (Or.inr ⟨by rfl, rfl⟩) (by assumption) ?_
  try simp only [Act.put, List.setIfInBounds_toArray, List.set_cons_zero, List.set_cons_succ]
  refine wpAnyH_take (i := 8) (v := undef) at8 (by kernel_rfl) (by kernel_rfl) (by kernel_rfl) (fun _ _ _ h => h) (Or.inr ⟨by rfl, rfl⟩) (by assumption) ?_
  try simp only [Act.put, List.setIfInBounds_toArray, List.set_cons_zero, List.set_cons_succ]
  refine wpAnyH_take (i := 9) (v := undef) at9 (by kernel_rfl) (by kernel_rfl) (by kernel_rfl) (fun _ _ _ h => h) (Or.inr ⟨by rfl, rfl⟩) (by assumption) ?_
  try simp only [Act.put, List.setIfInBounds_toArray, List.set_cons_zero, List.set_cons_succ]
  refine wpAnyH_take (i := 10) (v := undef) at10 (by kernel_rfl) (by kernel_rfl) (by kernel_rfl) (fun _ _ _ h => h) (Or.inr ⟨by rfl, rfl⟩) (by assumption) ?_
  try simp only [Act.put, List.setIfInBounds_toArray, List.set_cons_zero, List.set_cons_succ]
  refine wpAnyH_take (i := 11) (v := undef) at11 (by kernel_rfl) (by kernel_rfl) (by kernel_rfl) (fun _ _ _ h => h) (Or.inr ⟨by rfl, rfl⟩) (by assumption) ?_
  try simp only [Act.put, List.setIfInBounds_toArray, List.set_cons_zero, List.set_cons_succ]
  refine wpAnyH_take (i := 12) (v := ?_) at12 (by kernel_rfl) (by kernel_rfl) (by kernel_rfl) (fun _ _ _ h => h) (Or.inl ⟨by rfl, ?_⟩) (by assumption) ?_
  rotate_left
  · (intro w9 hSw; (try dsimp only at hSw); go_simp; try (with_reducible rfl))
  try simp only [Act.put, List.setIfInBounds_toArray, List.set_cons_zero, List.set_cons_succ]
  refine wpAnyH_take (i := 13) (v := ?_) at13 (by kernel_rfl) (by kernel_rfl) (by kernel_rfl) (fun _ _ _ h => h) (Or.inl ⟨by rfl, ?_⟩) (by assumption) ?_
  rotate_left
  · (intro w9 hSw; (try dsimp only at hSw); go_simp; try (with_reducible rfl))
  try simp only [Act.put, List.setIfInBounds_toArray, List.set_cons_zero, List.set_cons_succ]
  refine wpAnyH_take (i := 14) (v := ?_) at14 (by kernel_rfl) (by kernel_rfl) (by kernel_rfl) (fun _ _ _ h => h) (Or.inl ⟨by rfl, ?_⟩) (by assumption) ?_
  rotate_left
  · (intro w9 hSw; (try dsimp only at hSw); go_simp; try (with_reducible rfl))
  try simp only [Act.put, List.setIfInBounds_toArray, List.set_cons_zero, List.set_cons_succ]
  refine wpAnyH_take (i := 15) (v := ?_) at15 (by kernel_rfl) (by kernel_rfl) (by kernel_rfl) (fun _ _ _ h => h) (Or.inl ⟨by rfl, ?_⟩) (by assumption) ?_
  rotate_left
  · (intro w9 hSw; (try dsimp only at hSw); go_simp; try (with_reducible rfl))
  try simp only [Act.put, List.setIfInBounds_toArray, List.set_cons_zero, List.set_cons_succ]
  refine wpAnyH_take (i := 16) (v := ?_) at16 (by kernel_rfl) (by kernel_rfl) (by kernel_rfl) (fun _ _ _ h => h) (Or.inl ⟨by rfl, ?_⟩) (by assumption) ?_
  rotate_left
  · (intro w9 hSw; (try dsimp only at hSw); go_simp; try (with_reducible rfl))
  try simp only [Act.put, List.setIfInBounds_toArray, List.set_cons_zero, List.set_cons_succ]
  refine wpAnyH_take (i := 17) (v := ?_) at17 (by kernel_rfl) (by kernel_rfl) (by kernel_rfl) (fun _ _ _ h => h) (Or.inl ⟨by rfl, ?_⟩) (by assumption) ?_
  rotate_left
  · (intro w9 hSw; (try dsimp only at hSw); go_simp; try (with_reducible rfl))
  try simp only [Act.put, List.setIfInBounds_toArray, List.set_cons_zero, List.set_cons_succ]
  refine wpAnyH_take (i := 18) (v := ?_) at18 (by kernel_rfl) (by kernel_rfl) (by kernel_rfl) (fun _ _ _ h => h) (Or.inl ⟨by rfl, ?_⟩) (by assumption) ?_
  rotate_left
  · (intro w9 hSw; (try dsimp only at hSw); go_simp; try (with_reducible rfl))
  try simp only [Act.put, List.setIfInBounds_toArray, List.set_cons_zero, List.set_cons_succ]
  refine wpAnyH_take (i := 19) (v := ?_) at19 (by kernel_rfl) (by kernel_rfl) (by kernel_rfl) (fun _ _ _ h => h) (Or.inl ⟨by rfl, ?_⟩) (by assumption) ?_
  rotate_left
  · (intro w9 hSw; (try dsimp only at hSw); go_simp; try (with_reducible rfl))
  try simp only [Act.put, List.setIfInBounds_toArray, List.set_cons_zero, List.set_cons_succ]
  refine wpAnyH_ready (rs := [20]) (by kernel_rfl) (by simp) ?_
  refine AllReadyH.cons at20 (fun K hK => ?_) AllReadyH.nil
  go_simp
  go_at_call 10; refine (K4.out (w2.drewN 1)).mono ?_; rintro e w6 ⟨rfl, hB6⟩; have HB6 := Lib.hid (B.below_trans HBD.out hB6); have HV6 := Lib.hid (B.below_trans HX2.out (B.below_trans HDD.out hB6))
  go_simp
  refine hK.out _ _ (HZ1.out _ (B.below_trans HWD.out hB6)) (fun hHeld => ?_)
  clear hK K
  try simp only [Act.put, List.setIfInBounds_toArray, List.set_cons_zero, List.set_cons_succ]
  refine wpAnyH_take (i := 21) (v := ?_) at21 (by kernel_rfl) (by kernel_rfl) (by kernel_rfl) (fun _ _ _ h => h) (Or.inl ⟨by rfl, ?_⟩) (by assumption) ?_
  rotate_left
  · (intro w9 hSw; (try dsimp only at hSw); go_simp; try (with_reducible rfl))
  try simp only [Act.put, List.setIfInBounds_toArray, List.set_cons_zero, List.set_cons_succ]
  refine wpAnyH_take (i := 22) (v := ?_) at22 (by kernel_rfl) (by kernel_rfl) (by kernel_rfl) (fun _ _ _ h => h) (Or.inl ⟨by rfl, ?_⟩) (by assumption) ?_
  rotate_left
  · (intro w9 hSw; (try dsimp only at hSw); go_simp; try (with_reducible rfl))
  try simp only [Act.put, List.setIfInBounds_toArray, List.set_cons_zero, List.set_cons_succ]
  refine wpAnyH_take (i := 23) (v := ?_) at23 (by kernel_rfl) (by kernel_rfl) (by kernel_rfl) (fun _ _ _ h => h) (Or.inl ⟨by rfl, ?_⟩) (by assumption) ?_
  rotate_left
  · (intro w9 hSw; (try dsimp only at hSw); go_simp; try (with_reducible rfl))
  try simp only [Act.put, List.setIfInBounds_toArray, List.set_cons_zero, List.set_cons_succ]
  refine wpAnyH_done (by kernel_rfl) ?_ _
  all_goals
    clear x0 x1 x2 x3 x4 x5 v0 v1 v2 v3 v4 v5 hB6
    have HC6 := Lib.hid (HT.out w6 HV6.out)
    clear HB2 HBD HWD HDD HX2 HX1 HXX HXS
    have x0 := HC6.out.1 0 _ rfl
    have x1 := HC6.out.1 1 _ rfl
    have x2 := HC6.out.1 2 _ rfl
    have x3 := HC6.out.1 3 _ rfl
    have x4 := HC6.out.1 4 _ rfl
    have x5 := HC6.out.1 5 _ rfl
    have y0 := HC6.out.2 0 _ rfl
    have y1 := HC6.out.2 1 _ rfl
    have y2 := HC6.out.2 2 _ rfl
    have y3 := HC6.out.2 3 _ rfl
    have y4 := HC6.out.2 4 _ rfl
    have y5 := HC6.out.2 5 _ rfl
    have s1 := S1.out w6 HB6.out
    go_simp
    go_upto_region 6 with (go_at_call 12; refine s1.mono ?_; rintro e w7 ⟨rfl, hB7⟩; have HV7 := Lib.hid (B.below_trans HV6.out hB7); have HB7 := Lib.hid (B.below_trans HB6.out hB7); clear hB7)
    clear s1 x0 x1 x2 x3 x4 x5 y0 y1 y2 y3 y4 y5
    have HC7 := Lib.hid (HT.out w7 HV7.out)
    have x0 := HC7.out.1 0 _ rfl
    have x1 := HC7.out.1 1 _ rfl
    have x2 := HC7.out.1 2 _ rfl
    have x3 := HC7.out.1 3 _ rfl
    have x4 := HC7.out.1 4 _ rfl
    have x5 := HC7.out.1 5 _ rfl
    have d1 := D1.out w7 HB7.out
    go_upto_region 7 with (go_at_call 13; refine d1.mono ?_; rintro e w8 ⟨⟨A8, k8, rfl, hC8⟩, hB8⟩; have HS8 := Lib.hid hC8; have HV8 := Lib.hid (B.below_trans HV7.out hB8); have HB8 := Lib.hid (B.below_trans HB7.out hB8); clear hB8 hC8)
    clear d1 x0 x1 x2 x3 x4 x5
    have HC8 := Lib.hid (HT.out w8 HV8.out)
    have y0 := HC8.out.2 0 _ rfl
    have y1 := HC8.out.2 1 _ rfl
    have y2 := HC8.out.2 2 _ rfl
    have y3 := HC8.out.2 3 _ rfl
    have y4 := HC8.out.2 4 _ rfl
    have y5 := HC8.out.2 5 _ rfl
    have d2 := D2.out w8 HB8.out
    go_upto_region 8 with (go_at_call 13; refine d2.mono ?_; rintro e w9 ⟨⟨A9, k9, rfl, hC9⟩, hB9⟩; have HS9 := Lib.hid hC9; have HS89 := Lib.hid (HS8.out.mono hB9); have HV9 := Lib.hid (B.below_trans HV8.out hB9); have HB9 := Lib.hid (B.below_trans HB8.out hB9); clear hB9 hC9)
    clear d2 y0 y1 y2 y3 y4 y5
    have HC9 := Lib.hid (HT.out w9 HV9.out)
    have y0 := HC9.out.2 0 _ rfl
    have y1 := HC9.out.2 1 _ rfl
    have y2 := HC9.out.2 2 _ rfl
    have y3 := HC9.out.2 3 _ rfl
    have y4 := HC9.out.2 4 _ rfl
    have y5 := HC9.out.2 5 _ rfl
    have f2 := F2.out w9 HB9.out
    go_wp2_with (first
      | (go_at_call 7; refine f2.mono ?_; rintro e w10 ⟨rfl, hB10⟩; have HB10 := Lib.hid (B.below_trans HB9.out hB10); have HT9 := Lib.hid (HS9.out.mono hB10); have HT89 := Lib.hid (HS89.out.mono hB10); clear hB10)
      | (go_at_call 14; refine (Or.orOf _ [qa, qb, e1, e2] _ (Or.lit_ints _ _ _ _ 4 rfl (by rfl) (show 4 ≤ 140737488355328 by decide))).mono ?_; rintro e w11 ⟨he11, hB11⟩; rw [HFN.out] at he11; obtain rfl := he11; have HB11 := Lib.hid (B.below_trans (B.below_trans HB10.out ((Below.refl _ _).alloc (Nat.le_refl _) _)) hB11); have HU9 := Lib.hid ((HT9.out.mono ((Below.refl _ _).alloc (Nat.le_refl _) _)).mono hB11); have HU89 := Lib.hid ((HT89.out.mono ((Below.refl _ _).alloc (Nat.le_refl _) _)).mono hB11); clear hB11)
      --| (go_at_call 16; refine (SS.out _ HU89.out HU9.out).mono ?_; rintro e w12 ⟨rfl, hB12⟩; have HB12 := Lib.hid (B.below_trans HB11.out hB12); clear hB12)
      | (go_at_call 15; refine (T.looped _).mono ?_; rintro e w13 ⟨rfl, hB13⟩; have HB13 := Lib.hid (B.below_trans HB11.out hB13); clear hB13))
    go_ret
    exact ⟨rfl, HB13.out⟩
end Go.Proofs.YtlfobpjefklccaaDoor.H
