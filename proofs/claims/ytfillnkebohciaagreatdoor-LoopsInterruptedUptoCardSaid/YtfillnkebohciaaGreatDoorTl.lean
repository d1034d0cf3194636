/- The program's tallies: an own map of pointers to own blocks. The program's tallies: the walk. Printed by wip/gen/talgen.py. kit.Lowest and the reference's lowest at right numbers. Portions. -/
import Derived.Test.YtfillnkebohciaaGreatDoorComeP
import Derived.Test.YtfillnkebohciaaGreatDoorSmall
import Derived.StillTailTactics
import Derived.Test.YtfillnkebohciaaGreatDoorComeA
import Derived.Deep.Cut
import Derived.Carry
import Derived.Test.YtfillnkebohciaaGreatDoorGcd
import Derived.Laws.ResultCell
import Derived.Laws.Rows
import Derived.WalkLawsBesides
import Derived.WalkSpells
namespace Go.Proofs.YtfillnkebohciaaGreatDoor.Come
open Go.RowKit
open T (Step stK steps_at)
open F (Fr Cl)

def ptr (b : Nat) : Value := .pointer (some ⟨b, 0, none⟩)
def ptrs (ks : List ByteArray) (bk : ByteArray → Nat) : M.Es := ks.map fun k => (k, ptr (bk k))
theorem look_ptrs {ks : List ByteArray} {bk : ByteArray → Nat} (k : ByteArray) : M.look (ptrs ks bk) k = if has ks k = true then some (ptr (bk k)) else none := by
  unfold ptrs
  induction ks with
  | nil => rfl
  | cons a ks ih =>
    have e : has (a :: ks) k = (decide (a = k) || has ks k) := rfl
    unfold M.look at ih ⊢
    rw [List.map_cons, List.find?_cons, e]
    by_cases h : a = k
    · subst h; simp
    · have hd : decide (a = k) = false := decide_eq_false h
      simp only [hd, Bool.false_or]
      exact ih
theorem put_ptrs {ks : List ByteArray} {bk : ByteArray → Nat} {k : ByteArray} {b : Nat} (h : has ks k = false) : M.put (ptrs ks bk) k (ptr b) = ptrs (ks ++ [k]) (fun x => if x = k then b else bk x) := by
  have h1 : (ptrs ks bk).any (fun p => decide (p.1 = k)) = false := by
    unfold ptrs
    rw [List.any_map]
    exact h
  unfold M.put
  rw [h1, if_neg (by simp)]
  unfold ptrs
  rw [List.map_append, List.map_singleton]
  show _ = _ ++ [(k, ptr (if k = k then b else bk k))]
  rw [if_pos rfl]
  congr 1
  refine List.map_congr_left fun x hx => ?_
  show _ = (x, ptr (if x = k then b else bk x))
  rw [if_neg (fun e => by subst e; rw [has_iff.2 hx] at h; cases h)]
/-- An own map of own blocks of two numbers. -/
structure TM (w : World) (mb lo : Nat) (ks : List ByteArray) (bk : ByteArray → Nat) (f g : ByteArray → Int) : Prop where
  om : M.OM w mb (ptrs ks bk)
  hlo : lo ≤ mb
  cl : ∀ k ∈ ks, lo ≤ bk k ∧ bk k ≠ mb ∧ Cl w (bk k) 0 (.int .i64 (f k)) ∧ Cl w (bk k) 1 (.int .i64 (g k))
  inj : ∀ k ∈ ks, ∀ k' ∈ ks, bk k = bk k' → k = k'
section
variable {w w' : World} {mb lo : Nat} {ks : List ByteArray} {bk : ByteArray → Nat} {f g : ByteArray → Int}
theorem TM.below (h : TM w mb lo ks bk f g) (hb : Below w.heap.size w w') : TM w' mb lo ks bk f g :=
  ⟨h.om.below hb, h.hlo, fun k hk => by obtain ⟨a, b, c, d⟩ := h.cl k hk; exact ⟨a, b, c.below hb, d.below hb⟩, h.inj⟩
theorem om_fr {es : M.Es} {S : Nat → Prop} (h : M.OM w mb es) (hf : Fr S w w') (hS : ¬ S mb) : M.OM w' mb es := by
  have hlt := h.lt
  obtain ⟨arr, c, h1, h2⟩ := h
  exact ⟨arr, c, (hf.block mb hlt hS).trans h1, h2⟩
/-- A number of one key is written. -/
theorem TM.set0 (h : TM w mb lo ks bk f g) {k : ByteArray} (hk : k ∈ ks) (n : Int) : TM (w.setCell ⟨bk k, 0, none⟩ (.int .i64 n)) mb lo ks bk (fun x => if x = k then n else f x) g := by
  have hf : Fr (fun b => b = bk k) w (w.setCell ⟨bk k, 0, none⟩ (.int .i64 n)) := Fr.set (S := fun b => b = bk k) (Fr.refl (fun b => b = bk k) w) (fun _ => rfl) _
  obtain ⟨a, b, c, d⟩ := h.cl k hk
  refine ⟨om_fr h.om hf (fun e => b e.symm), h.hlo, fun x hx => ?_, h.inj⟩
  obtain ⟨a', b', c', d'⟩ := h.cl x hx
  by_cases e : x = k
  · subst e
    rw [if_pos rfl]
    exact ⟨a, b, c.set _, d.set_ne (by simp) _⟩
  · rw [if_neg e]
    exact ⟨a', b', c'.fr hf (fun e2 => e (h.inj x hx k hk e2)), d'.fr hf (fun e2 => e (h.inj x hx k hk e2))⟩
theorem TM.set1 (h : TM w mb lo ks bk f g) {k : ByteArray} (hk : k ∈ ks) (n : Int) : TM (w.setCell ⟨bk k, 1, none⟩ (.int .i64 n)) mb lo ks bk f (fun x => if x = k then n else g x) := by
  have hf : Fr (fun b => b = bk k) w (w.setCell ⟨bk k, 1, none⟩ (.int .i64 n)) := Fr.set (S := fun b => b = bk k) (Fr.refl (fun b => b = bk k) w) (fun _ => rfl) _
  obtain ⟨a, b, c, d⟩ := h.cl k hk
  refine ⟨om_fr h.om hf (fun e => b e.symm), h.hlo, fun x hx => ?_, h.inj⟩
  obtain ⟨a', b', c', d'⟩ := h.cl x hx
  by_cases e : x = k
  · subst e
    rw [if_pos rfl]
    exact ⟨a, b, c.set_ne (by simp) _, d.set _⟩
  · rw [if_neg e]
    exact ⟨a', b', c'.fr hf (fun e2 => e (h.inj x hx k hk e2)), d'.fr hf (fun e2 => e (h.inj x hx k hk e2))⟩
/-- A key comes in. -/
theorem TM.add (h : TM w mb lo ks bk f g) (hlo : lo ≤ w.heap.size) {k : ByteArray} (hk : has ks k = false) {t : TypeId} (h0 : f k = 0) (h1 : g k = 0) (hO : M.OM w' mb (M.put (ptrs ks bk) k (ptr w.heap.size))) (hg : (w.alloc (.cells #[.int .i64 0, .int .i64 0] t)).grownBy w' (some mb)) :
    TM w' mb lo (ks ++ [k]) (fun x => if x = k then w.heap.size else bk x) f g := by
  have hm := h.om.lt
  have hf : Fr (fun b => b = mb) (w.alloc (.cells #[.int .i64 0, .int .i64 0] t)) w' := (Fr.refl _ _).grown hg (fun g e _ => (Option.some.inj e).symm)
  have hal : Below w.heap.size w (w.alloc (.cells #[.int .i64 0, .int .i64 0] t)) := (Below.refl _ _).alloc (Nat.le_refl _) _
  have hne : ∀ x ∈ ks, x ≠ k := fun x hx e => by subst e; rw [has_iff.2 hx] at hk; cases hk
  refine ⟨by rw [put_ptrs hk] at hO; exact hO, h.hlo, fun x hx => ?_, fun x hx y hy e => ?_⟩
  · rcases List.mem_append.1 hx with hx | hx
    · obtain ⟨a, b, c, d⟩ := h.cl x hx
      rw [if_neg (hne x hx)]
      exact ⟨a, b, (c.below hal).fr hf b, (d.below hal).fr hf b⟩
    · rw [List.mem_singleton] at hx
      subst hx
      rw [if_pos rfl, h0, h1]
      exact ⟨hlo, by omega, (Cl.new w #[.int .i64 0, .int .i64 0] t 0 _ rfl).fr hf (by omega), (Cl.new w #[.int .i64 0, .int .i64 0] t 1 _ rfl).fr hf (by omega)⟩
  · have hlt : ∀ x ∈ ks, bk x < w.heap.size := fun x hx => (h.cl x hx).2.2.1.lt
    rcases List.mem_append.1 hx with hx2 | hx2 <;> rcases List.mem_append.1 hy with hy2 | hy2
    · rw [if_neg (hne x hx2), if_neg (hne y hy2)] at e; exact h.inj x hx2 y hy2 e
    · rw [List.mem_singleton] at hy2
      have hyk := hy2
      rw [if_neg (hne x hx2), if_pos hyk] at e
      have := hlt x hx2; omega
    · rw [List.mem_singleton] at hx2
      rw [if_neg (hne y hy2), if_pos hx2] at e
      have := hlt y hy2; omega
    · rw [List.mem_singleton] at hx2 hy2
      rw [hx2, hy2]
theorem TM.congr (h : TM w mb lo ks bk f g) {f' g' : ByteArray → Int} (h1 : ∀ k ∈ ks, f k = f' k) (h2 : ∀ k ∈ ks, g k = g' k) : TM w mb lo ks bk f' g' :=
  ⟨h.om, h.hlo, fun k hk => by rw [← h1 k hk, ← h2 k hk]; exact h.cl k hk, h.inj⟩
end
/-- The tallies of steps. -/
def TL (w : World) (mb lo : Nat) (l : List Step) : Prop := ∃ bk, TM w mb lo (nub l []) bk (fun k => ((its l k).length : Int)) (fun k => tot (its l k))
theorem its_none {l : List Step} {k : ByteArray} (h : has (nub l []) k = false) : its l k = [] := by
  unfold its
  refine List.filter_eq_nil_iff.2 fun s hs => ?_
  simp only [decide_eq_true_eq]
  rintro rfl
  have : has (nub l []) s.1 = true := has_iff.2 ((nub_mem l [] s.1).2 (.inr (List.mem_map.2 ⟨s, hs, rfl⟩)))
  rw [h] at this
  cases this
end Go.Proofs.YtfillnkebohciaaGreatDoor.Come
namespace Go.Proofs.YtfillnkebohciaaGreatDoor.Come
open Go.RowKit
open T (Step stK steps_at)
open F (Fr Cl)

theorem zeroTally (w : World) : (zeroValue 92).run Tryz.prog w = .ok (.pointer none) w := by kernel_rfl
set_option maxHeartbeats 4000000 in
set_option maxRecDepth 100000 in
theorem tallies (A : Option Addr) (c : Nat) (l : List Step) (w : World) (h1 : stK.C w A l) (hok : Ok l) (hl : l.length ≤ 5000) :
    Calls Tryz.prog 40 #[.slice A l.length c] w fun e w' => ∃ mb, e = .returned (.map (some mb)) ∧ TL w' mb w.heap.size l ∧ Below w.heap.size w w' := by
  have H1 := Lib.hid h1
  have HOK := Lib.hid hok
  have hmm := @run_makeMap Tryz.prog
  have HM0 := Lib.hid (M.OM.made w)
  clear h1 hok
  go_enter Tryz.func40, Tryz.ntmps40
  go_wp2
  clear hmm
  have HLM := Lib.hid (Nat.le_refl w.heap.size)
  generalize hmb : w.heap.size = mb at HM0 ⊢
  have HMB : Hid (w.heap.size ≤ mb) := Lib.hid (by omega)
  go_loopw [9] (fun s9 wr => ∃ (k : Nat), s9 = .int .i64 k ∧ k ≤ l.length ∧ Hid (TL wr mb w.heap.size (l.take k)) ∧ Hid (Below w.heap.size w wr)) (fun s _ => l.length - (intOf s).toNat)
  case atStart => exact ⟨0, rfl, Nat.zero_le _, Lib.hid ⟨fun _ => 0, by rw [List.take_zero]; exact ⟨HM0.out, HMB.out, fun k hk => (by cases hk), fun k hk => (by cases hk)⟩⟩, Lib.hid ((Below.refl _ _).alloc (Nat.le_refl _) _)⟩
  case round =>
    clear hmb
    obtain ⟨k, rfl, hk, HT, HB⟩ := hrel
    by_cases hlt : k < l.length
    · obtain ⟨b1, o1, rfl, f0, f1⟩ := steps_at (H1.out.mono HB.out) k hlt
      have hk1 : (k : Int) < l.length := by omega
      have HTS : Hid (l.take (k + 1) = l.take k ++ [l[k]]) := Lib.hid (List.take_succ_eq_append_getElem hlt)
      obtain ⟨hb2, hb2'⟩ := HOK.out _ (List.getElem_mem hlt)
      obtain ⟨bk, hT⟩ := HT.out
      have hil := its_le (ok_take HOK.out k) l[k].1
      have hil2 := tot_in HOK.out hl k
      have hil3 : (l.take k).length ≤ 5000 := by rw [List.length_take]; omega
      have hcnt : (its (l.take k) l[k].1).length ≤ 5000 := by omega
      have htt0 : 0 ≤ tot (its (l.take k) l[k].1) := hil.1
      have htt1 : tot (its (l.take k) l[k].1) ≤ 18000000000 := by omega
      clear hil hil2 hil3
      generalize l[k] = s at *
      obtain ⟨s1, s2⟩ := s
      have hcnt' : (its (l.take k) s1).length ≤ 5000 := hcnt
      have htt0' : 0 ≤ tot (its (l.take k) s1) := htt0
      have htt1' : tot (its (l.take k) s1) ≤ 18000000000 := htt1
      have hs2 : 1 ≤ s2 := hb2
      have hs2' : s2 ≤ 3600000 := hb2'
      clear hcnt htt0 htt1 hb2 hb2'
      have HSS : Hid (nub (l.take k ++ [(s1, s2)]) [] = if has (nub (l.take k) []) s1 = true then nub (l.take k) [] else nub (l.take k) [] ++ [s1]) := Lib.hid (nub_snoc _ _ _)
      go_upto_region 5 with (fail)
      have HAL : Hid (Below wr.heap.size wr (wr.alloc (.cells #[.string s1, .int .i64 s2] 48))) := Lib.hid ((Below.refl _ _).alloc (Nat.le_refl _) _)
      have p0 : (wr.alloc (.cells #[.string s1, .int .i64 s2] 48)).cell? ⟨wr.heap.size, 0, none⟩ = some (.string s1) := by rw [World.cell?_alloc_new]; rfl
      have p1 : (wr.alloc (.cells #[.string s1, .int .i64 s2] 48)).cell? ⟨wr.heap.size, 1, none⟩ = some (.int .i64 s2) := by rw [World.cell?_alloc_new]; rfl
      have HTA := Lib.hid (hT.below HAL.out)
      have HBA := Lib.hid (HB.out.alloc HB.out.size (.cells #[.string s1, .int .i64 s2] 48))
      have HLT : Hid (∀ x ∈ nub (l.take k) [], bk x < wr.heap.size) := Lib.hid (fun x hx => (hT.cl x hx).2.2.1.lt)
      clear hT HT f0 f1 HB HAL
      have HSZA : Hid ((wr.alloc (.cells #[.string s1, .int .i64 s2] 48)).heap.size = wr.heap.size + 1) := Lib.hid (by simp)
      generalize wr.alloc (.cells #[.string s1, .int .i64 s2] 48) = W1 at *
      generalize wr.heap.size = n5 at *
      cases hh : has (nub (l.take k) []) s1 with
      | true =>
        have HNK : Hid (nub (l.take (k + 1)) [] = nub (l.take k) []) := Lib.hid (by rw [HTS.out, HSS.out, if_pos hh])
        have HMEM : Hid (s1 ∈ nub (l.take k) []) := Lib.hid (has_iff.1 hh)
        have HLK : Hid (M.look (ptrs (nub (l.take k) []) bk) s1 = some (ptr (bk s1))) := Lib.hid (by rw [look_ptrs, if_pos hh])
        have HNE : Hid (n5 ≠ bk s1) := Lib.hid (by have := HLT.out s1 HMEM.out; omega)
        clear HSS HLT hh
        go_upto_region 7 with (at_lookup; refine M.wpl_look rfl _ _ 85 rfl 9 92 Tryz.underlying85 Tryz.underlying9 _ (zeroTally _) mb _ HTA.out.om rfl _ rfl ?_; simp only [HLK.out, Option.getD_some, ptr])
        obtain ⟨-, -, ⟨c0, z0⟩, c1, z1⟩ := HTA.out.cl s1 HMEM.out
        have HTM := HTA
        have HB7 := HBA
        clear HTA HBA
        generalize W1 = W7 at *
        generalize nub (l.take k) [] = ks7 at *
        generalize bk = bk7 at *
        go_wp2_with (at_lookup; refine M.wpl_look rfl _ _ 85 rfl 9 92 Tryz.underlying85 Tryz.underlying9 _ (zeroTally _) mb _ HTM.out.om rfl _ rfl ?_; simp only [HLK.out, Option.getD_some, ptr])
        have HT2 := Lib.hid (HTM.out.set0 HMEM.out (((its (l.take k) s1).length : Int) + 1))
        have HB8 : Hid (Below w.heap.size w (W7.setCell ⟨bk7 s1, 0, none⟩ (.int .i64 (((its (l.take k) s1).length : Int) + 1)))) := Lib.hid (HB7.out.setCell (HTM.out.cl s1 HMEM.out).1 _)
        have P0 : Hid ((W7.setCell ⟨bk7 s1, 0, none⟩ (.int .i64 (((its (l.take k) s1).length : Int) + 1))).cell? ⟨n5, 0, none⟩ = some (.string s1)) := Lib.hid (by rw [World.cell?_setCell_other _ _ _ _ (by intro e; cases e; exact HNE.out rfl)]; exact p0)
        have P1 : Hid ((W7.setCell ⟨bk7 s1, 0, none⟩ (.int .i64 (((its (l.take k) s1).length : Int) + 1))).cell? ⟨n5, 1, none⟩ = some (.int .i64 s2)) := Lib.hid (by rw [World.cell?_setCell_other _ _ _ _ (by intro e; cases e)]; exact p1)
        clear p0 p1 c0 z0 c1 z1
        generalize W7.setCell ⟨bk7 s1, 0, none⟩ (.int .i64 (((its (l.take k) s1).length : Int) + 1)) = W8 at *
        have p0 := P0.out
        have p1 := P1.out
        obtain ⟨-, -, c0, c1, z1⟩ := HT2.out.cl s1 HMEM.out
        have hlk := (HT2.out.below (B.below_drew (Below.refl _ _) 1)).om.run_look (w := W8.drew) (P := Tryz.prog) (t := 85) Tryz.underlying85 Tryz.underlying9 (zeroTally _) s1 false
        rw [HLK.out, if_neg (by simp), Option.getD_some] at hlk
        clear c0
        have c1' : W8.drew.cell? ⟨bk7 s1, 1, none⟩ = some (.int .i64 (tot (its (l.take k) s1))) := c1
        have z1' : W8.drew.frozen? ⟨bk7 s1, 1, none⟩ = false := z1
        have HT3 : Hid (TM W8.drew mb w.heap.size ks7 bk7 (fun x => if x = s1 then ((its (l.take k) s1).length : Int) + 1 else ((its (l.take k) x).length : Int)) (fun x => tot (its (l.take k) x))) := Lib.hid (HT2.out.below (B.below_drew (Below.refl _ _) 1))
        have HB9 : Hid (Below w.heap.size w W8.drew) := Lib.hid (B.below_drew HB8.out 1)
        unfold ptr at hlk
        go_still_tail 12, (by kernel_rfl)
        change wpList _ _ _ _ _ W8.drew
        generalize W8.drew = W9 at *
        clear hlk p0 p1 c1 z1
        go_wp2
        go_roundw
        case rel => exact ⟨k + 1, by go_num, by omega, Lib.hid ⟨bk7, by
          have h := HT3.out.set1 HMEM.out (tot (its (l.take k) s1) + s2)
          rw [← HNK.out] at h
          refine h.congr (fun x hx => ?_) (fun x hx => ?_)
          · rw [HTS.out, its_snoc]
            by_cases e : x = s1
            · subst e; rw [if_pos rfl, if_pos rfl]; simp
            · rw [if_neg e, if_neg (fun e2 => e e2.symm), List.append_nil]
          · rw [HTS.out, its_snoc]
            by_cases e : x = s1
            · subst e; rw [if_pos rfl, if_pos rfl, tot_app, tot, tot, Int.add_zero]
            · rw [if_neg e, if_neg (fun e2 => e e2.symm), List.append_nil]⟩, Lib.hid (HB9.out.setCell (HT3.out.cl s1 HMEM.out).1 _)⟩
        case measure => simp [intOf]; omega
      | false =>
        have HNK : Hid (nub (l.take (k + 1)) [] = nub (l.take k) [] ++ [s1]) := Lib.hid (by rw [HTS.out, HSS.out, if_neg (by rw [hh]; simp)])
        have HMEM : Hid (s1 ∈ nub (l.take k) [] ++ [s1]) := Lib.hid (by simp)
        have HLK0 : Hid (M.look (ptrs (nub (l.take k) []) bk) s1 = none) := Lib.hid (by rw [look_ptrs, if_neg (by rw [hh]; simp)])
        have HH := Lib.hid hh
        have HI0 : Hid (its (l.take k) s1 = []) := Lib.hid (its_none hh)
        clear HSS hh
        have HBA2 : Hid (Below w.heap.size w (W1.alloc (.cells #[.int .i64 0, .int .i64 0] 95))) := Lib.hid (HBA.out.alloc HBA.out.size _)
        have HOA : Hid (M.OM (W1.alloc (.cells #[.int .i64 0, .int .i64 0] 95)) mb (ptrs (nub (l.take k) []) bk)) := Lib.hid (HTA.out.om.below ((Below.refl _ _).alloc (Nat.le_refl _) _))
        have HPA0 : Hid ((W1.alloc (.cells #[.int .i64 0, .int .i64 0] 95)).cell? ⟨n5, 0, none⟩ = some (.string s1)) := Lib.hid (B.cell_below ((Below.refl _ _).alloc (Nat.le_refl _) _) p0)
        have HPA1 : Hid ((W1.alloc (.cells #[.int .i64 0, .int .i64 0] 95)).cell? ⟨n5, 1, none⟩ = some (.int .i64 s2)) := Lib.hid (B.cell_below ((Below.refl _ _).alloc (Nat.le_refl _) _) p1)
        have HMN : Hid (n5 ≠ mb) := Lib.hid (fun e => by
          obtain ⟨arr, cl, hb, _⟩ := HTA.out.om
          rw [← e] at hb
          have h0 := p0
          simp [World.cell?, hb] at h0)
        go_upto_region 7 with (first
          | (at_lookup; refine M.wpl_look rfl _ _ 85 rfl 9 92 Tryz.underlying85 Tryz.underlying9 _ (zeroTally _) mb _ HTA.out.om rfl _ rfl ?_; simp only [HLK0.out, Option.getD_none])
          | (at_mapUpdate; refine M.wpl_put rfl _ _ _ 85 rfl 9 92 Tryz.underlying85 Tryz.underlying9 mb _ HOA.out rfl _ rfl _ rfl w w.heap.size HBA2.out HMB.out ?_; intro w7 HO7 HB7 HG7; have HO7 := Lib.hid HO7; have HB7 := Lib.hid HB7; have HG7 := Lib.hid HG7))
        have HTM : Hid (TM w7 mb w.heap.size (nub (l.take k) [] ++ [s1]) (fun x => if x = s1 then W1.heap.size else bk x) (fun x => ((its (l.take k) x).length : Int)) (fun x => tot (its (l.take k) x))) := Lib.hid (HTA.out.add HBA.out.size HH.out (by simp [HI0.out]) (by simp [HI0.out, tot]) HO7.out HG7.out)
        have HF7 : Hid (Fr (fun b => b = mb) (W1.alloc (.cells #[.int .i64 0, .int .i64 0] 95)) w7) := Lib.hid ((Fr.refl _ _).grown HG7.out (fun g e _ => (Option.some.inj e).symm))
        clear p0 p1
        have p0 : w7.cell? ⟨n5, 0, none⟩ = some (.string s1) := HF7.out.cell HMN.out HPA0.out
        have p1 : w7.cell? ⟨n5, 1, none⟩ = some (.int .i64 s2) := HF7.out.cell HMN.out HPA1.out
        have HNE : Hid (n5 ≠ (fun x => if x = s1 then W1.heap.size else bk x) s1) := Lib.hid (by show n5 ≠ if s1 = s1 then W1.heap.size else bk s1; rw [if_pos rfl, HSZA.out]; omega)
        have HLK : Hid (M.look (ptrs (nub (l.take k) [] ++ [s1]) (fun x => if x = s1 then W1.heap.size else bk x)) s1 = some (ptr ((fun x => if x = s1 then W1.heap.size else bk x) s1))) := Lib.hid (by rw [look_ptrs, if_pos (has_iff.2 HMEM.out)])
        clear HPA0 HPA1 HF7 HO7 HG7 HTA HBA HBA2 HOA HLT HLK0
        generalize (fun x => if x = s1 then W1.heap.size else bk x) = bk7 at *
        generalize nub (l.take k) [] ++ [s1] = ks7 at *
        obtain ⟨-, -, ⟨c0, z0⟩, c1, z1⟩ := HTM.out.cl s1 HMEM.out
        generalize w7 = W7 at *
        go_wp2_with (at_lookup; refine M.wpl_look rfl _ _ 85 rfl 9 92 Tryz.underlying85 Tryz.underlying9 _ (zeroTally _) mb _ HTM.out.om rfl _ rfl ?_; simp only [HLK.out, Option.getD_some, ptr])
        have HT2 := Lib.hid (HTM.out.set0 HMEM.out (((its (l.take k) s1).length : Int) + 1))
        have HB8 : Hid (Below w.heap.size w (W7.setCell ⟨bk7 s1, 0, none⟩ (.int .i64 (((its (l.take k) s1).length : Int) + 1)))) := Lib.hid (HB7.out.setCell (HTM.out.cl s1 HMEM.out).1 _)
        have P0 : Hid ((W7.setCell ⟨bk7 s1, 0, none⟩ (.int .i64 (((its (l.take k) s1).length : Int) + 1))).cell? ⟨n5, 0, none⟩ = some (.string s1)) := Lib.hid (by rw [World.cell?_setCell_other _ _ _ _ (by intro e; cases e; exact HNE.out rfl)]; exact p0)
        have P1 : Hid ((W7.setCell ⟨bk7 s1, 0, none⟩ (.int .i64 (((its (l.take k) s1).length : Int) + 1))).cell? ⟨n5, 1, none⟩ = some (.int .i64 s2)) := Lib.hid (by rw [World.cell?_setCell_other _ _ _ _ (by intro e; cases e)]; exact p1)
        clear p0 p1 c0 z0 c1 z1
        generalize W7.setCell ⟨bk7 s1, 0, none⟩ (.int .i64 (((its (l.take k) s1).length : Int) + 1)) = W8 at *
        have p0 := P0.out
        have p1 := P1.out
        obtain ⟨-, -, c0, c1, z1⟩ := HT2.out.cl s1 HMEM.out
        have hlk := (HT2.out.below (B.below_drew (Below.refl _ _) 1)).om.run_look (w := W8.drew) (P := Tryz.prog) (t := 85) Tryz.underlying85 Tryz.underlying9 (zeroTally _) s1 false
        rw [HLK.out, if_neg (by simp), Option.getD_some] at hlk
        clear c0
        have c1' : W8.drew.cell? ⟨bk7 s1, 1, none⟩ = some (.int .i64 (tot (its (l.take k) s1))) := c1
        have z1' : W8.drew.frozen? ⟨bk7 s1, 1, none⟩ = false := z1
        have HT3 : Hid (TM W8.drew mb w.heap.size ks7 bk7 (fun x => if x = s1 then ((its (l.take k) s1).length : Int) + 1 else ((its (l.take k) x).length : Int)) (fun x => tot (its (l.take k) x))) := Lib.hid (HT2.out.below (B.below_drew (Below.refl _ _) 1))
        have HB9 : Hid (Below w.heap.size w W8.drew) := Lib.hid (B.below_drew HB8.out 1)
        unfold ptr at hlk
        go_still_tail 12, (by kernel_rfl)
        change wpList _ _ _ _ _ W8.drew
        generalize W8.drew = W9 at *
        clear hlk p0 p1 c1 z1
        go_wp2
        go_roundw
        case rel => exact ⟨k + 1, by go_num, by omega, Lib.hid ⟨bk7, by
          have h := HT3.out.set1 HMEM.out (tot (its (l.take k) s1) + s2)
          rw [← HNK.out] at h
          refine h.congr (fun x hx => ?_) (fun x hx => ?_)
          · rw [HTS.out, its_snoc]
            by_cases e : x = s1
            · subst e; rw [if_pos rfl, if_pos rfl]; simp
            · rw [if_neg e, if_neg (fun e2 => e e2.symm), List.append_nil]
          · rw [HTS.out, its_snoc]
            by_cases e : x = s1
            · subst e; rw [if_pos rfl, if_pos rfl, tot_app, tot, tot, Int.add_zero]
            · rw [if_neg e, if_neg (fun e2 => e e2.symm), List.append_nil]⟩, Lib.hid (HB9.out.setCell (HT3.out.cl s1 HMEM.out).1 _)⟩
        case measure => simp [intOf]; omega
    · obtain rfl : k = l.length := by omega
      rw [List.take_length] at HT
      go_wp2
      go_ret
      exact ⟨mb, rfl, HT.out, HB.out⟩
end Go.Proofs.YtfillnkebohciaaGreatDoor.Come
namespace Go.Proofs.YtfillnkebohciaaGreatDoor.Low
open Go.RowKit

/-- A fraction in lowest terms. -/
def low (n d : Nat) : Nat × Nat := (n / Nat.gcd n d, d / Nat.gcd n d)
theorem results_cell_row {P : Program} {fn : Func} {p : Tmp} {ty : TypeId} (h : fn.results = #[.cell p ty]) (tmps : Array Value) (w : World) (g : Nat) (t : TypeId) (cs : Array Value) (fr : Nat × Nat) (d : TypeDesc)
    (hp : tmps.getD p undef = .pointer (some ⟨g, 0, none⟩)) (hg : w.heap[g]? = some (.cells cs t fr)) (hu : P.underlying ty = some d) (hd : (match d with | .struct _ | .array _ _ => true | _ => false) = true) (hi : (P.info? ty).map (·.size) = some cs.size) :
    (results fn tmps).run P w = .ok (.agg cs) w := by
  have hp' : tmps[p]?.getD undef = .pointer (some ⟨g, 0, none⟩) := by simpa using hp
  simp [results, h, hp', asAddr, run_loadVar_row w g t ty cs fr d hg hu hd hi]
theorem set2l {w : World} {g : Nat} {a b a' b' : Value} {t : TypeId} {fr : Nat × Nat} (h : w.heap[g]? = some (.cells #[a, b] t fr)) :
    ((w.setCell ⟨g, 0, none⟩ a').setCell ⟨g, 1, none⟩ b').heap[g]? = some (.cells #[a', b'] t fr) := by
  simp [World.setCell, Array.getElem?_modify, h]
theorem tdiv_nat (n g : Nat) : (n : Int).tdiv g = ((n / g : Nat) : Int) := by rw [Int.tdiv_eq_ediv_of_nonneg (by omega)]; rfl
set_option maxHeartbeats 2000000 in
set_option maxRecDepth 100000 in
theorem lowestP (n d : Nat) (hn : n ≤ 1000000000000) (hd : 1 ≤ d ∧ d ≤ 1000000000000) (w : World) :
    Calls Tryz.prog 43 #[.int .i64 n, .int .i64 d] w fun e w' => e = .returned (.agg #[.int .i64 (low n d).1, .int .i64 (low n d).2]) ∧ Below w.heap.size w w' := by
  have HC := Lib.hid (fun W => T.gcd_any n d hn hd.2 W)
  have HA := Lib.hid ((Below.refl _ w).alloc (Nat.le_refl _) (.cells #[.int .i64 0, .int .i64 0] 51))
  have hg0 : 1 ≤ Nat.gcd n d := Nat.gcd_pos_of_pos_right n (by omega)
  have hq1 := tdiv_nat n (Nat.gcd n d)
  have hq2 := tdiv_nat d (Nat.gcd n d)
  have hb1 : n / Nat.gcd n d ≤ 1000000000000 := by have := Nat.div_le_self n (Nat.gcd n d); omega
  have hb2 : d / Nat.gcd n d ≤ 1000000000000 := by have := Nat.div_le_self d (Nat.gcd n d); omega
  have HROW : Hid (∀ q, (((w.alloc (.cells #[.int .i64 0, .int .i64 0] 51)).drewN q).drew).heap[w.heap.size]? = some (.cells #[.int .i64 0, .int .i64 0] 51 (0, 0))) := Lib.hid (fun q => heap_alloc_new w _)
  obtain ⟨hd1, hd2⟩ := hd
  unfold low
  generalize n / Nat.gcd n d = x at *
  generalize d / Nat.gcd n d = y at *
  generalize Nat.gcd n d = g at *
  have hd0 : ¬ ((d : Int) < 0) := by omega
  have hg1 : ¬ ((g : Int) = 0) := by omega
  have hg2 : ¬ (g = 0) := by omega
  go_enter Tryz.func43, Tryz.ntmps43
  go_wp2_with (go_at_call 69; refine (HC.out _).mono ?_; rintro e w1 ⟨rfl, q, rfl⟩)
  go_still_tail 7, (by kernel_rfl)
  have HB1 : Hid (Below w.heap.size w ((w.alloc (.cells #[.int .i64 0, .int .i64 0] 51)).drewN q).drew) := Lib.hid (B.below_drew (B.below_drew HA.out q) 1)
  have HRW := Lib.hid (HROW.out q)
  have c0 : ((w.alloc (.cells #[.int .i64 0, .int .i64 0] 51)).drewN q).drew.cell? ⟨w.heap.size, 0, none⟩ = some (.int .i64 0) := (World.cell?_alloc_new w _ _ 0).trans rfl
  have c1 : ((w.alloc (.cells #[.int .i64 0, .int .i64 0] 51)).drewN q).drew.cell? ⟨w.heap.size, 1, none⟩ = some (.int .i64 0) := (World.cell?_alloc_new w _ _ 1).trans rfl
  have fz : ∀ i, ((w.alloc (.cells #[.int .i64 0, .int .i64 0] 51)).drewN q).drew.frozen? ⟨w.heap.size, i, none⟩ = false := fun i => Copy.frozen_new (Below.refl _ _) i
  change wpList _ _ _ _ _ ((w.alloc (.cells #[.int .i64 0, .int .i64 0] 51)).drewN q).drew
  generalize ((w.alloc (.cells #[.int .i64 0, .int .i64 0] 51)).drewN q).drew = W1 at *
  go_wp2
  refine bodyPost_ret (results_cell_row rfl _ _ w.heap.size 51 #[.int .i64 x, .int .i64 y] (0, 0) _ rfl (set2l HRW.out) Tryz.underlying51 rfl (by kernel_rfl)) rfl ?_
  exact ⟨rfl, (HB1.out.setCell (Nat.le_refl _) _).setCell (Nat.le_refl _) _⟩
set_option maxHeartbeats 2000000 in
set_option maxRecDepth 100000 in
theorem lowestR (n d : Nat) (hn : n ≤ 1000000000000) (hd : 1 ≤ d ∧ d ≤ 1000000000000) (w : World) :
    Calls Tryz.prog 46 #[.int .i64 n, .int .i64 d] w fun e w' => e = .returned (.agg #[.int .i64 (low n d).1, .int .i64 (low n d).2]) ∧ Below w.heap.size w w' := by
  have HC := Lib.hid (fun W => T.rdiv_any n d hn hd.2 W)
  have HA := Lib.hid ((Below.refl _ w).alloc (Nat.le_refl _) (.cells #[.int .i64 0, .int .i64 0] 51))
  have hg0 : 1 ≤ Nat.gcd n d := Nat.gcd_pos_of_pos_right n (by omega)
  have hq1 := tdiv_nat n (Nat.gcd n d)
  have hq2 := tdiv_nat d (Nat.gcd n d)
  have hb1 : n / Nat.gcd n d ≤ 1000000000000 := by have := Nat.div_le_self n (Nat.gcd n d); omega
  have hb2 : d / Nat.gcd n d ≤ 1000000000000 := by have := Nat.div_le_self d (Nat.gcd n d); omega
  have HROW : Hid (∀ q, (((w.alloc (.cells #[.int .i64 0, .int .i64 0] 51)).drewN q).drew).heap[w.heap.size]? = some (.cells #[.int .i64 0, .int .i64 0] 51 (0, 0))) := Lib.hid (fun q => heap_alloc_new w _)
  obtain ⟨hd1, hd2⟩ := hd
  unfold low
  generalize n / Nat.gcd n d = x at *
  generalize d / Nat.gcd n d = y at *
  generalize Nat.gcd n d = g at *
  have hmx : max (n : Int) (-(n : Int)) = n := by omega
  have hg1 : ¬ ((g : Int) = 0) := by omega
  have hg2 : ¬ (g = 0) := by omega
  go_enter Tryz.func46, Tryz.ntmps46
  go_wp2_with (go_at_call 74; refine (HC.out _).mono ?_; rintro e w1 ⟨rfl, q, rfl⟩)
  go_still_tail 7, (by kernel_rfl)
  have HB1 : Hid (Below w.heap.size w ((w.alloc (.cells #[.int .i64 0, .int .i64 0] 51)).drewN q).drew) := Lib.hid (B.below_drew (B.below_drew HA.out q) 1)
  have HRW := Lib.hid (HROW.out q)
  have c0 : ((w.alloc (.cells #[.int .i64 0, .int .i64 0] 51)).drewN q).drew.cell? ⟨w.heap.size, 0, none⟩ = some (.int .i64 0) := (World.cell?_alloc_new w _ _ 0).trans rfl
  have c1 : ((w.alloc (.cells #[.int .i64 0, .int .i64 0] 51)).drewN q).drew.cell? ⟨w.heap.size, 1, none⟩ = some (.int .i64 0) := (World.cell?_alloc_new w _ _ 1).trans rfl
  have fz : ∀ i, ((w.alloc (.cells #[.int .i64 0, .int .i64 0] 51)).drewN q).drew.frozen? ⟨w.heap.size, i, none⟩ = false := fun i => Copy.frozen_new (Below.refl _ _) i
  change wpList _ _ _ _ _ ((w.alloc (.cells #[.int .i64 0, .int .i64 0] 51)).drewN q).drew
  generalize ((w.alloc (.cells #[.int .i64 0, .int .i64 0] 51)).drewN q).drew = W1 at *
  go_wp2
  refine bodyPost_ret (results_cell_row rfl _ _ w.heap.size 51 #[.int .i64 x, .int .i64 y] (0, 0) _ rfl (set2l HRW.out) Tryz.underlying51 rfl (by kernel_rfl)) rfl ?_
  exact ⟨rfl, (HB1.out.setCell (Nat.le_refl _) _).setCell (Nat.le_refl _) _⟩
end Go.Proofs.YtfillnkebohciaaGreatDoor.Low
namespace Go.Proofs.YtfillnkebohciaaGreatDoor.Come
open Go.RowKit
open T (Step)

abbrev Pt := ByteArray × Int × Int × Int × Int
def ptE (x : Pt) : List Value := [.string x.1, .int .i64 x.2.1, .int .i64 x.2.2.1, .int .i64 x.2.2.2.1, .int .i64 x.2.2.2.2]
theorem ptE1 (x : Pt) : ∀ v ∈ ptE x, v.oneCell' = true := by
  intro v hv
  simp [ptE] at hv
  rcases hv with rfl | rfl | rfl | rfl | rfl <;> rfl
def ptK : B.Kd Pt := .flat 5 ptE (fun _ => rfl) ptE1
theorem info_pt : (Tryz.prog.info? 53).map (fun i => (i.zero, i.size, i.bytes)) = some (some (.agg #[.string ⟨#[]⟩, .int .i64 0, .int .i64 0, .int .i64 0, .int .i64 0]), 5, 48) := by kernel_rfl
/-- What part an item has in steps. -/
def pt (l : List Step) (k : ByteArray) : Pt := (k, ((Low.low (its l k).length l.length).1 : Int), ((Low.low (its l k).length l.length).2 : Int), ((Low.low (tot (its l k)).toNat (tot l).toNat).1 : Int), ((Low.low (tot (its l k)).toNat (tot l).toNat).2 : Int))
def pts (l : List Step) : List Pt := (Told.dd (l.map (·.1))).map (pt l)
theorem srt_dd (l : List Step) : SK.srt (nub l []) = Told.dd (l.map (·.1)) := by
  unfold SK.srt Told.dd
  have h := sorted_eq (ks := (nub l []).map (·.data.toList)) (ss := (nub l []).map (·.data.toList)) (zs := (l.map (·.1)).map (·.data.toList)) (List.Perm.refl _) ?_ (fun x => ?_)
  · have h' : ((nub l []).map (·.data.toList)).mergeSort (fun x y => decide (x ≤ y)) = Lib.compact (((l.map (·.1)).map (·.data.toList)).mergeSort (fun x y => decide (x ≤ y))) := h
    rw [h']
  · refine List.pairwise_map.2 ((nub_nodup l [] List.nodup_nil).imp (fun {a b} hne e => hne ?_))
    exact ByteArray.ext (Array.toList_inj.1 e)
  · rw [List.mem_map, List.mem_map]
    constructor
    · rintro ⟨k, hk, rfl⟩; exact ⟨k, ((nub_mem l [] k).1 hk).resolve_left (by simp), rfl⟩
    · rintro ⟨k, hk, rfl⟩; exact ⟨k, (nub_mem l [] k).2 (.inr hk), rfl⟩
theorem own_pt {w : World} {base : Nat} {e : TypeId} {v : Value} {xs : List Pt} (h : B.Own w base e 5 ptE v xs) (hn : xs.length ≤ 140737488355328) : ptK.S w v xs := B.own_S h hn
theorem dd_len (l : List Step) : (Told.dd (l.map (·.1))).length ≤ l.length := by have := Told.dd_length (l.map (·.1)); rwa [List.length_map] at this
theorem ptrs_keys (ks : List ByteArray) (bk : ByteArray → Nat) : (ptrs ks bk).map (·.1) = ks := by unfold ptrs; rw [List.map_map]; exact List.map_id' _
theorem str_at {w : World} {A : Option Addr} {xs : List ByteArray} (h : B.Kd.str.C w A xs) (k : Nat) (hk : k < xs.length) : ∃ b o, A = some ⟨b, o, none⟩ ∧ w.cell? ⟨b, o + k, none⟩ = some (.string xs[k]) := by
  obtain ⟨b, off, cs, e, K, hc⟩ := h.at k hk
  have K' : cs = [.string xs[k]] := K
  subst K'
  have h0 := hc 0 (by simp)
  exact ⟨b, off, e, by simpa [B.Kd.str, B.Kd.flat] using h0⟩
end Go.Proofs.YtfillnkebohciaaGreatDoor.Come
