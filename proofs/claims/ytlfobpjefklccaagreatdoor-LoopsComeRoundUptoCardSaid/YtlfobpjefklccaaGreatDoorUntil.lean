/- The program's Until. Printed by wip/gen/untilgen.py. -/
import Derived.Test.YtlfobpjefklccaaGreatDoorComeC
import Derived.Test.YtlfobpjefklccaaGreatDoorSmall
namespace Go.Proofs.YtlfobpjefklccaaGreatDoor.Come
open Go.RowKit
open L (Lp At lv)
open T (Step stK steps_at lng roundM rE rL rP ResR)

def utE (q k t E : Int) : Int := if q ≠ 0 then q else if k ≠ 0 then k else if t ≠ 0 then t else E
/-- When an item comes, whether, and the error. -/
def utR : Option Int → Int × Bool × Int
  | none => (0, false, 0)
  | some v => if 345686400000 ≤ v then (0, false, 2) else (v, true, 0)
def UtRes (R : Int × Bool × Int) (e : Ending) : Prop := e = .returned (.tuple #[.int .i64 R.1, .bool R.2.1, .int .i64 R.2.2])
def Wt (l : List Step) (item : ByteArray) (B a : Int) (U : Option Int) (i : Nat) : Prop := (i = 0 ∧ U = un l item B a) ∨ (i = 1 ∧ U = fi item a l (B + tot l)) ∨ (i = 2 ∧ U = none)
theorem Wt.found {l : List Step} {item : ByteArray} {B a : Int} {U : Option Int} {i : Nat} (h : Wt l item B a U i) (hi : i < 2) {v : Int} (hv : fi item a l (B + i * tot l) = some v) : U = some v := by
  rcases h with ⟨rfl, h⟩ | ⟨rfl, h⟩ | ⟨rfl, h⟩
  · rw [h]; unfold un
    rw [show B + ((0 : Nat) : Int) * tot l = B by simp] at hv
    rw [hv]
  · rw [h]
    rw [show B + ((1 : Nat) : Int) * tot l = B + tot l by simp] at hv
    exact hv
  · omega
theorem Wt.next {l : List Step} {item : ByteArray} {B a : Int} {U : Option Int} {i : Nat} (h : Wt l item B a U i) (hi : i < 2) (hv : fi item a l (B + i * tot l) = none) : Wt l item B a U (i + 1) := by
  rcases h with ⟨rfl, h⟩ | ⟨rfl, h⟩ | ⟨rfl, h⟩
  · refine .inr (.inl ⟨rfl, ?_⟩)
    rw [h]; unfold un
    rw [show B + ((0 : Nat) : Int) * tot l = B by simp] at hv
    rw [hv]
  · refine .inr (.inr ⟨rfl, ?_⟩)
    rw [show B + ((1 : Nat) : Int) * tot l = B + tot l by simp] at hv
    rw [h, hv]
  · omega
theorem fi_drop {l : List Step} {item : ByteArray} {a : Int} {k : Nat} (hk : k < l.length) (t : Int) : fi item a (l.drop k) t = if l[k].1 = item ∧ a ≤ t then some t else fi item a (l.drop (k + 1)) (t + l[k].2) := by
  rw [List.drop_eq_getElem_cons hk, fi]
set_option maxHeartbeats 4000000 in
set_option maxRecDepth 100000 in
theorem until_q (n : Nat) (x : Lp) (A As : Option Addr) (c c' : Nat) (fr a : Int) (item : ByteArray) (hsz : item.size ≤ 9223372036854775807) (w : World) (h : At n w x A As) (hq : L.lf (n + 1) x ≠ 0) :
    Calls Tryz.prog 19 #[lv x A As c c', .int .i64 fr, .int .i64 a, .string item] w fun e w' => UtRes (0, false, L.lf (n + 1) x) e ∧ Below w.heap.size w w' := by
  have HA := Lib.hid (fun (c : Array Value) (e : TypeId) => ((Below.refl w.heap.size w).alloc (Nat.le_refl _) (.cells c e)))
  have cl := fun c0 e0 => L.checkLoop n x A As c c' _ (h.mono (HA.out c0 e0))
  have ck := fun b hb W => Key.isKey item b hb hsz W
  have ct := fun W => timesFault fr a W
  have HX0 := Lib.hid (fun (e : TypeId) (W : World) => @L.boxed x A As c c' w W e)
  have hqb : (L.lf (n + 1) x != 0) = true := bne_iff_ne.2 hq
  generalize L.lf (n + 1) x = q at *
  clear h hq ck ct
  unfold lv at *
  go_enter Tryz.func19, Tryz.ntmps19
  go_wp2_with (first
    | (go_at_call 46; refine (cl _ _).mono ?_; rintro e w2 ⟨rfl, hB2⟩; have HB2 := Lib.hid hB2; clear hB2; obtain ⟨y0, y1, y2, y3, y4, y5⟩ := HX0.out _ _ HB2.out))
  go_ret3
  exact ⟨rfl, B.below_trans (HA.out _ _) HB2.out⟩
set_option maxHeartbeats 4000000 in
set_option maxRecDepth 100000 in
theorem until_k (n : Nat) (x : Lp) (A As : Option Addr) (c c' : Nat) (fr a : Int) (item : ByteArray) (hsz : item.size ≤ 9223372036854775807) (w : World) (h : At n w x A As) (hq : L.lf (n + 1) x = 0) (hk : Key.keyB item = false) :
    Calls Tryz.prog 19 #[lv x A As c c', .int .i64 fr, .int .i64 a, .string item] w fun e w' => UtRes (0, false, 5) e ∧ Below w.heap.size w w' := by
  have HA := Lib.hid (fun (c : Array Value) (e : TypeId) => ((Below.refl w.heap.size w).alloc (Nat.le_refl _) (.cells c e)))
  have cl := fun c0 e0 => L.checkLoop n x A As c c' _ (h.mono (HA.out c0 e0))
  have ck := fun b hb W => Key.isKey item b hb hsz W
  have ct := fun W => timesFault fr a W
  have HX0 := Lib.hid (fun (e : TypeId) (W : World) => @L.boxed x A As c c' w W e)
  rw [hq] at cl
  replace ck := ck false hk
  clear h hq hk ct
  unfold lv at *
  go_enter Tryz.func19, Tryz.ntmps19
  go_wp2_with (first
    | (go_at_call 46; refine (cl _ _).mono ?_; rintro e w2 ⟨rfl, hB2⟩; have HB2 := Lib.hid hB2; clear hB2; obtain ⟨y0, y1, y2, y3, y4, y5⟩ := HX0.out _ _ HB2.out)
    | (go_at_call 50; refine (ck _).mono ?_; rintro e w3 ⟨rfl, rfl⟩))
  go_ret3
  exact ⟨rfl, B.below_trans (HA.out _ _) HB2.out⟩
set_option maxHeartbeats 4000000 in
set_option maxRecDepth 100000 in
theorem until_t (n : Nat) (x : Lp) (A As : Option Addr) (c c' : Nat) (fr a : Int) (item : ByteArray) (hsz : item.size ≤ 9223372036854775807) (w : World) (h : At n w x A As) (hq : L.lf (n + 1) x = 0) (hk : Key.keyB item = true) (ht : tf fr a ≠ 0) :
    Calls Tryz.prog 19 #[lv x A As c c', .int .i64 fr, .int .i64 a, .string item] w fun e w' => UtRes (0, false, tf fr a) e ∧ Below w.heap.size w w' := by
  have HA := Lib.hid (fun (c : Array Value) (e : TypeId) => ((Below.refl w.heap.size w).alloc (Nat.le_refl _) (.cells c e)))
  have cl := fun c0 e0 => L.checkLoop n x A As c c' _ (h.mono (HA.out c0 e0))
  have ck := fun b hb W => Key.isKey item b hb hsz W
  have ct := fun W => timesFault fr a W
  have HX0 := Lib.hid (fun (e : TypeId) (W : World) => @L.boxed x A As c c' w W e)
  rw [hq] at cl
  replace ck := ck true hk
  have hqb : (tf fr a != 0) = true := bne_iff_ne.2 ht
  generalize tf fr a = t at *
  clear h hq hk ht
  unfold lv at *
  go_enter Tryz.func19, Tryz.ntmps19
  go_wp2_with (first
    | (go_at_call 46; refine (cl _ _).mono ?_; rintro e w2 ⟨rfl, hB2⟩; have HB2 := Lib.hid hB2; clear hB2; obtain ⟨y0, y1, y2, y3, y4, y5⟩ := HX0.out _ _ HB2.out)
    | (go_at_call 50; refine (ck _).mono ?_; rintro e w3 ⟨rfl, rfl⟩)
    | (go_at_call 47; refine (ct _).mono ?_; rintro e w3 ⟨rfl, rfl⟩))
  go_ret3
  exact ⟨rfl, B.below_trans (HA.out _ _) HB2.out⟩
set_option maxHeartbeats 4000000 in
set_option maxRecDepth 100000 in
theorem until_r (n : Nat) (x : Lp) (A As : Option Addr) (c c' : Nat) (fr a : Int) (item : ByteArray) (hsz : item.size ≤ 9223372036854775807) (w : World) (h : At n w x A As) (hq : L.lf (n + 1) x = 0) (hk : Key.keyB item = true) (ht : tf fr a = 0) (hr : roundM n x = none) :
    Calls Tryz.prog 19 #[lv x A As c c', .int .i64 fr, .int .i64 a, .string item] w fun e w' => UtRes (0, false, 2) e ∧ Below w.heap.size w w' := by
  have HA := Lib.hid (fun (c : Array Value) (e : TypeId) => ((Below.refl w.heap.size w).alloc (Nat.le_refl _) (.cells c e)))
  have cl := fun c0 e0 => L.checkLoop n x A As c c' _ (h.mono (HA.out c0 e0))
  have ck := fun b hb W => Key.isKey item b hb hsz W
  have ct := fun W => timesFault fr a W
  have HX0 := Lib.hid (fun (e : TypeId) (W : World) => @L.boxed x A As c c' w W e)
  have cr := Lib.hid (fun W hb => T.roundOf n x A As c c' W (h.mono hb) (T.lf_pf hq))
  rw [hq] at cl
  rw [hr] at cr
  rw [ht] at ct
  replace ck := ck true hk
  change Hid (∀ W, Below w.heap.size w W → Calls _ _ _ W (fun e w' => e = _ ∧ _)) at cr
  clear h hq hk ht hr
  unfold lv at *
  go_enter Tryz.func19, Tryz.ntmps19
  go_wp2_with (first
    | (go_at_call 46; refine (cl _ _).mono ?_; rintro e w2 ⟨rfl, hB2⟩; have HB2 := Lib.hid hB2; clear hB2; obtain ⟨y0, y1, y2, y3, y4, y5⟩ := HX0.out _ _ HB2.out)
    | (go_at_call 50; refine (ck _).mono ?_; rintro e w3 ⟨rfl, rfl⟩)
    | (go_at_call 47; refine (ct _).mono ?_; rintro e w3 ⟨rfl, rfl⟩)
    | (go_at_call 48; refine (cr.out _ (B.below_trans (HA.out _ _) HB2.out)).mono ?_; rintro e w4 ⟨rfl, hB4⟩; have HB4 := Lib.hid (B.below_trans HB2.out hB4); clear hB4))
  go_ret3
  exact ⟨rfl, (B.below_trans (HA.out _ _) HB4.out).alloc (B.below_trans (HA.out _ _) HB4.out).size _⟩
set_option maxHeartbeats 4000000 in
set_option maxRecDepth 100000 in
theorem until_ok (n : Nat) (x : Lp) (A As : Option Addr) (c c' : Nat) (fr a : Int) (item : ByteArray) (hsz : item.size ≤ 9223372036854775807) (w : World) (h : At n w x A As) (hq : L.lf (n + 1) x = 0) (hk : Key.keyB item = true) (ht : tf fr a = 0) (p : Nat) (l : List Step) (hr : roundM n x = some (p, l)) :
    Calls Tryz.prog 19 #[lv x A As c c', .int .i64 fr, .int .i64 a, .string item] w fun e w' => UtRes (utR (un l item (base l fr a) a)) e ∧ Below w.heap.size w w' := by
  have HA := Lib.hid (fun (c : Array Value) (e : TypeId) => ((Below.refl w.heap.size w).alloc (Nat.le_refl _) (.cells c e)))
  have cl := fun c0 e0 => L.checkLoop n x A As c c' _ (h.mono (HA.out c0 e0))
  have ck := fun b hb W => Key.isKey item b hb hsz W
  have ct := fun W => timesFault fr a W
  have HX0 := Lib.hid (fun (e : TypeId) (W : World) => @L.boxed x A As c c' w W e)
  have cr := Lib.hid (fun W hb => T.roundOf n x A As c c' W (h.mono hb) (T.lf_pf hq))
  rw [hq] at cl
  rw [hr] at cr
  rw [ht] at ct
  replace ck := ck true hk
  obtain ⟨hok, hn, hl, hlng⟩ := round_ok h hq hr
  obtain ⟨ht0, ht1, ht2, ht3⟩ := tf_ok ht
  have hT1 := tot_pos hok hn
  have hT2 := (show tot l ≤ 18000000000 by have := (tot_in hok hl l.length).2; rwa [List.take_length] at this)
  have hbg := base_ge (fr := fr) (a := a) hok hn ht1
  have hbi := (base_in hok hn fr a).1
  have HBE : Hid (a - (a - fr) % tot l = base l fr a) := Lib.hid rfl
  change Hid (∀ W, Below w.heap.size w W → Calls _ _ _ W (fun e w' => (∃ A c, e = _ ∧ stK.C w' A l) ∧ _)) at cr
  rw [hlng] at cr
  have HU : Hid (Wt l item (base l fr a) a (un l item (base l fr a) a) 0) := Lib.hid (.inl ⟨rfl, rfl⟩)
  have HOK := Lib.hid hok
  generalize un l item (base l fr a) a = U at *
  generalize base l fr a = BB at *
  have hq0 : 0 ≤ a - (a - fr) % tot l := by rw [HBE.out]; omega
  have hq1 : a - (a - fr) % tot l ≤ 1000000000000 := by rw [HBE.out]; omega
  have hTn : ¬ tot l = 0 := by omega
  have HWF := Lib.hid (fun i (h : Wt l item BB a U i) hi v hv => h.found (l := l) hi (v := v) hv)
  have HWN := Lib.hid (fun i (h : Wt l item BB a U i) hi hv => h.next (l := l) hi hv)
  have HT0 := Lib.hid (fun k => tot_in hok hl k)
  have HTL : Hid (tot (l.take l.length) = tot l) := Lib.hid (by rw [List.take_length])
  generalize tot l = T at *
  clear h hq hk ht hr hlng hok hn
  unfold lv at *
  go_enter Tryz.func19, Tryz.ntmps19
  go_wp2_with (first
    | (go_at_call 46; refine (cl _ _).mono ?_; rintro e w2 ⟨rfl, hB2⟩; have HB2 := Lib.hid hB2; clear hB2; obtain ⟨y0, y1, y2, y3, y4, y5⟩ := HX0.out _ _ HB2.out)
    | (go_at_call 50; refine (ck _).mono ?_; rintro e w3 ⟨rfl, rfl⟩)
    | (go_at_call 47; refine (ct _).mono ?_; rintro e w3 ⟨rfl, rfl⟩)
    | (go_at_call 48; refine (cr.out _ (B.below_trans (HA.out _ _) HB2.out)).mono ?_; rintro e w4 ⟨⟨A4, c4, rfl, hC4⟩, hB4⟩; have HC4 := Lib.hid hC4; have HB4 := Lib.hid (B.below_trans (HA.out _ _) (B.below_trans HB2.out hB4)); clear hB4 hC4))
  have HBA : Hid (Below w.heap.size w (w4.alloc (.cells #[.int .i64 p, .slice A4 l.length c4, .int .i64 T] 79))) := Lib.hid (HB4.out.alloc HB4.out.size _)
  have HC5 := Lib.hid (HC4.out.mono ((Below.refl _ _).alloc (Nat.le_refl _) (.cells #[.int .i64 p, .slice A4 l.length c4, .int .i64 T] 79)))
  have HCQ := Lib.hid (fun (W : World) (hb : Below (w4.alloc (.cells #[.int .i64 p, .slice A4 l.length c4, .int .i64 T] 79)).heap.size (w4.alloc (.cells #[.int .i64 p, .slice A4 l.length c4, .int .i64 T] 79)) W) => (⟨B.cell_below hb (by rw [World.cell?_alloc_new]; rfl), B.cell_below hb (by rw [World.cell?_alloc_new]; rfl)⟩ : W.cell? ⟨w4.heap.size, 1, none⟩ = some (.slice A4 l.length c4) ∧ W.cell? ⟨w4.heap.size, 2, none⟩ = some (.int .i64 T)))
  clear HC4 HB4 HB2 cr y0 y1 y2 y3 y4 y5
  go_loopw [15, 49] (fun s15 s49 wr => ∃ i : Nat, s49 = .int .i64 i ∧ i ≤ 2 ∧ s15 = .int .i64 (BB + i * T) ∧ Hid (Wt l item BB a U i) ∧ Hid (Below (w4.alloc (.cells #[.int .i64 p, .slice A4 l.length c4, .int .i64 T] 79)).heap.size (w4.alloc (.cells #[.int .i64 p, .slice A4 l.length c4, .int .i64 T] 79)) wr)) (fun _ s _ => 2 - (intOf s).toNat)
  case atStart => exact ⟨0, rfl, by omega, by rw [HBE.out]; simp, HU, Lib.hid (Below.refl _ _)⟩
  case round =>
    obtain ⟨i, rfl, hi, rfl, HW, HB⟩ := hrel
    obtain ⟨g1, g2⟩ := HCQ.out _ HB.out
    by_cases hi2 : i < 2
    · have hi3 : (i : Int) < 2 := by omega
      have hiT : 0 ≤ (i : Int) * T ∧ (i : Int) * T ≤ 18000000000 := by
        rcases (by omega : i = 0 ∨ i = 1) with rfl | rfl <;> simp <;> omega
      obtain ⟨hiT0, hiT1⟩ := hiT
      have HF := Lib.hid (HWF.out i HW.out hi2)
      have HN := Lib.hid (HWN.out i HW.out hi2)
      have HIT : Hid (BB + ((i + 1 : Nat) : Int) * T = BB + i * T + T) := Lib.hid (by rw [Int.natCast_add, Int.add_mul]; simp; omega)
      generalize (i : Int) * T = iT at *
      go_wp2
      go_loopw [16, 55] (fun s16 s55 wr => ∃ k : Nat, s55 = .int .i64 k ∧ k ≤ l.length ∧ s16 = .int .i64 (BB + iT + tot (l.take k)) ∧ Hid (fi item a (l.drop k) (BB + iT + tot (l.take k)) = fi item a l (BB + iT)) ∧ Hid (Below (w4.alloc (.cells #[.int .i64 p, .slice A4 l.length c4, .int .i64 T] 79)).heap.size (w4.alloc (.cells #[.int .i64 p, .slice A4 l.length c4, .int .i64 T] 79)) wr)) (fun _ s _ => l.length - (intOf s).toNat)
      case atStart => exact ⟨0, rfl, Nat.zero_le _, by rw [List.take_zero, tot, Int.add_zero], Lib.hid (by rw [List.take_zero, tot, Int.add_zero, List.drop_zero]), HB⟩
      case round =>
        obtain ⟨k, rfl, hk, rfl, HFD, HB2⟩ := hrel
        obtain ⟨g1, g2⟩ := HCQ.out _ HB2.out
        have HSZ : (w4.alloc (.cells #[.int .i64 p, .slice A4 l.length c4, .int .i64 T] 79)).heap.size ≤ wr.heap.size := HB2.out.size
        by_cases hlt : k < l.length
        · obtain ⟨b1, o1, rfl, f0, f1⟩ := steps_at (HC5.out.mono HB2.out) k hlt
          have HTT := Lib.hid (tot_take hlt)
          obtain ⟨hb1, hb1'⟩ := HT0.out k
          obtain ⟨hb2, hb2'⟩ := HOK.out _ (List.getElem_mem hlt)
          have hk1 : (k : Int) < l.length := by omega
          have hs := HFD.out
          rw [fi_drop hlt] at hs
          generalize l[k] = s at *
          obtain ⟨s1, s2⟩ := s
          generalize tot (l.take k) = tt at *
          have HQ := Lib.hid hs
          clear hs HFD
          rcases seq_cases s1 item with ⟨hse, hsb⟩ | ⟨hse, hsb⟩
          · by_cases ha : a ≤ BB + iT + tt
            · have HV : Hid (U = some (BB + iT + tt)) := Lib.hid (HF.out _ (by have := HQ.out; rw [if_pos ⟨hse.out, ha⟩] at this; exact this.symm))
              clear HQ
              by_cases hE : 345686400000 ≤ BB + iT + tt
              · have HP : Hid (utR U = (0, false, 2)) := Lib.hid (by rw [HV.out]; exact if_pos hE)
                go_wp2
                go_ret3
                exact ⟨by rw [HP.out]; rfl, (B.below_trans HBA.out HB2.out).alloc (B.below_trans HBA.out HB2.out).size _⟩
              · have HP : Hid (utR U = (BB + iT + tt, true, 0)) := Lib.hid (by rw [HV.out]; exact if_neg hE)
                go_wp2
                go_ret3
                exact ⟨by rw [HP.out]; rfl, (B.below_trans HBA.out HB2.out).alloc (B.below_trans HBA.out HB2.out).size _⟩
            · have HQ2 : Hid (fi item a (l.drop (k + 1)) (BB + iT + tt + s2) = fi item a l (BB + iT)) := Lib.hid (by have := HQ.out; rwa [if_neg (fun h => ha h.2)] at this)
              clear HQ
              go_wp2
              go_roundw
              case rel => exact ⟨k + 1, by go_num, by omega, by rw [HTT.out, Int.add_assoc], Lib.hid (by rw [HTT.out, ← Int.add_assoc]; exact HQ2.out), Lib.hid (HB2.out.alloc HSZ _)⟩
              case measure => simp [intOf]; omega
          · have HQ2 : Hid (fi item a (l.drop (k + 1)) (BB + iT + tt + s2) = fi item a l (BB + iT)) := Lib.hid (by have := HQ.out; rwa [if_neg (fun h => hse.out h.1)] at this)
            clear HQ
            go_wp2
            go_roundw
            case rel => exact ⟨k + 1, by go_num, by omega, by rw [HTT.out, Int.add_assoc], Lib.hid (by rw [HTT.out, ← Int.add_assoc]; exact HQ2.out), Lib.hid (HB2.out.alloc HSZ _)⟩
            case measure => simp [intOf]; omega
        · obtain rfl : k = l.length := by omega
          have HNX : Hid (Wt l item BB a U (i + 1)) := Lib.hid (HN.out (by have := HFD.out; rw [List.drop_length] at this; exact this.symm))
          clear HFD HF HN
          go_wp2
          go_roundw
          case rel => exact ⟨i + 1, by go_num, by omega, by rw [HIT.out], HNX, HB2⟩
          case measure => simp [intOf]; omega
    · obtain rfl : i = 2 := by omega
      have HP : Hid (utR U = (0, false, 0)) := Lib.hid (by
        rcases HW.out with ⟨h, -⟩ | ⟨h, -⟩ | ⟨-, h⟩
        · omega
        · omega
        · rw [h]; rfl)
      go_wp2
      go_ret3
      exact ⟨by rw [HP.out]; rfl, B.below_trans HBA.out HB.out⟩
theorem until_any (n : Nat) (x : Lp) (A As : Option Addr) (c c' : Nat) (fr a : Int) (item : ByteArray) (hsz : item.size ≤ 9223372036854775807) (w : World) (h : At n w x A As) :
    Calls Tryz.prog 19 #[lv x A As c c', .int .i64 fr, .int .i64 a, .string item] w fun e w' => UtRes (if utE (L.lf (n + 1) x) (kf item) (tf fr a) (rE (L.lf (n + 1) x) (roundM n x)) = 0 then utR (un (rL (L.lf (n + 1) x) (roundM n x)) item (base (rL (L.lf (n + 1) x) (roundM n x)) fr a) a) else (0, false, utE (L.lf (n + 1) x) (kf item) (tf fr a) (rE (L.lf (n + 1) x) (roundM n x)))) e ∧ Below w.heap.size w w' := by
  by_cases hq : L.lf (n + 1) x = 0
  · cases hk : Key.keyB item with
    | false =>
      have := until_k n x A As c c' fr a item hsz w h hq hk
      have e0 : kf item = 5 := by unfold kf; rw [hk]; rfl
      have e : utE (L.lf (n + 1) x) (kf item) (tf fr a) (rE (L.lf (n + 1) x) (roundM n x)) = 5 := by unfold utE; rw [e0, if_neg (by simpa using hq), if_pos (by omega)]
      rw [e, if_neg (by omega)]
      exact this
    | true =>
      have e0 : kf item = 0 := by unfold kf; rw [hk]; rfl
      by_cases ht : tf fr a = 0
      · cases hr : roundM n x with
        | none =>
          have := until_r n x A As c c' fr a item hsz w h hq hk ht hr
          rw [hq, ht, e0]
          exact this
        | some r =>
          obtain ⟨p, l⟩ := r
          have := until_ok n x A As c c' fr a item hsz w h hq hk ht p l hr
          rw [hq, ht, e0]
          exact this
      · have := until_t n x A As c c' fr a item hsz w h hq hk ht
        have e : utE (L.lf (n + 1) x) (kf item) (tf fr a) (rE (L.lf (n + 1) x) (roundM n x)) = tf fr a := by unfold utE; rw [if_neg (by simpa using hq), if_neg (by simpa using e0), if_pos ht]
        rw [e, if_neg ht]
        exact this
  · have := until_q n x A As c c' fr a item hsz w h hq
    have e : utE (L.lf (n + 1) x) (kf item) (tf fr a) (rE (L.lf (n + 1) x) (roundM n x)) = L.lf (n + 1) x := by unfold utE; rw [if_pos hq]
    rw [e, if_neg hq]
    exact this
end Go.Proofs.YtlfobpjefklccaaGreatDoor.Come
