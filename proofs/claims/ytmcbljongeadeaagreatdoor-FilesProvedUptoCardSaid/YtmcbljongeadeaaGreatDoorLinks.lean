/- sync.CheckLinks, done, Done; signlaw1.synced: contracts. -/
import Derived.Test.YtmcbljongeadeaaGreatDoorRange
namespace Go.Proofs.YtmcbljongeadeaaGreatDoor.Links
open Go.RowKit

abbrev Lk := Int × Int × Int
def bad (x : Lk) : Prop := x.1 < 0 ∨ x.2.1 ≤ x.1 ∨ 345686400000 < x.2.1 ∨ x.2.2 < 1 ∨ 1000000 < x.2.2
instance (x : Lk) : Decidable (bad x) := by unfold bad; infer_instance
def go (p : Option Int) : List Lk → Int
  | [] => 0
  | x :: xs => if bad x then 1 else if (p.any fun t => x.1 < t) then 7 else go (some x.2.1) xs
/-- The error of links. -/
def fault (l : List Lk) : Int := if 500 < l.length then 2 else go none l
theorem go_good {l : List Lk} : ∀ {p : Option Int}, go p l = 0 → ∀ x ∈ l, ¬ bad x := by
  induction l with
  | nil => intro p _ x hx; simp at hx
  | cons y l ih =>
    intro p h x hx
    rw [go] at h
    by_cases hb : bad y
    · rw [if_pos hb] at h; exact absurd h (by decide)
    · rw [if_neg hb] at h
      split at h
      · exact absurd h (by decide)
      · rcases List.mem_cons.1 hx with rfl | hx
        · exact hb
        · exact ih h x hx
theorem fault_good {l : List Lk} (h : fault l = 0) : ∀ x ∈ l, ¬ bad x := by
  unfold fault at h
  split at h
  · exact absurd h (by decide)
  · exact go_good h
def prev (l : List Lk) (k : Nat) : Option Int := if k = 0 then none else some (l.getD (k - 1) (0, 0, 0)).2.1

theorem moment (n : Int) (b : Bool) (hb : decide (0 ≤ n ∧ n < 345686400000) = b) (w : World) :
    Calls Tryz.prog 60 #[.int .i64 n] w fun e w' => e = .returned (.bool b) ∧ w' = w := by
  subst hb
  by_cases h1 : 0 ≤ n <;> by_cases h2 : n < 345686400000
  all_goals
    go_enter Tryz.func60, Tryz.ntmps60
    go_wp2
    go_ret
    exact ⟨by simp [h1, h2], rfl⟩

theorem check (v : Value) (l : List Lk) (w : World) (h : B.Kd.link.S w v l) :
    Calls Tryz.prog 59 #[v] w fun e w' => e = .returned (.int .i64 (fault l)) ∧ Below w.heap.size w w' := by
  obtain ⟨A1, cap, rfl, C⟩ := h
  have L1 := C.1
  by_cases hl : 500 < l.length
  · have HF := Lib.hid (show fault l = 2 by unfold fault; rw [if_pos hl])
    have hl' : (500 : Int) < l.length := by omega
    go_enter Tryz.func59, Tryz.ntmps59
    go_wp2
    go_ret
    exact ⟨by rw [HF.out]; rfl, Below.refl _ _⟩
  · have HF := Lib.hid (show fault l = go none l by unfold fault; rw [if_neg hl])
    go_enter Tryz.func59, Tryz.ntmps59
    go_wp2
    go_loopw [10] (fun s10 wr => ∃ (k : Nat), s10 = .int .i64 k ∧ k ≤ l.length ∧ Hid (fault l = go (prev l k) (l.drop k)) ∧ Hid (Below w.heap.size w wr)) (fun s10 _ => l.length - (intOf s10).toNat)
    case atStart => exact ⟨0, rfl, by omega, HF, Lib.hid (Below.refl _ _)⟩
    case round =>
      obtain ⟨k, rfl, hk, HG, HB⟩ := hrel
      by_cases hlt : k < l.length
      · obtain ⟨b1, o1, cs1, rfl, K1, e1⟩ := C.at k hlt
        obtain rfl : cs1 = [.int .i64 l[k].1, .int .i64 l[k].2.1, .int .i64 l[k].2.2] := K1
        have f0 : wr.cell? ⟨b1, o1 + k * 3, none⟩ = some (.int .i64 l[k].1) := by simpa [B.Kd.link, B.Kd.flat] using B.cell_below HB.out (e1 0 (by simp))
        have f1 : wr.cell? ⟨b1, o1 + k * 3 + 1, none⟩ = some (.int .i64 l[k].2.1) := by simpa [B.Kd.link, B.Kd.flat] using B.cell_below HB.out (e1 1 (by simp))
        have f2 : wr.cell? ⟨b1, o1 + k * 3 + 2, none⟩ = some (.int .i64 l[k].2.2) := by simpa [B.Kd.link, B.Kd.flat] using B.cell_below HB.out (e1 2 (by simp))
        have hk1 : (k : Int) < l.length := by omega
        have HG2 := HG.out
        rw [List.drop_eq_getElem_cons hlt, go] at HG2
        have HA := fun c o => Lib.hid (HB.out.alloc (by have := HB.out.size; exact this) (.cells c o))
        clear e1
        by_cases hb : bad l[k]
        · rw [if_pos hb] at HG2
          have HX := Lib.hid HG2
          unfold bad at hb
          clear HG2
          by_cases g1 : l[k].1 < 0
          · clear hb
            go_wp2
            go_ret
            exact ⟨by rw [HX.out]; rfl, (HA _ _).out⟩
          · by_cases g2 : l[k].2.1 ≤ l[k].1
            · clear hb
              go_wp2
              go_ret
              exact ⟨by rw [HX.out]; rfl, (HA _ _).out⟩
            · by_cases g3 : 345686400000 < l[k].2.1
              · clear hb
                go_wp2
                go_ret
                exact ⟨by rw [HX.out]; rfl, (HA _ _).out⟩
              · have g4 : l[k].2.2 < 1 ∨ 1000000 < l[k].2.2 := by omega
                have out1 := Cut.outside l[k].2.2 1 1000000 true (decide_eq_true g4)
                clear hb g4
                go_wp2_with (go_at_call 46; refine (out1 _).mono ?_; rintro e w' ⟨rfl, rfl⟩)
                go_ret
                exact ⟨by rw [HX.out]; rfl, (HA _ _).out⟩
        · rw [if_neg hb] at HG2
          unfold bad at hb
          have g1 : ¬ l[k].1 < 0 := by omega
          have g2 : ¬ l[k].2.1 ≤ l[k].1 := by omega
          have g3 : ¬ 345686400000 < l[k].2.1 := by omega
          have out1 := Cut.outside l[k].2.2 1 1000000 false (decide_eq_false (by omega))
          clear hb
          have HP : Hid (prev l (k + 1) = some l[k].2.1) := Lib.hid (by unfold prev; rw [if_neg (by omega), Nat.add_sub_cancel, List.getD_eq_getElem?_getD, List.getElem?_eq_getElem hlt]; rfl)
          by_cases hk0 : k = 0
          · subst hk0
            simp only [Nat.zero_mul, Nat.add_zero] at f0 f1 f2
            have HX : Hid (fault l = go (some l[0].2.1) (l.drop (0 + 1))) := Lib.hid (by rw [HG2]; simp [prev])
            clear HG2
            go_wp2_with (go_at_call 46; refine (out1 _).mono ?_; rintro e w' ⟨rfl, rfl⟩)
            go_quiet (fail)
            go_wp2
            go_roundw
            case rel => exact ⟨1, by go_num, by omega, Lib.hid (by rw [HX.out, HP.out]), Lib.hid (B.below_drew (HA _ _).out _)⟩
            case measure => simp [intOf]; omega
          · have hkm : k - 1 < l.length := by omega
            have hp : prev l k = some l[k - 1].2.1 := by unfold prev; rw [if_neg hk0, List.getD_eq_getElem?_getD, List.getElem?_eq_getElem hkm]; rfl
            rw [hp] at HG2
            obtain ⟨b1', o1', cs1, ee, K1, e1⟩ := C.at (k - 1) hkm
            obtain ⟨rfl, rfl⟩ : b1 = b1' ∧ o1 = o1' := by simpa using ee
            obtain rfl : cs1 = [.int .i64 l[k - 1].1, .int .i64 l[k - 1].2.1, .int .i64 l[k - 1].2.2] := K1
            have f3 : wr.cell? ⟨b1, o1 + (k - 1) * 3 + 1, none⟩ = some (.int .i64 l[k - 1].2.1) := by simpa [B.Kd.link, B.Kd.flat] using B.cell_below HB.out (e1 1 (by simp))
            have hkb : decide (0 < k) = true := decide_eq_true (by omega)
            have hkb2 : decide ((0 : Int) < k) = true := decide_eq_true (by omega)
            have hkn2 : (k : Int) - 1 = ((k - 1 : Nat) : Int) := by omega
            have hkw : IntKind.i64.wrap ((k - 1 : Nat) : Int) = ((k - 1 : Nat) : Int) := by rw [IntKind.wrap_i64]; omega
            have f4 := fun o => B.cell_below ((Below.refl _ wr).alloc (Nat.le_refl _) o) f3
            clear e1 ee f3
            by_cases h7 : l[k].1 < l[k - 1].2.1
            · have HX : Hid (fault l = 7) := Lib.hid (by rw [HG2]; simp [h7])
              clear HG2
              go_wp2_with (go_at_call 46; refine (out1 _).mono ?_; rintro e w' ⟨rfl, rfl⟩)
              go_quiet (fail)
              go_wp2
              go_ret
              exact ⟨by rw [HX.out]; rfl, B.below_drew (HA _ _).out _⟩
            · have HX : Hid (fault l = go (some l[k].2.1) (l.drop (k + 1))) := Lib.hid (by rw [HG2]; simp [h7])
              clear HG2
              go_wp2_with (go_at_call 46; refine (out1 _).mono ?_; rintro e w' ⟨rfl, rfl⟩)
              go_quiet (fail)
              go_wp2
              go_roundw
              case rel => exact ⟨k + 1, by go_num, by omega, Lib.hid (by rw [HX.out, HP.out]), Lib.hid (B.below_drew (HA _ _).out _)⟩
              case measure => simp [intOf]; omega
      · obtain rfl : k = l.length := by omega
        have HG2 := Lib.hid (show fault l = 0 by rw [HG.out, List.drop_length]; rfl)
        go_wp2
        go_ret
        exact ⟨by rw [HG2.out]; rfl, HB.out⟩

/-- How many bytes a link can send from a moment on. -/
def can (x : Lk) (frm : Int) : Int := max 0 (x.2.1 - max x.1 frm) * x.2.2
def doneGo (frm : Int) : List Lk → Int → Option Int
  | [], _ => none
  | x :: xs, b => if b ≤ can x frm then some (max x.1 frm + (b + x.2.2 - 1) / x.2.2) else doneGo frm xs (b - can x frm)
/-- When so many bytes are sent. -/
def doneOf (l : List Lk) (frm b : Int) : Option Int := if b = 0 then some frm else doneGo frm l b
def out (o : Option Int) : Array Value := #[.int .i64 (o.getD 0), .bool o.isSome]

theorem done_any (v : Value) (l : List Lk) (frm b : Int) (hgood : ∀ x ∈ l, ¬ bad x) (hf0 : 0 ≤ frm) (hf1 : frm < 345686400000) (hb0 : 0 ≤ b) (hb1 : b ≤ 1000000000000) (w : World) (h : B.Kd.link.S w v l) :
    Calls Tryz.prog 61 #[v, .int .i64 frm, .int .i64 b] w fun e w' => e = .returned (.tuple (out (doneOf l frm b))) ∧ Below w.heap.size w w' := by
  obtain ⟨A1, cap, rfl, C⟩ := h
  have L1 := C.1
  have HG := Lib.hid hgood
  clear hgood
  by_cases hz : b = 0
  · have HF := Lib.hid (show doneOf l frm b = some frm by unfold doneOf; rw [if_pos hz])
    subst hz
    go_enter Tryz.func61, Tryz.ntmps61
    go_wp2
    go_ret2
    exact ⟨by rw [HF.out]; rfl, Below.refl _ _⟩
  · have HF := Lib.hid (show doneOf l frm b = doneGo frm l b by unfold doneOf; rw [if_neg hz])
    go_enter Tryz.func61, Tryz.ntmps61
    go_wp2
    go_loopw [2, 17] (fun s2 s17 wr => ∃ (k : Nat) (c : Int), s2 = .int .i64 c ∧ 0 < c ∧ c ≤ 1000000000000 ∧ s17 = .int .i64 k ∧ k ≤ l.length ∧ Hid (doneOf l frm b = doneGo frm (l.drop k) c) ∧ Hid (Below w.heap.size w wr)) (fun _ s17 _ => l.length - (intOf s17).toNat)
    case atStart => exact ⟨0, b, rfl, by omega, by omega, rfl, by omega, HF, Lib.hid (Below.refl _ _)⟩
    case round =>
      obtain ⟨k, c, rfl, hc0, hc1, rfl, hk, HD, HB⟩ := hrel
      by_cases hlt : k < l.length
      · obtain ⟨b1, o1, cs1, rfl, K1, e1⟩ := C.at k hlt
        obtain rfl : cs1 = [.int .i64 l[k].1, .int .i64 l[k].2.1, .int .i64 l[k].2.2] := K1
        have f0 : wr.cell? ⟨b1, o1 + k * 3, none⟩ = some (.int .i64 l[k].1) := by simpa [B.Kd.link, B.Kd.flat] using B.cell_below HB.out (e1 0 (by simp))
        have f1 : wr.cell? ⟨b1, o1 + k * 3 + 1, none⟩ = some (.int .i64 l[k].2.1) := by simpa [B.Kd.link, B.Kd.flat] using B.cell_below HB.out (e1 1 (by simp))
        have f2 : wr.cell? ⟨b1, o1 + k * 3 + 2, none⟩ = some (.int .i64 l[k].2.2) := by simpa [B.Kd.link, B.Kd.flat] using B.cell_below HB.out (e1 2 (by simp))
        have hk1 : (k : Int) < l.length := by omega
        have HD2 := HD.out
        rw [List.drop_eq_getElem_cons hlt, doneGo] at HD2
        have HA := fun c o => Lib.hid (HB.out.alloc (by have := HB.out.size; exact this) (.cells c o))
        have hgd := HG.out _ (List.getElem_mem hlt)
        unfold bad at hgd
        have hd0 : 0 ≤ max 0 (l[k].2.1 - max l[k].1 frm) := by omega
        have hd1 : max 0 (l[k].2.1 - max l[k].1 frm) ≤ 345686400000 := by omega
        have hs0 : 1 ≤ l[k].2.2 := by omega
        have hs1 : l[k].2.2 ≤ 1000000 := by omega
        have hm0 : 0 ≤ can l[k] frm := Int.mul_nonneg hd0 (by omega)
        have hm1 : can l[k] frm ≤ 345686400000 * 1000000 := Int.mul_le_mul hd1 hs1 (by omega) (by omega)
        have hx0 : 0 ≤ max l[k].1 frm := by omega
        have hx1 : max l[k].1 frm ≤ 345686400000 := by omega
        clear e1
        have hr0 : 0 ≤ l[k].1 := by omega
        have hr1 : l[k].1 < l[k].2.1 := by omega
        have hr2 : l[k].2.1 ≤ 345686400000 := by omega
        by_cases m1 : l[k].1 < frm
        · by_cases m2 : ¬ 0 < l[k].2.1 - frm
          · have HM : Hid (max l[k].1 frm = frm) := Lib.hid (by omega)
            have hcan : can l[k] frm = 0 := by unfold can; rw [HM.out, show max 0 (l[k].2.1 - frm) = 0 from by omega, Int.zero_mul]
            rw [hcan] at hm0 hm1 HD2
            rw [if_neg (by omega)] at HD2
            have HX := Lib.hid HD2
            clear HD2 hgd hd0 hd1 hx0 hx1
            go_wp2
            go_roundw
            case rel => exact ⟨k + 1, c - 0, by go_num, by omega, by omega, by go_num, by omega, HX, HA _ _⟩
            case measure => simp [intOf]; omega
          · have HM : Hid (max l[k].1 frm = frm) := Lib.hid (by omega)
            have m2 := Decidable.not_not.1 m2
            have hcan : can l[k] frm = (l[k].2.1 - frm) * l[k].2.2 := by unfold can; rw [HM.out, show max 0 (l[k].2.1 - frm) = l[k].2.1 - frm from by omega]
            rw [hcan] at hm0 hm1 HD2
            by_cases hle : c ≤ (l[k].2.1 - frm) * l[k].2.2
            · rw [if_pos hle] at HD2
              have HX := Lib.hid HD2
              clear HD2 hgd hd0 hd1 hx0 hx1
              have hq0 : 0 ≤ (c + l[k].2.2 - 1) / l[k].2.2 := Int.ediv_nonneg (by omega) (by omega)
              have hq1 : (c + l[k].2.2 - 1) / l[k].2.2 ≤ c + l[k].2.2 - 1 := Int.ediv_le_self _ (by omega)
              go_wp2
              go_ret2
              exact ⟨by rw [HX.out, HM.out]; rfl, (HA _ _).out⟩
            · rw [if_neg hle] at HD2
              have HX := Lib.hid HD2
              clear HD2 hgd hd0 hd1 hx0 hx1
              go_wp2
              go_roundw
              case rel => exact ⟨k + 1, c - (l[k].2.1 - frm) * l[k].2.2, by go_num, by omega, by omega, by go_num, by omega, HX, HA _ _⟩
              case measure => simp [intOf]; omega
        · by_cases m2 : ¬ 0 < l[k].2.1 - l[k].1
          · omega
          · have HM : Hid (max l[k].1 frm = l[k].1) := Lib.hid (by omega)
            have m2 := Decidable.not_not.1 m2
            have hcan : can l[k] frm = (l[k].2.1 - l[k].1) * l[k].2.2 := by unfold can; rw [HM.out, show max 0 (l[k].2.1 - l[k].1) = l[k].2.1 - l[k].1 from by omega]
            rw [hcan] at hm0 hm1 HD2
            by_cases hle : c ≤ (l[k].2.1 - l[k].1) * l[k].2.2
            · rw [if_pos hle] at HD2
              have HX := Lib.hid HD2
              clear HD2 hgd hd0 hd1 hx0 hx1
              have hq0 : 0 ≤ (c + l[k].2.2 - 1) / l[k].2.2 := Int.ediv_nonneg (by omega) (by omega)
              have hq1 : (c + l[k].2.2 - 1) / l[k].2.2 ≤ c + l[k].2.2 - 1 := Int.ediv_le_self _ (by omega)
              go_wp2
              go_ret2
              exact ⟨by rw [HX.out, HM.out]; rfl, (HA _ _).out⟩
            · rw [if_neg hle] at HD2
              have HX := Lib.hid HD2
              clear HD2 hgd hd0 hd1 hx0 hx1
              go_wp2
              go_roundw
              case rel => exact ⟨k + 1, c - (l[k].2.1 - l[k].1) * l[k].2.2, by go_num, by omega, by omega, by go_num, by omega, HX, HA _ _⟩
              case measure => simp [intOf]; omega
      · obtain rfl : k = l.length := by omega
        have HG2 := Lib.hid (show doneOf l frm b = none by rw [HD.out, List.drop_length]; rfl)
        go_wp2
        go_ret2
        exact ⟨by rw [HG2.out]; rfl, HB.out⟩

/-- sync.Done's answer. -/
def doneAns (l : List Lk) (frm b : Int) : Array Value :=
  if fault l ≠ 0 then #[.int .i64 0, .bool false, .int .i64 (fault l)]
  else if (¬ (0 ≤ frm ∧ frm < 345686400000)) ∨ b < 0 ∨ 1000000000000 < b then #[.int .i64 0, .bool false, .int .i64 1]
  else #[.int .i64 ((doneOf l frm b).getD 0), .bool (doneOf l frm b).isSome, .int .i64 0]
theorem done_all (v : Value) (l : List Lk) (frm b : Int) (w : World) (h : B.Kd.link.S w v l) :
    Calls Tryz.prog 44 #[v, .int .i64 frm, .int .i64 b] w fun e w' => e = .returned (.tuple (doneAns l frm b)) ∧ Below w.heap.size w w' := by
  have c1 := check v l w h
  by_cases hf : fault l = 0
  · by_cases h1 : 0 ≤ frm ∧ frm < 345686400000
    · have c2 := moment frm true (decide_eq_true h1)
      by_cases h2 : b < 0 ∨ 1000000000000 < b
      · have HX := Lib.hid (show doneAns l frm b = #[.int .i64 0, .bool false, .int .i64 1] by unfold doneAns; rw [if_neg (by simp [hf]), if_pos (Or.inr h2)])
        have c3 := Cut.outside b 0 1000000000000 true (decide_eq_true h2)
        generalize fault l = n at c1 hf
        subst hf
        clear h1 h2
        go_enter Tryz.func44, Tryz.ntmps44
        go_wp2_with (first | (go_at_call 59; refine c1.mono ?_; rintro e w1 ⟨rfl, HB1⟩) | (go_at_call 60; refine (c2 _).mono ?_; rintro e w2 ⟨rfl, rfl⟩) | (go_at_call 46; refine (c3 _).mono ?_; rintro e w2 ⟨rfl, rfl⟩))
        go_ret3
        exact ⟨by rw [HX.out]; rfl, HB1⟩
      · have HX := Lib.hid (show doneAns l frm b = #[.int .i64 ((doneOf l frm b).getD 0), .bool (doneOf l frm b).isSome, .int .i64 0] by unfold doneAns; rw [if_neg (by simp [hf]), if_neg (fun h => h.elim (fun h => h h1) h2)])
        have c3 := Cut.outside b 0 1000000000000 false (decide_eq_false h2)
        have c4 := fun w' hb => done_any v l frm b (fault_good hf) h1.1 h1.2 (by omega) (by omega) w' (h.mono hb)
        unfold out at c4
        generalize doneOf l frm b = o at c4 HX
        generalize fault l = n at c1 hf
        subst hf
        clear h1 h2
        go_enter Tryz.func44, Tryz.ntmps44
        go_wp2_with (first | (go_at_call 59; refine c1.mono ?_; rintro e w1 ⟨rfl, HB1⟩) | (go_at_call 60; refine (c2 _).mono ?_; rintro e w2 ⟨rfl, rfl⟩) | (go_at_call 46; refine (c3 _).mono ?_; rintro e w2 ⟨rfl, rfl⟩) | (go_at_call 61; refine (c4 _ HB1).mono ?_; rintro e w3 ⟨rfl, HB3⟩))
        go_ret3
        exact ⟨by rw [HX.out]; rfl, B.below_trans HB1 HB3⟩
    · have HX := Lib.hid (show doneAns l frm b = #[.int .i64 0, .bool false, .int .i64 1] by unfold doneAns; rw [if_neg (by simp [hf]), if_pos (Or.inl h1)])
      have c2 := moment frm false (decide_eq_false h1)
      generalize fault l = n at c1 hf
      subst hf
      clear h1
      go_enter Tryz.func44, Tryz.ntmps44
      go_wp2_with (first | (go_at_call 59; refine c1.mono ?_; rintro e w1 ⟨rfl, HB1⟩) | (go_at_call 60; refine (c2 _).mono ?_; rintro e w2 ⟨rfl, rfl⟩))
      go_ret3
      exact ⟨by rw [HX.out]; rfl, HB1⟩
  · have HX := Lib.hid (show doneAns l frm b = #[.int .i64 0, .bool false, .int .i64 (fault l)] by unfold doneAns; rw [if_pos hf])
    generalize fault l = n at c1 hf HX
    go_enter Tryz.func44, Tryz.ntmps44
    go_wp2_with (go_at_call 59; refine c1.mono ?_; rintro e w1 ⟨rfl, HB1⟩)
    go_ret3
    exact ⟨by rw [HX.out]; rfl, HB1⟩

/-- What the laws of package sync ask at their end. -/
theorem synced (w : World) : Calls Tryz.prog 22 #[] w fun e w' => e = .returned (.bool true) ∧ Below w.heap.size w w' := by
  have c1 := fun W v h => done_all v [(0, 10, 5)] 3 12 W h
  rw [show doneAns [(0, 10, 5)] 3 12 = #[.int .i64 6, .bool true, .int .i64 0] from by rfl] at c1
  go_enter Tryz.func22, Tryz.ntmps22
  go_wp2_with (go_at_call 44; go_loud (refine (c1 _ _ (B.lit_link w _ _ [(0, 10, 5)] 1 rfl rfl (by decide))).mono ?_); rintro e w1 ⟨rfl, HB⟩)
  go_ret
  exact ⟨rfl, ((Below.refl _ w).alloc (Nat.le_refl _) _).trans (HB.mono (by simp))⟩
end Go.Proofs.YtmcbljongeadeaaGreatDoor.Links
