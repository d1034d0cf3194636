/- Whether a loop is too large: (*parts).large, fits; CheckLoop and LoopFault. -/
import Derived.Test.YtfillnkebohciaaGreatDoorLpFaultR
import Derived.Test.YtfillnkebohciaaGreatDoorFrame
namespace Go.Proofs.YtfillnkebohciaaGreatDoor.L
open Go.RowKit
open F (Fr Cl)

def lgs (f : Lp → Int → Int → Bool × Int) : List Lp → Int → Int → Bool × Int
  | [], _, m => (false, m)
  | k :: ks, d, m => if (f k d m).1 = true then (true, (f k d m).2) else lgs f ks d (f k d m).2
/-- Whether there are too many parts, or one is too deep, and the count. -/
def lg : Nat → Lp → Int → Int → Bool × Int
  | 0, _, _, m => (false, m)
  | n + 1, x, d, m => if 200 < m + 1 ∨ 12 < d then (true, m + 1) else lgs (lg n) x.kids (d + 1) (m + 1)
theorem lgs_drop (f : Lp → Int → Int → Bool × Int) {l : List Lp} {k : Nat} (h : k < l.length) (d m : Int) : lgs f (l.drop k) d m = if (f l[k] d m).1 = true then (true, (f l[k] d m).2) else lgs f (l.drop (k + 1)) d (f l[k] d m).2 := by rw [List.drop_eq_getElem_cons h, lgs]
theorem lg_le : ∀ (n : Nat) (x : Lp) (d m : Int), (lg n x d m).1 = false → 0 ≤ m ∧ m ≤ 200 → 0 ≤ (lg n x d m).2 ∧ (lg n x d m).2 ≤ 200 := by
  intro n
  induction n with
  | zero => intro x d m _ h; exact h
  | succ n ih =>
    intro x d m h hm
    unfold lg at h ⊢
    split at h
    · cases h
    · rename_i hc
      rw [if_neg hc]
      have : 0 ≤ m + 1 ∧ m + 1 ≤ 200 := by omega
      generalize m + 1 = m' at this h ⊢
      generalize x.kids = ks at h ⊢
      clear hc hm
      induction ks generalizing m' with
      | nil => exact this
      | cons k ks ih2 =>
        unfold lgs at h ⊢
        split at h
        · cases h
        · rename_i hk
          rw [if_neg hk]
          exact ih2 _ (ih _ _ _ (by simpa using hk) this) h
/-- What comes of the call of large at a loop. -/
def Lg (bp : Nat) (w : World) (r : Bool × Int) (e : Ending) (w' : World) : Prop := e = .returned (.bool r.1) ∧ Cl w' bp 0 (.int .i64 r.2) ∧ Fr (· = bp) w w'
def LgAt (n : Nat) : Prop := ∀ (x : Lp) (A As : Option Addr) (c c' : Nat) (d m : Int) (bp : Nat) (w0 w : World), At n w0 x A As → Below w0.heap.size w0 w → w0.heap.size ≤ bp → Cl w bp 0 (.int .i64 m) → 0 ≤ m ∧ m ≤ 200 → 0 ≤ d ∧ d ≤ 13 →
    Calls Tryz.prog 75 #[.pointer (some ⟨bp, 0, none⟩), lv x A As c c', .int .i64 d] w (Lg bp w (lg (n + 1) x d m))
theorem clos48 {n : Nat} (ih : LgAt n) (x : Lp) (A As : Option Addr) (c c' : Nat) (d m : Int) (bp b3 b5 : Nat) (w0 w : World) (h : At n w0 x A As) (hb : Below w0.heap.size w0 w) (hbp : w0.heap.size ≤ bp) (hc : Cl w bp 0 (.int .i64 m)) (hm : 0 ≤ m ∧ m ≤ 200) (hd : 0 ≤ d ∧ d ≤ 12)
    (h3 : w.cell? ⟨b3, 0, none⟩ = some (.pointer (some ⟨bp, 0, none⟩))) (h5 : w.cell? ⟨b5, 0, none⟩ = some (.int .i64 d)) :
    Calls Tryz.prog 103 #[lv x A As c c', .pointer (some ⟨b3, 0, none⟩), .pointer (some ⟨b5, 0, none⟩)] w (Lg bp w (lg (n + 1) x (d + 1) m)) := by
  have HA := Lib.hid (fun (o : Obj) => (Below.refl _ w).alloc (Nat.le_refl _) o)
  have cl := fun o => ih x A As c c' (d + 1) m bp w0 (w.alloc o) h (hb.trans ((HA.out o).mono hb.size)) hbp (hc.below (HA.out o)) hm (by omega)
  have HH := Lib.hid hd
  have g3 := fun o => B.cell_below (HA.out o) h3
  have g5 := fun o => B.cell_below (HA.out o) h5
  have hw : IntKind.i64.wrap (d + 1) = d + 1 := by rw [IntKind.wrap_i64]; omega
  generalize lg (n + 1) x (d + 1) m = r at cl ⊢
  unfold lv at cl ⊢
  clear ih h hb hc hm hd h3 h5
  go_enter Tryz.func103, Tryz.ntmps103
  go_wp2_with (go_at_call 75; refine (cl _).mono ?_; rintro e w2 ⟨rfl, HC2, HF2⟩)
  go_ret
  exact ⟨rfl, HC2, (Fr.of_below (HA.out _)).trans HF2 (fun _ _ h => h)⟩
/-- What comes of IndexFunc. -/
def Ix (bp : Nat) (w : World) (r : Bool × Int) (e : Ending) (w' : World) : Prop := (∃ i : Int, e = .returned (.int .i64 i) ∧ decide (0 ≤ i) = r.1) ∧ Cl w' bp 0 (.int .i64 r.2) ∧ Fr (· = bp) w w'
set_option maxRecDepth 100000 in
theorem idxL (n : Nat) (ih : ∀ m, m < n → LgAt m) (xs : List Lp) (A : Option Addr) (c : Nat) (d m : Int) (bp b3 b5 : Nat) (w0 w : World) (h : (kdL n).C w0 A xs) (hb : Below w0.heap.size w0 w) (hbp : w0.heap.size ≤ bp) (hc : Cl w bp 0 (.int .i64 m)) (hm : 0 ≤ m ∧ m ≤ 200) (hd : 0 ≤ d ∧ d ≤ 12)
    (h3 : w.cell? ⟨b3, 0, none⟩ = some (.pointer (some ⟨bp, 0, none⟩))) (h5 : w.cell? ⟨b5, 0, none⟩ = some (.int .i64 d)) (n3 : b3 ≠ bp) (n5 : b5 ≠ bp) :
    Calls Tryz.prog 138 #[.slice A xs.length c, .func (.func 103) #[] #[.pointer (some ⟨b3, 0, none⟩), .pointer (some ⟨b5, 0, none⟩)]] w (Ix bp w (lgs (lg n) xs (d + 1) m)) := by
  have L := h.1
  have HH := Lib.hid h
  have HIH := Lib.hid ih
  have HB := Lib.hid hb
  have HC := Lib.hid hc
  have H3 := Lib.hid h3
  have H5 := Lib.hid h5
  have HM := Lib.hid hm
  have HD := Lib.hid hd
  have HBP := Lib.hid hbp
  have N3 := Lib.hid n3
  have N5 := Lib.hid n5
  obtain ⟨R, hr⟩ : ∃ R, lgs (lg n) xs (d + 1) m = R := ⟨_, rfl⟩
  rw [hr]
  have HR := Lib.hid hr
  clear h ih hb hc h3 h5 hm hd hbp n3 n5 hr
  go_enter Tryz.func138, Tryz.ntmps138
  go_wp2
  go_loopw [8] (fun s wr => ∃ (k : Nat) (m' : Int), s = .int .i64 k ∧ k ≤ xs.length ∧ Hid (lgs (lg n) (xs.drop k) (d + 1) m' = R) ∧ Hid (Cl wr bp 0 (.int .i64 m')) ∧ Hid (0 ≤ m' ∧ m' ≤ 200) ∧ Hid (Fr (· = bp) w wr)) (fun s _ => xs.length - (intOf s).toNat)
  case atStart => exact ⟨0, m, rfl, by omega, Lib.hid (by rw [List.drop_zero]; exact HR.out), HC, HM, Lib.hid (Fr.refl _ _)⟩
  case round =>
    obtain ⟨k, m', rfl, hk, HN, HC2, HM2, HF⟩ := hrel
    by_cases hlt : k < xs.length
    · have HB2 : Below w0.heap.size w0 wr := HB.out.trans (HF.out.below HB.out.size (fun i e => e ▸ HBP.out))
      obtain ⟨b1, o1, q, A2, As2, c2, c2', rfl, rfl, hat, e1⟩ := kid_at HH.out k hlt
      have f0 := B.cell_below HB2 (e1 0 _ rfl)
      have f1 := B.cell_below HB2 (e1 1 _ rfl)
      have f2 := B.cell_below HB2 (e1 2 _ rfl)
      have f3 := B.cell_below HB2 (e1 3 _ rfl)
      have f4 := B.cell_below HB2 (e1 4 _ rfl)
      have f5 := B.cell_below HB2 (e1 5 _ rfl)
      simp only [Nat.add_zero] at f0
      have hk1 : (k : Int) < xs.length := by omega
      have cc := clos48 (HIH.out q (by omega)) xs[k] A2 As2 c2 c2' d m' bp b3 b5 w0 wr hat HB2 HBP.out HC2.out HM2.out HD.out (HF.out.cell (N3.out) H3.out) (HF.out.cell (N5.out) H5.out)
      unfold lv at cc
      have HN2 := HN.out
      rw [lgs_drop _ hlt] at HN2
      have HLE := Lib.hid (lg_le (q + 1) xs[k] (d + 1) m')
      generalize lg (q + 1) xs[k] (d + 1) m' = r at cc HN2 HLE
      obtain ⟨rb, rm⟩ := r
      clear e1 hat HN HB2
      cases rb with
      | true =>
        rw [if_pos rfl] at HN2
        have HN3 := Lib.hid HN2
        clear HN2
        go_wp2_with (go_at_call 103; refine cc.mono ?_; rintro e w2 ⟨rfl, HC5, HF5⟩)
        go_ret
        exact ⟨⟨k, rfl, by rw [← HN3.out]; simp⟩, by rw [← HN3.out]; exact HC5, HF.out.trans HF5 (fun _ _ h => h)⟩
      | false =>
        rw [if_neg (by simp)] at HN2
        have HN3 := Lib.hid HN2
        have HLE2 := Lib.hid (HLE.out rfl HM2.out)
        clear HN2 HLE
        go_wp2_with (go_at_call 103; refine cc.mono ?_; rintro e w2 ⟨rfl, HC5, HF5⟩; have HC6 := Lib.hid HC5; clear HC5)
        go_roundw
        case rel => exact ⟨k + 1, rm, by go_num, by omega, HN3, HC6, HLE2, Lib.hid (HF.out.trans HF5 (fun _ _ h => h))⟩
        case measure => simp [intOf]; omega
    · obtain rfl : k = xs.length := by omega
      have HN2 := HN.out
      rw [List.drop_length, lgs] at HN2
      subst HN2
      go_wp2
      go_ret
      exact ⟨⟨-1, rfl, rfl⟩, HC2.out, HF.out⟩
set_option maxRecDepth 100000 in
theorem anyL (n : Nat) (ih : ∀ m, m < n → LgAt m) (xs : List Lp) (A : Option Addr) (c : Nat) (d m : Int) (bp b3 b5 : Nat) (w0 w : World) (h : (kdL n).C w0 A xs) (hb : Below w0.heap.size w0 w) (hbp : w0.heap.size ≤ bp) (hc : Cl w bp 0 (.int .i64 m)) (hm : 0 ≤ m ∧ m ≤ 200) (hd : 0 ≤ d ∧ d ≤ 12)
    (h3 : w.cell? ⟨b3, 0, none⟩ = some (.pointer (some ⟨bp, 0, none⟩))) (h5 : w.cell? ⟨b5, 0, none⟩ = some (.int .i64 d)) (n3 : b3 ≠ bp) (n5 : b5 ≠ bp) :
    Calls Tryz.prog 102 #[.slice A xs.length c, .func (.func 103) #[] #[.pointer (some ⟨b3, 0, none⟩), .pointer (some ⟨b5, 0, none⟩)]] w (Lg bp w (lgs (lg n) xs (d + 1) m)) := by
  have ci := idxL n ih xs A c d m bp b3 b5 w0 w h hb hbp hc hm hd h3 h5 n3 n5
  generalize lgs (lg n) xs (d + 1) m = r at ci ⊢
  obtain ⟨rb, rm⟩ := r
  clear h ih hb hc hm hd h3 h5 n3 n5
  go_enter Tryz.func102, Tryz.ntmps102
  go_wp2_with (go_at_call 138; refine ci.mono ?_; rintro e w3 ⟨⟨i, rfl, hi⟩, HC, HF⟩; have HI := Lib.hid hi; clear hi)
  go_ret
  exact ⟨by rw [← HI.out]; rfl, HC, HF⟩
theorem boxes3 {w : World} {bp : Nat} {v : Value} (hc : Cl w bp 0 v) (v0 v2 : Value) (c' : Array Value) (e e' e'' : TypeId) (u : Value) :
    let W := (((w.alloc (.cells #[v0] e)).alloc (.cells c' e')).alloc (.cells #[v2] e'')).setCell ⟨bp, 0, none⟩ u
    W.cell? ⟨w.heap.size, 0, none⟩ = some v0 ∧ W.cell? ⟨w.heap.size + 1 + 1, 0, none⟩ = some v2 ∧ Cl W bp 0 u ∧ Fr (· = bp) w W := by
  have hl := hc.lt
  have F1 : Fr (· = bp) w (((w.alloc (.cells #[v0] e)).alloc (.cells c' e')).alloc (.cells #[v2] e'')) := (((Fr.refl _ w).alloc _).alloc _).alloc _
  have c3 := Cl.new ((w.alloc (.cells #[v0] e)).alloc (.cells c' e')) #[v2] e'' 0 v2 rfl
  have c1 := Cl.below (Cl.below (Cl.new w #[v0] e 0 v0 rfl) ((Below.refl _ _).alloc (Nat.le_refl _) (.cells c' e'))) ((Below.refl _ _).alloc (Nat.le_refl _) (.cells #[v2] e''))
  have s3 : ((w.alloc (.cells #[v0] e)).alloc (.cells c' e')).heap.size = w.heap.size + 1 + 1 := by simp
  rw [s3] at c3
  refine ⟨(c1.set_ne ?_ _).1, (c3.set_ne ?_ _).1, (hc.below (((Below.refl w.heap.size w).alloc (Nat.le_refl _) _ |>.alloc (by simp) _).alloc (by simp; omega) _)).set u, F1.set (fun _ => rfl) u⟩
  · intro e; cases e; omega
  · intro e; cases e; omega
set_option maxHeartbeats 4000000 in
set_option maxRecDepth 100000 in
theorem large : ∀ n, LgAt n := by
  intro n
  induction n using Nat.strongRecOn with
  | ind n ih =>
    intro x A As c c' d m bp w0 w h hb hbp hc hm hd
    have hlt := hc.lt
    obtain ⟨C, -, -⟩ := h
    have hw : IntKind.i64.wrap (m + 1) = m + 1 := by rw [IntKind.wrap_i64]; omega
    have HX := Lib.hid (fun v0 v2 c' e e' e'' u => boxes3 hc v0 v2 c' e e' e'' u)
    have HA := Lib.hid (fun (c c' c'' : Array Value) (e e' e'' : TypeId) => (((Below.refl w.heap.size w).alloc (Nat.le_refl _) (.cells c e)).alloc (by simp) (.cells c' e')).alloc (by simp; omega) (.cells c'' e''))
    have g0 := fun c c' c'' e e' e'' => (hc.below (HA.out c c' c'' e e' e'')).1
    have g1 := fun c c' c'' e e' e'' => (hc.below (HA.out c c' c'' e e' e'')).2
    by_cases hq : 200 < m + 1 ∨ 12 < d
    · have HR : Hid (lg (n + 1) x d m = (true, m + 1)) := Lib.hid (if_pos hq)
      unfold lv
      clear C ih hb hc hm hbp hd
      go_enter Tryz.func75, Tryz.ntmps75
      go_wp2
      all_goals
        go_ret
        rw [HR.out]
        exact ⟨rfl, (HX.out _ _ _ _ _ _ _).2.2.1, (HX.out _ _ _ _ _ _ _).2.2.2⟩
    · have HR : Hid (lg (n + 1) x d m = lgs (lg n) x.kids (d + 1) (m + 1)) := Lib.hid (if_neg hq)
      have h1 : ¬ 200 < m + 1 := fun h => hq (.inl h)
      have h2 : ¬ 12 < d := fun h => hq (.inr h)
      have cl := fun v0 v2 c' e e' e'' (h0 : v0 = .pointer (some ⟨bp, 0, none⟩)) (h2' : v2 = .int .i64 d) => anyL n ih x.kids A c d (m + 1) bp w.heap.size (w.heap.size + 1 + 1) w0 _ C (hb.trans ((HX.out v0 v2 c' e e' e'' (.int .i64 (m + 1))).2.2.2.below hb.size (fun i e => e ▸ hbp))) hbp (HX.out v0 v2 c' e e' e'' (.int .i64 (m + 1))).2.2.1 (by omega) (by omega)
        (by rw [(HX.out v0 v2 c' e e' e'' (.int .i64 (m + 1))).1, h0]) (by rw [(HX.out v0 v2 c' e e' e'' (.int .i64 (m + 1))).2.1, h2']) (by omega) (by omega)
      have HCL := Lib.hid cl
      have hq1 : decide (200 < m + 1) = false := decide_eq_false h1
      have hq2 : decide (12 < d) = false := decide_eq_false h2
      unfold lv
      clear C ih hb hc hm hbp hd hq cl
      go_enter Tryz.func75, Tryz.ntmps75
      go_wp2_with (go_at_call 102; refine (HCL.out _ _ _ _ _ _ rfl rfl).mono ?_; rintro e w2 ⟨rfl, HC2, HF2⟩)
      go_ret
      rw [HR.out]
      exact ⟨rfl, HC2, (HX.out _ _ _ _ _ _ _).2.2.2.trans HF2 (fun _ _ h => h)⟩

/-! ### fits -/
def Ft (bp : Nat) (w : World) (r : Bool × Int) (e : Ending) (w' : World) : Prop := e = .returned (.bool (!r.1)) ∧ Cl w' bp 0 (.int .i64 r.2) ∧ Fr (· = bp) w w'
def FtAt (n : Nat) : Prop := ∀ (x : Lp) (A As : Option Addr) (c c' : Nat) (d m : Int) (bp : Nat) (w0 w : World), At n w0 x A As → Below w0.heap.size w0 w → w0.heap.size ≤ bp → Cl w bp 0 (.int .i64 m) → 0 ≤ m ∧ m ≤ 200 → 0 ≤ d ∧ d ≤ 13 →
    Calls Tryz.prog 36 #[lv x A As c c', .int .i64 d, .pointer (some ⟨bp, 0, none⟩)] w (Ft bp w (lg (n + 1) x d m))
theorem box1 {w : World} {bp : Nat} {v : Value} (hc : Cl w bp 0 v) (c : Array Value) (e : TypeId) (u : Value) : Cl ((w.setCell ⟨bp, 0, none⟩ u).alloc (.cells c e)) bp 0 u ∧ Fr (· = bp) w ((w.setCell ⟨bp, 0, none⟩ u).alloc (.cells c e)) ∧
    ∀ i x, c[i]? = some x → ((w.setCell ⟨bp, 0, none⟩ u).alloc (.cells c e)).cell? ⟨w.heap.size, i, none⟩ = some x := by
  have hl := hc.lt
  refine ⟨(hc.set u).below ((Below.refl _ _).alloc (Nat.le_refl _) _), (Fr.set (S := (· = bp)) (p := ⟨bp, 0, none⟩) (Fr.refl _ w) (fun _ => rfl) u).alloc _, fun i x hx => ?_⟩
  have := (Cl.new (w.setCell ⟨bp, 0, none⟩ u) c e i x hx).1
  simpa using this
set_option maxHeartbeats 4000000 in
set_option maxRecDepth 100000 in
theorem fits : ∀ n, FtAt n := by
  intro n
  induction n using Nat.strongRecOn with
  | ind n ih =>
    intro x A As c c' d m bp w0 w h hb hbp hc hm hd
    have hlt := hc.lt
    obtain ⟨C, -, -⟩ := h
    have L := C.1
    have hw : IntKind.i64.wrap (m + 1) = m + 1 := by rw [IntKind.wrap_i64]; omega
    have hw2 : IntKind.i64.wrap (d + 1) = d + 1 := by rw [IntKind.wrap_i64]; omega
    have HX := Lib.hid (fun c e u => box1 hc c e u)
    have HA := Lib.hid (fun (c : Array Value) (e : TypeId) => (Below.refl w.heap.size w).alloc (Nat.le_refl _) (.cells c e))
    have g0 := fun c e => (hc.below (HA.out c e)).1
    have g1 := fun c e => (hc.below (HA.out c e)).2
    have g2 := fun u => (hc.set u).1
    have g3 := hc.1
    by_cases hq : 200 < m + 1 ∨ 12 < d
    · have HR : Hid (lg (n + 1) x d m = (true, m + 1)) := Lib.hid (if_pos hq)
      unfold lv
      clear C ih hb hc hm hbp hd
      go_enter Tryz.func36, Tryz.ntmps36
      go_wp2
      all_goals
        go_ret
        rw [HR.out]
        exact ⟨rfl, (HX.out _ _ _).1, (HX.out _ _ _).2.1⟩
    · have HR : Hid (lg (n + 1) x d m = lgs (lg n) x.kids (d + 1) (m + 1)) := Lib.hid (if_neg hq)
      have h1 : ¬ 200 < m + 1 := fun h => hq (.inl h)
      have h2 : ¬ 12 < d := fun h => hq (.inr h)
      have hq1 : decide (200 < m + 1) = false := decide_eq_false h1
      have hq2 : decide (12 < d) = false := decide_eq_false h2
      have HM : Hid (0 ≤ m + 1 ∧ m + 1 ≤ 200) := Lib.hid (by omega)
      have HD : Hid (0 ≤ d + 1 ∧ d + 1 ≤ 13) := Lib.hid (by omega)
      have g4 := fun e u => (HX.out #[.int .i64 x.kind, .string x.item, .int .i64 x.long, .int .i64 x.many, .slice A x.kids.length c, .slice As x.shares.length c'] e u).2.2 4 _ rfl
      have HC := Lib.hid C
      have HIH := Lib.hid ih
      have HB := Lib.hid hb
      have HBP := Lib.hid hbp
      unfold lv
      clear C ih hb hc hm hbp hd hq
      go_enter Tryz.func36, Tryz.ntmps36
      go_wp2
      have HC1 := Lib.hid (HX.out #[.int .i64 x.kind, .string x.item, .int .i64 x.long, .int .i64 x.many, .slice A x.kids.length c, .slice As x.shares.length c'] 25 (.int .i64 (m + 1))).1
      have HF1 := Lib.hid (HX.out #[.int .i64 x.kind, .string x.item, .int .i64 x.long, .int .i64 x.many, .slice A x.kids.length c, .slice As x.shares.length c'] 25 (.int .i64 (m + 1))).2.1
      go_loopw [25] (fun s wr => ∃ (k : Nat) (m' : Int), s = .int .i64 k ∧ k ≤ x.kids.length ∧ Hid (lgs (lg n) (x.kids.drop k) (d + 1) m' = lg (n + 1) x d m) ∧ Hid (Cl wr bp 0 (.int .i64 m')) ∧ Hid (0 ≤ m' ∧ m' ≤ 200) ∧ Hid (Fr (· = bp) w wr)) (fun s _ => x.kids.length - (intOf s).toNat)
      case atStart => exact ⟨0, m + 1, rfl, by omega, Lib.hid (by rw [List.drop_zero]; exact HR.out.symm), HC1, HM, HF1⟩
      case round =>
        obtain ⟨k, m', rfl, hk, HN, HC2, HM2, HF⟩ := hrel
        by_cases hlt : k < x.kids.length
        · have HB2 : Below w0.heap.size w0 wr := HB.out.trans (HF.out.below HB.out.size (fun i e => e ▸ HBP.out))
          obtain ⟨b1, o1, q, A2, As2, c2, c2', rfl, rfl, hat, e1⟩ := kid_at HC.out k hlt
          have f0 := B.cell_below HB2 (e1 0 _ rfl)
          have f1 := B.cell_below HB2 (e1 1 _ rfl)
          have f2 := B.cell_below HB2 (e1 2 _ rfl)
          have f3 := B.cell_below HB2 (e1 3 _ rfl)
          have f4 := B.cell_below HB2 (e1 4 _ rfl)
          have f5 := B.cell_below HB2 (e1 5 _ rfl)
          simp only [Nat.add_zero] at f0
          have hk1 : (k : Int) < x.kids.length := by omega
          have HA2 := Lib.hid (fun (c : Array Value) (e : TypeId) => (Below.refl wr.heap.size wr).alloc (Nat.le_refl _) (.cells c e))
          have cc := fun c e => HIH.out q (by omega) x.kids[k] A2 As2 c2 c2' (d + 1) m' bp w0 _ hat (HB2.trans ((HA2.out c e).mono HB2.size)) HBP.out (HC2.out.below (HA2.out c e)) HM2.out HD.out
          unfold lv at cc
          have HN2 := HN.out
          rw [lgs_drop _ hlt] at HN2
          have HLE := Lib.hid (lg_le (q + 1) x.kids[k] (d + 1) m')
          generalize lg (q + 1) x.kids[k] (d + 1) m' = r at cc HN2 HLE
          obtain ⟨rb, rm⟩ := r
          clear e1 hat HN HB2
          cases rb with
          | true =>
            rw [if_pos rfl] at HN2
            have HN3 := Lib.hid HN2
            clear HN2
            go_wp2_with (go_at_call 36; refine (cc _ _).mono ?_; rintro e w2 ⟨rfl, HC5, HF5⟩)
            go_ret
            exact ⟨by rw [← HN3.out]; rfl, by rw [← HN3.out]; exact HC5, (HF.out.alloc _).trans HF5 (fun _ _ h => h)⟩
          | false =>
            rw [if_neg (by simp)] at HN2
            have HN3 := Lib.hid HN2
            have HLE2 := Lib.hid (HLE.out rfl HM2.out)
            clear HN2 HLE
            go_wp2_with (go_at_call 36; refine (cc _ _).mono ?_; rintro e w2 ⟨rfl, HC5, HF5⟩; have HC6 := Lib.hid HC5; clear HC5)
            go_roundw
            case rel => exact ⟨k + 1, rm, by go_num, by omega, HN3, HC6, HLE2, Lib.hid ((HF.out.alloc _).trans HF5 (fun _ _ h => h))⟩
            case measure => simp [intOf]; omega
        · obtain rfl : k = x.kids.length := by omega
          have HN2 := HN.out
          rw [List.drop_length, lgs] at HN2
          have HN3 := Lib.hid HN2
          clear HN2
          go_wp2
          go_ret
          exact ⟨by rw [← HN3.out]; rfl, by rw [← HN3.out]; exact HC2.out, HF.out⟩
/-- What is wrong with a loop. -/
def lf (n : Nat) (x : Lp) : Int := if (lg n x 1 0).1 = true then 2 else pf n x
set_option maxRecDepth 100000 in
theorem checkLoop (n : Nat) (x : Lp) (A As : Option Addr) (c c' : Nat) (w : World) (h : At n w x A As) :
    Calls Tryz.prog 47 #[lv x A As c c'] w fun e w' => e = .returned (.int .i64 (lf (n + 1) x)) ∧ Below w.heap.size w w' := by
  have HA := Lib.hid (fun (c c' : Array Value) (e e' : TypeId) => ((Below.refl w.heap.size w).alloc (Nat.le_refl _) (.cells c e)).alloc (by simp) (.cells c' e'))
  have HCN := Lib.hid (fun (c : Array Value) (e e' : TypeId) => Cl.new (w.alloc (.cells c e)) #[.int .i64 0] e' 0 (.int .i64 0) rfl)
  have hs : ∀ (c : Array Value) (e : TypeId), (w.alloc (.cells c e)).heap.size = w.heap.size + 1 := fun c e => by simp
  have cl := fun c0 e0 e1 => large n x A As c c' 1 0 (w.heap.size + 1) w _ h (HA.out c0 #[.int .i64 0] e0 e1) (by omega) (by have := HCN.out c0 e0 e1; rw [hs] at this; exact this) (by omega) (by omega)
  have HB2 := Lib.hid (fun (c0 : Array Value) e0 e1 (w2 : World) (hf : Fr (· = w.heap.size + 1) ((w.alloc (.cells c0 e0)).alloc (.cells #[.int .i64 0] e1)) w2) => (HA.out c0 #[.int .i64 0] e0 e1).trans (hf.below (B := w.heap.size) (by simp; omega) (fun k e => by omega)))
  have HX0 := Lib.hid (fun (c0 : Array Value) e0 e1 (w2 : World) (hf : Fr (· = w.heap.size + 1) ((w.alloc (.cells c0 e0)).alloc (.cells #[.int .i64 0] e1)) w2) (i : Nat) (v : Value) (hi : c0[i]? = some v) => hf.cell (a := ⟨w.heap.size, i, none⟩) (show ¬ w.heap.size = w.heap.size + 1 by omega) (B.cell_below ((Below.refl _ _).alloc (Nat.le_refl _) _) (by rw [World.cell?_alloc_new]; exact hi : (w.alloc (.cells c0 e0)).cell? ⟨w.heap.size, i, none⟩ = some v)))
  have cp := fun W hb => partFault n x A As c c' W (h.mono hb)
  clear h
  cases hq : (lg (n + 1) x 1 0).1 with
  | true =>
    have HF : Hid (lf (n + 1) x = 2) := Lib.hid (by unfold lf; rw [if_pos hq])
    generalize lg (n + 1) x 1 0 = r at cl hq
    obtain ⟨rb, rm⟩ := r
    subst hq
    unfold lv at cl cp ⊢
    go_enter Tryz.func47, Tryz.ntmps47
    go_wp2_with (go_at_call 75; refine (cl _ _ _).mono ?_; rintro e w2 ⟨rfl, -, HFR⟩; have HB3 := Lib.hid (HB2.out _ _ _ _ HFR); clear HFR)
    go_ret
    exact ⟨by rw [HF.out]; rfl, HB3.out⟩
  | false =>
    have HF : Hid (lf (n + 1) x = pf (n + 1) x) := Lib.hid (by unfold lf; rw [if_neg (by rw [hq]; decide)])
    generalize lg (n + 1) x 1 0 = r at cl hq
    obtain ⟨rb, rm⟩ := r
    subst hq
    unfold lv at cl cp ⊢
    go_enter Tryz.func47, Tryz.ntmps47
    go_wp2_with (first
      | (go_at_call 75; refine (cl _ _ _).mono ?_; rintro e w2 ⟨rfl, -, HFR⟩; have HB3 := Lib.hid (HB2.out _ _ _ _ HFR); have HX1 := HX0.out _ _ _ _ HFR; have y0 := HX1 0 _ rfl; have y1 := HX1 1 _ rfl; have y2 := HX1 2 _ rfl; have y3 := HX1 3 _ rfl; have y4 := HX1 4 _ rfl; have y5 := HX1 5 _ rfl; clear HX1 HFR)
      | (go_at_call 76; refine (cp _ HB3.out).mono ?_; rintro e w3 ⟨rfl, HB4⟩))
    go_ret
    exact ⟨by rw [HF.out]; rfl, B.below_trans HB3.out HB4⟩
set_option maxRecDepth 100000 in
theorem refLoop (n : Nat) (x : Lp) (A As : Option Addr) (c c' : Nat) (w : World) (h : At n w x A As) :
    Calls Tryz.prog 11 #[lv x A As c c'] w fun e w' => e = .returned (.int .i64 (lf (n + 1) x)) ∧ Below w.heap.size w w' := by
  have HA := Lib.hid (fun (c c' : Array Value) (e e' : TypeId) => ((Below.refl w.heap.size w).alloc (Nat.le_refl _) (.cells c e)).alloc (by simp) (.cells c' e'))
  have HCN := Lib.hid (fun (c : Array Value) (e e' : TypeId) => Cl.new (w.alloc (.cells c e)) #[.int .i64 0] e' 0 (.int .i64 0) rfl)
  have hs : ∀ (c : Array Value) (e : TypeId), (w.alloc (.cells c e)).heap.size = w.heap.size + 1 := fun c e => by simp
  have cl := fun c0 e0 e1 => fits n x A As c c' 1 0 (w.heap.size + 1) w _ h (HA.out c0 #[.int .i64 0] e0 e1) (by omega) (by have := HCN.out c0 e0 e1; rw [hs] at this; exact this) (by omega) (by omega)
  have HB2 := Lib.hid (fun (c0 : Array Value) e0 e1 (w2 : World) (hf : Fr (· = w.heap.size + 1) ((w.alloc (.cells c0 e0)).alloc (.cells #[.int .i64 0] e1)) w2) => (HA.out c0 #[.int .i64 0] e0 e1).trans (hf.below (B := w.heap.size) (by simp; omega) (fun k e => by omega)))
  have HX0 := Lib.hid (fun (c0 : Array Value) e0 e1 (w2 : World) (hf : Fr (· = w.heap.size + 1) ((w.alloc (.cells c0 e0)).alloc (.cells #[.int .i64 0] e1)) w2) (i : Nat) (v : Value) (hi : c0[i]? = some v) => hf.cell (a := ⟨w.heap.size, i, none⟩) (show ¬ w.heap.size = w.heap.size + 1 by omega) (B.cell_below ((Below.refl _ _).alloc (Nat.le_refl _) _) (by rw [World.cell?_alloc_new]; exact hi : (w.alloc (.cells c0 e0)).cell? ⟨w.heap.size, i, none⟩ = some v)))
  have cp := fun W hb => refPart n x A As c c' W (h.mono hb)
  clear h
  cases hq : (lg (n + 1) x 1 0).1 with
  | true =>
    have HF : Hid (lf (n + 1) x = 2) := Lib.hid (by unfold lf; rw [if_pos hq])
    generalize lg (n + 1) x 1 0 = r at cl hq
    obtain ⟨rb, rm⟩ := r
    subst hq
    unfold lv at cl cp ⊢
    go_enter Tryz.func11, Tryz.ntmps11
    go_wp2_with (go_at_call 36; refine (cl _ _ _).mono ?_; rintro e w2 ⟨rfl, -, HFR⟩; have HB3 := Lib.hid (HB2.out _ _ _ _ HFR); clear HFR)
    go_ret
    exact ⟨by rw [HF.out]; rfl, HB3.out⟩
  | false =>
    have HF : Hid (lf (n + 1) x = pf (n + 1) x) := Lib.hid (by unfold lf; rw [if_neg (by rw [hq]; decide)])
    generalize lg (n + 1) x 1 0 = r at cl hq
    obtain ⟨rb, rm⟩ := r
    subst hq
    unfold lv at cl cp ⊢
    go_enter Tryz.func11, Tryz.ntmps11
    go_wp2_with (first
      | (go_at_call 36; refine (cl _ _ _).mono ?_; rintro e w2 ⟨rfl, -, HFR⟩; have HB3 := Lib.hid (HB2.out _ _ _ _ HFR); have HX1 := HX0.out _ _ _ _ HFR; have y0 := HX1 0 _ rfl; have y1 := HX1 1 _ rfl; have y2 := HX1 2 _ rfl; have y3 := HX1 3 _ rfl; have y4 := HX1 4 _ rfl; have y5 := HX1 5 _ rfl; clear HX1 HFR)
      | (go_at_call 37; refine (cp _ HB3.out).mono ?_; rintro e w3 ⟨rfl, HB4⟩))
    go_ret
    exact ⟨by rw [HF.out]; rfl, B.below_trans HB3.out HB4⟩
end Go.Proofs.YtfillnkebohciaaGreatDoor.L
