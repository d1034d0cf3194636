/- The program's OnAt. -/
import Derived.Test.YtlfobpjefklccaaGreatDoorComeB
namespace Go.Proofs.YtlfobpjefklccaaGreatDoor.Come
open Go.RowKit
open L (Lp At lv)
open T (Step stK steps_at lng roundM rE rL rP ResR results_cell_tmp_row)

theorem results_cell_tmp2_row {P : Program} {fn : Func} {p u v : Tmp} {ty : TypeId} (h : fn.results = #[.cell p ty, .tmp u, .tmp v]) (tmps : Array Value) (w : World) (g : Nat) (t : TypeId) (cs : Array Value) (fr : Nat × Nat) (d : TypeDesc)
    (hp : tmps.getD p undef = .pointer (some ⟨g, 0, none⟩)) (hg : w.heap[g]? = some (.cells cs t fr)) (hu : P.underlying ty = some d) (hd : (match d with | .struct _ | .array _ _ => true | _ => false) = true) (hi : (P.info? ty).map (·.size) = some cs.size) :
    (results fn tmps).run P w = .ok (.tuple #[.agg cs, tmps.getD u undef, tmps.getD v undef]) w := by
  have hp' : tmps[p]?.getD undef = .pointer (some ⟨g, 0, none⟩) := by simpa using hp
  simp [results, h, hp', asAddr, run_loadVar_row w g t ty cs fr d hg hu hd hi]
theorem steps_at' {w : World} {b o : Nat} {l : List Step} (h : stK.C w (some ⟨b, o, none⟩) l) (k : Nat) (hk : k < l.length) : w.cell? ⟨b, o + k * 2, none⟩ = some (.string l[k].1) ∧ w.cell? ⟨b, o + k * 2 + 1, none⟩ = some (.int .i64 l[k].2) := by
  obtain ⟨b', o', e, h0, h1⟩ := steps_at h k hk
  cases e
  exact ⟨h0, h1⟩
def onE (q t E : Int) : Int := if q ≠ 0 then q else if t ≠ 0 then t else E
def zS : Step × Int := ((⟨#[]⟩, 0), 0)
def onS (q t : Int) (R : Option (Nat × List Step)) (fr a : Int) : Step × Int := if onE q t (rE 0 R) = 0 then stAt (rL 0 R) a (base (rL 0 R) fr a) else zS
def OnRes (S : Step × Int) (q : Int) (e : Ending) : Prop := e = .returned (.tuple #[.agg #[.string S.1.1, .int .i64 S.1.2], .int .i64 S.2, .int .i64 q])
theorem tf_ok {fr a : Int} (h : tf fr a = 0) : 0 ≤ fr ∧ fr ≤ a ∧ a ≤ 345686399999 ∧ 0 ≤ a := by
  unfold tf at h
  split at h
  · omega
  · rename_i h1
    simp only [not_or, Bool.not_eq_false, momB, decide_eq_true_eq] at h1
    split at h
    · omega
    · omega
set_option maxHeartbeats 4000000 in
set_option maxRecDepth 100000 in
theorem onAt_q (n : Nat) (x : Lp) (A As : Option Addr) (c c' : Nat) (fr a : Int) (w : World) (h : At n w x A As) (hq : L.lf (n + 1) x ≠ 0) :
    Calls Tryz.prog 18 #[lv x A As c c', .int .i64 fr, .int .i64 a] w fun e w' => OnRes zS (L.lf (n + 1) x) e ∧ Below w.heap.size w w' := by
  have HA := Lib.hid (fun (c d : Array Value) (e e' : TypeId) => (((Below.refl w.heap.size w).alloc (Nat.le_refl _) (.cells c e)).alloc (by simp) (.cells d e')))
  have cl := fun c0 d0 e0 e1 => L.checkLoop n x A As c c' _ (h.mono (HA.out c0 d0 e0 e1))
  have HT := Lib.hid (fun (c c' : Array Value) (o o' : TypeId) (w2 : World) => @Copy.two w w2 c c' o o')
  have HROW : Hid (∀ c e W, Below ((w.alloc (.cells c e)).alloc (.cells #[.string ⟨#[]⟩, .int .i64 0] 46)).heap.size ((w.alloc (.cells c e)).alloc (.cells #[.string ⟨#[]⟩, .int .i64 0] 46)) W → W.heap[w.heap.size + 1]? = some (.cells #[.string ⟨#[]⟩, .int .i64 0] 46 (0, 0))) := Lib.hid (fun c e W hb => by
    rw [hb.block _ (by simp)]
    exact heap_alloc2_new w _ _)
  have hqb : (L.lf (n + 1) x != 0) = true := bne_iff_ne.2 hq
  generalize L.lf (n + 1) x = q at *
  clear h hq
  unfold lv at cl ⊢
  go_enter Tryz.func18, Tryz.ntmps18
  go_wp2_with (go_at_call 46; refine (cl _ _ _ _).mono ?_; rintro e w2 ⟨rfl, hB2⟩; have HB2 := Lib.hid hB2; clear hB2; have HZ := HT.out _ _ _ _ _ HB2.out; have v0 := HZ.2.1 0 _ rfl; have v1 := HZ.2.1 1 _ rfl; have fz := HZ.2.2.2; clear HZ)
  refine bodyPost_ret (results_cell_tmp2_row rfl _ _ (w.heap.size + 1) 46 #[.string ⟨#[]⟩, .int .i64 0] (0, 0) _ rfl (set2 (HROW.out _ _ _ HB2.out)) Tryz.underlying46 rfl (by kernel_rfl)) rfl ?_
  exact ⟨rfl, below2 (B.below_trans (HA.out _ _ _ _) HB2.out) (by omega) _ _⟩
set_option maxHeartbeats 4000000 in
set_option maxRecDepth 100000 in
theorem onAt_t (n : Nat) (x : Lp) (A As : Option Addr) (c c' : Nat) (fr a : Int) (w : World) (h : At n w x A As) (hq : L.lf (n + 1) x = 0) (ht : tf fr a ≠ 0) :
    Calls Tryz.prog 18 #[lv x A As c c', .int .i64 fr, .int .i64 a] w fun e w' => OnRes zS (tf fr a) e ∧ Below w.heap.size w w' := by
  have HA := Lib.hid (fun (c d : Array Value) (e e' : TypeId) => (((Below.refl w.heap.size w).alloc (Nat.le_refl _) (.cells c e)).alloc (by simp) (.cells d e')))
  have cl := fun c0 d0 e0 e1 => L.checkLoop n x A As c c' _ (h.mono (HA.out c0 d0 e0 e1))
  have ct := fun W => timesFault fr a W
  have HT := Lib.hid (fun (c c' : Array Value) (o o' : TypeId) (w2 : World) => @Copy.two w w2 c c' o o')
  have HROW : Hid (∀ c e W, Below ((w.alloc (.cells c e)).alloc (.cells #[.string ⟨#[]⟩, .int .i64 0] 46)).heap.size ((w.alloc (.cells c e)).alloc (.cells #[.string ⟨#[]⟩, .int .i64 0] 46)) W → W.heap[w.heap.size + 1]? = some (.cells #[.string ⟨#[]⟩, .int .i64 0] 46 (0, 0))) := Lib.hid (fun c e W hb => by
    rw [hb.block _ (by simp)]
    exact heap_alloc2_new w _ _)
  have hqb : (tf fr a != 0) = true := bne_iff_ne.2 ht
  rw [hq] at cl
  generalize tf fr a = t at *
  clear h hq ht
  unfold lv at cl ⊢
  go_enter Tryz.func18, Tryz.ntmps18
  go_wp2_with (first
    | (go_at_call 46; refine (cl _ _ _ _).mono ?_; rintro e w2 ⟨rfl, hB2⟩; have HB2 := Lib.hid hB2; clear hB2; have HZ := HT.out _ _ _ _ _ HB2.out; have v0 := HZ.2.1 0 _ rfl; have v1 := HZ.2.1 1 _ rfl; have fz := HZ.2.2.2; clear HZ)
    | (go_at_call 47; refine (ct _).mono ?_; rintro e w3 ⟨rfl, rfl⟩))
  refine bodyPost_ret (results_cell_tmp2_row rfl _ _ (w.heap.size + 1) 46 #[.string ⟨#[]⟩, .int .i64 0] (0, 0) _ rfl (set2 (HROW.out _ _ _ HB2.out)) Tryz.underlying46 rfl (by kernel_rfl)) rfl ?_
  exact ⟨rfl, below2 (B.below_trans (HA.out _ _ _ _) HB2.out) (by omega) _ _⟩
set_option maxHeartbeats 4000000 in
set_option maxRecDepth 100000 in
theorem onAt_r (n : Nat) (x : Lp) (A As : Option Addr) (c c' : Nat) (fr a : Int) (w : World) (h : At n w x A As) (hq : L.lf (n + 1) x = 0) (ht : tf fr a = 0) (hr : roundM n x = none) :
    Calls Tryz.prog 18 #[lv x A As c c', .int .i64 fr, .int .i64 a] w fun e w' => OnRes zS 2 e ∧ Below w.heap.size w w' := by
  have HA := Lib.hid (fun (c d : Array Value) (e e' : TypeId) => (((Below.refl w.heap.size w).alloc (Nat.le_refl _) (.cells c e)).alloc (by simp) (.cells d e')))
  have cl := fun c0 d0 e0 e1 => L.checkLoop n x A As c c' _ (h.mono (HA.out c0 d0 e0 e1))
  have ct := fun W => timesFault fr a W
  have cr := Lib.hid (fun W hb => T.roundOf n x A As c c' W (h.mono hb) (T.lf_pf hq))
  have HX0 := Lib.hid (fun (e : TypeId) (W : World) => @L.boxed x A As c c' w W e)
  have HT := Lib.hid (fun (c c' : Array Value) (o o' : TypeId) (w2 : World) => @Copy.two w w2 c c' o o')
  have HROW : Hid (∀ c e W, Below ((w.alloc (.cells c e)).alloc (.cells #[.string ⟨#[]⟩, .int .i64 0] 46)).heap.size ((w.alloc (.cells c e)).alloc (.cells #[.string ⟨#[]⟩, .int .i64 0] 46)) W → W.heap[w.heap.size + 1]? = some (.cells #[.string ⟨#[]⟩, .int .i64 0] 46 (0, 0))) := Lib.hid (fun c e W hb => by
    rw [hb.block _ (by simp)]
    exact heap_alloc2_new w _ _)
  rw [hq] at cl
  rw [hr] at cr
  rw [ht] at ct
  clear h hq ht hr
  unfold lv at cl cr ⊢
  change Hid (∀ W, Below w.heap.size w W → Calls _ _ _ W (fun e w' => e = _ ∧ _)) at cr
  go_enter Tryz.func18, Tryz.ntmps18
  go_wp2_with (first
    | (go_at_call 46; refine (cl _ _ _ _).mono ?_; rintro e w2 ⟨rfl, hB2⟩; have HB2 := Lib.hid hB2; clear hB2; have HZ := HT.out _ _ _ _ _ HB2.out; have y0 := HZ.1 0 _ rfl; have y1 := HZ.1 1 _ rfl; have y2 := HZ.1 2 _ rfl; have y3 := HZ.1 3 _ rfl; have y4 := HZ.1 4 _ rfl; have y5 := HZ.1 5 _ rfl; clear HZ)
    | (go_at_call 47; refine (ct _).mono ?_; rintro e w3 ⟨rfl, rfl⟩)
    | (go_at_call 48; refine (cr.out _ (B.below_trans (HA.out _ _ _ _) HB2.out)).mono ?_; rintro e w4 ⟨rfl, hB4⟩; have HB4 := Lib.hid (B.below_trans HB2.out hB4); clear hB4; have hz4 : w.heap.size + 1 < w4.heap.size := (by have := HB4.out.size; simp at this; omega); have HZ := HT.out _ _ _ _ _ HB4.out; have v0 := HZ.2.1 0 _ rfl; have v1 := HZ.2.1 1 _ rfl; have fz := HZ.2.2.2; clear HZ))
  refine bodyPost_ret (results_cell_tmp2_row rfl _ _ (w.heap.size + 1) 46 #[.string ⟨#[]⟩, .int .i64 0] (0, 0) _ rfl (by rw [Below.heap_alloc _ _ _ (by simp [World.setCell]; omega)]; exact set2 (HROW.out _ _ _ HB4.out)) Tryz.underlying46 rfl (by kernel_rfl)) rfl ?_
  exact ⟨rfl, (below2 (B.below_trans (HA.out _ _ _ _) HB4.out) (by omega) _ _).alloc (by simp [World.setCell]; omega) _⟩
set_option maxHeartbeats 4000000 in
set_option maxRecDepth 100000 in
theorem onAt_ok (n : Nat) (x : Lp) (A As : Option Addr) (c c' : Nat) (fr a : Int) (w : World) (h : At n w x A As) (hq : L.lf (n + 1) x = 0) (ht : tf fr a = 0) (p : Nat) (l : List Step) (hr : roundM n x = some (p, l)) :
    Calls Tryz.prog 18 #[lv x A As c c', .int .i64 fr, .int .i64 a] w fun e w' => OnRes (stAt l a (base l fr a)) 0 e ∧ Below w.heap.size w w' := by
  have HA := Lib.hid (fun (c d : Array Value) (e e' : TypeId) => (((Below.refl w.heap.size w).alloc (Nat.le_refl _) (.cells c e)).alloc (by simp) (.cells d e')))
  have cl := fun c0 d0 e0 e1 => L.checkLoop n x A As c c' _ (h.mono (HA.out c0 d0 e0 e1))
  have ct := fun W => timesFault fr a W
  have cr := Lib.hid (fun W hb => T.roundOf n x A As c c' W (h.mono hb) (T.lf_pf hq))
  have HX0 := Lib.hid (fun (e : TypeId) (W : World) => @L.boxed x A As c c' w W e)
  have HT := Lib.hid (fun (c c' : Array Value) (o o' : TypeId) (w2 : World) => @Copy.two w w2 c c' o o')
  have HROW : Hid (∀ c e W, Below ((w.alloc (.cells c e)).alloc (.cells #[.string ⟨#[]⟩, .int .i64 0] 46)).heap.size ((w.alloc (.cells c e)).alloc (.cells #[.string ⟨#[]⟩, .int .i64 0] 46)) W → W.heap[w.heap.size + 1]? = some (.cells #[.string ⟨#[]⟩, .int .i64 0] 46 (0, 0))) := Lib.hid (fun c e W hb => by
    rw [hb.block _ (by simp)]
    exact heap_alloc2_new w _ _)
  rw [hq] at cl
  rw [hr] at cr
  rw [ht] at ct
  obtain ⟨hok, hn, hl, hlng⟩ := round_ok h hq hr
  obtain ⟨ht0, ht1, ht2, ht3⟩ := tf_ok ht
  have hT1 := tot_pos hok hn
  have hm0 := Int.emod_nonneg (a - fr) (show tot l ≠ 0 by omega)
  have hm1 := Int.emod_lt_of_pos (a - fr) (show 0 < tot l by omega)
  have hm2 : (a - fr) % tot l ≤ a - fr := by have hbg := base_ge hok hn ht1; unfold base at hbg; omega
  obtain ⟨j, hj, r', e1, e2, e3, e4⟩ := at_st l ((a - fr) % tot l) (base l fr a) 0 hok hm0 hm1
  rw [Nat.zero_add] at e1
  rw [show base l fr a + (a - fr) % tot l = a by unfold base; omega] at e2
  rw [e2]
  have HAT := Lib.hid (fun (A4 : Option Addr) (c4 : Nat) (W : World) (hC : stK.C W A4 l) => at_any p A4 c4 l (a - fr) W hC hok hn hl ⟨by omega, by omega⟩)
  rw [e1] at HAT
  unfold AtRes at HAT
  change Hid (∀ W, Below w.heap.size w W → Calls _ _ _ W (fun e w' => (∃ A c, e = _ ∧ stK.C w' A l) ∧ _)) at cr
  rw [hlng] at cr
  have hr0 : 0 ≤ r' := e3
  have hr1 : r' ≤ a := by omega
  have hj1 : (j : Int) < l.length := by omega
  have HSA := Lib.hid (fun (b o : Nat) (W : World) (hC : stK.C W (some ⟨b, o, none⟩) l) => steps_at' hC j hj)
  have HSH := Lib.hid (fun (A4 : Option Addr) (W : World) (hC : stK.C W A4 l) => (by obtain ⟨b, o, e, -⟩ := steps_at hC j hj; exact ⟨b, o, e⟩ : ∃ b o, A4 = some ⟨b, o, none⟩))
  generalize l[j] = s at *
  obtain ⟨s1, s2⟩ := s
  generalize tot l = T at *
  clear h hq ht hr hlng e1 e2 e3 e4 hok hn hm0 hm1 hm2
  unfold lv at cl cr ⊢
  go_enter Tryz.func18, Tryz.ntmps18
  go_wp2_with (first
    | (go_at_call 46; refine (cl _ _ _ _).mono ?_; rintro e w2 ⟨rfl, hB2⟩; have HB2 := Lib.hid hB2; clear hB2; have HZ := HT.out _ _ _ _ _ HB2.out; have y0 := HZ.1 0 _ rfl; have y1 := HZ.1 1 _ rfl; have y2 := HZ.1 2 _ rfl; have y3 := HZ.1 3 _ rfl; have y4 := HZ.1 4 _ rfl; have y5 := HZ.1 5 _ rfl; clear HZ)
    | (go_at_call 47; refine (ct _).mono ?_; rintro e w3 ⟨rfl, rfl⟩)
    | (go_at_call 48; refine (cr.out _ (B.below_trans (HA.out _ _ _ _) HB2.out)).mono ?_; rintro e w4 ⟨⟨A4, c4, rfl, hC4⟩, hB4⟩; obtain ⟨b4, o4, rfl⟩ := HSH.out _ _ hC4; have HC4 := Lib.hid hC4; have HB4 := Lib.hid (B.below_trans HB2.out hB4); clear hB4 hC4; have hz4 : w.heap.size + 1 < w4.heap.size := (by have := HB4.out.size; simp at this; omega))
    | (go_at_call 49; refine (HAT.out _ _ _ (HC4.out.mono ((Below.refl _ _).alloc (Nat.le_refl _) _))).mono ?_; rintro e w5 ⟨rfl, hB5⟩; have q1 : w5.cell? ⟨w4.heap.size, 1, none⟩ = some (.slice (some ⟨b4, o4, none⟩) l.length c4) := (B.cell_below hB5 (by rw [World.cell?_alloc_new]; rfl)); have HB5 := Lib.hid (B.below_trans HB4.out (B.below_trans ((Below.refl _ _).alloc (Nat.le_refl _) _) hB5)); have HC5 := Lib.hid ((HC4.out.mono ((Below.refl _ _).alloc (Nat.le_refl _) _)).mono hB5); obtain ⟨f0, f1⟩ := HSA.out _ _ _ HC5.out; clear hB5; have HZ := HT.out _ _ _ _ _ HB5.out; have v0 := HZ.2.1 0 _ rfl; have v1 := HZ.2.1 1 _ rfl; have fz := HZ.2.2.2; clear HZ))
  refine bodyPost_ret (results_cell_tmp2_row rfl _ _ (w.heap.size + 1) 46 #[.string s1, .int .i64 s2] (0, 0) _ rfl (set2 (HROW.out _ _ _ HB5.out)) Tryz.underlying46 rfl (by kernel_rfl)) rfl ?_
  exact ⟨rfl, below2 (B.below_trans (HA.out _ _ _ _) HB5.out) (by omega) _ _⟩
theorem onAt (n : Nat) (x : Lp) (A As : Option Addr) (c c' : Nat) (fr a : Int) (w : World) (h : At n w x A As) :
    Calls Tryz.prog 18 #[lv x A As c c', .int .i64 fr, .int .i64 a] w fun e w' => OnRes (if onE (L.lf (n + 1) x) (tf fr a) (rE (L.lf (n + 1) x) (roundM n x)) = 0 then stAt (rL (L.lf (n + 1) x) (roundM n x)) a (base (rL (L.lf (n + 1) x) (roundM n x)) fr a) else zS) (onE (L.lf (n + 1) x) (tf fr a) (rE (L.lf (n + 1) x) (roundM n x))) e ∧ Below w.heap.size w w' := by
  by_cases hq : L.lf (n + 1) x = 0
  · by_cases ht : tf fr a = 0
    · cases hr : roundM n x with
      | none =>
        have := onAt_r n x A As c c' fr a w h hq ht hr
        rw [hq, ht]
        exact this
      | some r =>
        obtain ⟨p, l⟩ := r
        have := onAt_ok n x A As c c' fr a w h hq ht p l hr
        rw [hq, ht]
        exact this
    · have := onAt_t n x A As c c' fr a w h hq ht
      have e : onE (L.lf (n + 1) x) (tf fr a) (rE (L.lf (n + 1) x) (roundM n x)) = tf fr a := by unfold onE; rw [if_neg (by simpa using hq), if_pos ht]
      rw [e, if_neg ht]
      exact this
  · have := onAt_q n x A As c c' fr a w h hq
    have e : onE (L.lf (n + 1) x) (tf fr a) (rE (L.lf (n + 1) x) (roundM n x)) = L.lf (n + 1) x := by unfold onE; rw [if_pos hq]
    rw [e, if_neg hq]
    exact this
end Go.Proofs.YtlfobpjefklccaaGreatDoor.Come
