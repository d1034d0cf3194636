/- signlaw1.ManifestsTold answers true and leaves what it was given as it was, for every input whose reading is of bulk at most 1048576: the row's second form and its card. Conditions: the row's own (the bulk, and that the listed tables hold what their initialisers lay). -/
import Derived.Test.YtmcbljongeadeaaDoorManTold
import Derived.Test.YtmcbljongeadeaaDoorOpen
import Derived.Test.YtmcbljongeadeaaDoorTrue
import Derived.Test.YtmcbljongeadeaaDoorCards
import Derived.Test.YtmcbljongeadeaaDoorTie
namespace Go.Proofs.YtmcbljongeadeaaDoor.Told
open Go.RowKit

theorem clone_str (v : Value) (xs : List ByteArray) (w : World) (hn : xs.length ≤ 1048576) (h : B.Kd.str.S w v xs) :
    Calls Tryd.prog 5 #[v] w fun e w' => ∃ v', e = .returned v' ∧ B.Kd.str.S w' v' xs ∧ Below w.heap.size w w' := by
  have h' := h
  obtain ⟨A, c, rfl, C⟩ := h
  cases A with
  | none =>
    obtain rfl : xs = [] := List.eq_nil_of_length_eq_zero (Nat.eq_zero_of_not_pos fun hp => by obtain ⟨_, _, e, _⟩ := C.2 hp; cases e)
    refine (Tryd.slices_Clone_string_nil 0 c w).mono ?_
    rintro e w1 ⟨rfl, rfl⟩
    exact ⟨_, rfl, B.Kd.S_nil _ _, Below.refl _ _⟩
  | some a =>
    refine (cloneS a c xs w hn h').mono ?_
    rintro e w1 ⟨v1, rfl, hown, -, hb⟩
    refine ⟨v1, rfl, ?_, hb⟩
    have := B.own_str (own_map hown) (by simp; omega)
    have e : ((xs.map (·.data.toList)).map fun l => (⟨l.toArray⟩ : ByteArray)) = xs := by rw [List.map_map]; conv => { rhs; rw [← List.map_id xs] }; apply List.map_congr_left; intro x _; simp
    rw [e] at this
    exact this
theorem law_any (no : Int) (v u : Value) (l : List Fl) (hs : List ByteArray) (hl : l.length ≤ 1048576) (hc : ∀ f ∈ l, f.2.length ≤ 1048576) (hk : ∀ f ∈ l, f.1.size ≤ 9223372036854775807) (hh : hs.length ≤ 1048576) (w : World) (h : B.Kd.file.S w v l) (h2 : B.Kd.str.S w u hs) :
    Calls Tryd.prog 3 #[.agg #[.int .i64 no, v], u] w fun e w' => e = .returned (.bool true) ∧ Below w.heap.size w w' := by
  obtain ⟨A, c, rfl, C0⟩ := h
  obtain ⟨Ah, ch, rfl, C1⟩ := h2
  have h : B.Kd.file.S w (.slice A l.length c) l := ⟨A, c, rfl, C0⟩
  have h2 : B.Kd.str.S w (.slice Ah hs.length ch) hs := ⟨Ah, ch, rfl, C1⟩
  have HN := Lib.hid (fun (W : World) (hb : Below (w.alloc (.cells #[.int .i64 no, .slice A l.length c] 24)).heap.size (w.alloc (.cells #[.int .i64 no, .slice A l.length c] 24)) W) (i : Nat) (u : Value) (hc : (#[.int .i64 no, .slice A l.length c] : Array Value)[i]? = some u) => (B.cell_below hb (by rw [World.cell?_alloc_new]; exact hc) : W.cell? ⟨w.heap.size, i, none⟩ = some u))
  have HB0 := Lib.hid ((Below.refl _ w).alloc (Nat.le_refl _) (.cells #[.int .i64 no, .slice A l.length c] 24))
  have B0 : Below (w.alloc (.cells #[.int .i64 no, .slice A l.length c] 24)).heap.size (w.alloc (.cells #[.int .i64 no, .slice A l.length c] 24)) (w.alloc (.cells #[.int .i64 no, .slice A l.length c] 24)) := Below.refl _ _
  have HF := Lib.hid (fun (W : World) (hb : Below (w.alloc (.cells #[.int .i64 no, .slice A l.length c] 24)).heap.size (w.alloc (.cells #[.int .i64 no, .slice A l.length c] 24)) W) => (⟨(h.mono HB0.out).mono hb, (h2.mono HB0.out).mono hb⟩ : B.Kd.file.S W (.slice A l.length c) l ∧ B.Kd.str.S W (.slice Ah hs.length ch) hs))
  have d1 := fun W hb => Copy.copyManifest no _ l W (HF.out W hb).1 hl hc
  have d2 := fun W hb => clone_str _ hs W hh (HF.out W hb).2
  have d3 := fun W hb => told_any no _ _ l hs hl hc hk W (HF.out W hb).1 (HF.out W hb).2
  have HS := Lib.hid (fun (W : World) (v' : Value) (h1 : B.Kd.file.S W (.slice A l.length c) l) (h2 : B.Kd.file.S W v' l) => Man.same no no (.slice A l.length c) v' l l W h1 h2)
  rw [show decide (no = no ∧ l = l) = true from decide_eq_true ⟨rfl, rfl⟩] at HS
  clear hc hk
  go_enter Tryd.func3, Tryd.ntmps3
  go_wp2_with (first
    | (go_at_call 4; refine (d1 _ B0).mono ?_; rintro e w1 ⟨v1, rfl, S1, B1'⟩; have B1 := B.below_trans B0 B1'; have g0 := HN.out _ B1 0 (.int .i64 no) rfl; have g1 := HN.out _ B1 1 (.slice A l.length c) rfl)
    | (go_at_call 5; refine (d2 _ B1).mono ?_; rintro e w2 ⟨v2, rfl, S2, B2'⟩; have B2 := B.below_trans B1 B2'; have g0 := HN.out _ B2 0 (.int .i64 no) rfl; have g1 := HN.out _ B2 1 (.slice A l.length c) rfl; have ga := fun o => B.cell_below ((Below.refl _ w2).alloc (Nat.le_refl _) o) g0; have gb := fun o => B.cell_below ((Below.refl _ w2).alloc (Nat.le_refl _) o) g1; obtain ⟨A1, c1, rfl, D1⟩ := S1.mono B2'; clear S1)
    | (go_at_call 6; have B3 := B2.alloc B2.size (.cells #[.int .i64 no, .slice A1 l.length c1] 24); refine (d3 _ B3).mono ?_; rintro e w4 ⟨rfl, B4'⟩; have B4 := B.below_trans B3 B4'; have g0 := HN.out _ B4 0 (.int .i64 no) rfl; have g1 := HN.out _ B4 1 (.slice A l.length c) rfl; have n0 : w4.cell? ⟨w2.heap.size, 0, none⟩ = some (.int .i64 no) := B.cell_below B4' (by rw [World.cell?_alloc_new]; rfl); have n1 : w4.cell? ⟨w2.heap.size, 1, none⟩ = some (.slice A1 l.length c1) := B.cell_below B4' (by rw [World.cell?_alloc_new]; rfl); have BA := B.below_trans ((Below.refl _ w2).alloc (Nat.le_refl _) (.cells #[.int .i64 no, .slice A1 l.length c1] 24)) B4'; have D1 := D1.mono BA; have S2 := S2.mono BA)
    | (go_at_call 7; refine (HS.out _ _ (HF.out _ B4).1 ⟨A1, c1, rfl, D1⟩).mono ?_; rintro e w5 ⟨rfl, B5'⟩; have B5 := B.below_trans B4 B5'; have S2 := S2.mono B5')
    | (go_at_call 8; refine (Eq.eq_str _ _ hs hs _ (HF.out _ B5).2 S2 true (decide_eq_true rfl)).mono ?_; rintro e w6 ⟨rfl, B6'⟩; have B6 := B.below_trans B5 B6'))
  go_ret
  exact ⟨rfl, HB0.out.trans (B6.mono (by simp))⟩
end Go.Proofs.YtmcbljongeadeaaDoor.Told
namespace Go.Proofs.YtmcbljongeadeaaDoor.manifestsTold
open Go.ChangeShapes Go.WideShapes Go.ChangeAt Go.RowKit

theorem own : ownKnob Tryd.prog.godebug = none := by kernel_rfl
theorem laidOut : laidOutB Tryd.prog = true := by kernel_rfl

set_option maxRecDepth 100000 in
theorem contract (H : Type) (enc : TypeId × Value → H) (W : World) (base : Nat) (args : Array Value) (ds gs : List (DataW H)) (before : List MemPlace)
    (hval : ∀ (j : Nat) t v, Tryd.f3.params[j]? = some t → args[j]? = some v → Value.okWide Tryd.prog W .any base t v)
    (hW : DataW.Whole enc Tryd.prog Tryd.f3.params.toList Rows.manifestsToldSpec.vars false W args.toList ds gs before) (hb : Rows.uptoSmall H (ds ++ gs) = true) :
    Calls Tryd.prog 3 args W fun e W' => ∃ v, e = .returned v ∧ Rows.manifestsToldSpec.post enc Tryd.prog Tryd.f3 false true false false W args v W' := by
  have hW' := hW
  obtain ⟨p, q, hA0, hV, rfl, hfz, hnd⟩ := hW
  have hA : DataW.TrodAll enc Tryd.prog W 0 (fun _ => true) true Tryd.f3.params.toList args.toList ds p := hA0
  rw [Tryd.params3] at hA hval
  obtain ⟨v0, vs0, d0, ds0, p0, q0, hargs, rfl, rfl, h0, r0⟩ := trodAll_cons hA
  obtain ⟨v1, vs1, d1, ds1, p1, q1, rfl, rfl, rfl, h1, r1⟩ := trodAll_cons r0
  obtain ⟨rfl, rfl, rfl⟩ := trodAll_nil r1
  obtain rfl : args = #[v0, v1] := by cases args; simp_all
  have hbb : Rows.uptoBulkAll ([d0, d1] ++ gs) ≤ 1048576 := of_decide_eq_true hb
  simp only [List.cons_append, List.nil_append, Rows.uptoBulkAll] at hbb
  obtain ⟨⟨no, l⟩, cs, rfl, hK, hok⟩ := O.arg_agg O.oManifest Tryd.underlying24 (hval 0 24 v0 rfl rfl) h0 (by omega)
  obtain ⟨hs, hS, hok1⟩ := O.arg_sl O.oStrs Tryd.underlying25 (hval 1 25 v1 rfl rfl) h1 (by omega)
  obtain ⟨c, c', e, hc, A, cap, hc', hC⟩ := hK
  have hc2 : c = [.int .i64 no] := hc
  subst hc2 hc'
  obtain rfl : cs = #[.int .i64 no, .slice A l.length cap] := by cases cs; simpa using e
  refine (Told.law_any no (.slice A l.length cap) v1 l hs hok.2.1 (fun f hf => (hok.2.2 f hf).2.1) (fun f hf => by have := (hok.2.2 f hf).1; unfold O.okS at this; omega) hok1.1 W ⟨A, cap, rfl, hC⟩ hS).mono fun e W' ⟨he, hb⟩ => ?_
  subst he
  exact ⟨_, rfl, T.post_true laidOut (by decide +kernel) rfl Tryd.underlying4 rfl hW' rfl rfl rfl hb⟩

noncomputable def laidWorld (os : Os) : World :=
  { World.holding Tryd.prog os ⟨#[], #[], []⟩ with heap := ((World.holding Tryd.prog os ⟨#[], #[], []⟩).heap.modify 2 (T.lay2 Rows.laid_unicode_utf8_acceptRanges .u8)).modify 1 (T.lay2 Rows.laid_unicode_utf8_first .u8) }
noncomputable def seen : Array Value := #[.agg #[.int .i64 0, .slice none 0 0], .slice none 0 0]
theorem laid_met (os : Os) : laidMet Tryd.prog Rows.manifestsToldUptoRow.laid ((laidWorld os).forCall (fun _ _ => 0) ⟨#[], seen, []⟩).memory :=
  laidMet_of_run' 8 (by kernel_rfl) (by kernel_rfl)
theorem reads (os : Os) {H : Type} (enc : TypeId × Value → H) : ∃ places, DataW.whole enc Tryd.prog ((laidWorld os).forCall (fun _ _ => 0) ⟨#[], seen, []⟩).memory Tryd.f3.params.toList Rows.manifestsToldSpec.vars false seen.toList 8 = some ([.agg [.lit (.int .i64 0), .nil], .nil], [], places) :=
  ⟨[], by kernel_rfl⟩

set_option maxRecDepth 100000 in
theorem lifted (os : Os) (started : os.Started) (H : Type) (enc : TypeId × Value → H) (F : Stop.Interp) :
    ReturnsInHanded {} Tryd.checked os 3 .any ((Rows.OpenSpec.upto Rows.manifestsToldSpec).preRow enc Tryd.prog Tryd.f3 Rows.manifestsToldUptoRow.domain false Rows.manifestsToldUptoRow.laid) (((Rows.OpenSpec.upto Rows.manifestsToldSpec).at F).post enc Tryd.prog Tryd.f3 false true false false) := by
  obtain ⟨places, hx⟩ := reads os enc
  refine returnsInHanded_of_row (C := Tryd.checked) (s := Rows.OpenSpec.upto Rows.manifestsToldSpec) own started (by kernel_rfl) Tryd.func3
    (witness_row_at (enc := enc) (C := Tryd.checked) false (laidWorld os) seen rfl (by kernel_rfl) (by kernel_rfl) (by kernel_rfl)
      (OpenSpec.preRow_of_cond 8 hx (by kernel_rfl) (fun k hk => by cases hk; kernel_rfl) (by kernel_rfl) (laid_met os))) ?_
  intro W base args ds gs before hval hW _ hcond _ _ _ _
  exact contract H enc W base args ds gs before hval hW (hcond _ rfl)

theorem said : Rows.ManifestsToldUptoSaid :=
  OpenClaim.holds_of_cond 3 Tryd.f3 rfl rfl rfl rfl rfl rfl rfl ⟨rfl, rfl, rfl, rfl, rfl⟩ rfl rfl rfl rfl rfl (by kernel_rfl) Tryd.func3 (by kernel_rfl)
    (of_decide_eq_true (by kernel_rfl)) (by unfold Func.isWrapper; first | (rw [if_pos (by decide +kernel)]; kernel_rfl) | (rw [if_neg (by decide +kernel)]; exact ⟨rfl, rfl⟩))
    (fun os started H enc _ F => by rw [OpenClaim.pre_eq_preRow]; exact lifted os started H enc F)

theorem plain (f : FuncId) (fn : Func) (hf : Tryd.pinned.checked.prog.funcNamed "signboard/signlaw1.ManifestsTold" = some f) (hfn : Tryd.pinned.checked.prog.funcs[f]? = some fn) :
    false = Tryd.pinned.checked.prog.looks [] ∧ ∀ (j : Nat) t, fn.params[j]? = some t → Tryd.pinned.checked.prog.wantsStandIn t = false := by
  obtain rfl : f = 3 := Option.some.inj ((show Tryd.prog.funcNamed "signboard/signlaw1.ManifestsTold" = some 3 by kernel_rfl).symm.trans hf) |>.symm
  obtain rfl : fn = Tryd.f3 := (Option.some.inj (Tryd.func3.symm.trans hfn)).symm
  refine ⟨by kernel_rfl, fun j t ht => ?_⟩
  have hall : ∀ t ∈ Tryd.f3.params.toList, Tryd.prog.wantsStandIn t = false := by decide +kernel
  exact hall t (Array.mem_toList_iff.2 (Array.mem_of_getElem? ht))

theorem card : Rows.ManifestsToldUptoCardSaid :=
  Claim7.holds_tied_plain_at .later [] _ _ _ _ said (fun _ h => by cases h) (by kernel_rfl) (fun _ h => by cases h) manifestsToldUpto_row_tie rfl ⟨rfl, rfl⟩ (by kernel_rfl) rfl plain (by kernel_rfl)
end Go.Proofs.YtmcbljongeadeaaDoor.manifestsTold
