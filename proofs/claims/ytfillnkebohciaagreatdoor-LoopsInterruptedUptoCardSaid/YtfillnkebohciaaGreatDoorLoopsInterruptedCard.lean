/- signlaw1.LoopsInterrupted answers true and leaves what it was given as it was, for every input whose reading is of bulk at most 1048576: the row's second form and its card. Conditions: the row's own (the bulk, and that the listed tables hold what their initial texts say). -/
import Derived.Test.YtfillnkebohciaaGreatDoorIntLaw
import Derived.Test.YtfillnkebohciaaGreatDoorLpArg
import Derived.Test.YtfillnkebohciaaGreatDoorTrue
import Derived.Test.YtfillnkebohciaaGreatDoorCards
import Derived.Test.YtfillnkebohciaaGreatDoorTie
namespace Go.Proofs.YtfillnkebohciaaGreatDoor.loopsInterrupted
open Go.ChangeShapes Go.WideShapes Go.ChangeAt Go.RowKit

theorem oWin : O.Opens (O.pair B.Kd.int B.Kd.int) 31 (fun x => O.okI x.1 ∧ O.okI x.2) := O.opens_pair Tryz.underlying31 O.oInt O.oInt rfl rfl (by kernel_rfl)
theorem oBk : O.Opens Rn.bkK 34 (fun x => O.okS x.1 ∧ O.okI x.2.1 ∧ O.okI x.2.2) :=
  (O.opens_pair Tryz.underlying34 O.oStr oWin rfl rfl (by kernel_rfl)).as Rn.bkK _ rfl id (fun w a cs ⟨c, c', e, h, c2, c3, e2, h2, h3⟩ => by rw [e, h, e2, h2, h3]; rfl) (fun _ h => h)
theorem oBks : O.Opens Rn.bkK.sl 29 (O.okL (fun x => O.okS x.1 ∧ O.okI x.2.1 ∧ O.okI x.2.2)) := O.opens_slice Tryz.underlying29 oBk (by decide) (by kernel_rfl)
set_option maxRecDepth 100000 in
theorem arg_win {H : Type} {enc : TypeId × Value → H} {W : World} {base b0 : Nat} {sp : Nat → Bool} {held : Bool} {v : Value} {x : DataW H} {ps : List MemPlace} (hv : Value.okWide Tryz.prog W .any b0 31 v) (h : DataW.Trod enc Tryz.prog W base sp held 31 v x ps) (hb : Rows.uptoBulk x ≤ 1048576) :
    ∃ a b, v = .agg #[.int .i64 a, .int .i64 b] := by
  obtain ⟨⟨a, b⟩, cs, rfl, ⟨c, c', e, h0, h1⟩, -⟩ := O.arg_agg oWin Tryz.underlying31 hv h hb
  have h0' : c = [.int .i64 a] := h0
  have h1' : c' = [.int .i64 b] := h1
  refine ⟨a, b, ?_⟩
  obtain ⟨l⟩ := cs
  rw [h0', h1'] at e
  have e' : l = [.int .i64 a, .int .i64 b] := e
  rw [e']
theorem own : ownKnob Tryz.prog.godebug = none := by kernel_rfl
theorem laidOut : laidOutB Tryz.prog = true := by kernel_rfl

set_option maxRecDepth 100000 in
theorem contract (H : Type) (enc : TypeId × Value → H) (W : World) (base : Nat) (args : Array Value) (ds gs : List (DataW H)) (before : List MemPlace)
    (hval : ∀ (j : Nat) t v, Tryz.f4.params[j]? = some t → args[j]? = some v → Value.okWide Tryz.prog W .any base t v)
    (hW : DataW.Whole enc Tryz.prog Tryz.f4.params.toList Rows.loopsInterruptedSpec.vars false W args.toList ds gs before) (hb : Rows.uptoSmall H (ds ++ gs) = true) :
    Calls Tryz.prog 4 args W fun e W' => ∃ v, e = .returned v ∧ Rows.loopsInterruptedSpec.post enc Tryz.prog Tryz.f4 false true false false W args v W' := by
  have hW' := hW
  obtain ⟨p, q, hA0, hV, rfl, hfz, hnd⟩ := hW
  have hA : DataW.TrodAll enc Tryz.prog W 0 (fun _ => true) true Tryz.f4.params.toList args.toList ds p := hA0
  rw [Tryz.params4] at hA hval
  obtain ⟨v0, vs0, d0, ds0, p0, q0, hargs, rfl, rfl, h0, r0⟩ := trodAll_cons hA
  obtain ⟨v1, vs1, d1, ds1, p1, q1, rfl, rfl, rfl, h1, r1⟩ := trodAll_cons r0
  obtain ⟨v2, vs2, d2, ds2, p2, q2, rfl, rfl, rfl, h2, r2⟩ := trodAll_cons r1
  obtain ⟨v3, vs3, d3, ds3, p3, q3, rfl, rfl, rfl, h3, r3⟩ := trodAll_cons r2
  obtain ⟨rfl, rfl, rfl⟩ := trodAll_nil r3
  obtain rfl : args = #[v0, v1, v2, v3] := by cases args; simp_all
  have hbb : Rows.uptoBulkAll ([d0, d1, d2, d3] ++ gs) ≤ 1048576 := of_decide_eq_true hb
  simp only [List.cons_append, List.nil_append, Rows.uptoBulkAll] at hbb
  obtain ⟨n0, x0, A0, As0, c0, k0, rfl, hat0⟩ := L.arg_loop (hval 0 25 v0 rfl rfl) h0 (by omega)
  obtain ⟨bs1, ⟨Ab1, cb1, rfl, hC1⟩, hok1⟩ := O.arg_sl oBks Tryz.underlying29 (hval 1 29 v1 rfl rfl) h1 (by omega)
  obtain ⟨wf2, wt2, rfl⟩ := arg_win (hval 2 31 v2 rfl rfl) h2 (by omega)
  obtain ⟨i3, rfl, -, -, -⟩ := open_int Tryz.underlying3 (hval 3 3 v3 rfl rfl) h3
  refine (Rn.loopsInterrupted n0 x0 A0 As0 c0 k0 Ab1 cb1 bs1 wf2 wt2 i3 (fun f hf => by have := (hok1.2 f hf).1; unfold O.okS at this; omega) W hat0 hC1 hok1.1).mono fun e W' ⟨he, hb⟩ => ?_
  subst he
  exact ⟨_, rfl, T.post_true laidOut (by decide +kernel) rfl Tryz.underlying4 rfl hW' rfl rfl rfl hb⟩

noncomputable def laidWorld (os : Os) : World :=
  { World.holding Tryz.prog os ⟨#[], #[], []⟩ with heap := ((World.holding Tryz.prog os ⟨#[], #[], []⟩).heap.modify 2 (T.lay2 Rows.laid_unicode_utf8_acceptRanges .u8)).modify 1 (T.lay2 Rows.laid_unicode_utf8_first .u8) }
noncomputable def seen : Array Value := #[.agg #[.int .i64 0, .string ⟨#[]⟩, .int .i64 0, .int .i64 0, .slice none 0 0, .slice none 0 0], .slice none 0 0, .agg #[.int .i64 0, .int .i64 0], .int .i64 0]
theorem laid_met (os : Os) : laidMet Tryz.prog Rows.loopsInterruptedUptoRow.laid ((laidWorld os).forCall (fun _ _ => 0) ⟨#[], seen, []⟩).memory :=
  laidMet_of_run' 8 (by kernel_rfl) (by kernel_rfl)
theorem reads (os : Os) {H : Type} (enc : TypeId × Value → H) : ∃ places, DataW.whole enc Tryz.prog ((laidWorld os).forCall (fun _ _ => 0) ⟨#[], seen, []⟩).memory Tryz.f4.params.toList Rows.loopsInterruptedSpec.vars false seen.toList 8 = some ([.agg [.lit (.int .i64 0), .lit (.string []), .lit (.int .i64 0), .lit (.int .i64 0), .nil, .nil], .nil, .agg [.lit (.int .i64 0), .lit (.int .i64 0)], .lit (.int .i64 0)], [], places) :=
  ⟨[], by kernel_rfl⟩

set_option maxRecDepth 100000 in
theorem lifted (os : Os) (started : os.Started) (H : Type) (enc : TypeId × Value → H) (F : Stop.Interp) :
    ReturnsInHanded {} Tryz.checked os 4 .any ((Rows.OpenSpec.upto Rows.loopsInterruptedSpec).preRow enc Tryz.prog Tryz.f4 Rows.loopsInterruptedUptoRow.domain false Rows.loopsInterruptedUptoRow.laid) (((Rows.OpenSpec.upto Rows.loopsInterruptedSpec).at F).post enc Tryz.prog Tryz.f4 false true false false) := by
  obtain ⟨places, hx⟩ := reads os enc
  refine returnsInHanded_of_row (C := Tryz.checked) (s := Rows.OpenSpec.upto Rows.loopsInterruptedSpec) own started (by kernel_rfl) Tryz.func4
    (witness_row_at (enc := enc) (C := Tryz.checked) false (laidWorld os) seen rfl (by kernel_rfl) (by kernel_rfl) (by kernel_rfl)
      (OpenSpec.preRow_of_cond 8 hx (by kernel_rfl) (fun k hk => by cases hk; kernel_rfl) (by kernel_rfl) (laid_met os))) ?_
  intro W base args ds gs before hval hW _ hcond _ _ _ _
  exact contract H enc W base args ds gs before hval hW (hcond _ rfl)

theorem said : Rows.LoopsInterruptedUptoSaid :=
  OpenClaim.holds_of_cond 4 Tryz.f4 rfl rfl rfl rfl rfl rfl rfl ⟨rfl, rfl, rfl, rfl, rfl⟩ rfl rfl rfl rfl rfl (by kernel_rfl) Tryz.func4 (by kernel_rfl)
    (of_decide_eq_true (by kernel_rfl)) (by unfold Func.isWrapper; first | (rw [if_pos (by decide +kernel)]; kernel_rfl) | (rw [if_neg (by decide +kernel)]; exact ⟨rfl, rfl⟩))
    (fun os started H enc _ F => by rw [OpenClaim.pre_eq_preRow]; exact lifted os started H enc F)

theorem plain (f : FuncId) (fn : Func) (hf : Tryz.pinned.checked.prog.funcNamed "signboard/signlaw1.LoopsInterrupted" = some f) (hfn : Tryz.pinned.checked.prog.funcs[f]? = some fn) :
    false = Tryz.pinned.checked.prog.looks [] ∧ ∀ (j : Nat) t, fn.params[j]? = some t → Tryz.pinned.checked.prog.wantsStandIn t = false := by
  obtain rfl : f = 4 := Option.some.inj ((show Tryz.prog.funcNamed "signboard/signlaw1.LoopsInterrupted" = some 4 by kernel_rfl).symm.trans hf) |>.symm
  obtain rfl : fn = Tryz.f4 := (Option.some.inj (Tryz.func4.symm.trans hfn)).symm
  refine ⟨by kernel_rfl, fun j t ht => ?_⟩
  have hall : ∀ t ∈ Tryz.f4.params.toList, Tryz.prog.wantsStandIn t = false := by decide +kernel
  exact hall t (Array.mem_toList_iff.2 (Array.mem_of_getElem? ht))

theorem card : Rows.LoopsInterruptedUptoCardSaid :=
  Claim7.holds_tied_plain_at .later [] _ _ _ _ said (fun _ h => by cases h) (by kernel_rfl) (fun _ h => by cases h) loopsInterruptedUpto_row_tie rfl ⟨rfl, rfl⟩ (by kernel_rfl) rfl plain (by kernel_rfl)
end Go.Proofs.YtfillnkebohciaaGreatDoor.loopsInterrupted
