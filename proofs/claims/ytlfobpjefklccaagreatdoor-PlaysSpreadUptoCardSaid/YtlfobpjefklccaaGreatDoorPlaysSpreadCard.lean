/- signlaw1.PlaysSpread answers true and leaves what it was given as it was, for every input whose reading is of bulk at most 1048576: the row's second form and its card. Conditions: the row's own (the bulk, and that the listed tables hold what their initial texts say). -/
import Derived.Test.YtlfobpjefklccaaGreatDoorSpreadLaw
import Derived.Test.YtlfobpjefklccaaGreatDoorLpArg
import Derived.Test.YtlfobpjefklccaaGreatDoorTrue
import Derived.Test.YtlfobpjefklccaaGreatDoorCards
import Derived.Test.YtlfobpjefklccaaGreatDoorTie
import Derived.Deep.Strs
namespace Go.Proofs.YtlfobpjefklccaaGreatDoor.playsSpread
open Go.ChangeShapes Go.WideShapes Go.ChangeAt Go.RowKit

theorem opens_three {α β γ : Type} {d : B.Kd α} {d' : B.Kd β} {d2 : B.Kd γ} {t : TypeId} {f0 f1 f2 : Field} {ok : α → Prop} {ok' : β → Prop} {ok2 : γ → Prop} (ht : Tryz.prog.underlying t = some (.struct #[f0, f1, f2])) (h0 : O.Opens d f0.type ok) (h1 : O.Opens d' f1.type ok') (h2 : O.Opens d2 f2.type ok2)
    (o0 : f0.offset = 0) (o1 : f1.offset = d.sz) (o2 : f2.offset = d.sz + d'.sz) (hc : Tryz.prog.cellsOf t = d.sz + d'.sz + d2.sz) (K : B.Kd (α × β × γ)) (hK : ∀ w a b c x y z, d.K w a x → d'.K w b y → d2.K w c z → K.K w (a, b, c) (x ++ (y ++ z))) (hs : K.sz = d.sz + d'.sz + d2.sz) : O.Opens K t (fun x => ok x.1 ∧ ok' x.2.1 ∧ ok2 x.2.2) :=
  ⟨hc.trans hs.symm, fun H enc w base sp held fuel cs x h hb => by
    obtain ⟨y0, y1, y2, n, rfl, hl, t0, t1, t2⟩ := Go.Deep.trod_struct3 ht h
    rw [h0.1, o0] at t0
    rw [h1.1, o1] at t1
    rw [h2.1, o2] at t2
    rw [hc] at hl
    simp only [Rows.uptoBulk, Rows.uptoBulkAll] at hb
    obtain ⟨a, k0, ok0⟩ := h0.2 _ _ _ _ _ _ _ _ _ t0 (by omega)
    obtain ⟨a', k1, ok1⟩ := h1.2 _ _ _ _ _ _ _ _ _ t1 (by omega)
    obtain ⟨a2, k2, ok2⟩ := h2.2 _ _ _ _ _ _ _ _ _ t2 (by omega)
    refine ⟨(a, a', a2), ?_, ok0, ok1, ok2⟩
    have e : cs = (cs.drop 0).take d.sz ++ ((cs.drop d.sz).take d'.sz ++ (cs.drop (d.sz + d'.sz)).take d2.sz) := by
      rw [List.drop_zero, List.take_of_length_le (l := cs.drop (d.sz + d'.sz)) (by rw [List.length_drop]; omega), ← List.drop_drop, List.take_append_drop, List.take_append_drop]
    rw [e]
    exact hK _ _ _ _ _ _ _ k0 k1 k2⟩
theorem oWn : O.Opens Wn.wnK 32 (fun x => O.okS x.1 ∧ O.okI x.2.1 ∧ O.okI x.2.2) :=
  opens_three Tryz.underlying32 O.oStr O.oInt O.oInt rfl rfl rfl (by kernel_rfl) Wn.wnK (fun w a b c x y z h h' h2 => by rw [h, h', h2]; rfl) rfl
theorem oWns : O.Opens Wn.wnK.sl 29 (O.okL (fun x => O.okS x.1 ∧ O.okI x.2.1 ∧ O.okI x.2.2)) := O.opens_slice Tryz.underlying29 oWn (by decide) (by kernel_rfl)
theorem own : ownKnob Tryz.prog.godebug = none := by kernel_rfl
theorem laidOut : laidOutB Tryz.prog = true := by kernel_rfl

set_option maxRecDepth 100000 in
theorem contract (H : Type) (enc : TypeId × Value → H) (W : World) (base : Nat) (args : Array Value) (ds gs : List (DataW H)) (before : List MemPlace)
    (hval : ∀ (j : Nat) t v, Tryz.f4.params[j]? = some t → args[j]? = some v → Value.okWide Tryz.prog W .any base t v)
    (hW : DataW.Whole enc Tryz.prog Tryz.f4.params.toList Rows.playsSpreadSpec.vars false W args.toList ds gs before) (hb : Rows.uptoSmall H (ds ++ gs) = true) :
    Calls Tryz.prog 4 args W fun e W' => ∃ v, e = .returned v ∧ Rows.playsSpreadSpec.post enc Tryz.prog Tryz.f4 false true false false W args v W' := by
  have hW' := hW
  obtain ⟨p, q, hA0, hV, rfl, hfz, hnd⟩ := hW
  have hA : DataW.TrodAll enc Tryz.prog W 0 (fun _ => true) true Tryz.f4.params.toList args.toList ds p := hA0
  rw [Tryz.params4] at hA hval
  obtain ⟨v0, vs0, d0, ds0, p0, q0, hargs, rfl, rfl, h0, r0⟩ := trodAll_cons hA
  obtain ⟨v1, vs1, d1, ds1, p1, q1, rfl, rfl, rfl, h1, r1⟩ := trodAll_cons r0
  obtain ⟨rfl, rfl, rfl⟩ := trodAll_nil r1
  obtain rfl : args = #[v0, v1] := by cases args; simp_all
  have hbb : Rows.uptoBulkAll ([d0, d1] ++ gs) ≤ 1048576 := of_decide_eq_true hb
  simp only [List.cons_append, List.nil_append, Rows.uptoBulkAll] at hbb
  obtain ⟨n0, x0, A0, As0, c0, k0, rfl, hat0⟩ := L.arg_loop (hval 0 25 v0 rfl rfl) h0 (by omega)
  obtain ⟨ws1, ⟨Aw1, cw1, rfl, hC1⟩, hok1⟩ := O.arg_sl oWns Tryz.underlying29 (hval 1 29 v1 rfl rfl) h1 (by omega)
  refine (Come.playsSpread n0 x0 A0 As0 c0 k0 Aw1 cw1 ws1 (fun f hf => by have := (hok1.2 f hf).1; unfold O.okS at this; omega) W hat0 hC1 hok1.1).mono fun e W' ⟨he, hb⟩ => ?_
  subst he
  exact ⟨_, rfl, T.post_true laidOut (by decide +kernel) rfl Tryz.underlying4 rfl hW' rfl rfl rfl hb⟩

noncomputable def laidWorld (os : Os) : World :=
  { World.holding Tryz.prog os ⟨#[], #[], []⟩ with heap := ((((((World.holding Tryz.prog os ⟨#[], #[], []⟩).heap).modify 4 (T.lay2 Rows.laid_math_bits_deBruijn32tab .u8)).modify 5 (T.lay2 Rows.laid_math_bits_deBruijn64tab .u8)).modify 3 (T.lay2 Rows.laid_internal_strconv_uint64pow10 .u64)).modify 2 (T.lay2 Rows.laid_unicode_utf8_acceptRanges .u8)).modify 1 (T.lay2 Rows.laid_unicode_utf8_first .u8) }
noncomputable def seen : Array Value := #[.agg #[.int .i64 0, .string ⟨#[]⟩, .int .i64 0, .int .i64 0, .slice none 0 0, .slice none 0 0], .slice none 0 0]
theorem laid_met (os : Os) : laidMet Tryz.prog Rows.playsSpreadUptoRow.laid ((laidWorld os).forCall (fun _ _ => 0) ⟨#[], seen, []⟩).memory :=
  laidMet_of_run' 8 (by kernel_rfl) (by kernel_rfl)
theorem reads (os : Os) {H : Type} (enc : TypeId × Value → H) : ∃ places, DataW.whole enc Tryz.prog ((laidWorld os).forCall (fun _ _ => 0) ⟨#[], seen, []⟩).memory Tryz.f4.params.toList Rows.playsSpreadSpec.vars false seen.toList 8 = some ([.agg [.lit (.int .i64 0), .lit (.string []), .lit (.int .i64 0), .lit (.int .i64 0), .nil, .nil], .nil], [], places) :=
  ⟨[], by kernel_rfl⟩

set_option maxRecDepth 100000 in
theorem lifted (os : Os) (started : os.Started) (H : Type) (enc : TypeId × Value → H) (F : Stop.Interp) :
    ReturnsInHanded {} Tryz.checked os 4 .any ((Rows.OpenSpec.upto Rows.playsSpreadSpec).preRow enc Tryz.prog Tryz.f4 Rows.playsSpreadUptoRow.domain false Rows.playsSpreadUptoRow.laid) (((Rows.OpenSpec.upto Rows.playsSpreadSpec).at F).post enc Tryz.prog Tryz.f4 false true false false) := by
  obtain ⟨places, hx⟩ := reads os enc
  refine returnsInHanded_of_row (C := Tryz.checked) (s := Rows.OpenSpec.upto Rows.playsSpreadSpec) own started (by kernel_rfl) Tryz.func4
    (witness_row_at (enc := enc) (C := Tryz.checked) false (laidWorld os) seen rfl (by kernel_rfl) (by kernel_rfl) (by kernel_rfl)
      (OpenSpec.preRow_of_cond 8 hx (by kernel_rfl) (fun k hk => by cases hk; kernel_rfl) (by kernel_rfl) (laid_met os))) ?_
  intro W base args ds gs before hval hW _ hcond _ _ _ _
  exact contract H enc W base args ds gs before hval hW (hcond _ rfl)

theorem said : Rows.PlaysSpreadUptoSaid :=
  OpenClaim.holds_of_cond 4 Tryz.f4 rfl rfl rfl rfl rfl rfl rfl ⟨rfl, rfl, rfl, rfl, rfl⟩ rfl rfl rfl rfl rfl (by kernel_rfl) Tryz.func4 (by kernel_rfl)
    (of_decide_eq_true (by kernel_rfl)) (by unfold Func.isWrapper; first | (rw [if_pos (by decide +kernel)]; kernel_rfl) | (rw [if_neg (by decide +kernel)]; exact ⟨rfl, rfl⟩))
    (fun os started H enc _ F => by rw [OpenClaim.pre_eq_preRow]; exact lifted os started H enc F)

theorem plain (f : FuncId) (fn : Func) (hf : Tryz.pinned.checked.prog.funcNamed "signboard/signlaw1.PlaysSpread" = some f) (hfn : Tryz.pinned.checked.prog.funcs[f]? = some fn) :
    false = Tryz.pinned.checked.prog.looks [] ∧ ∀ (j : Nat) t, fn.params[j]? = some t → Tryz.pinned.checked.prog.wantsStandIn t = false := by
  obtain rfl : f = 4 := Option.some.inj ((show Tryz.prog.funcNamed "signboard/signlaw1.PlaysSpread" = some 4 by kernel_rfl).symm.trans hf) |>.symm
  obtain rfl : fn = Tryz.f4 := (Option.some.inj (Tryz.func4.symm.trans hfn)).symm
  refine ⟨by kernel_rfl, fun j t ht => ?_⟩
  have hall : ∀ t ∈ Tryz.f4.params.toList, Tryz.prog.wantsStandIn t = false := by decide +kernel
  exact hall t (Array.mem_toList_iff.2 (Array.mem_of_getElem? ht))

theorem card : Rows.PlaysSpreadUptoCardSaid :=
  Claim7.holds_tied_plain_at .later [] _ _ _ _ said (fun _ h => by cases h) (by kernel_rfl) (fun _ h => by cases h) playsSpreadUpto_row_tie rfl ⟨rfl, rfl⟩ (by kernel_rfl) rfl plain (by kernel_rfl)
end Go.Proofs.YtlfobpjefklccaaGreatDoor.playsSpread
