/- signlaw1.FilesProved answers true and leaves what it was given as it was, for every input whose reading is of bulk at most 1048576: the row's second form and its card. Conditions: the row's own (the bulk, and that the listed tables hold what their initialisers lay). -/
import Derived.Test.YtmcbljongeadeaaGreatDoorFilesLaw
import Derived.Test.YtmcbljongeadeaaGreatDoorOpen
import Derived.Test.YtmcbljongeadeaaGreatDoorTrue
import Derived.Test.YtmcbljongeadeaaGreatDoorCards
import Derived.Test.YtmcbljongeadeaaGreatDoorTie
namespace Go.Proofs.YtmcbljongeadeaaGreatDoor.filesProved
open Go.ChangeShapes Go.WideShapes Go.ChangeAt Go.RowKit

theorem own : ownKnob Tryz.prog.godebug = none := by kernel_rfl
theorem laidOut : laidOutB Tryz.prog = true := by kernel_rfl
theorem gTab : Tryz.prog.globalNamed "math/bits.deBruijn64tab" = some 5 := by kernel_rfl
theorem gTabType : (Tryz.prog.globals[5]?).map (·.type) = some 152 := by kernel_rfl
theorem cells64 : Tryz.prog.cellsOf 152 = 64 := by kernel_rfl
theorem cells1 : Tryz.prog.cellsOf 5 = 1 := by kernel_rfl
theorem tab {W : World} (h : laidMetH Tryz.prog Rows.filesProvedUptoRow.laid W) : Hex.Tab W := by
  have h1 : laidMet Tryz.prog (("math/bits.deBruijn64tab", Lib.tabData .u8 (T.nums Rows.laid_math_bits_deBruijn64tab)) :: [("internal/strconv.uint64pow10", Rows.laid_internal_strconv_uint64pow10), ("unicode/utf8.acceptRanges", Rows.laid_unicode_utf8_acceptRanges), ("unicode/utf8.first", Rows.laid_unicode_utf8_first)]) W := laidMet.tail h
  exact (Lib.tabIs_of_head gTab gTabType Tryz.underlying152 Tryz.underlying5 cells1 cells64 h1).cell gTab 15 (by decide)
theorem oTwig : O.Opens B.Kd.twig 33 (fun t => O.okS t.2) :=
  (O.opens_pair Tryz.underlying33 (O.opens_bool Tryz.underlying4 (by kernel_rfl)) O.oStr rfl rfl (by kernel_rfl)).as B.Kd.twig _ rfl id (fun w a cs ⟨c, c', e, h, h'⟩ => by rw [e, h, h']; rfl) (fun _ h => h.2)
theorem oTwigs : O.Opens B.Kd.twig.sl 28 (O.okL (fun t => O.okS t.2)) := O.opens_slice Tryz.underlying28 oTwig (by decide) (by kernel_rfl)
theorem small {f : Files.Fl} (h : O.okF f) : Pf.Small f := ⟨h.1, h.2.1, fun c hc => (h.2.2 c hc).1⟩

set_option maxRecDepth 100000 in
theorem contract (H : Type) (enc : TypeId × Value → H) (W : World) (base : Nat) (args : Array Value) (ds gs : List (DataW H)) (before : List MemPlace)
    (hval : ∀ (j : Nat) t v, Tryz.f3.params[j]? = some t → args[j]? = some v → Value.okWide Tryz.prog W .any base t v)
    (hW : DataW.Whole enc Tryz.prog Tryz.f3.params.toList Rows.filesProvedSpec.vars false W args.toList ds gs before) (hb : Rows.uptoSmall H (ds ++ gs) = true) (hL : laidMetH Tryz.prog Rows.filesProvedUptoRow.laid W) :
    Calls Tryz.prog 3 args W fun e W' => ∃ v, e = .returned v ∧ Rows.filesProvedSpec.post enc Tryz.prog Tryz.f3 false true false false W args v W' := by
  have hW' := hW
  obtain ⟨p, q, hA0, hV, rfl, hfz, hnd⟩ := hW
  have hA : DataW.TrodAll enc Tryz.prog W 0 (fun _ => true) true Tryz.f3.params.toList args.toList ds p := hA0
  rw [Tryz.params3] at hA hval
  obtain ⟨v0, vs0, d0, ds0, p0, q0, hargs, rfl, rfl, h0, r0⟩ := trodAll_cons hA
  obtain ⟨v1, vs1, d1, ds1, p1, q1, rfl, rfl, rfl, h1, r1⟩ := trodAll_cons r0
  obtain ⟨v2, vs2, d2, ds2, p2, q2, rfl, rfl, rfl, h2, r2⟩ := trodAll_cons r1
  obtain ⟨v3, vs3, d3, ds3, p3, q3, rfl, rfl, rfl, h3, r3⟩ := trodAll_cons r2
  obtain ⟨v4, vs4, d4, ds4, p4, q4, rfl, rfl, rfl, h4, r4⟩ := trodAll_cons r3
  obtain ⟨rfl, rfl, rfl⟩ := trodAll_nil r4
  obtain rfl : args = #[v0, v1, v2, v3, v4] := by cases args; simp_all
  have hbb : Rows.uptoBulkAll ([d0, d1, d2, d3, d4] ++ gs) ≤ 1048576 := of_decide_eq_true hb
  simp only [List.cons_append, List.nil_append, Rows.uptoBulkAll] at hbb
  obtain ⟨⟨no, l⟩, cs, rfl, hK, hok⟩ := O.arg_agg O.oManifest Tryz.underlying24 (hval 0 24 v0 rfl rfl) h0 (by omega)
  obtain ⟨key, rfl, -, -, hkey⟩ := Go.ChangeMaps.open_string Tryz.underlying9 (hval 1 9 v1 rfl rfl) h1
  obtain ⟨root, rfl, -, -, -⟩ := Go.ChangeMaps.open_string Tryz.underlying9 (hval 2 9 v2 rfl rfl) h2
  obtain ⟨f, cs3, rfl, hK3, hok3⟩ := O.arg_agg O.oFile Tryz.underlying27 (hval 3 27 v3 rfl rfl) h3 (by omega)
  obtain ⟨proof, hS, hok4⟩ := O.arg_sl oTwigs Tryz.underlying28 (hval 4 28 v4 rfl rfl) h4 (by omega)
  obtain ⟨c, c', e, hc, A, cap, hc', hC⟩ := hK
  have hc2 : c = [.int .i64 no] := hc
  subst hc2 hc'
  obtain rfl : cs = #[.int .i64 no, .slice A l.length cap] := by cases cs; simpa using e
  obtain ⟨Af, cf, e3, hC3⟩ := hK3
  obtain rfl : cs3 = #[.string f.1, .slice Af f.2.length cf] := by cases cs3; simpa using e3
  have hkl : key.size ≤ 9223372036854775807 := by unfold maxLen at hkey; omega
  refine (Pf.law_any no (.slice A l.length cap) l key root f Af cf v4 proof (fun g hg => small (hok.2.2 g hg)) hok.2.1 hkl (small hok3) (fun t ht => hok4.2 t ht) hok4.1 W ⟨A, cap, rfl, hC⟩ hC3 hS (tab hL)).mono fun e W' ⟨he, hb⟩ => ?_
  subst he
  exact ⟨_, rfl, T.post_true laidOut (by decide +kernel) rfl Tryz.underlying4 rfl hW' rfl rfl rfl hb⟩

noncomputable def laidWorld (os : Os) : World :=
  { World.holding Tryz.prog os ⟨#[], #[], []⟩ with heap := ((((((World.holding Tryz.prog os ⟨#[], #[], []⟩).heap).modify 4 (T.lay2 Rows.laid_math_bits_deBruijn32tab .u8)).modify 5 (T.lay2 Rows.laid_math_bits_deBruijn64tab .u8)).modify 1 (T.lay2 Rows.laid_internal_strconv_uint64pow10 .u64)).modify 3 (T.lay2 Rows.laid_unicode_utf8_acceptRanges .u8)).modify 2 (T.lay2 Rows.laid_unicode_utf8_first .u8) }
noncomputable def seen : Array Value := #[.agg #[.int .i64 0, .slice none 0 0], .string ⟨#[]⟩, .string ⟨#[]⟩, .agg #[.string ⟨#[]⟩, .slice none 0 0], .slice none 0 0]
theorem laid_met (os : Os) : laidMet Tryz.prog Rows.filesProvedUptoRow.laid ((laidWorld os).forCall (fun _ _ => 0) ⟨#[], seen, []⟩).memory :=
  laidMet_of_run' 8 (by kernel_rfl) (by kernel_rfl)
theorem reads (os : Os) {H : Type} (enc : TypeId × Value → H) : ∃ places, DataW.whole enc Tryz.prog ((laidWorld os).forCall (fun _ _ => 0) ⟨#[], seen, []⟩).memory Tryz.f3.params.toList Rows.filesProvedSpec.vars false seen.toList 8 = some ([.agg [.lit (.int .i64 0), .nil], .lit (.string []), .lit (.string []), .agg [.lit (.string []), .nil], .nil], [], places) :=
  ⟨[], by kernel_rfl⟩

set_option maxRecDepth 100000 in
theorem lifted (os : Os) (started : os.Started) (H : Type) (enc : TypeId × Value → H) (F : Stop.Interp) :
    ReturnsInHanded {} Tryz.checked os 3 .any ((Rows.OpenSpec.upto Rows.filesProvedSpec).preRow enc Tryz.prog Tryz.f3 Rows.filesProvedUptoRow.domain false Rows.filesProvedUptoRow.laid) (((Rows.OpenSpec.upto Rows.filesProvedSpec).at F).post enc Tryz.prog Tryz.f3 false true false false) := by
  obtain ⟨places, hx⟩ := reads os enc
  refine returnsInHanded_of_row (C := Tryz.checked) (s := Rows.OpenSpec.upto Rows.filesProvedSpec) own started (by kernel_rfl) Tryz.func3
    (witness_row_at (enc := enc) (C := Tryz.checked) false (laidWorld os) seen rfl (by kernel_rfl) (by kernel_rfl) (by kernel_rfl)
      (OpenSpec.preRow_of_cond 8 hx (by kernel_rfl) (fun k hk => by cases hk; kernel_rfl) (by kernel_rfl) (laid_met os))) ?_
  intro W base args ds gs before hval hW _ hcond _ hL _ _
  exact contract H enc W base args ds gs before hval hW (hcond _ rfl) hL

theorem said : Rows.FilesProvedUptoSaid :=
  OpenClaim.holds_of_cond 3 Tryz.f3 rfl rfl rfl rfl rfl rfl rfl ⟨rfl, rfl, rfl, rfl, rfl⟩ rfl rfl rfl rfl rfl (by kernel_rfl) Tryz.func3 (by kernel_rfl)
    (of_decide_eq_true (by kernel_rfl)) (by unfold Func.isWrapper; first | (rw [if_pos (by decide +kernel)]; kernel_rfl) | (rw [if_neg (by decide +kernel)]; exact ⟨rfl, rfl⟩))
    (fun os started H enc _ F => by rw [OpenClaim.pre_eq_preRow]; exact lifted os started H enc F)

theorem plain (f : FuncId) (fn : Func) (hf : Tryz.pinned.checked.prog.funcNamed "signboard/signlaw1.FilesProved" = some f) (hfn : Tryz.pinned.checked.prog.funcs[f]? = some fn) :
    false = Tryz.pinned.checked.prog.looks [] ∧ ∀ (j : Nat) t, fn.params[j]? = some t → Tryz.pinned.checked.prog.wantsStandIn t = false := by
  obtain rfl : f = 3 := Option.some.inj ((show Tryz.prog.funcNamed "signboard/signlaw1.FilesProved" = some 3 by kernel_rfl).symm.trans hf) |>.symm
  obtain rfl : fn = Tryz.f3 := (Option.some.inj (Tryz.func3.symm.trans hfn)).symm
  refine ⟨by kernel_rfl, fun j t ht => ?_⟩
  have hall : ∀ t ∈ Tryz.f3.params.toList, Tryz.prog.wantsStandIn t = false := by decide +kernel
  exact hall t (Array.mem_toList_iff.2 (Array.mem_of_getElem? ht))

theorem card : Rows.FilesProvedUptoCardSaid :=
  Claim7.holds_tied_plain_at .later [] _ _ _ _ said (fun _ h => by cases h) (by kernel_rfl) (fun _ h => by cases h) filesProvedUpto_row_tie rfl ⟨rfl, rfl⟩ (by kernel_rfl) rfl plain (by kernel_rfl)
end Go.Proofs.YtmcbljongeadeaaGreatDoor.filesProved
