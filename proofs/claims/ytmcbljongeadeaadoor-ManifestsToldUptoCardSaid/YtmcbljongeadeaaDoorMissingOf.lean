/- The reference's MissingOf. -/
import Derived.Test.YtmcbljongeadeaaDoorDelete
namespace Go.Proofs.YtmcbljongeadeaaDoor.Told
open Go.RowKit

theorem missingOf (no : Int) (v u : Value) (l : List Fl) (hs : List ByteArray) (hl : l.length ≤ 1048576) (hc : ∀ f ∈ l, f.2.length ≤ 1048576) (w : World) (h : B.Kd.file.S w v l) (h2 : B.Kd.str.S w u hs) :
    Calls Tryd.prog 20 #[.agg #[.int .i64 no, v], u] w fun e w' => ∃ v', e = .returned v' ∧ B.Own w' w.heap.size 48 2 Copy.ckE v' (each hs (l.flatMap (·.2))) ∧ Below w.heap.size w w' := by
  have HB := Lib.hid (fun (c c' : Array Value) (o o' : TypeId) => ((Below.refl _ w).alloc (Nat.le_refl _) (.cells c o)).alloc (by simp) (.cells c' o'))
  have ce := fun c c' o o' => eachOf no v l hl hc _ (h.mono (HB.out c c' o o'))
  have HP := Lib.hid (fun (c : Array Value) (o o' : TypeId) (W : World) (x : Ck) (hb : Below ((w.alloc (.cells c o)).alloc (.cells #[u] o')).heap.size ((w.alloc (.cells c o)).alloc (.cells #[u] o')) W) =>
    missingP hs (w.heap.size + 1) u x W (B.cell_below hb (by rw [show w.heap.size + 1 = (w.alloc (.cells c o)).heap.size by simp, World.cell?_alloc_new]; rfl)) ((h2.mono (HB.out c #[u] o o')).mono (hb.mono (by simp))))
  obtain ⟨A, c, rfl, -⟩ := h
  obtain ⟨Ah, ch, rfl, -⟩ := h2
  go_enter Tryd.func20, Tryd.ntmps20
  go_wp2_with (first
    | (go_at_call 29; refine (ce _ _ _ _).mono ?_; rintro e w2 ⟨v2, rfl, HO2, HN2, HB2⟩; obtain ⟨A4, c4, rfl⟩ := Copy.shape HO2)
    | (go_at_call 38; refine (deleteChunks (fun x => decide (x.1 ∈ hs)) _ _ _ _ _ _ HB2 HB2.size (fun W x hb => HP.out _ _ _ W x hb) HO2 (by omega)).mono ?_; rintro e w3 ⟨v3, rfl, HO3, HB3⟩))
  go_ret
  rw [each_filter, List.append_nil] at HO3
  exact ⟨_, rfl, Copy.own_mono HO3 (by simp; omega), (HB.out _ _ _ _).trans ((HB2.trans HB3).mono (by simp; omega))⟩
end Go.Proofs.YtmcbljongeadeaaDoor.Told
