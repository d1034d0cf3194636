/- sync.leaf and the reference's fileSum: the sum of a file. -/
import Derived.Test.YtmcbljongeadeaaGreatDoorBuilder
import Derived.Test.YtmcbljongeadeaaGreatDoorHex
import Derived.Test.YtmcbljongeadeaaGreatDoorMan
namespace Go.Proofs.YtmcbljongeadeaaGreatDoor.Pf
open Go.RowKit

abbrev Ck := Files.Ck
abbrev Fl := Files.Fl
/-- What of a file is summed. -/
def leafL (k : ByteArray) (cs : List Ck) : List UInt8 := k.data.toList ++ cs.flatMap fun c => 10 :: c.1.data.toList
def leafT (f : Fl) : ByteArray := ⟨(leafL f.1 f.2).toArray⟩
def leafS (f : Fl) : ByteArray := Hex.sumB (leafT f)
/-- What a file may be as great as. -/
def Small (f : Fl) : Prop := f.1.size ≤ 1048576 ∧ f.2.length ≤ 1048576 ∧ ∀ c ∈ f.2, c.1.size ≤ 1048576
theorem leafL_len {k : ByteArray} (hk : k.size ≤ 1048576) : ∀ (cs : List Ck), (∀ c ∈ cs, c.1.size ≤ 1048576) → (leafL k cs).length ≤ 1048576 + cs.length * 1048577 := by
  intro cs
  unfold leafL
  induction cs with
  | nil => intro _; simpa using hk
  | cons c cs ih =>
    intro h
    have h1 := ih (fun d hd => h d (by simp [hd]))
    have h2 : c.1.data.toList.length ≤ 1048576 := h c (by simp)
    rw [List.flatMap_cons, List.length_append, List.length_append, List.length_cons, List.length_cons]
    rw [List.length_append] at h1
    omega
theorem leafL_snoc (k : ByteArray) (cs : List Ck) (c : Ck) : leafL k (cs ++ [c]) = leafL k cs ++ (10 :: c.1.data.toList) := by
  unfold leafL
  rw [List.flatMap_append, List.flatMap_singleton, List.append_assoc]
theorem nl_list (s : ByteArray) : ((⟨#[10]⟩ : ByteArray) ++ s).data.toList = 10 :: s.data.toList := by simp
theorem nl_size (s : ByteArray) : ((⟨#[10]⟩ : ByteArray) ++ s).size = s.size + 1 := by
  rw [ByteArray.size_append, Nat.add_comm]; rfl
set_option maxHeartbeats 2000000 in
set_option maxRecDepth 100000 in
theorem leaf (f : Fl) (A : Option Addr) (c : Nat) (hs : Small f) (w : World) (hC : B.Kd.chunk.C w A f.2) (ht : Hex.Tab w) :
    Calls Tryz.prog 40 #[.agg #[.string f.1, .slice A f.2.length c]] w fun e w' => e = .returned (.string (leafS f)) ∧ Below w.heap.size w w' := by
  obtain ⟨hk, hl, hcs⟩ := hs
  have HS := Lib.hid hcs
  have HB0 := Lib.hid ((Below.refl _ w).alloc (Nat.le_refl _) (.cells #[.string f.1, .slice A f.2.length c] 27))
  have hb : (w.alloc (.cells #[.string f.1, .slice A f.2.length c] 27)).heap.size = w.heap.size + 1 := by simp
  have HBu := Lib.hid (Lib.IsBuilderF.of (Lib.fresh_isBuilder 97 5 (w.alloc (.cells #[.string f.1, .slice A f.2.length c] 27))))
  have HBx := Lib.hid ((Below.refl (w.alloc (.cells #[.string f.1, .slice A f.2.length c] 27)).heap.size (w.alloc (.cells #[.string f.1, .slice A f.2.length c] 27))).alloc (Nat.le_refl _) (.cells #[.pointer none, .slice none 0 0] 97))
  have HN := Lib.hid (fun (W : World) (hb : Below (w.alloc (.cells #[.string f.1, .slice A f.2.length c] 27)).heap.size (w.alloc (.cells #[.string f.1, .slice A f.2.length c] 27)) W) (i : Nat) (u : Value) (hc : (#[.string f.1, .slice A f.2.length c] : Array Value)[i]? = some u) => (B.cell_below hb (by rw [World.cell?_alloc_new]; exact hc) : W.cell? ⟨w.heap.size, i, none⟩ = some u))
  rw [hb] at HBu HBx HN
  have g0 : ((w.alloc (.cells #[.string f.1, .slice A f.2.length c] 27)).alloc (.cells #[.pointer none, .slice none 0 0] 97)).cell? ⟨w.heap.size, 0, none⟩ = some (.string f.1) := HN.out _ HBx.out 0 _ rfl
  have hbs : w.heap.size + 1 ≤ ((w.alloc (.cells #[.string f.1, .slice A f.2.length c] 27)).alloc (.cells #[.pointer none, .slice none 0 0] 97)).heap.size := by simp
  have cw := Bd.write (w.heap.size + 1) (w.heap.size + 1) [] f.1 _ HBu.out (by simp; omega) hbs
  have HW := Lib.hid hC
  have HT := Lib.hid ht
  clear hcs hb hbs hC ht
  go_enter Tryz.func40, Tryz.ntmps40
  go_wp2_with (go_at_call 56; refine cw.mono ?_; rintro e w1 ⟨rfl, HBu1, HB1⟩; have HX1 := Lib.hid (HBx.out.trans HB1); have g1 := HN.out _ HX1.out 1 _ rfl)
  have HBu2 : Hid (Lib.IsBuilderF 97 5 (w.heap.size + 1) (w.heap.size + 1) (Lib.byteCells (leafL f.1 (f.2.take 0))) w1) := Lib.hid (by rw [List.nil_append, Lib.strCells_eq] at HBu1; simpa [leafL] using HBu1)
  have HA : Hid (Below w.heap.size w (w.alloc (.cells #[.string f.1, .slice A f.2.length c] 27))) := HB0
  clear HBu1 HB1 HBx HBu cw g0 g1
  generalize hb : w.heap.size + 1 = b at HBu2 HX1 HN ⊢
  have hbw : w.heap.size ≤ b := by omega
  have L := HW.out.1
  go_loopw [12] (fun so wr => ∃ (k : Nat), so = .int .i64 k ∧ k ≤ f.2.length ∧ Hid (Lib.IsBuilderF 97 5 b b (Lib.byteCells (leafL f.1 (f.2.take k))) wr) ∧ Hid (Below b (w.alloc (.cells #[.string f.1, .slice A f.2.length c] 27)) wr)) (fun so _ => f.2.length - (intOf so).toNat)
  case atStart => exact ⟨0, rfl, Nat.zero_le _, HBu2, HX1⟩
  case round =>
    obtain ⟨k, rfl, hkl, HU, HB⟩ := hrel
    by_cases hlt : k < f.2.length
    · obtain ⟨b5, o5, cs5, rfl, K5, e5⟩ := (HW.out.mono (HA.out.trans (HB.out.mono hbw))).at k hlt
      obtain rfl : cs5 = [.string f.2[k].1, .int .i64 f.2[k].2] := K5
      have q0 : wr.cell? ⟨b5, o5 + k * 2, none⟩ = some (.string f.2[k].1) := by simpa [B.Kd.chunk, B.Kd.flat] using e5 0 (by simp)
      have q1 : wr.cell? ⟨b5, o5 + k * 2 + 1, none⟩ = some (.int .i64 f.2[k].2) := by simpa [B.Kd.chunk, B.Kd.flat] using e5 1 (by simp)
      have hk1 : (k : Int) < f.2.length := by omega
      have hsz := HS.out _ (List.getElem_mem hlt)
      have hln := leafL_len hk (f.2.take k) (fun d hd => HS.out d (List.mem_of_mem_take hd))
      have HLE : Hid ((Lib.byteCells (leafL f.1 (f.2.take k))).length + ((⟨#[10]⟩ : ByteArray) ++ f.2[k].1).size ≤ 140737488355328) := Lib.hid (by rw [Lib.byteCells_length, nl_size]; rw [List.length_take] at hln; omega)
      have HB2 := Lib.hid (fun (o : Obj) => HB.out.alloc (show b ≤ wr.heap.size by have := HB.out.size; simp at this; omega) o)
      have HU2 := Lib.hid (fun (o : Obj) => HU.out.elim (fun h => (Or.inl (h.alloc o) : Lib.IsBuilderF 97 5 b b (Lib.byteCells (leafL f.1 (f.2.take k))) (wr.alloc o))) (fun h => Or.inr (h.alloc o)))
      have HNX : Hid (Lib.byteCells (leafL f.1 (f.2.take k)) ++ Lib.strCells ((⟨#[10]⟩ : ByteArray) ++ f.2[k].1) = Lib.byteCells (leafL f.1 (f.2.take (k + 1)))) := Lib.hid (by rw [Lib.strCells_eq, nl_list, ← Lib.byteCells_append, ← List.take_append_getElem hlt, leafL_snoc])
      have hbr : b ≤ wr.heap.size := by have := HB.out.size; simp at this; omega
      have cw := fun o => Bd.write b b _ ((⟨#[10]⟩ : ByteArray) ++ f.2[k].1) _ (HU2.out o) HLE.out (by simp; omega)
      have hno : ¬ 9223372036854775807 < 1 + f.2[k].1.size := by omega
      clear e5 hln hsz
      go_wp2_with (go_at_call 56; refine (cw _).mono ?_; rintro e w7 ⟨rfl, HU7, HB7⟩)
      go_roundw
      case rel => exact ⟨k + 1, by go_num, by omega, Lib.hid (by rw [← HNX.out]; exact HU7), Lib.hid ((HB2.out _).trans HB7)⟩
      case measure => simp [intOf]; omega
    · obtain rfl : k = f.2.length := by omega
      have cs := Lib.hid (Tryz.Builder_String_any_f b b (leafL f.1 (f.2.take f.2.length)) wr HU.out (by have := HB.out.size; simp at this; omega))
      have HT2 := Lib.hid (fun (W : World) (h : Below b (w.alloc (.cells #[.string f.1, .slice A f.2.length c] 27)) W) => HT.out.below (HA.out.trans (h.mono hbw)))
      have hsz : (leafT f).size ≤ 9223372036854775807 := by
        have hln := leafL_len hk f.2 HS.out
        have e : (leafT f).size = (leafL f.1 f.2).length := by unfold leafT ByteArray.size; simp
        rw [e]; omega
      have HE : Hid ((⟨(leafL f.1 (f.2.take f.2.length)).toArray⟩ : ByteArray) = leafT f) := Lib.hid (by rw [List.take_length]; rfl)
      have cz := Lib.hid (fun W h => Hex.sumOf_any (leafT f) hsz W (HT2.out W h))
      go_wp2_with (first
        | (go_at_call 57; refine cs.out.mono ?_; rintro e w7 ⟨rfl, -, HB7⟩; rw [HE.out])
        | (go_at_call 28; refine (cz.out _ (HB.out.trans HB7)).mono ?_; rintro e w8 ⟨rfl, HB8⟩))
      go_ret
      exact ⟨rfl, (HA.out.trans ((HB.out.trans HB7).mono hbw)).trans (HB8.mono (by have := (HB.out.trans HB7).size; simp at this; omega))⟩
set_option maxHeartbeats 2000000 in
set_option maxRecDepth 100000 in
theorem fileSum (f : Fl) (A : Option Addr) (c : Nat) (hs : Small f) (w : World) (hC : B.Kd.chunk.C w A f.2) (ht : Hex.Tab w) :
    Calls Tryz.prog 45 #[.agg #[.string f.1, .slice A f.2.length c]] w fun e w' => e = .returned (.string (leafS f)) ∧ Below w.heap.size w w' := by
  obtain ⟨hk, hl, hcs⟩ := hs
  have HS := Lib.hid hcs
  have HB0 := Lib.hid ((Below.refl _ w).alloc (Nat.le_refl _) (.cells #[.string f.1, .slice A f.2.length c] 27))
  have HW := Lib.hid hC
  have HT := Lib.hid ht
  have L := HW.out.1
  clear hcs hC ht
  go_enter Tryz.func45, Tryz.ntmps45
  go_wp2
  go_loopw [3, 11] (fun s3 so wr => ∃ (k : Nat) (acc : ByteArray), s3 = .string acc ∧ so = .int .i64 k ∧ k ≤ f.2.length ∧ Hid (acc.data.toList = leafL f.1 (f.2.take k)) ∧ Hid (Below w.heap.size w wr)) (fun _ so _ => f.2.length - (intOf so).toNat)
  case atStart => exact ⟨0, f.1, rfl, rfl, Nat.zero_le _, Lib.hid (by simp [leafL]), HB0⟩
  case round =>
    obtain ⟨k, acc, rfl, rfl, hkl, HU, HB⟩ := hrel
    by_cases hlt : k < f.2.length
    · obtain ⟨b5, o5, cs5, rfl, K5, e5⟩ := (HW.out.mono HB.out).at k hlt
      obtain rfl : cs5 = [.string f.2[k].1, .int .i64 f.2[k].2] := K5
      have q0 : wr.cell? ⟨b5, o5 + k * 2, none⟩ = some (.string f.2[k].1) := by simpa [B.Kd.chunk, B.Kd.flat] using e5 0 (by simp)
      have q1 : wr.cell? ⟨b5, o5 + k * 2 + 1, none⟩ = some (.int .i64 f.2[k].2) := by simpa [B.Kd.chunk, B.Kd.flat] using e5 1 (by simp)
      have hk1 : (k : Int) < f.2.length := by omega
      have hsz := HS.out _ (List.getElem_mem hlt)
      have hln := leafL_len hk (f.2.take k) (fun d hd => HS.out d (List.mem_of_mem_take hd))
      have has : acc.size = (leafL f.1 (f.2.take k)).length := by rw [← HU.out]; rfl
      have hno : ¬ 9223372036854775807 < 1 + f.2[k].1.size := by omega
      have hno2 : ¬ 9223372036854775807 < acc.size + (1 + f.2[k].1.size) := by rw [has]; rw [List.length_take] at hln; omega
      have HB2 := Lib.hid (HB.out.alloc (show w.heap.size ≤ wr.heap.size from HB.out.size) (.cells #[.string f.2[k].1, .int .i64 f.2[k].2] 40))
      have HNX : Hid ((acc ++ ((⟨#[10]⟩ : ByteArray) ++ f.2[k].1)).data.toList = leafL f.1 (f.2.take (k + 1))) := Lib.hid (by
        rw [← List.take_append_getElem hlt, leafL_snoc, ← HU.out, ByteArray.data_append, Array.toList_append, nl_list])
      clear e5 hln hsz has
      go_wp2
      go_roundw
      case rel => exact ⟨k + 1, _, rfl, by go_num, by omega, HNX, HB2⟩
      case measure => simp [intOf]; omega
    · obtain rfl : k = f.2.length := by omega
      have HE : Hid (acc = leafT f) := Lib.hid (by
        have := HU.out
        rw [List.take_length] at this
        refine ByteArray.ext (Array.toList_inj.1 ?_)
        rw [this]; rfl)
      have hsz : (leafT f).size ≤ 9223372036854775807 := by
        have hln := leafL_len hk f.2 HS.out
        have e : (leafT f).size = (leafL f.1 f.2).length := by unfold leafT ByteArray.size; simp
        rw [e]; omega
      have cz := Hex.sum_any acc (by rw [HE.out]; exact hsz) wr (HT.out.below HB.out)
      go_wp2_with (go_at_call 33; refine cz.mono ?_; rintro e w8 ⟨rfl, HB8⟩)
      go_ret
      exact ⟨by rw [HE.out]; rfl, B.below_trans HB.out HB8⟩
end Go.Proofs.YtmcbljongeadeaaGreatDoor.Pf
