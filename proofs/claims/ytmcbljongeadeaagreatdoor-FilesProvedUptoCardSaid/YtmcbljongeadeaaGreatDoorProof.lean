/- sync.Proof and the reference's ProofOf. -/
import Derived.Test.YtmcbljongeadeaaGreatDoorRoot
import Derived.Test.YtmcbljongeadeaaGreatDoorVerify
namespace Go.Proofs.YtmcbljongeadeaaGreatDoor.Pf
open Go.RowKit

def twE (t : Tw) : List Value := [.bool t.1, .string t.2]
theorem twE1 : ∀ x : Tw, ∀ v ∈ twE x, v.oneCell' = true := by intro x v hv; simp [twE] at hv; rcases hv with rfl | rfl <;> rfl
theorem info_twig : (Tryz.prog.info? 33).map (fun i => (i.zero, i.size, i.bytes)) = some (some (.agg #[.bool false, .string ⟨#[]⟩]), 2, 24) := by kernel_rfl
theorem own_twig {w : World} {base : Nat} {e : TypeId} {v : Value} {xs : List Tw} (h : B.Own w base e 2 twE v xs) (hn : xs.length ≤ 140737488355328) : B.Kd.twig.S w v xs := B.own_S h hn
/-- The twig of one row. -/
def step (xs : List ByteArray) (i : Nat) : List Tw := if i % 2 = 1 then [(true, xs.getD (i - 1) ⟨#[]⟩)] else if i + 1 < xs.length then [(false, xs.getD (i + 1) ⟨#[]⟩)] else []
def proofGo : Nat → List ByteArray → Nat → List Tw
  | 0, _, _ => []
  | n + 1, xs, i => if 1 < xs.length then step xs i ++ proofGo n (pairs xs) (i / 2) else []
def rowsGo : List (List ByteArray) → Nat → List Tw
  | [], _ => []
  | r :: rs, i => step r i ++ rowsGo rs (i / 2)
def Fits : List (List ByteArray) → Nat → Prop
  | [], _ => True
  | r :: rs, i => i < r.length ∧ Fits rs (i / 2)
theorem proofGo_small {n : Nat} {xs : List ByteArray} (h : ¬ 1 < xs.length) (i : Nat) : proofGo n xs i = [] := by
  cases n with
  | zero => rfl
  | succ n => unfold proofGo; rw [if_neg h]
theorem lev_fits : ∀ (n : Nat) (xs : List ByteArray) (i : Nat), i < xs.length → Fits (lev n xs) i := by
  intro n
  induction n with
  | zero => intro xs i h; exact ⟨h, trivial⟩
  | succ n ih =>
    intro xs i h
    unfold lev
    split
    · exact ⟨h, ih (pairs xs) (i / 2) (by rw [pairs_length]; omega)⟩
    · exact ⟨h, trivial⟩
theorem rows_proof : ∀ (n : Nat) (xs : List ByteArray) (i : Nat), i < xs.length → xs.length ≤ n → rowsGo (lev n xs) i = proofGo n xs i := by
  intro n
  induction n with
  | zero => intro xs i h hn; omega
  | succ n ih =>
    intro xs i h hn
    unfold lev proofGo
    split
    · rename_i h1
      rw [rowsGo, ih (pairs xs) (i / 2) (by rw [pairs_length]; omega) (by rw [pairs_length]; omega)]
    · rename_i h1
      obtain rfl : i = 0 := by omega
      rw [rowsGo, rowsGo, step, if_neg (by decide), if_neg (by omega)]
      rfl
theorem step_le (xs : List ByteArray) (i : Nat) : (step xs i).length ≤ 1 := by
  unfold step; split
  · exact Nat.le_refl _
  · split
    · exact Nat.le_refl _
    · exact Nat.zero_le _
def proofF (no : Int) (l : List Fl) (key : ByteArray) : Int :=
  if Man.fault no l ≠ 0 then Man.fault no l else if Key.keyB key = false then 5 else match Fd.at? l key with | none => 8 | some _ => 0
def proofL (no : Int) (l : List Fl) (key : ByteArray) : List Tw :=
  if Man.fault no l ≠ 0 then [] else if Key.keyB key = false then [] else match Fd.at? l key with | none => [] | some i => proofGo l.length (l.map leafS) i
set_option maxHeartbeats 4000000 in
set_option maxRecDepth 100000 in
theorem proof (no : Int) (v : Value) (l : List Fl) (key : ByteArray) (hkey : key.size ≤ 9223372036854775807) (hs : ∀ f ∈ l, Small f) (hl : l.length ≤ 1048576) (w : World) (h : B.Kd.file.S w v l) (ht : Hex.Tab w) :
    Calls Tryz.prog 15 #[.agg #[.int .i64 no, v], .string key] w fun e w' => ∃ v', e = .returned (.tuple #[v', .int .i64 (proofF no l key)]) ∧ B.Kd.twig.S w' v' (proofL no l key) ∧ Below w.heap.size w w' := by
  have hk : ∀ f ∈ l, f.1.size ≤ 9223372036854775807 := fun f hf => by have := (hs f hf).1; omega
  have HA := Lib.hid (fun (c : Array Value) (o : TypeId) => (Below.refl _ w).alloc (Nat.le_refl _) (.cells c o))
  have HN := Lib.hid (fun (c : Array Value) (o : TypeId) (i : Nat) (u : Value) (w2 : World) (hb : Below (w.alloc (.cells c o)).heap.size (w.alloc (.cells c o)) w2) (hc : c[i]? = some u) => (B.cell_below hb (by rw [World.cell?_alloc_new]; exact hc) : w2.cell? ⟨w.heap.size, i, none⟩ = some u))
  have c1 := fun c o => Man.check no v l hk _ (h.mono (HA.out c o))
  have h' := h
  obtain ⟨A, c, rfl, C⟩ := h
  by_cases hf : Man.fault no l = 0
  · have c2 := fun W b hb => Key.isKey key b hb hkey W
    have HF : Hid (proofF no l key = if Key.keyB key = false then 5 else match Fd.at? l key with | none => 8 | some _ => 0) := Lib.hid (by unfold proofF; rw [if_neg (by simpa using hf)])
    have HL : Hid (proofL no l key = if Key.keyB key = false then [] else match Fd.at? l key with | none => [] | some i => proofGo l.length (l.map leafS) i) := Lib.hid (by unfold proofL; rw [if_neg (by simpa using hf)])
    by_cases hb : Key.keyB key = false
    · have HX : Hid (proofF no l key = 5) := Lib.hid (by rw [HF.out, if_pos hb])
      have HY : Hid (proofL no l key = []) := Lib.hid (by rw [HL.out, if_pos hb])
      have c2 := fun W => c2 W false hb
      rw [hf] at c1
      clear hb hf HF HL h' C hs ht
      go_enter Tryz.func15, Tryz.ntmps15
      go_wp2_with (first
        | (go_at_call 26; refine (c1 _ _).mono ?_; rintro e w2 ⟨rfl, HB⟩)
        | (go_at_call 34; refine (c2 _).mono ?_; rintro e w3 ⟨rfl, rfl⟩))
      go_ret2
      exact ⟨_, by rw [HX.out]; rfl, by rw [HY.out]; exact B.Kd.S_nil _ _, B.below_trans (HA.out _ _) HB⟩
    · have c2 := fun W => c2 W true (by simpa using hb)
      have c3 := fun W (hb : Below w.heap.size w W) => Fd.fileAt _ l key (Fd.rise_of hf) W (h'.mono hb)
      have HF2 : Hid (proofF no l key = match Fd.at? l key with | none => 8 | some _ => 0) := Lib.hid (by rw [HF.out, if_neg hb])
      have HL2 : Hid (proofL no l key = match Fd.at? l key with | none => [] | some i => proofGo l.length (l.map leafS) i) := Lib.hid (by rw [HL.out, if_neg hb])
      have HAT : Hid (∀ i, Fd.at? l key = some i → i < l.length) := Lib.hid (fun i h => by unfold Fd.at? at h; rw [List.findIdx?_eq_some_iff_getElem] at h; exact h.1)
      rw [hf] at c1
      clear hb hf HF HL
      cases ha : Fd.at? l key with
      | none =>
        have HX : Hid (proofF no l key = 8) := Lib.hid (by rw [HF2.out, ha])
        have HY : Hid (proofL no l key = []) := Lib.hid (by rw [HL2.out, ha])
        have HFB : Hid (∀ b : Bool, ∀ i : Nat, Fd.at? l key = (if b then some i else none) → b = false) := Lib.hid (fun b i h => by cases b with | false => rfl | true => rw [ha] at h; cases h)
        clear ha HF2 HL2 h' C hs ht HAT
        go_enter Tryz.func15, Tryz.ntmps15
        go_wp2_with (first
          | (go_at_call 26; refine (c1 _ _).mono ?_; rintro e w2 ⟨rfl, HB⟩; have g1 := HN.out _ _ 1 (.slice A l.length c) _ HB rfl; have HB2 := B.below_trans (HA.out _ _) HB)
          | (go_at_call 34; refine (c2 _).mono ?_; rintro e w3 ⟨rfl, rfl⟩)
          | (go_at_call 35; refine (c3 _ HB2).mono ?_; rintro e w4 ⟨⟨i, b, rfl, hX⟩, HB3⟩; obtain rfl := HFB.out b i hX; clear hX))
        go_ret2
        exact ⟨_, by rw [HX.out]; rfl, by rw [HY.out]; exact B.Kd.S_nil _ _, B.below_trans HB2 HB3⟩
      | some i0 =>
        have hi0 := HAT.out i0 ha
        have HX : Hid (proofF no l key = 0) := Lib.hid (by rw [HF2.out, ha])
        have HY : Hid (proofL no l key = proofGo l.length (l.map leafS) i0) := Lib.hid (by rw [HL2.out, ha])
        have HFB : Hid (∀ b : Bool, ∀ i : Nat, Fd.at? l key = (if b then some i else none) → b = true ∧ i = i0) := Lib.hid (fun b i h => by cases b with | false => rw [ha] at h; cases h | true => rw [ha] at h; exact ⟨rfl, (Option.some.inj h).symm⟩)
        have c4 := fun W (hb : Below w.heap.size w W) => leaves no _ l hs hl W (h'.mono hb) (ht.below hb)
        have HT := Lib.hid ht
        have H16 := Lib.hid (All16.leaves l)
        have HXL := Lib.hid (show (l.map leafS).length = l.length from List.length_map ..)
        clear ha HF2 HL2 h' C hs ht HAT
        generalize l.map leafS = xs at c4 H16 HY HXL
        go_enter Tryz.func15, Tryz.ntmps15
        go_wp2_with (first
          | (go_at_call 26; refine (c1 _ _).mono ?_; rintro e w2 ⟨rfl, HB⟩; have g0 := HN.out _ _ 0 (.int .i64 no) _ HB rfl; have g1 := HN.out _ _ 1 (.slice A l.length c) _ HB rfl; have HB2 := B.below_trans (HA.out _ _) HB)
          | (go_at_call 34; refine (c2 _).mono ?_; rintro e w3 ⟨rfl, rfl⟩)
          | (go_at_call 35; refine (c3 _ HB2).mono ?_; rintro e w4 ⟨⟨i, b, rfl, hX⟩, HB3⟩; obtain ⟨rfl, rfl⟩ := HFB.out b i hX; clear hX; have HB4 := B.below_trans HB2 HB3; have g0 := B.cell_below HB3 g0; have g1 := B.cell_below HB3 g1)
          | (go_at_call 27; refine (c4 _ HB4).mono ?_; rintro e w5 ⟨v5, rfl, HO5, HB5⟩; obtain ⟨A5, c5, rfl⟩ := Copy.shape HO5; have HB6 := B.below_trans HB4 HB5))
        obtain ⟨i0, hi0'⟩ : ∃ x, x = i := ⟨_, rfl⟩
        subst hi0'
        have HB7 := Lib.hid HB6
        have HO6 := Lib.hid (Copy.own_mono HO5 (show w.heap.size ≤ w4.heap.size from HB4.size))
        clear HB HB2 HB3 HB4 HB5 HB6 HO5 g0 g1 HN HA c1 c2 c3 c4 HFB
        go_loopw [7, 9, 10] (fun s7 s9 s10 wr => ∃ (i n : Nat) (cur : List ByteArray) (out : List Tw) (Ac : Option Addr) (cc : Nat), s7 = .int .i64 i ∧ s10 = .slice Ac cur.length cc ∧ i < cur.length ∧ cur.length ≤ n ∧ cur.length ≤ 1048576 ∧ out.length + n ≤ l.length ∧ Hid (B.Own wr w.heap.size 33 2 twE s9 out) ∧ Hid (proofGo l.length xs i0 = out ++ proofGo n cur i) ∧ Hid (B.Own wr w.heap.size 9 1 stE (.slice Ac cur.length cc) cur) ∧ Hid (All16 cur) ∧ Hid (Below w.heap.size w wr)) (fun _ _ s10 _ => lenV s10)
        case atStart => exact ⟨i0, l.length, xs, [], A5, c5, rfl, rfl, by have := HXL.out; omega, by have := HXL.out; omega, by have := HXL.out; omega, by simp, Lib.hid (B.Own.nil _ _ _ _ _), Lib.hid rfl, HO6, H16, HB7⟩
        case round =>
          obtain ⟨i, n, cur, out, Ac, cc, rfl, rfl, hic, hcn, hcm, hon, HW, HP, HC, H16, HB⟩ := hrel
          by_cases h1 : 1 < cur.length
          · obtain ⟨m, rfl, hm⟩ := pairs_le h1 hcn
            have h1i : (1 : Int) < cur.length := by omega
            have HP2 : Hid (proofGo l.length xs i0 = (out ++ step cur i) ++ proofGo m (pairs cur) (i / 2)) := Lib.hid (by rw [HP.out, proofGo, if_pos h1, List.append_assoc])
            have HPL := Lib.hid (pairs_length cur)
            obtain ⟨Ac', cc', ee, D⟩ := B.own_str HC.out (by omega)
            cases ee
            have cp := Lib.hid (fun W (ho : B.Own W w.heap.size 9 1 stE (.slice Ac cur.length cc) cur) (hb : Below w.heap.size w W) => paired _ cur hcm H16.out W (B.own_str ho (by omega)) (HT.out.below hb))
            clear HP
            by_cases ho : i % 2 = 1
            · obtain ⟨b5, o5, rfl, q0⟩ := str_at D (i - 1) (by omega)
              have HE : Hid (step cur i = [(true, cur[i - 1])]) := Lib.hid (by unfold step; rw [if_pos ho, List.getD_eq_getElem?_getD, List.getElem?_eq_getElem (by omega)]; rfl)
              have hoi : (i : Int) % 2 = 1 := by omega
              have hi1 : (i : Int) - 1 < cur.length := by omega
              have hi2 : (0 : Int) ≤ (i : Int) - 1 := by omega
              generalize cur[i - 1] = x at q0 HE
              go_wp2_with (first
                | (at_builtin; refine Copy.wpl_append_g (w0 := w) w.heap.size rfl _ _ 28 33 (.agg #[.bool false, .string ⟨#[]⟩]) 2 24 rfl Tryz.underlying28 info_twig rfl (by decide) (by decide) twE (fun _ => rfl) twE1 _ out (true, x) _ rfl HW.out rfl _ rfl rfl HB.out HB.out.size (by omega) ?_; intro v8 w8 HW8 HB8 HG8; have HC8 := Copy.own_grown (Copy.own_alloc HC.out _) HG8 (Copy.sep (Copy.own_alloc HW.out (.cells #[.bool true, .string x] 33)) (Copy.own_alloc HC.out (.cells #[.bool true, .string x] 33)) (by decide)))
                | (go_at_call 29; refine (cp.out _ HC8 HB8).mono ?_; rintro e w9 ⟨v9, rfl, HO9, HB9⟩; obtain ⟨A9, c9, rfl⟩ := Copy.shape HO9))
              go_roundw
              case rel => exact ⟨i / 2, m, pairs cur, _, A9, c9, congrArg _ (by omega), rfl, by have := HPL.out; omega, hm, by have := HPL.out; omega, by simp; omega, Lib.hid (HW8.below HB9), Lib.hid (by rw [HP2.out, HE.out]), Lib.hid (Copy.own_mono HO9 (HB8.size)), Lib.hid H16.out.pairs, Lib.hid (B.below_trans HB8 HB9)⟩
              case measure => exact (show (pairs cur).length < cur.length by have := HPL.out; omega)

            · by_cases hr : i + 1 < cur.length
              · obtain ⟨b5, o5, rfl, q0⟩ := str_at D (i + 1) hr
                have HE : Hid (step cur i = [(false, cur[i + 1])]) := Lib.hid (by unfold step; rw [if_neg ho, if_pos hr, List.getD_eq_getElem?_getD, List.getElem?_eq_getElem hr]; rfl)
                have hoi : ¬ (i : Int) % 2 = 1 := by omega
                have hri : (i : Int) + 1 < cur.length := by omega
                generalize cur[i + 1] = x at q0 HE
                go_wp2_with (first
                  | (at_builtin; refine Copy.wpl_append_g (w0 := w) w.heap.size rfl _ _ 28 33 (.agg #[.bool false, .string ⟨#[]⟩]) 2 24 rfl Tryz.underlying28 info_twig rfl (by decide) (by decide) twE (fun _ => rfl) twE1 _ out (false, x) _ rfl HW.out rfl _ rfl rfl HB.out HB.out.size (by omega) ?_; intro v8 w8 HW8 HB8 HG8; have HC8 := Copy.own_grown (Copy.own_alloc HC.out _) HG8 (Copy.sep (Copy.own_alloc HW.out (.cells #[.bool false, .string x] 33)) (Copy.own_alloc HC.out (.cells #[.bool false, .string x] 33)) (by decide)))
                  | (go_at_call 29; refine (cp.out _ HC8 HB8).mono ?_; rintro e w9 ⟨v9, rfl, HO9, HB9⟩; obtain ⟨A9, c9, rfl⟩ := Copy.shape HO9))
                go_roundw
                case rel => exact ⟨i / 2, m, pairs cur, _, A9, c9, congrArg _ (by omega), rfl, by have := HPL.out; omega, hm, by have := HPL.out; omega, by simp; omega, Lib.hid (HW8.below HB9), Lib.hid (by rw [HP2.out, HE.out]), Lib.hid (Copy.own_mono HO9 (HB8.size)), Lib.hid H16.out.pairs, Lib.hid (B.below_trans HB8 HB9)⟩
                case measure => exact (show (pairs cur).length < cur.length by have := HPL.out; omega)

              · have HE : Hid (step cur i = []) := Lib.hid (by unfold step; rw [if_neg ho, if_neg hr])
                have hoi : ¬ (i : Int) % 2 = 1 := by omega
                have hri : ¬ (i : Int) + 1 < cur.length := by omega
                go_wp2_with ((go_at_call 29; refine (cp.out _ HC.out HB.out).mono ?_; rintro e w9 ⟨v9, rfl, HO9, HB9⟩; obtain ⟨A9, c9, rfl⟩ := Copy.shape HO9))
                go_roundw
                case rel => exact ⟨i / 2, m, pairs cur, out, A9, c9, congrArg _ (by omega), rfl, by have := HPL.out; omega, hm, by have := HPL.out; omega, by omega, Lib.hid (HW.out.below HB9), Lib.hid (by rw [HP2.out, HE.out]; rw [List.append_nil]), Lib.hid (Copy.own_mono HO9 (HB.out.size)), Lib.hid H16.out.pairs, Lib.hid (B.below_trans HB.out HB9)⟩
                case measure => exact (show (pairs cur).length < cur.length by have := HPL.out; omega)

          · have h1i : ¬ (1 : Int) < cur.length := by omega
            have HP2 : Hid (proofGo l.length xs i0 = out) := Lib.hid (by rw [HP.out, proofGo_small h1, List.append_nil])
            go_wp2
            go_ret2
            exact ⟨_, by rw [HX.out]; rfl, by rw [HY.out, HP2.out]; exact own_twig HW.out (by omega), HB.out⟩
  · have HX : Hid (proofF no l key = Man.fault no l) := Lib.hid (by unfold proofF; rw [if_pos hf])
    have HY : Hid (proofL no l key = []) := Lib.hid (by unfold proofL; rw [if_pos hf])
    generalize Man.fault no l = n at c1 hf HX
    go_enter Tryz.func15, Tryz.ntmps15
    go_wp2_with (go_at_call 26; refine (c1 _ _).mono ?_; rintro e w2 ⟨rfl, HB⟩)
    go_ret2
    exact ⟨_, by rw [HX.out]; rfl, by rw [HY.out]; exact B.Kd.S_nil _ _, B.below_trans (HA.out _ _) HB⟩
def proofR (l : List Fl) (key : ByteArray) : List Tw := match Fd.at? l key with | none => [] | some i => proofGo l.length (l.map leafS) i
theorem lev_len : ∀ (n : Nat) (xs : List ByteArray), (lev n xs).length ≤ n + 1 := by
  intro n
  induction n with
  | zero => intro xs; exact Nat.le_refl _
  | succ n ih =>
    intro xs
    unfold lev
    split
    · have := ih (pairs xs); simp; omega
    · simp
set_option maxHeartbeats 4000000 in
set_option maxRecDepth 100000 in
theorem proofOf (no : Int) (v : Value) (l : List Fl) (key : ByteArray) (hs : ∀ f ∈ l, Small f) (hl : l.length ≤ 1048576) (w : World) (h : B.Kd.file.S w v l) (ht : Hex.Tab w) :
    Calls Tryz.prog 18 #[.agg #[.int .i64 no, v], .string key] w fun e w' => ∃ v', e = .returned (.tuple #[v', .bool (Fd.at? l key).isSome]) ∧ B.Kd.twig.S w' v' (proofR l key) ∧ Below w.heap.size w w' := by
  have HA := Lib.hid (fun (c : Array Value) (o : TypeId) => (Below.refl _ w).alloc (Nat.le_refl _) (.cells c o))
  have HN := Lib.hid (fun (c : Array Value) (o : TypeId) (i : Nat) (u : Value) (w2 : World) (hb : Below (w.alloc (.cells c o)).heap.size (w.alloc (.cells c o)) w2) (hc : c[i]? = some u) => (B.cell_below hb (by rw [World.cell?_alloc_new]; exact hc) : w2.cell? ⟨w.heap.size, i, none⟩ = some u))
  have c1 := fun c o => Fd.refAt v l key _ (h.mono (HA.out c o))
  have c2 := fun W (hb : Below w.heap.size w W) => levels' no _ l hs hl W (h.mono hb) (ht.below hb)
  have HAT : Hid (∀ i, Fd.at? l key = some i → i < l.length) := Lib.hid (fun i h => by unfold Fd.at? at h; rw [List.findIdx?_eq_some_iff_getElem] at h; exact h.1)
  obtain ⟨A, c, rfl, C⟩ := h
  have HL : Hid (proofR l key = match Fd.at? l key with | none => [] | some i => proofGo l.length (l.map leafS) i) := Lib.hid rfl
  cases ha : Fd.at? l key with
  | none =>
    have HY : Hid (proofR l key = []) := Lib.hid (by rw [HL.out, ha])
    rw [ha] at c1
    have c1 := fun c o => (c1 c o)
    simp only [Fd.idxI] at c1
    clear ha HL HAT C hs ht c2
    go_enter Tryz.func18, Tryz.ntmps18
    go_wp2_with (go_at_call 37; refine (c1 _ _).mono ?_; rintro e w2 ⟨rfl, HB⟩)
    go_ret2
    exact ⟨_, rfl, by rw [HY.out]; exact B.Kd.S_nil _ _, B.below_trans (HA.out _ _) HB⟩
  | some i0 =>
    have hi0 := HAT.out i0 ha
    have HY : Hid (proofR l key = proofGo l.length (l.map leafS) i0) := Lib.hid (by rw [HL.out, ha])
    rw [ha] at c1
    simp only [Fd.idxI] at c1
    have HXL := Lib.hid (show (l.map leafS).length = l.length from List.length_map ..)
    have HT := Lib.hid ht
    clear ha HL HAT C hs ht
    generalize l.map leafS = xs at c2 HY HXL
    have HFit := Lib.hid (lev_fits l.length xs i0 (by rw [HXL.out]; exact hi0))
    have HRows := Lib.hid (rows_proof l.length xs i0 (by rw [HXL.out]; exact hi0) (by rw [HXL.out]; exact Nat.le_refl _))
    have HLL := Lib.hid (lev_len l.length xs)
    generalize lev l.length xs = ls at c2 HFit HRows HLL
    have hneg : ¬ (i0 : Int) < 0 := by omega
    go_enter Tryz.func18, Tryz.ntmps18
    go_wp2_with (first
      | (go_at_call 37; refine (c1 _ _).mono ?_; rintro e w2 ⟨rfl, HB⟩; have g0 := HN.out _ _ 0 (.int .i64 no) _ HB rfl; have g1 := HN.out _ _ 1 (.slice A l.length c) _ HB rfl; have HB2 := B.below_trans (HA.out _ _) HB)
      | (go_at_call 32; refine (c2 _ HB2).mono ?_; rintro e w3 ⟨v3, rfl, ⟨A3, c3, rfl, D3⟩, HB3⟩; have HB4 := B.below_trans HB2 HB3))
    have HB5 := Lib.hid HB4
    have L3 := D3.1
    clear HB HB2 HB3 HB4 g0 g1 HN HA c1 c2
    go_loopw [6, 7, 19] (fun s6 s7 s19 wr => ∃ (q i : Nat) (out : List Tw), s6 = .int .i64 i ∧ s19 = .int .i64 q ∧ q ≤ ls.length ∧ out.length ≤ q ∧ Hid (Fits (ls.drop q) i) ∧ Hid (B.Own wr w3.heap.size 33 2 twE s7 out) ∧ Hid (rowsGo ls i0 = out ++ rowsGo (ls.drop q) i) ∧ Hid (Below w3.heap.size w3 wr)) (fun _ _ s19 _ => ls.length - (intOf s19).toNat)
    case atStart => exact ⟨0, i0, [], rfl, rfl, Nat.zero_le _, Nat.le_refl _, HFit, Lib.hid (B.Own.nil _ _ _ _ _), Lib.hid rfl, Lib.hid (Below.refl _ _)⟩
    case round =>
      obtain ⟨q, i, out, rfl, rfl, hq, hoq, HFt, HW, HR, HB⟩ := hrel
      by_cases hlt : q < ls.length
      · obtain ⟨b1, o1, cs1, rfl, K1, e1⟩ := D3.at q hlt
        obtain ⟨A2, c2, rfl, D⟩ := K1
        have f0 : wr.cell? ⟨b1, o1 + q, none⟩ = some (.slice A2 ls[q].length c2) := by simpa [B.Kd.sl] using B.cell_below HB.out (e1 0 (by simp))
        have hk1 : (q : Int) < ls.length := by omega
        have hF := HFt.out
        rw [List.drop_eq_getElem_cons hlt] at hF
        have hic : i < ls[q].length := hF.1
        have HF2 := Lib.hid hF.2
        have HR2 : Hid (rowsGo ls i0 = (out ++ step ls[q] i) ++ rowsGo (ls.drop (q + 1)) (i / 2)) := Lib.hid (by rw [HR.out, List.drop_eq_getElem_cons hlt, rowsGo, List.append_assoc])
        have hll := HLL.out
        clear e1 hF HR HFt
        generalize ls[q] = cur at f0 hic HR2 D
        have hcl := D.1
        by_cases ho : i % 2 = 1
        · obtain ⟨b5, o5, rfl, q0'⟩ := str_at D (i - 1) (by omega)
          have q0 := B.cell_below HB.out q0'
          have HE : Hid (step cur i = [(true, cur[i - 1])]) := Lib.hid (by unfold step; rw [if_pos ho, List.getD_eq_getElem?_getD, List.getElem?_eq_getElem (by omega)]; rfl)
          have hoi : (i : Int) % 2 = 1 := by omega
          have hi1 : (i : Int) - 1 < cur.length := by omega
          have hi2 : (0 : Int) ≤ (i : Int) - 1 := by omega
          clear q0'
          generalize cur[i - 1] = x at q0 HE
          go_wp2_with (at_builtin; refine Copy.wpl_append_g (w0 := w3) w3.heap.size rfl _ _ 28 33 (.agg #[.bool false, .string ⟨#[]⟩]) 2 24 rfl Tryz.underlying28 info_twig rfl (by decide) (by decide) twE (fun _ => rfl) twE1 _ out (true, x) _ rfl HW.out rfl _ rfl rfl HB.out HB.out.size (by omega) ?_; intro v8 w8 HW8 HB8 HG8)
          go_roundw
          case rel => exact ⟨q + 1, i / 2, _, congrArg _ (by omega), by go_num, by omega, by simp; omega, HF2, Lib.hid HW8, Lib.hid (by rw [HR2.out, HE.out]), Lib.hid HB8⟩
          case measure => simp [intOf]; omega
        · by_cases hr : i + 1 < cur.length
          · obtain ⟨b5, o5, rfl, q0'⟩ := str_at D (i + 1) hr
            have q0 := B.cell_below HB.out q0'
            have HE : Hid (step cur i = [(false, cur[i + 1])]) := Lib.hid (by unfold step; rw [if_neg ho, if_pos hr, List.getD_eq_getElem?_getD, List.getElem?_eq_getElem hr]; rfl)
            have hoi : ¬ (i : Int) % 2 = 1 := by omega
            have hri : (i : Int) + 1 < cur.length := by omega
            clear q0'
            generalize cur[i + 1] = x at q0 HE
            go_wp2_with (at_builtin; refine Copy.wpl_append_g (w0 := w3) w3.heap.size rfl _ _ 28 33 (.agg #[.bool false, .string ⟨#[]⟩]) 2 24 rfl Tryz.underlying28 info_twig rfl (by decide) (by decide) twE (fun _ => rfl) twE1 _ out (false, x) _ rfl HW.out rfl _ rfl rfl HB.out HB.out.size (by omega) ?_; intro v8 w8 HW8 HB8 HG8)
            go_roundw
            case rel => exact ⟨q + 1, i / 2, _, congrArg _ (by omega), by go_num, by omega, by simp; omega, HF2, Lib.hid HW8, Lib.hid (by rw [HR2.out, HE.out]), Lib.hid HB8⟩
            case measure => simp [intOf]; omega
          · have HE : Hid (step cur i = []) := Lib.hid (by unfold step; rw [if_neg ho, if_neg hr])
            have hoi : ¬ (i : Int) % 2 = 1 := by omega
            have hri : ¬ (i : Int) + 1 < cur.length := by omega
            go_wp2
            go_roundw
            case rel => exact ⟨q + 1, i / 2, out, congrArg _ (by omega), by go_num, by omega, by omega, HF2, HW, Lib.hid (by rw [HR2.out, HE.out, List.append_nil]), HB⟩
            case measure => simp [intOf]; omega
      · obtain rfl : q = ls.length := by omega
        have HX : Hid (rowsGo ls i0 = out) := Lib.hid (by rw [HR.out, List.drop_length]; exact List.append_nil _)
        have hll := HLL.out
        go_wp2
        go_ret2
        exact ⟨_, rfl, by rw [HY.out, ← HRows.out, HX.out]; exact own_twig HW.out (by omega), HB5.out.trans (HB.out.mono HB5.out.size)⟩
end Go.Proofs.YtmcbljongeadeaaGreatDoor.Pf
