/- What is told of manifests: sync.Bytes, Missing, Spare and the reference's. -/
import Derived.Test.YtmcbljongeadeaaDoorMan
namespace Go.Proofs.YtmcbljongeadeaaDoor.Told
open Go.RowKit

abbrev Ck := Files.Ck
abbrev Fl := Files.Fl
instance memDec (k : ByteArray) (ks : List ByteArray) : Decidable (k ∈ ks) := decidable_of_iff (ks.any (fun x => decide (x = k)) = true) ⟨fun h => by obtain ⟨x, hx, e⟩ := List.any_eq_true.1 h; have := of_decide_eq_true e; subst this; exact hx, fun h => List.any_eq_true.2 ⟨k, h, decide_eq_true rfl⟩⟩
theorem look_put (es : M.Es) (k k' : ByteArray) (v : Value) : M.look (M.put es k v) k' = if k' = k then some v else M.look es k' := by
  unfold M.put
  split
  · rename_i hany
    induction es with
    | nil => simp at hany
    | cons p es ih =>
      unfold M.look
      rw [List.map_cons, List.find?_cons, List.find?_cons]
      by_cases hp : p.1 = k
      · rw [if_pos hp]
        by_cases hk : k' = k
        · simp [hk]
        · rw [if_neg hk]
          have h1 : decide (k = k') = false := decide_eq_false (fun e => hk e.symm)
          have h2 : decide (p.1 = k') = false := decide_eq_false (fun e => hk (by rw [← e, hp]))
          simp only [h1, h2]
          by_cases ha : es.any (fun p => decide (p.1 = k)) = true
          · have := ih ha
            rw [if_neg hk] at this
            exact this
          · have : es.map (fun p => if p.1 = k then (k, v) else p) = es := by
              conv => { rhs; rw [← List.map_id es] }
              apply List.map_congr_left
              intro q hq
              rw [if_neg (fun e => ha (List.any_eq_true.2 ⟨q, hq, by simpa using e⟩))]
              rfl
            rw [this]
      · rw [if_neg hp]
        by_cases hk : p.1 = k'
        · have h1 : decide (p.1 = k') = true := decide_eq_true hk
          simp only [h1]
          rw [if_neg (fun e => hp (by rw [hk, e]))]
        · have h1 : decide (p.1 = k') = false := decide_eq_false hk
          simp only [h1]
          have ha : es.any (fun p => decide (p.1 = k)) = true := by
            rw [List.any_cons, decide_eq_false hp, Bool.false_or] at hany
            exact hany
          exact ih ha
  · rename_i hany
    have hno : ∀ p ∈ es, p.1 ≠ k := fun p hp e => hany (List.any_eq_true.2 ⟨p, hp, by simpa using e⟩)
    by_cases hk : k' = k
    · subst hk
      rw [if_pos rfl]
      unfold M.look
      have hf : es.find? (fun p => decide (p.1 = k')) = none := List.find?_eq_none.2 (fun p hp => by simpa using hno p hp)
      rw [List.find?_append, hf]
      simp
    · rw [if_neg hk]
      unfold M.look
      rw [List.find?_append]
      have : [(k, v)].find? (fun p => decide (p.1 = k')) = none := by simp; exact fun e => hk e.symm
      rw [this]
      simp
/-- These keys are marked, and no others. -/
def Seen (es : M.Es) (ks : List ByteArray) : Prop := ∀ k, M.look es k = if k ∈ ks then some (.bool true) else none
theorem Seen.nil : Seen [] [] := fun _ => rfl
theorem Seen.put {es : M.Es} {ks : List ByteArray} (h : Seen es ks) (k : ByteArray) : Seen (M.put es k (.bool true)) (k :: ks) := by
  intro k'
  rw [look_put, h k']
  by_cases e : k' = k
  · simp [e]
  · simp [e]
/-- The chunks whose sums were not seen, each sum once. -/
def each : List ByteArray → List Ck → List Ck
  | _, [] => []
  | ks, c :: cs => if c.1 ∈ ks then each ks cs else c :: each (c.1 :: ks) cs
theorem each_congr {ks ks' : List ByteArray} (h : ∀ k, k ∈ ks ↔ k ∈ ks') (cs : List Ck) : each ks cs = each ks' cs := by
  induction cs generalizing ks ks' with
  | nil => rfl
  | cons c cs ih =>
    unfold each
    by_cases hc : c.1 ∈ ks
    · rw [if_pos hc, if_pos ((h _).1 hc), ih h]
    · rw [if_neg hc, if_neg (fun e => hc ((h _).2 e)), ih (ks := c.1 :: ks) (ks' := c.1 :: ks') (fun k => by simp [h k])]
/-- What is not there of each is each of what is not there. -/
theorem each_filter (have' ks : List ByteArray) (cs : List Ck) : (each ks cs).filter (fun c => !decide (c.1 ∈ have')) = each (have' ++ ks) cs := by
  induction cs generalizing ks with
  | nil => rfl
  | cons c cs ih =>
    unfold each
    by_cases hk : c.1 ∈ ks
    · rw [if_pos hk, if_pos (by simp [hk]), ih]
    · rw [if_neg hk]
      by_cases hh : c.1 ∈ have'
      · rw [List.filter_cons_of_neg (by simp [hh]), if_pos (by simp [hh]), ih]
        exact each_congr (fun k => by simp; exact ⟨fun h => by exact h.elim .inl (fun h => h.elim (fun e => .inl (e ▸ hh)) .inr), fun h => by exact h.elim .inl (fun h => .inr (.inr h))⟩) cs
      · rw [List.filter_cons_of_pos (by simp [hh]), if_neg (by simp [hh, hk]), ih]
        congr 1
        exact each_congr (fun k => by simp; exact ⟨fun h => by exact h.elim (fun h => .inr (.inl h)) (fun h => h.elim .inl (fun h => .inr (.inr h))), fun h => by exact h.elim (fun h => .inr (.inl h)) (fun h => h.elim .inl (fun h => .inr (.inr h)))⟩) cs
/-- A sum of lengths, as the machine adds. -/
def addW (n : Int) (cs : List Ck) : Int := cs.foldl (fun a c => wrap64 (a + c.2)) n
theorem addW_cons (n : Int) (c : Ck) (cs : List Ck) : addW n (c :: cs) = addW (wrap64 (n + c.2)) cs := rfl
theorem zeroBool (w : World) : (zeroValue 4).run Tryd.prog w = .ok (.bool false) w := by kernel_rfl
theorem bytes_bad (no : Int) (v : Value) (l : List Fl) (hk : ∀ f ∈ l, f.1.size ≤ 9223372036854775807) (w : World) (h : B.Kd.file.S w v l) (hf : Man.fault no l ≠ 0) :
    Calls Tryd.prog 12 #[.agg #[.int .i64 no, v]] w fun e w' => e = .returned (.tuple #[.int .i64 0, .int .i64 0, .int .i64 (Man.fault no l)]) ∧ Below w.heap.size w w' := by
  have HA := Lib.hid (fun (c : Array Value) (o : TypeId) => (Below.refl _ w).alloc (Nat.le_refl _) (.cells c o))
  have c1 := fun c o => Man.check no v l hk _ (h.mono (HA.out c o))
  obtain ⟨A, c, rfl, -⟩ := h
  generalize Man.fault no l = n at c1 hf
  go_enter Tryd.func12, Tryd.ntmps12
  go_wp2_with (go_at_call 11; refine (c1 _ _).mono ?_; rintro e w2 ⟨rfl, HB⟩)
  go_ret3
  exact ⟨rfl, B.below_trans (HA.out _ _) HB⟩
set_option maxHeartbeats 4000000 in
theorem bytes_ok (no : Int) (v : Value) (l : List Fl) (hk : ∀ f ∈ l, f.1.size ≤ 9223372036854775807) (w : World) (h : B.Kd.file.S w v l) (hf : Man.fault no l = 0) :
    Calls Tryd.prog 12 #[.agg #[.int .i64 no, v]] w fun e w' => e = .returned (.tuple #[.int .i64 (addW 0 (l.flatMap (·.2))), .int .i64 (addW 0 (each [] (l.flatMap (·.2)))), .int .i64 0]) ∧ Below w.heap.size w w' := by
  have HA := Lib.hid (fun (c : Array Value) (o : TypeId) => (Below.refl _ w).alloc (Nat.le_refl _) (.cells c o))
  have c1 := fun c o => Man.check no v l hk _ (h.mono (HA.out c o))
  rw [hf] at c1
  clear hf hk
  obtain ⟨A, c, rfl, C⟩ := h
  have L1 := C.1
  have HN := Lib.hid (fun (c : Array Value) (o : TypeId) (i : Nat) (u : Value) (w2 : World) (hb : Below (w.alloc (.cells c o)).heap.size (w.alloc (.cells c o)) w2) (hc : c[i]? = some u) => (B.cell_below hb (by rw [World.cell?_alloc_new]; exact hc) : w2.cell? ⟨w.heap.size, i, none⟩ = some u))
  have hmm := @run_makeMap Tryd.prog
  go_enter Tryd.func12, Tryd.ntmps12
  go_wp2_with (go_at_call 11; refine (c1 _ _).mono ?_; rintro e w2 ⟨rfl, HB⟩; have g0 := HN.out _ _ 0 _ _ HB rfl; have g1 := HN.out _ _ 1 _ _ HB rfl; have k1 := fun o => B.cell_below ((Below.refl _ w2).alloc (Nat.le_refl _) o) g1; have HBm := Lib.hid (B.below_trans (HA.out _ _) HB))
  have HOM := Lib.hid (M.OM.made w2)
  have HB2 := Lib.hid (HBm.out.alloc (show w.heap.size ≤ w2.heap.size from HBm.out.size) (.map #[] 0))
  have hbw : w.heap.size ≤ w2.heap.size := HBm.out.size
  clear HBm HB g0 g1 k1 HN c1 HA
  generalize w2.heap.size = bm at HOM hbw ⊢
  go_loopw [2, 3, 20] (fun s2 s3 so wr => ∃ (k : Nat) (n m : Int) (es : M.Es) (ks : List ByteArray), so = .int .i64 k ∧ s2 = .int .i64 n ∧ s3 = .int .i64 m ∧ k ≤ l.length ∧ Hid (Seen es ks) ∧ Hid (M.OM wr bm es) ∧ Hid (addW 0 (l.flatMap (·.2)) = addW n ((l.drop k).flatMap (·.2))) ∧ Hid (addW 0 (each [] (l.flatMap (·.2))) = addW m (each ks ((l.drop k).flatMap (·.2)))) ∧ Hid (Below w.heap.size w wr)) (fun _ _ so _ => l.length - (intOf so).toNat)
  case atStart => exact ⟨0, 0, 0, [], [], rfl, rfl, rfl, by omega, Lib.hid Seen.nil, HOM, Lib.hid rfl, Lib.hid rfl, HB2⟩
  case round =>
    obtain ⟨k, n, m, es, ks, rfl, rfl, rfl, hk, HS, HO, HE, HF, HB⟩ := hrel
    by_cases hlt : k < l.length
    · obtain ⟨b1, o1, cs1, rfl, K1, e1⟩ := C.at k hlt
      obtain ⟨A2, c2, rfl, D⟩ := K1
      have f0 : wr.cell? ⟨b1, o1 + k * 2, none⟩ = some (.string l[k].1) := by simpa [B.Kd.file] using B.cell_below HB.out (e1 0 (by simp))
      have f1 : wr.cell? ⟨b1, o1 + k * 2 + 1, none⟩ = some (.slice A2 l[k].2.length c2) := by simpa [B.Kd.file] using B.cell_below HB.out (e1 1 (by simp))
      have hk1 : (k : Int) < l.length := by omega
      have L2 := D.1
      have HD := Lib.hid D
      have HS1 := Lib.hid (HB.out.alloc (show w.heap.size ≤ wr.heap.size from HB.out.size) (.cells #[.string l[k].1, .slice A2 l[k].2.length c2] 53))
      have HO1 := Lib.hid (HO.out.below ((Below.refl _ _).alloc (Nat.le_refl _) (.cells #[.string l[k].1, .slice A2 l[k].2.length c2] 53)))
      have hd : (l.drop k).flatMap (·.2) = l[k].2.drop 0 ++ (l.drop (k + 1)).flatMap (·.2) := by rw [List.drop_eq_getElem_cons hlt, List.flatMap_cons, List.drop_zero]
      have HE1 := Lib.hid (hd ▸ HE.out)
      have HF1 := Lib.hid (hd ▸ HF.out)
      clear e1 D HE HF HO HB hd
      go_wp2
      go_loopw [2, 3, 27] (fun s2 s3 si wr => ∃ (j : Nat) (n m : Int) (es : M.Es) (ks : List ByteArray), si = .int .i64 j ∧ s2 = .int .i64 n ∧ s3 = .int .i64 m ∧ j ≤ l[k].2.length ∧ Hid (Seen es ks) ∧ Hid (M.OM wr bm es) ∧ Hid (addW 0 (l.flatMap (·.2)) = addW n (l[k].2.drop j ++ (l.drop (k + 1)).flatMap (·.2))) ∧ Hid (addW 0 (each [] (l.flatMap (·.2))) = addW m (each ks (l[k].2.drop j ++ (l.drop (k + 1)).flatMap (·.2)))) ∧ Hid (Below w.heap.size w wr)) (fun _ _ si _ => l[k].2.length - (intOf si).toNat)
      case atStart => exact ⟨0, n, m, es, ks, rfl, rfl, rfl, by omega, HS, HO1, HE1, HF1, HS1⟩
      case round =>
        obtain ⟨j, n, m, es, ks, rfl, rfl, rfl, hj, HS, HO, HE, HF, HB⟩ := hrel
        by_cases hjl : j < l[k].2.length
        · obtain ⟨b5, o5, cs5, rfl, K5, e5⟩ := (HD.out.mono HB.out).at j hjl
          obtain rfl : cs5 = [.string l[k].2[j].1, .int .i64 l[k].2[j].2] := K5
          have q0 : wr.cell? ⟨b5, o5 + j * 2, none⟩ = some (.string l[k].2[j].1) := by simpa [B.Kd.chunk, B.Kd.flat] using e5 0 (by simp)
          have q1 : wr.cell? ⟨b5, o5 + j * 2 + 1, none⟩ = some (.int .i64 l[k].2[j].2) := by simpa [B.Kd.chunk, B.Kd.flat] using e5 1 (by simp)
          have hj1 : (j : Int) < l[k].2.length := by omega
          have HE2 := HE.out
          rw [List.drop_eq_getElem_cons hjl, List.cons_append, addW_cons] at HE2
          have HE3 := Lib.hid HE2
          have HF2 := HF.out
          rw [List.drop_eq_getElem_cons hjl, List.cons_append, each] at HF2
          have HB3 := Lib.hid (HB.out.alloc (show w.heap.size ≤ wr.heap.size from HB.out.size) (.cells #[.string l[k].2[j].1, .int .i64 l[k].2[j].2] 48))
          have HO3 := Lib.hid (HO.out.below ((Below.refl _ _).alloc (Nat.le_refl _) (.cells #[.string l[k].2[j].1, .int .i64 l[k].2[j].2] 48)))
          have HL := HS.out l[k].2[j].1
          have HCN := Lib.hid (fun (i : Nat) (u : Value) (hc : (#[Value.string l[k].2[j].1, .int .i64 l[k].2[j].2] : Array Value)[i]? = some u) => (by rw [World.cell?_alloc_new]; exact hc : (wr.alloc (.cells #[.string l[k].2[j].1, .int .i64 l[k].2[j].2] 48)).cell? ⟨wr.heap.size, i, none⟩ = some u))
          clear e5 HE2 HE HF
          by_cases hin : l[k].2[j].1 ∈ ks
          · rw [if_pos hin] at HL HF2
            have HLK := Lib.hid HL
            have HF3 := Lib.hid HF2
            clear HL HF2 hin HCN
            go_wp2_with (at_lookup; refine M.wpl_look rfl _ _ 58 rfl 9 4 Tryd.underlying58 Tryd.underlying9 _ (zeroBool _) bm es HO3.out rfl _ rfl ?_; simp only [HLK.out, Option.getD_some])
            go_roundw
            case rel => exact ⟨j + 1, _, _, es, ks, by go_num, rfl, rfl, by omega, HS, HO3, HE3, HF3, HB3⟩
            case measure => simp [intOf]; omega
          · rw [if_neg hin] at HL HF2
            rw [addW_cons] at HF2
            have HLK := Lib.hid HL
            have HF3 := Lib.hid HF2
            have HSP := Lib.hid (HS.out.put l[k].2[j].1)
            clear HL HF2 hin
            go_wp2_with (first
              | (at_lookup; refine M.wpl_look rfl _ _ 58 rfl 9 4 Tryd.underlying58 Tryd.underlying9 _ (zeroBool _) bm es HO3.out rfl _ rfl ?_; simp only [HLK.out, Option.getD_none])
              | (at_mapUpdate; refine M.wpl_put rfl _ _ _ 58 rfl 9 4 Tryd.underlying58 Tryd.underlying9 bm es HO3.out rfl _ rfl _ rfl w w.heap.size HB3.out hbw ?_; intro w7 HO7 HB7 HG7; have r7 := HG7.cell (HCN.out 1 _ rfl) (by have := HO.out.lt; simp; omega)))
            go_roundw
            case rel => exact ⟨j + 1, _, _, _, _, by go_num, rfl, rfl, by omega, HSP, Lib.hid HO7, HE3, HF3, Lib.hid HB7⟩
            case measure => simp [intOf]; omega
        · obtain rfl : j = l[k].2.length := by omega
          have HE2 : Hid (addW 0 (l.flatMap (·.2)) = addW n ((l.drop (k + 1)).flatMap (·.2))) := Lib.hid (by rw [HE.out, List.drop_length, List.nil_append])
          have HF2 : Hid (addW 0 (each [] (l.flatMap (·.2))) = addW m (each ks ((l.drop (k + 1)).flatMap (·.2)))) := Lib.hid (by rw [HF.out, List.drop_length, List.nil_append])
          go_wp2
          go_roundw
          case rel => exact ⟨k + 1, n, m, es, ks, by go_num, rfl, rfl, by omega, HS, HO, HE2, HF2, HB⟩
          case measure => simp [intOf]; omega
    · obtain rfl : k = l.length := by omega
      have HE2 : Hid (addW 0 (l.flatMap (·.2)) = n) := Lib.hid (by rw [HE.out, List.drop_length]; rfl)
      have HF2 : Hid (addW 0 (each [] (l.flatMap (·.2))) = m) := Lib.hid (by rw [HF.out, List.drop_length]; rfl)
      go_wp2
      go_ret3
      exact ⟨by rw [HE2.out, HF2.out]; rfl, HB.out⟩
end Go.Proofs.YtmcbljongeadeaaDoor.Told
