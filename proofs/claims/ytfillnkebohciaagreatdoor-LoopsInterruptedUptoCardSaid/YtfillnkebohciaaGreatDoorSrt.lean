/- slices.SortFunc at an own row of elements of k cells whose keys differ. No program in sight. Contracts of the library laid at this dump by the kit, in plain words (wip/tools/lays.py). The program's sums: the tallies of plays. slices.Concat at two own rows of plays; slices.SortFunc by their moments. -/
import Derived.Test.YtfillnkebohciaaGreatDoorOwn
import Derived.Test.YtfillnkebohciaaGreatDoorFrame
import Derived.Shelf.SlSortCmp.NoneTotal
import Derived.Shelf.Spec.SlicesGrow
import Derived.Shelf.SlSortCmp.WholeK
import Derived.Test.YtfillnkebohciaaGreatDoorProg
import Derived.Test.YtfillnkebohciaaGreatDoorBrk
import Derived.Test.YtfillnkebohciaaGreatDoorRnP
import Derived.Test.YtfillnkebohciaaGreatDoorTl
import Derived.Laws.AppendOwnNone
namespace Go.Proofs.YtfillnkebohciaaGreatDoor.SortK
open Go.Shelf Go.RowKit Go.Lib Go.Sort

theorem flatMap_len {α : Type} {k : Nat} {enc : α → List Value} (hl : ∀ x, (enc x).length = k) (xs : List α) : (xs.flatMap enc).length = xs.length * k := by
  induction xs with
  | nil => simp
  | cons y ys ih => rw [List.flatMap_cons, List.length_append, hl, ih, List.length_cons, Nat.succ_mul]; omega
theorem flat_list {α : Type} [Inhabited α] {k : Nat} (hk : 0 < k) {enc : α → List Value} (hl : ∀ x, (enc x).length = k) (xs : List α) : (flatK enc k xs.toArray).toList = xs.flatMap enc := by
  apply List.ext_getElem?
  intro j
  by_cases hj : j < xs.length * k
  · have h1 := get_flatK enc k xs.toArray j (by simpa using hj)
    have hq : j / k < xs.length := (Nat.div_lt_iff_lt_mul hk).2 hj
    have hi : j % k < (enc xs[j / k]).length := by rw [hl]; exact Nat.mod_lt _ hk
    have e : j / k * k + j % k = j := by rw [Nat.mul_comm]; exact Nat.div_add_mod j k
    have h2 := B.flatMap_at hl (j / k) hq (j % k) hi
    rw [e] at h2
    rw [h2, Array.getElem?_toList, Array.getElem?_eq_getElem (by simpa using hj)]
    rw [getElem!_pos _ j (by simpa using hj)] at h1
    rw [h1]
    simp [getElem!_pos, hq, hi]
  · rw [List.getElem?_eq_none (by simp; omega), List.getElem?_eq_none (by rw [flatMap_len hl]; omega)]
theorem holds {α : Type} [Inhabited α] {k : Nat} (hk : 0 < k) {enc : α → List Value} (hl : ∀ x, (enc x).length = k) {w : World} {base : Nat} {e : TypeId} {g n cap : Nat} {xs : List α} (h : B.Own w base e k enc (.slice (some ⟨g, 0, none⟩) n cap) xs) : HoldsK enc k w g 0 xs.toArray := by
  have h0 : w.ownsRow base e k (.slice (some ⟨g, 0, none⟩) n cap) xs.length (xs.flatMap enc) := h
  intro j hj
  have hj' : j < (xs.flatMap enc).length := by rw [flatMap_len hl]; simpa using hj
  have hc := h0.cells (g := g) rfl j (xs.flatMap enc)[j] (List.getElem?_eq_getElem hj')
  rw [Lib.add_plain] at hc
  refine ⟨?_, ?_⟩
  · rw [hc]
    have e1 := flat_list hk hl xs
    have e2 : (flatK enc k xs.toArray)[j]? = some (xs.flatMap enc)[j] := by rw [← Array.getElem?_toList, e1]; exact List.getElem?_eq_getElem hj'
    rw [getElem!_pos _ j hj]
    rw [Array.getElem?_eq_getElem hj] at e2
    rw [Option.some.inj e2]; rfl
  · rcases h0.2 with ⟨e0, _⟩ | ⟨g', cap', cur, e0, hb, hg, _⟩
    · cases e0
    · simp only [Value.slice.injEq, Option.some.injEq, Addr.mk.injEq, and_true] at e0
      obtain ⟨rfl, -⟩ := e0
      exact World.frozen?_of_block (w := w) (a := ⟨g, 0 + j, none⟩) rfl |>.trans (by simp [World.frozen?, hg])
theorem grown {α : Type} [Inhabited α] {enc : α → List Value} {k : Nat} {w : World} {g m : Nat} {os : Array Obj} (d : Array α) : w.grownBy (sortWorldK enc k w g 0 m d os) (some g) := by
  unfold sortWorldK putRowK
  refine ⟨rfl, rfl, rfl, by simp, fun i hi hne => ?_⟩
  rw [heap_grow_old _ _ (by simpa using hi)]
  have : g ≠ i := fun e => hne (by rw [e])
  simp [putRow, mapBlock, Sort.ahead, Array.getElem?_modify, this]
theorem own_sorted {α : Type} [Inhabited α] {k : Nat} (hk : 0 < k) {enc : α → List Value} (hl : ∀ x, (enc x).length = k) {w : World} {base : Nat} {e : TypeId} {g n cap m : Nat} {os : Array Obj} {xs ys : List α} (h : B.Own w base e k enc (.slice (some ⟨g, 0, none⟩) n cap) xs) (hy : ys.length = xs.length) :
    B.Own (sortWorldK enc k w g 0 m ys.toArray os) base e k enc (.slice (some ⟨g, 0, none⟩) n cap) ys := by
  have h0 : w.ownsRow base e k (.slice (some ⟨g, 0, none⟩) n cap) xs.length (xs.flatMap enc) := h
  show World.ownsRow _ base e k _ ys.length (ys.flatMap enc)
  rw [hy]
  refine ⟨by rw [flatMap_len hl, hy], ?_⟩
  rcases h0.2 with ⟨e0, _⟩ | ⟨g', cap', cur, e0, hb, hg, hn, hm, hs, ht⟩
  · cases e0
  · simp only [Value.slice.injEq, Option.some.injEq, Addr.mk.injEq, and_true] at e0
    obtain ⟨rfl, rfl, rfl⟩ := e0
    have hlt : g < w.heap.size := (Array.getElem?_eq_some_iff.1 hg).1
    refine .inr ⟨g, cap, putCells id 0 (flatK enc k ys.toArray) cur, rfl, hb, ?_, hn, hm, by simpa [putCells] using hs, ?_⟩
    · unfold sortWorldK putRowK
      rw [heap_grow_old _ _ (by simpa using hlt)]
      simp [putRow, mapBlock, Sort.ahead, Array.getElem?_modify, hg, onCells]
    · rw [← flat_list hk hl ys]
      have hsz : (flatK enc k ys.toArray).size = xs.length * k := by rw [size_flatK]; simp [hy]
      have hmul : xs.length * k ≤ cap * k := Nat.mul_le_mul_right _ hn
      apply List.ext_getElem?
      intro j
      by_cases hj : j < xs.length * k
      · have hj1 : j < cur.size := by omega
        have hj2 : j < (flatK enc k ys.toArray).size := by omega
        rw [List.getElem?_take_of_lt hj, Array.getElem?_toList, Array.getElem?_toList, Array.getElem?_eq_getElem hj2]
        have e1 : (putCells id 0 (flatK enc k ys.toArray) cur)[j]? = some (flatK enc k ys.toArray)[j]! := by
          unfold putCells
          rw [Array.getElem?_mapIdx, Array.getElem?_eq_getElem hj1, Option.map_some, if_pos (by omega), Nat.sub_zero]
          rfl
        rw [e1, getElem!_pos _ j hj2]
      · rw [List.getElem?_take_eq_none (by omega), List.getElem?_eq_none (by simp; have := hy; simp at hsz; omega)]
theorem grown_refl (w : World) (r : Option Nat) : w.grownBy w r := ⟨rfl, rfl, rfl, Nat.le_refl _, fun _ _ _ => rfl⟩
theorem pairwise_inj {α : Type} {key : α → Int} : ∀ {zs : List α}, zs.Pairwise (fun x y => key x < key y) → ∀ x ∈ zs, ∀ y ∈ zs, key x = key y → x = y
  | [], _, x, hx, _, _, _ => by simp at hx
  | z :: zs, h, x, hx, y, hy, e => by
    rw [List.pairwise_cons] at h
    rcases List.mem_cons.1 hx with hx1 | hx1 <;> rcases List.mem_cons.1 hy with hy1 | hy1
    · rw [hx1, hy1]
    · rw [hx1] at e; have := h.1 y hy1; omega
    · rw [hy1] at e; have := h.1 x hx1; omega
    · exact pairwise_inj h.2 x hx1 y hy1 e
/-- **SortFunc at an own row: it becomes the one list in order.** -/
theorem sortFunc {P : Program} {ρ : Ren} (L : SlLaysF0.n6 P ρ) {α : Type} (k : Nat) (hk : 0 < k) (aE : ∀ w, (isAgg (ρ.t 24)).run P w = .ok true w) (zE : ∀ w, (Go.sizeOf (ρ.t 24)).run P w = .ok k w) (enc : α → List Value) (hl : ∀ x, (enc x).length = k) (h1 : ∀ x, ∀ v ∈ enc x, v.oneCell' = true)
    (xs zs : List α) (hp : zs.Perm xs) (key : α → Int) (hz : zs.Pairwise (fun x y => key x < key y)) (cf : α → α → Int) (hcf : ∀ x ∈ xs, ∀ y ∈ xs, cf x y < 0 ↔ key x < key y) (g : Nat) (cb : Array Value) (base : Nat) (e : TypeId) (v : Value) (w : World)
    (eg : ∀ args w, (callFunc g args).run P w = .ok (.enter g args) w) (HO : B.Own w base e k enc v xs)
    (hcmp : ∀ x ∈ xs, ∀ y ∈ xs, ∀ W, w.grownBy W v.ownBlock → Calls P g (#[.agg (enc x).toArray, .agg (enc y).toArray] ++ cb) W fun e w' => e = .returned (.int .i64 (cf x y)) ∧ ∃ q os', w' = grow (W.drewN q) os') (hn : xs.length ≤ 140737488355328) :
    Calls P (ρ.f 6) #[v, .func (.func g) #[] cb] w fun e' w' => e' = .returned (.tuple #[]) ∧ B.Own w' base e k enc v zs ∧ w.grownBy w' v.ownBlock := by
  have HO0 : w.ownsRow base e k v xs.length (xs.flatMap enc) := HO
  cases xs with
  | nil =>
    obtain rfl : zs = [] := hp.eq_nil
    obtain ⟨p, cap, rfl⟩ : ∃ p cap, v = .slice p 0 cap := by
      rcases HO0.2 with ⟨h, -⟩ | ⟨g', cap, cur, h, -⟩
      · exact ⟨none, 0, h⟩
      · exact ⟨some ⟨g', 0, none⟩, cap, h⟩
    refine (AnyF.slices_SortFunc_none L p cap _ w).mono ?_
    rintro e' w' ⟨rfl, rfl⟩
    exact ⟨rfl, HO, grown_refl _ _⟩
  | cons x0 xs' =>
    obtain ⟨gv, cap, rfl⟩ : ∃ gv cap, v = .slice (some ⟨gv, 0, none⟩) (x0 :: xs').length cap := by
      rcases HO0.2 with ⟨-, h⟩ | ⟨g', cap, cur, h, -⟩
      · simp at h
      · exact ⟨g', cap, h⟩
    have hlt : gv < w.heap.size := (World.ownsRow.lt HO0 gv rfl).2
    generalize hxs : x0 :: xs' = xs at *
    let S := {x // x ∈ xs}
    haveI : Inhabited S := ⟨⟨x0, by rw [← hxs]; simp⟩⟩
    let enc' : S → List Value := fun x => enc x.1
    have hl' : ∀ x : S, (enc' x).length = k := fun x => hl x.1
    have hmem : ∀ x, x ∈ zs ↔ x ∈ xs := fun x => hp.mem_iff
    have hinj : ∀ x ∈ xs, ∀ y ∈ xs, key x = key y → x = y := fun x hx y hy => pairwise_inj hz x ((hmem x).2 hx) y ((hmem y).2 hy)
    have hmap : xs.attach.flatMap enc' = xs.flatMap enc := by
      have : xs.flatMap enc = (xs.attach.map (·.1)).flatMap enc := by rw [List.attach_map_subtype_val]
      rw [this, List.flatMap_map]
    have HO' : B.Own w base e k enc' (.slice (some ⟨gv, 0, none⟩) xs.length cap) xs.attach := by
      show World.ownsRow _ _ _ _ _ _ _
      rw [hmap, List.length_attach]
      exact HO0
    have hsize : xs.attach.toArray.size = xs.length := by simp
    have hlt' : ∀ x y : S, ltOf (fun a b : S => cf a.1 b.1) x y = decide (key x.1 < key y.1) := fun x y => by
      unfold ltOf
      exact decide_eq_decide.2 (hcf x.1 x.2 y.1 y.2)
    have swo : SWO (ltOf (fun a b : S => cf a.1 b.1)) := by
      refine ⟨fun x => ?_, fun x y z h1 h2 => ?_, fun x y z h1 h2 => ?_⟩
      · rw [hlt']; simp
      · rw [hlt'] at *; simp at *; omega
      · rw [hlt'] at *; simp at *; omega
    have hc := AnyQ.slices_SortFunc_total L k aE zE enc' hl' (fun x => h1 x.1) (fun a b : S => cf a.1 b.1) swo g cb gv 0 cap xs.attach.toArray w eg
      (fun m os dk hdk x y => hcmp x.1 x.2 y.1 y.2 _ (grown dk)) (holds hk hl' HO') hlt (by rw [hsize]; omega)
      (fun x y h1 h2 => by
        rw [hlt'] at h1 h2
        have := of_decide_eq_false h1
        have := of_decide_eq_false h2
        exact Subtype.ext (hinj x.1 x.2 y.1 y.2 (by omega)))
    rw [hsize] at hc
    refine hc.mono ?_
    rintro e' w' ⟨rfl, m, os, rfl⟩
    generalize hys : (xs.attach.toArray.toList.mergeSort fun x y => !(ltOf fun a b : S => cf a.1 b.1) y x) = ys
    have hperm : ys.Perm xs.attach := by
      rw [← hys]
      have := List.mergeSort_perm xs.attach (fun x y => !(ltOf fun a b : S => cf a.1 b.1) y x)
      exact this
    have hsort : ys.Pairwise (fun x y => key x.1 ≤ key y.1) := by
      have := List.pairwise_mergeSort (le := fun x y : S => !(ltOf fun a b : S => cf a.1 b.1) y x) (fun a b c h1 h2 => by
        rw [hlt'] at *; simp at *; omega) (fun a b => by
        rw [hlt', hlt']; simp; omega) xs.attach
      rw [← hys]
      exact this.imp (fun {a b} h => by rw [hlt'] at h; simp at h; exact h)
    have hzs : ys.map (·.1) = zs := by
      refine List.Perm.eq_of_pairwise (le := fun x y => key x ≤ key y) (fun a b ha hb h1 h2 => ?_) (List.pairwise_map.2 hsort) (hz.imp (fun h => by omega)) ?_
      · have ha' : a ∈ xs := by obtain ⟨q, -, rfl⟩ := List.mem_map.1 ha; exact q.2
        exact hinj a ha' b ((hmem b).1 hb) (by omega)
      · refine ((hperm.map (·.1)).trans ?_).trans hp.symm
        rw [List.attach_map_subtype_val]
    refine ⟨rfl, ?_, grown _⟩
    have := own_sorted hk hl' (m := m) (os := os) HO' (ys := ys) (by rw [hperm.length_eq])
    show World.ownsRow _ _ _ _ _ _ _
    have e1 : zs.flatMap enc = ys.flatMap enc' := by rw [← hzs, List.flatMap_map]
    have e2 : zs.length = ys.length := by rw [← hzs, List.length_map]
    rw [e1, e2]
    exact this
end Go.Proofs.YtfillnkebohciaaGreatDoor.SortK
namespace Go.Proofs
open Go.Shelf
def Tryz.growPl_ren : Go.Shelf.Ren := ⟨fun | 4 => 88 | n => n, fun | 22 => 68 | 25 => 77 | 3 => 3 | 4 => 4 | 9 => 9 | 20 => 20 | 0 => 0 | n => n, fun | n => n⟩
theorem Tryz.growPl : Go.Proofs.Lays8.n4 Tryz.prog Tryz.growPl_ren := {
  mixed := by kernel_rfl
  f4 := ⟨Tryz.f88.name, by decide, Tryz.func88.trans (congrArg some (by kernel_rfl))⟩
  t0 := Tryz.underlying0
  a0 := Tryz.isAgg0
  z0 := Tryz.sizeOf0
  v0 := Tryz.zeroValue0
  t3 := Tryz.underlying3
  a3 := Tryz.isAgg3
  z3 := Tryz.sizeOf3
  v3 := Tryz.zeroValue3
  t4 := Tryz.underlying4
  a4 := Tryz.isAgg4
  z4 := Tryz.sizeOf4
  v4 := Tryz.zeroValue4
  t9 := Tryz.underlying9
  a9 := Tryz.isAgg9
  z9 := Tryz.sizeOf9
  v9 := Tryz.zeroValue9
  t20 := Tryz.underlying20
  a20 := Tryz.isAgg20
  z20 := Tryz.sizeOf20
  v20 := Tryz.zeroValue20
  t22 := Tryz.underlying68
  a22 := Tryz.isAgg68
  z22 := Tryz.sizeOf68
  v22 := Tryz.zeroValue68 }
def Tryz.sortPl_ren : Go.Shelf.Ren := ⟨fun | 6 => 59 | 15 => 90 | 14 => 89 | 28 => 126 | 29 => 127 | 20 => 118 | 21 => 119 | 22 => 120 | 23 => 121 | 24 => 122 | 25 => 123 | 26 => 124 | 27 => 125 | 46 => 147 | 47 => 148 | 48 => 149 | 49 => 150 | 50 => 151 | 57 => 159 | n => n, fun | 22 => 68 | 24 => 77 | 25 => 113 | 3 => 3 | 39 => 149 | 0 => 0 | 53 => 187 | 55 => 189 | 4 => 4 | 46 => 180 | 45 => 179 | 50 => 184 | 5 => 5 | 9 => 9 | 66 => 205 | 70 => 79 | 76 => 213 | 77 => 98 | n => n, fun | n => n⟩
theorem Tryz.sortPl : Go.Proofs.SlLaysF0.n6 Tryz.prog Tryz.sortPl_ren := {
  mixed := by kernel_rfl
  f6 := ⟨Tryz.f59.name, by decide, Tryz.func59.trans (congrArg some (by kernel_rfl))⟩
  f14 := ⟨Tryz.f89.name, by decide, Tryz.func89.trans (congrArg some (by kernel_rfl))⟩
  f15 := Tryz.func90.trans (congrArg some (by kernel_rfl))
  f20 := ⟨Tryz.f118.name, by decide, Tryz.func118.trans (congrArg some (by kernel_rfl))⟩
  f21 := ⟨Tryz.f119.name, by decide, Tryz.func119.trans (congrArg some (by kernel_rfl))⟩
  f22 := ⟨Tryz.f120.name, by decide, Tryz.func120.trans (congrArg some (by kernel_rfl))⟩
  f23 := ⟨Tryz.f121.name, by decide, Tryz.func121.trans (congrArg some (by kernel_rfl))⟩
  f24 := ⟨Tryz.f122.name, by decide, Tryz.func122.trans (congrArg some (by kernel_rfl))⟩
  f25 := ⟨Tryz.f123.name, by decide, Tryz.func123.trans (congrArg some (by kernel_rfl))⟩
  f26 := ⟨Tryz.f124.name, by decide, Tryz.func124.trans (congrArg some (by kernel_rfl))⟩
  f27 := ⟨Tryz.f125.name, by decide, Tryz.func125.trans (congrArg some (by kernel_rfl))⟩
  f28 := Tryz.func126.trans (congrArg some (by kernel_rfl))
  f29 := Tryz.func127.trans (congrArg some (by kernel_rfl))
  f46 := ⟨Tryz.f147.name, by decide, Tryz.func147.trans (congrArg some (by kernel_rfl))⟩
  f47 := Tryz.func148.trans (congrArg some (by kernel_rfl))
  f48 := Tryz.func149.trans (congrArg some (by kernel_rfl))
  f49 := ⟨Tryz.f150.name, by decide, Tryz.func150.trans (congrArg some (by kernel_rfl))⟩
  f50 := ⟨Tryz.f151.name, by decide, Tryz.func151.trans (congrArg some (by kernel_rfl))⟩
  f57 := ⟨Tryz.f159.name, by decide, Tryz.func159.trans (congrArg some (by kernel_rfl))⟩
  t0 := Tryz.underlying0
  a0 := Tryz.isAgg0
  z0 := Tryz.sizeOf0
  v0 := Tryz.zeroValue0
  t3 := Tryz.underlying3
  a3 := Tryz.isAgg3
  z3 := Tryz.sizeOf3
  v3 := Tryz.zeroValue3
  t4 := Tryz.underlying4
  a4 := Tryz.isAgg4
  z4 := Tryz.sizeOf4
  v4 := Tryz.zeroValue4
  t5 := Tryz.underlying5
  a5 := Tryz.isAgg5
  z5 := Tryz.sizeOf5
  v5 := Tryz.zeroValue5
  t9 := Tryz.underlying9
  a9 := Tryz.isAgg9
  z9 := Tryz.sizeOf9
  v9 := Tryz.zeroValue9
  t22 := Tryz.underlying68
  a22 := Tryz.isAgg68
  z22 := Tryz.sizeOf68
  v22 := Tryz.zeroValue68
  t25 := Tryz.underlying113
  a25 := Tryz.isAgg113
  z25 := Tryz.sizeOf113
  v25 := Tryz.zeroValue113
  t39 := Tryz.underlying149
  a39 := Tryz.isAgg149
  z39 := Tryz.sizeOf149
  v39 := Tryz.zeroValue149
  t45 := Tryz.underlying179
  a45 := Tryz.isAgg179
  z45 := Tryz.sizeOf179
  v45 := Tryz.zeroValue179
  t46 := Tryz.underlying180
  a46 := Tryz.isAgg180
  z46 := Tryz.sizeOf180
  v46 := Tryz.zeroValue180
  t50 := Tryz.underlying184
  a50 := Tryz.isAgg184
  z50 := Tryz.sizeOf184
  v50 := Tryz.zeroValue184
  t53 := Tryz.underlying187
  a53 := Tryz.isAgg187
  z53 := Tryz.sizeOf187
  v53 := Tryz.zeroValue187
  t55 := Tryz.underlying189
  a55 := Tryz.isAgg189
  z55 := Tryz.sizeOf189
  v55 := Tryz.zeroValue189
  t66 := Tryz.underlying205
  a66 := Tryz.isAgg205
  z66 := Tryz.sizeOf205
  v66 := Tryz.zeroValue205
  t70 := Tryz.underlying79
  a70 := Tryz.isAgg79
  z70 := Tryz.sizeOf79
  v70 := Tryz.zeroValue79
  t76 := Tryz.underlying213
  a76 := Tryz.isAgg213
  z76 := Tryz.sizeOf213
  v76 := Tryz.zeroValue213
  t77 := Tryz.underlying98
  a77 := Tryz.isAgg98
  z77 := Tryz.sizeOf98
  v77 := Tryz.zeroValue98 }
end Go.Proofs
namespace Go.Proofs.YtfillnkebohciaaGreatDoor.Rn
open Go.RowKit
open T (Step stK steps_at stE stE1 info_step)
open Come (tot Ok TL TM)

theorem pl_at {w : World} {A : Option Addr} {l : List Pl} (h : plK.C w A l) (k : Nat) (hk : k < l.length) : ∃ b off, A = some ⟨b, off, none⟩ ∧ w.cell? ⟨b, off + k * 4, none⟩ = some (.string ⟨#[]⟩) ∧ w.cell? ⟨b, off + k * 4 + 1, none⟩ = some (.string l[k].1) ∧ w.cell? ⟨b, off + k * 4 + 2, none⟩ = some (.int .i64 l[k].2.1) ∧ w.cell? ⟨b, off + k * 4 + 3, none⟩ = some (.int .i64 l[k].2.2) := by
  obtain ⟨b, off, cs, e, K, hc⟩ := h.at k hk
  have K' : cs = [.string ⟨#[]⟩, .string l[k].1, .int .i64 l[k].2.1, .int .i64 l[k].2.2] := K
  subst K'
  have h0 := hc 0 (by simp)
  have h1 := hc 1 (by simp)
  have h2 := hc 2 (by simp)
  have h3 := hc 3 (by simp)
  exact ⟨b, off, e, by simpa [plK, B.Kd.flat] using h0, by simpa [plK, B.Kd.flat] using h1, by simpa [plK, B.Kd.flat] using h2, by simpa [plK, B.Kd.flat] using h3⟩
theorem TL_mono {w : World} {mb lo lo' : Nat} {l : List Step} (h : TL w mb lo l) (hl : lo' ≤ lo) : TL w mb lo' l := by
  obtain ⟨bk, h⟩ := h
  exact ⟨bk, h.om, Nat.le_trans hl h.hlo, fun k hk => ⟨Nat.le_trans hl (h.cl k hk).1, (h.cl k hk).2⟩, h.inj⟩
theorem sps_ok {x : List Pl} (h : ∀ p ∈ x, 1 ≤ p.2.2 ∧ p.2.2 ≤ 3600000) : Ok (sps x) := fun s hs => by
  obtain ⟨p, hp, rfl⟩ := List.mem_map.1 hs
  exact h p hp
set_option maxHeartbeats 4000000 in
set_option maxRecDepth 100000 in
theorem sums (A : Option Addr) (c : Nat) (x : List Pl) (w : World) (h1 : plK.C w A x) (hok : ∀ p ∈ x, 1 ≤ p.2.2 ∧ p.2.2 ≤ 3600000) (hl : x.length ≤ 5000) :
    Calls Tryz.prog 61 #[.slice A x.length c] w fun e w' => ∃ mb, e = .returned (.map (some mb)) ∧ TL w' mb w.heap.size (sps x) ∧ Below w.heap.size w w' := by
  have H1 := Lib.hid h1
  have HT := Lib.hid (fun (A5 : Option Addr) (c5 : Nat) (W : World) (hC : stK.C W A5 (sps x)) => Come.tallies A5 c5 (sps x) W hC (sps_ok hok) (by unfold sps; rw [List.length_map]; exact hl))
  have HSL : Hid ((sps x).length = x.length) := Lib.hid (by unfold sps; rw [List.length_map])
  clear h1 hok
  go_enter Tryz.func61, Tryz.ntmps61
  go_wp2
  go_loopw [3, 8] (fun s3 s8 wr => ∃ (k : Nat), s8 = .int .i64 k ∧ k ≤ x.length ∧ Hid (B.Own wr w.heap.size 48 2 stE s3 (sps (x.take k))) ∧ Hid (Below w.heap.size w wr)) (fun _ s _ => x.length - (intOf s).toNat)
  case atStart => exact ⟨0, rfl, Nat.zero_le _, Lib.hid (by rw [List.take_zero]; exact B.Own.nil _ _ _ _ _), Lib.hid (Below.refl _ _)⟩
  case round =>
    obtain ⟨k, rfl, hk, HO, HB⟩ := hrel
    by_cases hlt : k < x.length
    · obtain ⟨b1, o1, rfl, f0, f1, f2, f3⟩ := pl_at (H1.out.mono HB.out) k hlt
      have hk1 : (k : Int) < x.length := by omega
      have HTK : Hid (sps (x.take (k + 1)) = sps (x.take k) ++ [(x[k].1, x[k].2.2)]) := Lib.hid (by unfold sps; rw [List.take_succ_eq_append_getElem hlt, List.map_append]; rfl)
      have HLT : Hid ((sps (x.take k)).length ≤ 5000) := Lib.hid (by unfold sps; rw [List.length_map, List.length_take]; omega)
      generalize x[k] = s at *
      obtain ⟨s1, s2, s3⟩ := s
      generalize sps (x.take k) = xs at *
      go_wp2_with (at_builtin; (refine Copy.wpl_append_g (w0 := w) w.heap.size rfl _ _ 44 48 (.agg #[.string ⟨#[]⟩, .int .i64 0]) 2 24 rfl Tryz.underlying44 info_step rfl (by decide) (by decide) stE (fun _ => rfl) stE1 _ xs (s1, s3) _ rfl (HO.out.below ((Below.refl _ _).alloc (Nat.le_refl _) _)) rfl _ (by simp) rfl (HB.out.alloc HB.out.size _) (by have := HB.out.size; simp; omega) (by have := HLT.out; omega) ?_); intro v1 w1 HO1 HB1 _; have HP := Lib.hid HO1; have HBP := Lib.hid HB1; clear HO1 HB1)
      go_roundw
      case rel => exact ⟨k + 1, by go_num, by omega, by rw [HTK.out]; exact HP, HBP⟩
      case measure => simp [intOf]; omega
    · obtain rfl : k = x.length := by omega
      have ho := HO.out
      rw [List.take_length] at ho
      obtain ⟨A3, c3, e3⟩ := Copy.shape ho
      rw [HSL.out] at e3
      obtain rfl := e3
      have hc : stK.C wr A3 (sps x) := by
        obtain ⟨A', c', e, hC⟩ := B.own_S (k := 2) (enc := stE) (hl := fun _ => rfl) (h1 := stE1) ho (by rw [HSL.out]; omega)
        simp only [Value.slice.injEq] at e
        obtain ⟨rfl, -, -⟩ := e
        exact hC
      have hc2 := HT.out A3 c3 wr hc
      rw [HSL.out] at hc2
      have HC := Lib.hid hc2
      clear ho hc hc2 HO HT
      go_wp2_with (go_at_call 40; refine HC.out.mono ?_; rintro e w5 ⟨mb, rfl, hT5, hB5⟩; have HT5 := Lib.hid hT5; have HB5 := Lib.hid hB5; clear hT5 hB5)
      go_ret
      exact ⟨mb, rfl, TL_mono HT5.out HB.out.size, B.below_trans HB.out HB5.out⟩
end Go.Proofs.YtfillnkebohciaaGreatDoor.Rn
namespace Go.Proofs.YtfillnkebohciaaGreatDoor.Rn
open Go.RowKit
open F (Fr Cl)

theorem grow_pl (n : Nat) (w : World) (hn : n ≤ 100000) :
    Calls Tryz.prog 88 #[.slice none 0 0, .int .i64 n] w fun e w' => ∃ v', e = .returned v' ∧ B.Own w' w.heap.size 77 4 plE v' [] ∧ Below w.heap.size w w' := by
  by_cases h0 : n = 0
  · subst h0
    refine (Any8.slices_Grow_room Tryz.growPl none 0 0 0 w (by omega) (by omega) (by omega) (by omega)).mono ?_
    rintro e w' ⟨rfl, rfl⟩
    exact ⟨_, rfl, B.Own.nil _ _ _ _ _, Below.refl _ _⟩
  · obtain ⟨i0, hi, hzz⟩ := Option.map_eq_some_iff.1 info_pl
    simp only [Prod.mk.injEq] at hzz
    obtain ⟨hz0, hz1, hz2⟩ := hzz
    have hc := Any8.slices_Grow_grow Tryz.growPl i0 _ hi hz0 (by omega) none 0 0 n [] w (by omega) (by omega) (by rw [hz2]; omega) (by omega) (by simp) (fun _ => rfl) (fun a e => by cases e)
    refine hc.mono ?_
    rintro e w' ⟨rfl, rfl⟩
    have hg := grownCap_ge w.drew n 0 77
    have hg1 := grownCap_ge w (0 + n) 0 77
    have hg2 := grownCap_le_maxLen w (0 + n) 0 77 (by simp only [maxLen]; omega)
    refine ⟨_, rfl, ?_, (B.below_drew (Below.refl _ w) 1).alloc (Nat.le_refl _) _⟩
    have hs : (([] : List Value).toArray ++ Builtin.zeroCells (Value.agg #[.string ⟨#[]⟩, .string ⟨#[]⟩, .int .i64 0, .int .i64 0]).cells (0 + n - 0) ++ Builtin.zeroCells (Value.agg #[.string ⟨#[]⟩, .string ⟨#[]⟩, .int .i64 0, .int .i64 0]).cells (grownCap w (0 + n) 0 77 - (0 + n))).size = grownCap w (0 + n) 0 77 * 4 := by
      rw [Array.size_append, Array.size_append, size_zeroCells, size_zeroCells]
      show 0 + (0 + n - 0) * 4 + (grownCap w (0 + n) 0 77 - (0 + n)) * 4 = _
      omega
    exact World.ownsRow_made w.drew _ _ (Nat.le_refl _) hg2 hs
/-- An own row behind another one, a nil one too. -/
theorem wpl_append_row {α : Type} {P : Program} {ops : Array Oper} {rest : List Oper} {o : Oper} {a : Act} {Q : Exit → Act → World → Prop} {W w0 : World} (base base2 : Nat) (hgd : o.guard = none) (s x : Operand) (t e : TypeId) (z : Value) (k bytes : Nat)
    (ho : o.op = .call { callee := .builtin .append, args := #[s, x], argTypes := #[t, t] }) (ht : P.underlying t = some (.slice e)) (hinfo : (P.info? e).map (fun i => (i.zero, i.size, i.bytes)) = some (some z, k, bytes)) (hz : z.cells.size = k) (hk : 0 < k) (hby : 0 < bytes)
    (enc : α → List Value) (hlen : ∀ x, (enc x).length = k) (h1 : ∀ x, ∀ v ∈ enc x, v.oneCell' = true) (v vy : Value) (xs ys : List α)
    (HO : B.Own W base e k enc v xs) (hs : a.eval s = v) (HY : B.Own W base2 e k enc vy ys) (hx : a.eval x = vy) (HB : Below base w0 W) (hbase : base ≤ W.heap.size) (hroom : (xs.length + ys.length) * bytes ≤ 140737488355328)
    (h : ∀ v1 w1, B.Own w1 base e k enc v1 (xs ++ ys) → Below base w0 w1 → wpList P ops Q rest (a.put o.dst v1) w1) :
    wpList P ops Q (o :: rest) a W := by
  have HY0 : W.ownsRow base2 e k vy ys.length (ys.flatMap enc) := HY
  have HO0 : W.ownsRow base e k v xs.length (xs.flatMap enc) := HO
  rcases HY0.2 with ⟨rfl, h0⟩ | ⟨g, cap, cur, rfl, -⟩
  · obtain rfl : ys = [] := List.eq_nil_of_length_eq_zero h0
    obtain ⟨i0, hi, -⟩ := Option.map_eq_some_iff.1 hinfo
    exact wpList_append_own_none hgd s x t ho base e i0 k ht hi v xs.length _ hs HO0 hx (h v W (by rw [List.append_nil]; exact HO) HB)
  · have hn : ys.length ≤ 140737488355328 := by
      have : ys.length ≤ (xs.length + ys.length) * bytes := Nat.le_trans (Nat.le_add_left _ _) (Nat.le_mul_of_pos_right _ hby)
      omega
    obtain ⟨A', c', e', hC⟩ := B.own_S (hl := hlen) (h1 := h1) HY hn
    cases e'
    exact B.wpl_append_all (w0 := w0) base hgd s x t e z k bytes ho ht hinfo hz hk hby enc hlen h1 v xs ys HO hs _ cap hx hC HB hbase hroom (fun v1 w1 h2 h3 _ => h v1 w1 h2 h3)
def catN (x y : List Pl) (k : Nat) : Int := if k = 0 then 0 else if k = 1 then x.length else x.length + y.length
def catL (x y : List Pl) (k : Nat) : List Pl := if k = 0 then [] else if k = 1 then x else x ++ y
set_option maxHeartbeats 4000000 in
set_option maxRecDepth 100000 in
/-- Two own rows one behind the other. -/
theorem concat_pl (v1 v2 : Value) (b1 b2 g : Nat) (x y : List Pl) (w : World) (h1 : B.Own w b1 77 4 plE v1 x) (h2 : B.Own w b2 77 4 plE v2 y) (hg : w.cell? ⟨g, 0, none⟩ = some v1) (hg1 : w.cell? ⟨g, 1, none⟩ = some v2) (hl : x.length ≤ 5000) (hl2 : y.length ≤ 5000) :
    Calls Tryz.prog 58 #[.slice (some ⟨g, 0, none⟩) 2 2] w fun e w' => ∃ v', e = .returned v' ∧ B.Own w' w.heap.size 77 4 plE v' (x ++ y) ∧ Below w.heap.size w w' := by
  have H1 := Lib.hid h1
  have H2 := Lib.hid h2
  have HG := Lib.hid hg
  have HG1 := Lib.hid hg1
  obtain ⟨A1, c1, e1⟩ := Copy.shape h1
  obtain ⟨A2, c2, e2⟩ := Copy.shape h2
  have HL := Lib.hid hl
  have HL2 := Lib.hid hl2
  subst e1 e2
  have CG := Lib.hid (fun n (hn : n ≤ 100000) => grow_pl n w hn)
  clear h1 h2 hl hl2
  go_enter Tryz.func58, Tryz.ntmps58
  go_wp2
  clear hg hg1
  go_loop [3, 11] (fun s3 s11 => ∃ k : Nat, k ≤ 2 ∧ s11 = .int .i64 k ∧ ∃ q : Int, s3 = .int .i64 q ∧ Hid (catN x y k = q)) (fun _ s => 2 - (intOf s).toNat)
  case atStart => exact ⟨0, by omega, rfl, 0, rfl, Lib.hid rfl⟩
  case round =>
    obtain ⟨k, hk, rfl, q, rfl, HQ⟩ := hrel
    have hg := HG.out
    have hg1 := HG1.out
    have n1 : (x.length : Int) ≤ 5000 := by have := HL.out; omega
    have n2 : (y.length : Int) ≤ 5000 := by have := HL2.out; omega
    rcases (by omega : k = 0 ∨ k = 1 ∨ k = 2) with rfl | rfl | rfl
    · obtain rfl : q = 0 := HQ.out.symm
      go_wp2
      go_round
      case rel => exact ⟨1, by omega, rfl, _, rfl, Lib.hid (by unfold catN; simp)⟩
      case measure => simp [intOf]
    · obtain rfl : q = (x.length : Int) := HQ.out.symm
      go_wp2
      go_round
      case rel => exact ⟨2, by omega, rfl, _, rfl, Lib.hid (by unfold catN; simp)⟩
      case measure => simp [intOf]
    · obtain ⟨n, hq⟩ : ∃ n : Nat, q = (n : Int) := ⟨x.length + y.length, by rw [← HQ.out]; unfold catN; simp⟩
      have hn : n ≤ 100000 := by have := HQ.out; unfold catN at this; simp at this; omega
      subst hq
      have cg := CG.out n hn
      clear HQ hg hg1
      go_wp2_with (go_at_call 88; refine cg.mono ?_; rintro e w3 ⟨v3, rfl, hO3, hB3⟩; have HO3 := Lib.hid hO3; have HB3 := Lib.hid hB3; clear hO3 hB3)
      clear cg
      go_loopw [6, 27] (fun s6 s27 wr => ∃ k : Nat, k ≤ 2 ∧ s27 = .int .i64 k ∧ Hid (B.Own wr w.heap.size 77 4 plE s6 (catL x y k)) ∧ Hid (Below w.heap.size w wr)) (fun _ s _ => 2 - (intOf s).toNat)
      case atStart => exact ⟨0, by omega, rfl, HO3, HB3⟩
      case round =>
        obtain ⟨k, hk, rfl, HO, HB⟩ := hrel
        have hg := B.cell_below HB.out HG.out
        have hg1 := B.cell_below HB.out HG1.out
        rcases (by omega : k = 0 ∨ k = 1 ∨ k = 2) with rfl | rfl | rfl
        · go_wp2_with (at_builtin; (refine wpl_append_row (w0 := w) w.heap.size b1 rfl _ _ 68 77 (.agg #[.string ⟨#[]⟩, .string ⟨#[]⟩, .int .i64 0, .int .i64 0]) 4 48 rfl Tryz.underlying68 info_pl rfl (by decide) (by decide) plE (fun _ => rfl) plE1 _ _ [] x HO.out rfl (H1.out.below HB.out) rfl HB.out HB.out.size (by have := HL.out; simp; omega) ?_); intro v4 w4 hO4 hB4; have HO4 := Lib.hid hO4; have HB4 := Lib.hid hB4; clear hO4 hB4)
          go_roundw
          case rel => exact ⟨1, by omega, rfl, Lib.hid (by have := HO4.out; simpa [catL] using this), HB4⟩
          case measure => simp [intOf]
        · go_wp2_with (at_builtin; (refine wpl_append_row (w0 := w) w.heap.size b2 rfl _ _ 68 77 (.agg #[.string ⟨#[]⟩, .string ⟨#[]⟩, .int .i64 0, .int .i64 0]) 4 48 rfl Tryz.underlying68 info_pl rfl (by decide) (by decide) plE (fun _ => rfl) plE1 _ _ x y HO.out rfl (H2.out.below HB.out) rfl HB.out HB.out.size (by have := HL.out; have := HL2.out; omega) ?_); intro v4 w4 hO4 hB4; have HO4 := Lib.hid hO4; have HB4 := Lib.hid hB4; clear hO4 hB4)
          go_roundw
          case rel => exact ⟨2, by omega, rfl, Lib.hid (by have := HO4.out; simpa [catL] using this), HB4⟩
          case measure => simp [intOf]
        · go_wp2
          go_ret
          exact ⟨_, rfl, by have := HO.out; simpa [catL] using this, HB.out⟩
set_option maxHeartbeats 2000000 in
set_option maxRecDepth 100000 in
/-- The order of plays. -/
theorem byAt (x y : Pl) (w : World) (h : 0 ≤ x.2.1 ∧ x.2.1 ≤ 345686400000 ∧ 0 ≤ y.2.1 ∧ y.2.1 ≤ 345686400000) :
    Calls Tryz.prog 60 #[.agg (plE x).toArray, .agg (plE y).toArray] w fun e w' => e = .returned (.int .i64 (x.2.1 - y.2.1)) ∧ ∃ q os', w' = Sort.grow (w.drewN q) os' := by
  obtain ⟨x1, x2, x3⟩ := x
  obtain ⟨y1, y2, y3⟩ := y
  obtain ⟨h1, h2, h3, h4⟩ := h
  simp only [] at h1 h2 h3 h4
  have k1 : -345686400000 ≤ x2 - y2 := by omega
  have k2 : x2 - y2 ≤ 345686400000 := by omega
  unfold plE
  go_enter Tryz.func60, Tryz.ntmps60
  go_wp2
  go_ret
  exact ⟨rfl, 0, _, (by rw [Sort.alloc_eq_grow, Sort.alloc_eq_grow, Sort.grow_grow]; rfl)⟩
end Go.Proofs.YtfillnkebohciaaGreatDoor.Rn
