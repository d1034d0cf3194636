/- Shares that are divided in place. No program in sight. -/
import Derived.Test.YtlfobpjefklccaaDoorGathR
namespace Go.Proofs.YtlfobpjefklccaaDoor.H
open Go.RowKit
open L (Lp row row1 At AtR lv kdL kid_at rowR set6)
open F (Fr Cl)

theorem set_self {w : World} {b i : Nat} {v : Value} (h : w.cell? ⟨b, i, none⟩ = some v) : w.setCell ⟨b, i, none⟩ v = w := by
  have hm : (w.setCell ⟨b, i, none⟩ v).heap = w.heap := by
    refine Array.ext_getElem? fun j => ?_
    unfold World.setCell
    simp only
    rw [Array.getElem?_modify]
    split
    · rename_i e
      subst e
      unfold World.cell? at h
      cases hb : w.heap[b]? with
      | none => rfl
      | some o =>
        simp only [hb] at h
        cases o with
        | cells c elem fr =>
          simp only [Option.isSome_none, Bool.false_eq_true, if_false] at h
          have hs : c.setIfInBounds i v = c := by
            refine Array.ext_getElem? fun k => ?_
            rw [Array.getElem?_setIfInBounds]
            split
            · rename_i e
              subst e
              obtain ⟨hlt, -⟩ := Array.getElem?_eq_some_iff.1 h
              rw [if_pos hlt, h]
            · rfl
          simp [hs]
        | _ => simp at h
    · rfl
  have he : w.setCell ⟨b, i, none⟩ v = { w with heap := (w.setCell ⟨b, i, none⟩ v).heap } := rfl
  rw [he, hm]
theorem uf_set {w : World} {b : Nat} (h : UF w b) (p : Addr) (v : Value) : UF (w.setCell p v) b := fun i => by rw [World.frozen?_setCell]; exact h i
structure Dv (W0 wr : World) (gb off : Nat) (l : List Int) (d : Int) (i : Nat) : Prop where
  fr : Fr (fun b => b = gb ∧ d ≠ 1) W0 wr
  row : ∀ j (h : j < l.length), wr.cell? ⟨gb, off + j, none⟩ = some (.int .i64 (if j < i then l[j].tdiv d else l[j]))
  uf : UF wr gb
theorem Dv.start {W0 : World} {gb off : Nat} {l : List Int} (d : Int) (hC : B.Kd.int.C W0 (some ⟨gb, off, none⟩) l) (hu : UF W0 gb) : Dv W0 W0 gb off l d 0 := by
  refine ⟨Fr.refl _ _, fun j h => ?_, hu⟩
  obtain ⟨b, o, cs, e, K, hc⟩ := hC.at j h
  have K' : cs = [.int .i64 l[j]] := K
  subst K'
  cases e
  have := hc 0 (by simp)
  simpa [show B.Kd.int.sz = 1 from rfl] using this
theorem Dv.below {W0 wr w2 : World} {gb off : Nat} {l : List Int} {d : Int} {i : Nat} (h : Dv W0 wr gb off l d i) (hg : gb < wr.heap.size) (hb : Below wr.heap.size wr w2) : Dv W0 w2 gb off l d i :=
  ⟨h.fr.then_below hb, fun j hj => B.cell_below hb (h.row j hj), h.uf.below hb hg⟩
theorem Dv.next {W0 wr : World} {gb off : Nat} {l : List Int} {d : Int} {i : Nat} (h : Dv W0 wr gb off l d i) (hi : i < l.length) : Dv W0 (wr.setCell ⟨gb, off + i, none⟩ (.int .i64 (l[i].tdiv d))) gb off l d (i + 1) := by
  have hc := h.row i hi
  rw [if_neg (Nat.lt_irrefl i)] at hc
  refine ⟨?_, fun j hj => ?_, uf_set h.uf _ _⟩
  · by_cases hd : d = 1
    · subst hd
      rw [Int.tdiv_one, set_self hc]
      exact h.fr
    · exact h.fr.set (fun _ => ⟨rfl, hd⟩) _
  · by_cases e : j = i
    · subst e
      rw [World.cell?_setCell_same _ _ _ hc, if_pos (by omega)]
    · rw [World.cell?_setCell_other _ _ _ _ (by intro e2; have e3 : off + i = off + j := congrArg Addr.off e2; omega), h.row j hj]
      by_cases hji : j < i
      · rw [if_pos hji, if_pos (by omega)]
      · rw [if_neg hji, if_neg (by omega)]
theorem Dv.done {W0 wr : World} {gb off : Nat} {l : List Int} {d : Int} (h : Dv W0 wr gb off l d l.length) (hl : l.length ≤ 1048576) : B.Kd.int.C wr (some ⟨gb, off, none⟩) (l.map fun n => n.tdiv d) := by
  refine ⟨by rw [List.length_map]; omega, fun _ => ⟨gb, off, rfl, fun j hj => ⟨_, rfl, fun i hi => ?_⟩⟩⟩
  have hi0 : i = 0 := by simpa using hi
  subst hi0
  have hj' : j < l.length := by simpa using hj
  have := h.row j hj'
  rw [if_pos hj'] at this
  simpa [show B.Kd.int.sz = 1 from rfl] using this
/-- What a share becomes. -/
def dvd (x : Lp) : Lp := shr x (x.shares.map fun n => n.tdiv (T.gcdL x.shares 0))
theorem dvd_ok {x : Lp} (hv : Vd x) (h4 : x.kind = 4) : (1 ≤ T.gcdL x.shares 0 ∧ T.gcdL x.shares 0 ≤ 1000) ∧ (∀ n ∈ x.shares.map (fun n => n.tdiv (T.gcdL x.shares 0)), 1 ≤ n ∧ n ≤ 1000) ∧ T.gcdL (dvd x).shares 0 = 1 := by
  have ho := T.own_ok hv.own
  have hsh := ho.2.2.2.2.2.1
  have hp : 0 < x.shares.length := by rw [ho.2.2.2.2.1 h4]; exact ho.2.2.1 (by omega)
  have hd := gcdL_dvd x.shares 0
  have hg1 : 1 ≤ T.gcdL x.shares 0 ∧ T.gcdL x.shares 0 ≤ 1000 := by
    have h1 := hsh x.shares[0] (List.getElem_mem hp)
    have h2 := hd.2 x.shares[0] (List.getElem_mem hp)
    refine ⟨Nat.pos_of_ne_zero fun e => ?_, ?_⟩
    · rw [e] at h2; have := Nat.eq_zero_of_zero_dvd h2; omega
    · have := Nat.le_of_dvd (by omega) h2; omega
  refine ⟨hg1, ?_, ?_⟩
  · intro n hn
    generalize T.gcdL x.shares 0 = G at *
    obtain ⟨m, hm, rfl⟩ := List.mem_map.1 hn
    have h1 := hsh m hm
    obtain ⟨q, hq⟩ := hd.2 m hm
    have hm' : m = ((G * q : Nat) : Int) := by omega
    have hq0 : 0 < q := by
      rcases Nat.eq_zero_or_pos q with h0 | h0
      · subst h0; rw [Nat.mul_zero] at hq; omega
      · exact h0
    have e : m.tdiv (G : Int) = q := by
      rw [hm', Int.tdiv_eq_ediv_of_nonneg (by omega), Int.natCast_mul, Int.mul_ediv_cancel_left _ (by omega)]
    have hle : q ≤ G * q := Nat.le_mul_of_pos_left _ (by omega)
    rw [e]
    omega
  · show T.gcdL (x.shares.map fun n => n.tdiv (T.gcdL x.shares 0)) 0 = 1
    have := gcdL_div (d := T.gcdL x.shares 0) x.shares 0 (Nat.dvd_zero _) (fun n hn => ⟨by have := hsh n hn; omega, hd.2 n hn⟩)
    rw [Nat.zero_div, Nat.div_self (by omega)] at this
    exact this
theorem dvd_self {x : Lp} (h : T.gcdL x.shares 0 = 1) : dvd x = x := by
  have e : x.shares.map (fun n => n.tdiv ((T.gcdL x.shares 0 : Nat) : Int)) = x.shares := by
    rw [h]
    conv => rhs; rw [← List.map_id x.shares]
    exact List.map_congr_left fun n _ => Int.tdiv_one n
  unfold dvd
  rw [e]
  cases x
  rfl
theorem lr_shr {R : Nat → Prop} {W : World} {x : Lp} {A As : Option Addr} {s : List Int} (hok : x.ok) (hk : SR R W A x.kids) (hs : ∀ n ∈ s, 1 ≤ n ∧ n ≤ 1000) (hl : s.length ≤ 1048576) (hC : B.Kd.int.C W As s) (hR : 0 < s.length → ∃ b off, As = some ⟨b, off, none⟩ ∧ R b) : LR R W (shr x s) A As :=
  LR.mk ⟨hok.1, hok.2.1, hok.2.2.1, hl, fun n hn => by have := hs n hn; unfold O.okI; omega⟩ hC hR hk
theorem ch_share {x : Lp} (h : x.kind = 4) (hl : 1 < x.kids.length) : ch x = if 1 < T.gcdL x.shares 0 then some (dvd x) else none := by
  unfold ch; rw [if_neg (by omega)]
  cases hks : x.kids with
  | nil => rw [hks] at hl; simp at hl
  | cons k ks =>
    simp only
    rw [if_neg (by omega), if_neg (by rintro rfl; rw [hks] at hl; simp at hl), if_neg (by omega), if_pos h]
    rfl
theorem all_same {k : Lp} {ks : List Lp} : ((k :: ks).all fun y => decide (y = k) && plain y) = decide ((∀ y ∈ k :: ks, y = k) ∧ plain k = true) := by
  rw [Bool.eq_iff_iff, List.all_eq_true, decide_eq_true_iff]
  constructor
  · intro h
    have h' : ∀ y ∈ k :: ks, y = k ∧ plain y = true := fun y hy => by simpa using h y hy
    exact ⟨fun y hy => (h' y hy).1, (h' k List.mem_cons_self).2⟩
  · rintro ⟨h1, h2⟩ y hy
    rw [h1 y hy]; simp [h2]
theorem all_same' {k : Lp} {ks : List Lp} : ((k :: ks).all fun y => decide (y = k)) = decide (∀ y ∈ k :: ks, y = k) := by
  rw [Bool.eq_iff_iff, List.all_eq_true, decide_eq_true_iff]
  simp
theorem ch_turn {x k : Lp} {ks : List Lp} (h : x.kind = 3) (hks : x.kids = k :: ks) (hl : 1 < x.kids.length) : ch x = if (∀ y ∈ x.kids, y = k) ∧ plain k = true then some k else none := by
  unfold ch; rw [if_neg (by omega)]
  simp only [hks]
  rw [if_neg (by omega), if_neg (by rintro rfl; rw [hks] at hl; simp at hl), if_neg (by omega), if_neg (by omega)]
end Go.Proofs.YtlfobpjefklccaaDoor.H
