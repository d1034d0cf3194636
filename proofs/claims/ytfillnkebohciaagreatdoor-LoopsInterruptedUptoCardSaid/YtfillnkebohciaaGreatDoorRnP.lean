/- A loop with breaks: the program's run, the reference's run, and that both play the same: plain laws. What the player's state is like between gaps: plain laws. What breaks take from a loop: plain laws. -/
import Derived.Test.YtfillnkebohciaaGreatDoorComeP
import Derived.Test.YtfillnkebohciaaGreatDoorTl
namespace Go.Proofs.YtfillnkebohciaaGreatDoor.Rn
open Come (tot Ok atP)
open T (Step)

/-- A play: item, moment, how long. A break: item, from, to. -/
abbrev Pl := ByteArray × Int × Int
abbrev Bk := ByteArray × Int × Int

def sd : Step := (⟨#[]⟩, 0)
def itm (l : List Step) (i : Nat) : ByteArray := (l.getD i sd).1
def lg (l : List Step) (i : Nat) : Int := (l.getD i sd).2
def nx (l : List Step) (i : Nat) : Nat := (i + 1) % l.length

/-- The program's player. -/
structure PS where
  i : Nat
  rest : Int
  half : Bool
  own : List Pl
  oth : List Pl
def PS.cnt (s : PS) : Nat := s.own.length + s.oth.length
/-- A round of gap's loop. -/
def gst (l : List Step) (to f : Int) (s : PS) : PS :=
  if 0 < s.rest - min s.rest (to - f) then { s with own := s.own ++ [(itm l s.i, f, min s.rest (to - f))], rest := s.rest - min s.rest (to - f), half := true }
  else { s with own := s.own ++ [(itm l s.i, f, min s.rest (to - f))], i := nx l s.i, rest := lg l (nx l s.i), half := false }
def gpl (l : List Step) (to : Int) : Nat → Int → PS → PS
  | 0, _, s => s
  | n + 1, f, s => if f < to ∧ s.cnt ≤ 3000 then gpl l to n (f + min s.rest (to - f)) (gst l to f s) else s
def gOn (l : List Step) (wf : Int) (af : Int) (at_ : Int) (s : PS) : PS :=
  if af = 4 then { s with i := (atP l ((at_ - wf) % tot l) 0).1, rest := lg l (atP l ((at_ - wf) % tot l) 0).1 - (atP l ((at_ - wf) % tot l) 0).2, half := false }
  else if s.half = true ∧ af = 3 then { s with i := nx l s.i, rest := lg l (nx l s.i), half := false }
  else if s.half = false ∨ af = 2 then { s with rest := lg l s.i, half := false }
  else { s with half := false }
def gap (l : List Step) (wf af f to : Int) (s : PS) : PS := if f < to then gpl l to (to - f).toNat f (gOn l wf af f s) else s
def rnP (l : List Step) (wf wt af : Int) : List Bk → Int → PS → PS
  | [], a, s => gap l wf af a wt s
  | b :: bs, a, s => if min b.2.2 wt ≤ max b.2.1 wf ∨ 3000 < s.cnt then rnP l wf wt af bs a s
      else rnP l wf wt af bs (min b.2.2 wt) { gap l wf af a (max b.2.1 wf) s with oth := (gap l wf af a (max b.2.1 wf) s).oth ++ [(b.1, max b.2.1 wf, min b.2.2 wt - max b.2.1 wf)] }

/-- The reference: what is left of the breaks within the window. -/
def cl (wf wt : Int) (b : Bk) : Bk := (b.1, max b.2.1 wf, min b.2.2 wt)
def cuts (wf wt : Int) (bs : List Bk) : List Bk := (bs.map (cl wf wt)).filter fun b => decide (b.2.1 < b.2.2)
theorem cuts_pos {wf wt : Int} {b : Bk} {bs : List Bk} (h : max b.2.1 wf < min b.2.2 wt) : cuts wf wt (b :: bs) = cl wf wt b :: cuts wf wt bs := by
  unfold cuts
  rw [List.map_cons]
  exact List.filter_cons_of_pos (p := fun b : Bk => decide (b.2.1 < b.2.2)) (decide_eq_true h)
theorem cuts_neg {wf wt : Int} {b : Bk} {bs : List Bk} (h : ¬ max b.2.1 wf < min b.2.2 wt) : cuts wf wt (b :: bs) = cuts wf wt bs := by
  unfold cuts
  rw [List.map_cons]
  exact List.filter_cons_of_neg (p := fun b : Bk => decide (b.2.1 < b.2.2)) (fun e => h (of_decide_eq_true e))
/-- Where the reference goes on behind breaks. -/
def unseen (l : List Step) (wf a : Int) : Nat × Int := ((atP l ((a - wf) % tot l) 0).1, lg l (atP l ((a - wf) % tot l) 0).1 - (atP l ((a - wf) % tot l) 0).2)
def res (l : List Step) (wf af a : Int) (st : Nat × Int) : Nat × Int :=
  if af = 4 then unseen l wf a
  else if st.2 = lg l st.1 ∨ af = 1 then st
  else if af = 2 then (st.1, lg l st.1)
  else (nx l st.1, lg l (nx l st.1))
/-- Breaks that come one right behind the other. -/
def eat : List Bk → Int → List (Pl × Bool) → Int × List Bk × List (Pl × Bool)
  | [], a, o => (a, [], o)
  | b :: bs, a, o => if b.2.1 = a then eat bs b.2.2 (o ++ [((b.1, a, b.2.2 - a), true)]) else (a, b :: bs, o)
/-- Where the step ends that is on. -/
def upto (wt : Int) (cs : List Bk) (e : Int) : Int := match cs with
  | [] => min e wt
  | c :: _ => min (min e wt) c.2.1
def nxt (l : List Step) (k : Nat) (r : Int) : Nat × Int := if r = 0 then (nx l k, lg l (nx l k)) else (k, r)
/-- Does a break begin now. -/
def hd (cs : List Bk) (a : Int) : Bool := match cs with
  | [] => false
  | c :: _ => decide (c.2.1 = a)
def rfl_ (l : List Step) (wf wt af : Int) : Nat → Int → Nat → Int → List Bk → List (Pl × Bool) → List (Pl × Bool)
  | 0, _, _, _, _, o => o
  | n + 1, a, k, r, cs, o => if a < wt ∧ o.length ≤ 3001 then
      (if hd cs a = true then rfl_ l wf wt af n (eat cs a o).1 (res l wf af (eat cs a o).1 (k, r)).1 (res l wf af (eat cs a o).1 (k, r)).2 (eat cs a o).2.1 (eat cs a o).2.2
      else rfl_ l wf wt af n (upto wt cs (a + r)) (nxt l k (r - (upto wt cs (a + r) - a))).1 (nxt l k (r - (upto wt cs (a + r) - a))).2 cs (o ++ [((itm l k, a, upto wt cs (a + r) - a), false)]))
    else o

/-! ### What both play -/
def gI (l : List Step) (to : Int) : Nat → Int → Nat × Int → List Pl × (Nat × Int)
  | 0, _, st => ([], st)
  | n + 1, f, st => if f < to then
      ((itm l st.1, f, min st.2 (to - f)) :: (gI l to n (f + min st.2 (to - f)) (nxt l st.1 (st.2 - min st.2 (to - f)))).1, (gI l to n (f + min st.2 (to - f)) (nxt l st.1 (st.2 - min st.2 (to - f)))).2)
    else ([], st)
def gJ (l : List Step) (f to : Int) (st : Nat × Int) : List Pl × (Nat × Int) := gI l to (to - f).toNat f st
def tg (b : Bool) (x : List Pl) : List (Pl × Bool) := x.map fun p => (p, b)
def brk (b : Bk) : Pl × Bool := ((b.1, b.2.1, b.2.2 - b.2.1), true)
def idl (l : List Step) (wf wt af : Int) : List Bk → Int → Nat × Int → List (Pl × Bool)
  | [], a, st => if a < wt then tg false (gJ l a wt (res l wf af a st)).1 else []
  | b :: bs, a, st => if a < b.2.1 then tg false (gJ l a b.2.1 (res l wf af a st)).1 ++ brk b :: idl l wf wt af bs b.2.2 (gJ l a b.2.1 (res l wf af a st)).2
      else brk b :: idl l wf wt af bs b.2.2 st
def idn (l : List Step) (wf wt af : Int) : List Bk → Int → Nat × Int → List (Pl × Bool)
  | [], a, st => tg false (gJ l a wt st).1
  | b :: bs, a, st => tg false (gJ l a b.2.1 st).1 ++ brk b :: idl l wf wt af bs b.2.2 (gJ l a b.2.1 st).2
/-- All plays of a run. -/
def all (l : List Step) (wf wt af : Int) (bs : List Bk) : List (Pl × Bool) := idl l wf wt af (cuts wf wt bs) wf (0, lg l 0)

/-- A state that is right: the step is one of them, and it has still to go. -/
def G (l : List Step) (st : Nat × Int) : Prop := st.1 < l.length ∧ 1 ≤ st.2 ∧ st.2 ≤ lg l st.1
/-- Breaks within the window from a on, in order. -/
def Cs (wt : Int) : List Bk → Int → Prop
  | [], a => a ≤ wt
  | b :: bs, a => a ≤ b.2.1 ∧ b.2.1 < b.2.2 ∧ b.2.2 ≤ wt ∧ Cs wt bs b.2.2

section
variable {l : List Step} (hok : Ok l) (hn : l ≠ [])
include hok hn
omit hok in
theorem len_pos : 0 < l.length := List.length_pos_iff.2 hn
omit hn in
theorem lg_in {i : Nat} (hi : i < l.length) : 1 ≤ lg l i ∧ lg l i ≤ 3600000 := by
  unfold lg
  rw [List.getD_eq_getElem?_getD, List.getElem?_eq_getElem hi]
  exact hok _ (List.getElem_mem hi)
omit hok in
theorem nx_lt (i : Nat) : nx l i < l.length := Nat.mod_lt _ (len_pos hn)
theorem G_nx (k : Nat) : G l (nx l k, lg l (nx l k)) := ⟨nx_lt hn k, (lg_in hok (nx_lt hn k)).1, Int.le_refl _⟩
theorem G_nxt {k : Nat} {r : Int} (hk : k < l.length) (h0 : 0 ≤ r) (h1 : r ≤ lg l k) : G l (nxt l k r) := by
  unfold nxt
  by_cases h : r = 0
  · rw [if_pos h]; exact G_nx hok hn k
  · rw [if_neg h]; exact ⟨hk, by show (1:Int) ≤ r; omega, h1⟩
omit hn in
theorem at_in {r : Int} (h0 : 0 ≤ r) (h1 : r < tot l) : (atP l r 0).1 < l.length ∧ 0 ≤ (atP l r 0).2 ∧ (atP l r 0).2 < lg l (atP l r 0).1 := by
  have key : ∀ (m : List Step) (r : Int) (i : Nat), Ok m → 0 ≤ r → r < tot m → ∃ j, ∃ h : j < m.length, (atP m r i).1 = i + j ∧ 0 ≤ (atP m r i).2 ∧ (atP m r i).2 < m[j].2 := by
    intro m
    induction m with
    | nil => intro r i _ h0 h1; simp [tot] at h1; omega
    | cons s m ih =>
      intro r i hm h0 h1
      rw [atP]
      by_cases h : r < s.2
      · rw [if_pos h]; exact ⟨0, by simp, by simp, h0, by simpa using h⟩
      · rw [if_neg h]
        obtain ⟨j, hj, e, h2, h3⟩ := ih (r - s.2) (i + 1) (fun x hx => hm x (List.mem_cons_of_mem _ hx)) (by omega) (by simp only [tot] at h1; omega)
        exact ⟨j + 1, by simpa using hj, by rw [e]; omega, h2, by simpa using h3⟩
  obtain ⟨j, hj, e, h2, h3⟩ := key l r 0 hok h0 h1
  rw [Nat.zero_add] at e
  refine ⟨by omega, h2, ?_⟩
  rw [e]
  unfold lg
  rw [List.getD_eq_getElem?_getD, List.getElem?_eq_getElem hj]
  exact h3
theorem G_unseen (wf a : Int) : G l (unseen l wf a) := by
  have hp := Come.tot_pos hok hn
  obtain ⟨h1, h2, h3⟩ := at_in hok (r := (a - wf) % tot l) (Int.emod_nonneg _ (by omega)) (Int.emod_lt_of_pos _ (by omega))
  refine ⟨h1, ?_, ?_⟩
  · show (1 : Int) ≤ lg l (atP l ((a - wf) % tot l) 0).1 - (atP l ((a - wf) % tot l) 0).2
    omega
  · show lg l (atP l ((a - wf) % tot l) 0).1 - (atP l ((a - wf) % tot l) 0).2 ≤ lg l (atP l ((a - wf) % tot l) 0).1
    omega
theorem G_res {st : Nat × Int} (wf af a : Int) (h : G l st) : G l (res l wf af a st) := by
  unfold res
  split
  · exact G_unseen hok hn wf a
  · split
    · exact h
    · split
      · exact ⟨h.1, (lg_in hok h.1).1, Int.le_refl _⟩
      · exact G_nx hok hn _
theorem G_zero : G l (0, lg l 0) := ⟨len_pos hn, (lg_in hok (len_pos hn)).1, Int.le_refl _⟩
/-- At the window's beginning all goes on as it stands. -/
theorem res_zero (wf af : Int) : res l wf af wf (0, lg l 0) = (0, lg l 0) := by
  unfold res unseen
  have e : atP l ((wf - wf) % tot l) 0 = (0, 0) := by
    rw [Int.sub_self, Int.zero_emod]
    cases l with
    | nil => exact absurd rfl hn
    | cons s m => rw [atP, if_pos (by have := hok s (by simp); omega)]
  rw [e]
  split
  · simp
  · rw [if_pos (Or.inl rfl)]

/-- More steps than are needed change nothing. -/
theorem gI_fuel (to : Int) : ∀ (n m : Nat) (f : Int) (st : Nat × Int), G l st → (to - f).toNat ≤ n → (to - f).toNat ≤ m → gI l to n f st = gI l to m f st
  | 0, 0, _, _, _, _, _ => rfl
  | 0, m + 1, f, st, _, h, _ => by rw [gI, gI, if_neg (by omega)]
  | n + 1, 0, f, st, _, _, h => by rw [gI, gI, if_neg (by omega)]
  | n + 1, m + 1, f, st, hG, h1, h2 => by
    rw [gI, gI]
    by_cases hf : f < to
    · rw [if_pos hf, if_pos hf]
      obtain ⟨g1, g2, g3⟩ := hG
      rw [gI_fuel to n m _ _ (G_nxt hok hn g1 (by omega) (by omega)) (by omega) (by omega)]
    · rw [if_neg hf, if_neg hf]
theorem gJ_step {f to : Int} {st : Nat × Int} (hG : G l st) (h : f < to) :
    gJ l f to st = ((itm l st.1, f, min st.2 (to - f)) :: (gJ l (f + min st.2 (to - f)) to (nxt l st.1 (st.2 - min st.2 (to - f)))).1, (gJ l (f + min st.2 (to - f)) to (nxt l st.1 (st.2 - min st.2 (to - f)))).2) := by
  obtain ⟨g1, g2, g3⟩ := hG
  unfold gJ
  rw [show (to - f).toNat = ((to - f).toNat - 1) + 1 from by omega, gI, if_pos h]
  rw [gI_fuel hok hn to ((to - f).toNat - 1) (to - (f + min st.2 (to - f))).toNat _ _ (G_nxt hok hn g1 (by omega) (by omega)) (by omega) (by omega)]
omit hok hn in
theorem gJ_end {f to : Int} {st : Nat × Int} (h : ¬ f < to) : gJ l f to st = ([], st) := by
  unfold gJ
  rw [show (to - f).toNat = 0 from by omega, gI]
theorem gJ_G (to : Int) : ∀ (n : Nat) (f : Int) (st : Nat × Int), G l st → G l (gI l to n f st).2
  | 0, _, _, h => h
  | n + 1, f, st, h => by
    rw [gI]
    by_cases hf : f < to
    · rw [if_pos hf]
      exact gJ_G to n _ _ (G_nxt hok hn h.1 (by have := h.2.1; have := h.2.2; omega) (by have := h.2.1; have := h.2.2; omega))
    · rw [if_neg hf]; exact h

/-! ### The program -/
/-- How the program's state and the other one agree. -/
def Rl (l : List Step) (s : PS) (st : Nat × Int) : Prop := s.i = st.1 ∧ ((s.half = false ∧ st.2 = lg l st.1) ∨ (s.half = true ∧ s.rest = st.2 ∧ st.2 < lg l st.1))
omit hok hn in
theorem gOn_res {wf af a : Int} (haf : 1 ≤ af ∧ af ≤ 4) {s : PS} {st : Nat × Int} (h : Rl l s st) :
    (gOn l wf af a s).i = (res l wf af a st).1 ∧ (gOn l wf af a s).rest = (res l wf af a st).2 ∧ (gOn l wf af a s).own = s.own ∧ (gOn l wf af a s).oth = s.oth := by
  obtain ⟨h1, h2⟩ := h
  unfold gOn res
  by_cases h4 : af = 4
  · rw [if_pos h4, if_pos h4]; exact ⟨rfl, rfl, rfl, rfl⟩
  · rw [if_neg h4, if_neg h4]
    rcases h2 with ⟨hh, e⟩ | ⟨hh, e, hlt⟩
    · rw [if_neg (by rw [hh]; simp), if_pos (Or.inl hh), if_pos (Or.inl e)]
      exact ⟨h1, by show lg l s.i = st.2; rw [h1, e], rfl, rfl⟩
    · by_cases h3 : af = 3
      · rw [if_pos ⟨hh, h3⟩, if_neg (by omega), if_neg (by omega), h1]; exact ⟨rfl, rfl, rfl, rfl⟩
      · rw [if_neg (fun h => h3 h.2)]
        by_cases h2 : af = 2
        · rw [if_pos (Or.inr h2), if_neg (by omega), if_pos h2]; exact ⟨h1, by show lg l s.i = lg l st.1; rw [h1], rfl, rfl⟩
        · rw [if_neg (by rw [hh]; simp [h2]), if_pos (Or.inr (by omega))]; exact ⟨h1, e, rfl, rfl⟩
theorem gpl_ok (to : Int) : ∀ (n : Nat) (f : Int) (s : PS) (st : Nat × Int), G l st → s.i = st.1 → s.rest = st.2 → f < to → (to - f).toNat ≤ n → s.cnt + (gI l to n f st).1.length ≤ 3000 →
    (gpl l to n f s).own = s.own ++ (gI l to n f st).1 ∧ (gpl l to n f s).oth = s.oth ∧ Rl l (gpl l to n f s) (gI l to n f st).2
  | 0, f, s, st, hG, h1, h2, hf, hn', _ => by omega
  | n + 1, f, s, st, hG, h1, h2, hf, hn', hc => by
    obtain ⟨g1, g2, g3⟩ := hG
    rw [gI, if_pos hf] at hc ⊢
    simp only [List.length_cons] at hc
    rw [gpl, if_pos ⟨hf, by omega⟩]
    have hx : (gst l to f s).own = s.own ++ [(itm l st.1, f, min st.2 (to - f))] ∧ (gst l to f s).oth = s.oth ∧ (gst l to f s).i = (nxt l st.1 (st.2 - min st.2 (to - f))).1 ∧ (gst l to f s).rest = (nxt l st.1 (st.2 - min st.2 (to - f))).2 ∧ Rl l (gst l to f s) (nxt l st.1 (st.2 - min st.2 (to - f))) := by
      unfold gst nxt
      rw [h1, h2]
      by_cases h : 0 < st.2 - min st.2 (to - f)
      · rw [if_pos h, if_neg (by omega)]
        exact ⟨rfl, rfl, rfl, rfl, rfl, Or.inr ⟨rfl, rfl, by show st.2 - min st.2 (to - f) < lg l st.1; omega⟩⟩
      · rw [if_neg h, if_pos (by omega)]
        exact ⟨rfl, rfl, rfl, rfl, rfl, Or.inl ⟨rfl, rfl⟩⟩
    obtain ⟨e1, e2, e3, e4, e5⟩ := hx
    have hcn : (gst l to f s).cnt = s.cnt + 1 := by unfold PS.cnt; rw [e1, e2]; simp; omega
    have hG' := G_nxt hok hn g1 (r := st.2 - min st.2 (to - f)) (by omega) (by omega)
    rw [h2]
    by_cases hf2 : f + min st.2 (to - f) < to
    · obtain ⟨i1, i2, i3⟩ := gpl_ok to n (f + min st.2 (to - f)) (gst l to f s) _ hG' e3 e4 hf2 (by omega) (by omega)
      exact ⟨by rw [i1, e1]; simp, i2.trans e2, i3⟩
    · have hz : gI l to n (f + min st.2 (to - f)) (nxt l st.1 (st.2 - min st.2 (to - f))) = ([], nxt l st.1 (st.2 - min st.2 (to - f))) := by
        cases n with
        | zero => rw [gI]
        | succ n => rw [gI, if_neg hf2]
      have hz2 : gpl l to n (f + min st.2 (to - f)) (gst l to f s) = gst l to f s := by
        cases n with
        | zero => rw [gpl]
        | succ n => rw [gpl, if_neg (fun h => hf2 h.1)]
      rw [hz, hz2]
      exact ⟨e1, e2, e5⟩
omit hok hn in
theorem gpl_mono (to : Int) : ∀ (n : Nat) (f : Int) (s : PS), s.cnt ≤ (gpl l to n f s).cnt ∧ (gpl l to n f s).oth = s.oth
  | 0, _, _ => ⟨Nat.le_refl _, rfl⟩
  | n + 1, f, s => by
    rw [gpl]
    split
    · have hx : (gst l to f s).cnt = s.cnt + 1 ∧ (gst l to f s).oth = s.oth := by
        unfold gst PS.cnt
        split <;> exact ⟨by simp; omega, rfl⟩
      obtain ⟨h1, h2⟩ := gpl_mono to n (f + min s.rest (to - f)) (gst l to f s)
      exact ⟨by omega, h2.trans hx.2⟩
    · exact ⟨Nat.le_refl _, rfl⟩
theorem gpl_full (to : Int) : ∀ (n : Nat) (f : Int) (s : PS) (st : Nat × Int), G l st → s.i = st.1 → s.rest = st.2 → 3000 < s.cnt + (gI l to n f st).1.length → 3000 < (gpl l to n f s).cnt
  | 0, f, s, st, hG, h1, h2, hc => by rw [gI] at hc; rw [gpl]; simpa using hc
  | n + 1, f, s, st, hG, h1, h2, hc => by
    obtain ⟨g1, g2, g3⟩ := hG
    by_cases hs : 3000 < s.cnt
    · have := (gpl_mono (l := l) to (n + 1) f s).1; omega
    · rw [gI] at hc
      by_cases hf : f < to
      · rw [if_pos hf] at hc
        simp only [List.length_cons] at hc
        rw [gpl, if_pos ⟨hf, by omega⟩]
        have hx : (gst l to f s).cnt = s.cnt + 1 ∧ (gst l to f s).i = (nxt l st.1 (st.2 - min st.2 (to - f))).1 ∧ (gst l to f s).rest = (nxt l st.1 (st.2 - min st.2 (to - f))).2 := by
          unfold gst nxt PS.cnt
          rw [h1, h2]
          by_cases h : 0 < st.2 - min st.2 (to - f)
          · rw [if_pos h, if_neg (by omega)]; exact ⟨by simp; omega, rfl, rfl⟩
          · rw [if_neg h, if_pos (by omega)]; exact ⟨by simp; omega, rfl, rfl⟩
        rw [h2]
        exact gpl_full to n _ _ _ (G_nxt hok hn g1 (by omega) (by omega)) hx.2.1 hx.2.2 (by omega)
      · rw [if_neg hf] at hc
        simp at hc
        omega
/-- A gap: as many plays as there is room for. -/
theorem gap_ok {wf af f to : Int} (haf : 1 ≤ af ∧ af ≤ 4) {s : PS} {st : Nat × Int} (hG : G l st) (hR : Rl l s st) (hf : f < to) (hc : s.cnt + (gJ l f to (res l wf af f st)).1.length ≤ 3000) :
    (gap l wf af f to s).own = s.own ++ (gJ l f to (res l wf af f st)).1 ∧ (gap l wf af f to s).oth = s.oth ∧ Rl l (gap l wf af f to s) (gJ l f to (res l wf af f st)).2 := by
  obtain ⟨h1, h2, h3, h4⟩ := gOn_res (a := f) (wf := wf) haf hR
  unfold gap
  rw [if_pos hf]
  have := gpl_ok hok hn to (to - f).toNat f (gOn l wf af f s) _ (G_res hok hn wf af f hG) h1 h2 hf (Nat.le_refl _) (by unfold PS.cnt at hc ⊢; rw [h3, h4]; exact hc)
  rw [h3, h4] at this
  exact this
theorem gap_full {wf af f to : Int} (haf : 1 ≤ af ∧ af ≤ 4) {s : PS} {st : Nat × Int} (hG : G l st) (hR : Rl l s st) (hf : f < to) (hc : 3000 < s.cnt + (gJ l f to (res l wf af f st)).1.length) :
    3000 < (gap l wf af f to s).cnt := by
  obtain ⟨h1, h2, h3, h4⟩ := gOn_res (a := f) (wf := wf) haf hR
  unfold gap
  rw [if_pos hf]
  exact gpl_full hok hn to (to - f).toNat f (gOn l wf af f s) _ (G_res hok hn wf af f hG) h1 h2 (by unfold PS.cnt at hc ⊢; rw [h3, h4]; exact hc)
omit hok hn in
theorem gOn_cnt (wf af a : Int) (s : PS) : (gOn l wf af a s).cnt = s.cnt ∧ (gOn l wf af a s).oth = s.oth := by
  unfold gOn PS.cnt
  split
  · exact ⟨rfl, rfl⟩
  · split
    · exact ⟨rfl, rfl⟩
    · split <;> exact ⟨rfl, rfl⟩
omit hok hn in
theorem gap_mono (wf af f to : Int) (s : PS) : s.cnt ≤ (gap l wf af f to s).cnt ∧ (gap l wf af f to s).oth = s.oth := by
  unfold gap
  split
  · have h := gpl_mono (l := l) to (to - f).toNat f (gOn l wf af f s)
    have g := gOn_cnt (l := l) wf af f s
    exact ⟨by omega, h.2.trans g.2⟩
  · exact ⟨Nat.le_refl _, rfl⟩
omit hok hn in
theorem rnP_mono (wf wt af : Int) : ∀ (bs : List Bk) (a : Int) (s : PS), s.cnt ≤ (rnP l wf wt af bs a s).cnt
  | [], a, s => (gap_mono wf af a wt s).1
  | b :: bs, a, s => by
    rw [rnP]
    split
    · exact rnP_mono wf wt af bs a s
    · refine Nat.le_trans (Nat.le_trans (gap_mono (l := l) wf af a (max b.2.1 wf) s).1 ?_) (rnP_mono wf wt af bs _ _)
      unfold PS.cnt
      simp
omit hok hn in
theorem len_tg (b : Bool) (x : List Pl) : (tg b x).length = x.length := by simp [tg]
def ownOf (x : List (Pl × Bool)) : List Pl := (x.filter fun p => !p.2).map (·.1)
def othOf (x : List (Pl × Bool)) : List Pl := (x.filter fun p => p.2).map (·.1)
omit hok hn in
theorem ownOf_app (x y : List (Pl × Bool)) : ownOf (x ++ y) = ownOf x ++ ownOf y := by simp [ownOf]
omit hok hn in
theorem othOf_app (x y : List (Pl × Bool)) : othOf (x ++ y) = othOf x ++ othOf y := by simp [othOf]
omit hok hn in
theorem ownOf_tg (x : List Pl) : ownOf (tg false x) = x ∧ othOf (tg false x) = [] := by
  induction x with
  | nil => exact ⟨rfl, rfl⟩
  | cons y x ih =>
    obtain ⟨i1, i2⟩ := ih
    unfold ownOf othOf tg at *
    simp only [List.map_cons]
    rw [List.filter_cons_of_pos (by rfl), List.filter_cons_of_neg (by simp)]
    exact ⟨by rw [List.map_cons, i1], i2⟩
omit hok hn in
theorem own_brk (b : Bk) (x : List (Pl × Bool)) : ownOf (brk b :: x) = ownOf x ∧ othOf (brk b :: x) = (b.1, b.2.1, b.2.2 - b.2.1) :: othOf x := by
  unfold ownOf othOf brk
  rw [List.filter_cons_of_neg (by simp), List.filter_cons_of_pos (by rfl)]
  exact ⟨rfl, rfl⟩
omit hok hn in
/-- In order and within the window. -/
theorem cs_of (wf wt : Int) : ∀ (bs : List Bk) (a : Int), (∀ b ∈ bs, b.2.1 < b.2.2) → bs.Pairwise (fun x y => x.2.2 ≤ y.2.1) → (∀ b ∈ bs, a ≤ max b.2.1 wf) → a ≤ wt → wf ≤ a → Cs wt (cuts wf wt bs) a
  | [], a, _, _, _, h, _ => h
  | b :: bs, a, h1, h2, h3, h4, h5 => by
    rw [List.pairwise_cons] at h2
    have hb := h3 b (by simp)
    have ht : ∀ c ∈ bs, c.2.1 < c.2.2 := fun c hc => h1 c (List.mem_cons_of_mem _ hc)
    by_cases h : max b.2.1 wf < min b.2.2 wt
    · rw [cuts_pos h]
      refine ⟨hb, h, by show min b.2.2 wt ≤ wt; omega, ?_⟩
      exact cs_of wf wt bs (min b.2.2 wt) ht h2.2 (fun c hc => by have := h2.1 c hc; omega) (by omega) (by omega)
    · rw [cuts_neg h]
      exact cs_of wf wt bs a ht h2.2 (fun c hc => h3 c (List.mem_cons_of_mem _ hc)) h4 h5
/-- **The program's run.** -/
theorem rnP_ok {wf wt af : Int} (haf : 1 ≤ af ∧ af ≤ 4) : ∀ (bs : List Bk) (a : Int) (s : PS) (st : Nat × Int), G l st → Rl l s st → Cs wt (cuts wf wt bs) a → s.cnt ≤ 3000 →
    (s.cnt + (idl l wf wt af (cuts wf wt bs) a st).length ≤ 3000 → (rnP l wf wt af bs a s).own = s.own ++ ownOf (idl l wf wt af (cuts wf wt bs) a st) ∧ (rnP l wf wt af bs a s).oth = s.oth ++ othOf (idl l wf wt af (cuts wf wt bs) a st)) ∧
    (3000 < s.cnt + (idl l wf wt af (cuts wf wt bs) a st).length → 3000 < (rnP l wf wt af bs a s).cnt)
  | [], a, s, st, hG, hR, hC, hs => by
    have e : cuts wf wt ([] : List Bk) = [] := rfl
    rw [e, idl, rnP]
    by_cases h : a < wt
    · rw [if_pos h, len_tg]
      refine ⟨fun hc => ?_, fun hc => gap_full hok hn haf hG hR h hc⟩
      obtain ⟨h1, h2, -⟩ := gap_ok hok hn haf hG hR h hc
      rw [(ownOf_tg _).1, (ownOf_tg _).2, List.append_nil]
      exact ⟨h1, h2⟩
    · rw [if_neg h]
      unfold gap
      rw [if_neg h]
      exact ⟨fun _ => ⟨by simp [ownOf], by simp [othOf]⟩, fun hc => by simpa using hc⟩
  | b :: bs, a, s, st, hG, hR, hC, hs => by
    rw [rnP]
    by_cases hb : max b.2.1 wf < min b.2.2 wt
    · have e : cuts wf wt (b :: bs) = cl wf wt b :: cuts wf wt bs := cuts_pos hb
      rw [if_neg (by omega), e]
      rw [e] at hC
      obtain ⟨c1, c2, c3, c4⟩ := hC
      rw [idl]
      have key : ∀ (s' : PS) (st' : Nat × Int), G l st' → Rl l s' st' → s'.cnt < 3000 + 1 →
          (s'.cnt + (1 + (idl l wf wt af (cuts wf wt bs) (min b.2.2 wt) st').length) ≤ 3000 → (rnP l wf wt af bs (min b.2.2 wt) { s' with oth := s'.oth ++ [(b.1, max b.2.1 wf, min b.2.2 wt - max b.2.1 wf)] }).own = s'.own ++ ownOf (idl l wf wt af (cuts wf wt bs) (min b.2.2 wt) st') ∧ (rnP l wf wt af bs (min b.2.2 wt) { s' with oth := s'.oth ++ [(b.1, max b.2.1 wf, min b.2.2 wt - max b.2.1 wf)] }).oth = s'.oth ++ (b.1, max b.2.1 wf, min b.2.2 wt - max b.2.1 wf) :: othOf (idl l wf wt af (cuts wf wt bs) (min b.2.2 wt) st')) ∧
          (3000 < s'.cnt + (1 + (idl l wf wt af (cuts wf wt bs) (min b.2.2 wt) st').length) → 3000 < (rnP l wf wt af bs (min b.2.2 wt) { s' with oth := s'.oth ++ [(b.1, max b.2.1 wf, min b.2.2 wt - max b.2.1 wf)] }).cnt) := by
        intro s' st' hG' hR' hc'
        have hcn : ({ s' with oth := s'.oth ++ [(b.1, max b.2.1 wf, min b.2.2 wt - max b.2.1 wf)] } : PS).cnt = s'.cnt + 1 := by unfold PS.cnt; simp; omega
        by_cases hx : s'.cnt + 1 ≤ 3000
        · obtain ⟨i1, i2⟩ := rnP_ok haf bs (min b.2.2 wt) { s' with oth := s'.oth ++ [(b.1, max b.2.1 wf, min b.2.2 wt - max b.2.1 wf)] } st' hG' ⟨hR'.1, hR'.2⟩ c4 (by omega)
          rw [hcn] at i1 i2
          refine ⟨fun hc => ?_, fun hc => i2 (by omega)⟩
          obtain ⟨j1, j2⟩ := i1 (by omega)
          exact ⟨j1, by rw [j2]; simp⟩
        · have hm := rnP_mono (l := l) wf wt af bs (min b.2.2 wt) { s' with oth := s'.oth ++ [(b.1, max b.2.1 wf, min b.2.2 wt - max b.2.1 wf)] }
          exact ⟨fun hc => by omega, fun _ => by omega⟩
      by_cases h : a < max b.2.1 wf
      · rw [if_pos (show a < (cl wf wt b).2.1 from h)]
        show (_ + (tg false (gJ l a (max b.2.1 wf) (res l wf af a st)).1 ++ brk (cl wf wt b) :: idl l wf wt af (cuts wf wt bs) (min b.2.2 wt) (gJ l a (max b.2.1 wf) (res l wf af a st)).2).length ≤ 3000 → _ = _ ++ ownOf (tg false (gJ l a (max b.2.1 wf) (res l wf af a st)).1 ++ brk (cl wf wt b) :: idl l wf wt af (cuts wf wt bs) (min b.2.2 wt) (gJ l a (max b.2.1 wf) (res l wf af a st)).2) ∧ _ = _ ++ othOf (tg false (gJ l a (max b.2.1 wf) (res l wf af a st)).1 ++ brk (cl wf wt b) :: idl l wf wt af (cuts wf wt bs) (min b.2.2 wt) (gJ l a (max b.2.1 wf) (res l wf af a st)).2)) ∧ (3000 < _ + (tg false (gJ l a (max b.2.1 wf) (res l wf af a st)).1 ++ brk (cl wf wt b) :: idl l wf wt af (cuts wf wt bs) (min b.2.2 wt) (gJ l a (max b.2.1 wf) (res l wf af a st)).2).length → _)
        rw [List.length_append, len_tg, List.length_cons, ownOf_app, othOf_app, (ownOf_tg _).1, (ownOf_tg _).2, (own_brk _ _).1, (own_brk _ _).2, List.nil_append]
        have hGj := gJ_G hok hn (max b.2.1 wf) (max b.2.1 wf - a).toNat a _ (G_res hok hn wf af a hG)
        by_cases hx : s.cnt + (gJ l a (max b.2.1 wf) (res l wf af a st)).1.length ≤ 3000
        · obtain ⟨h1, h2, h3⟩ := gap_ok hok hn haf hG hR h hx
          have hcn : (gap l wf af a (max b.2.1 wf) s).cnt = s.cnt + (gJ l a (max b.2.1 wf) (res l wf af a st)).1.length := by unfold PS.cnt; rw [h1, h2]; simp; omega
          obtain ⟨k1, k2⟩ := key (gap l wf af a (max b.2.1 wf) s) _ hGj h3 (by omega)
          refine ⟨fun hc => ?_, fun hc => k2 (by rw [hcn]; show 3000 < s.cnt + _ + (1 + (idl l wf wt af (cuts wf wt bs) (min b.2.2 wt) (gJ l a (max b.2.1 wf) (res l wf af a st)).2).length); omega)⟩
          obtain ⟨j1, j2⟩ := k1 (by rw [hcn]; show s.cnt + _ + (1 + (idl l wf wt af (cuts wf wt bs) (min b.2.2 wt) (gJ l a (max b.2.1 wf) (res l wf af a st)).2).length) ≤ 3000; omega)
          exact ⟨by rw [j1, h1, List.append_assoc]; rfl, by rw [j2, h2]; rfl⟩
        · have hfu := gap_full hok hn (wf := wf) haf hG hR h (by omega)
          refine ⟨fun hc => by omega, fun _ => Nat.lt_of_lt_of_le hfu ?_⟩
          refine Nat.le_trans ?_ (rnP_mono wf wt af bs _ _)
          unfold PS.cnt
          simp
      · rw [if_neg (show ¬ a < (cl wf wt b).2.1 from h)]
        have hg : gap l wf af a (max b.2.1 wf) s = s := by unfold gap; rw [if_neg h]
        rw [hg, List.length_cons, (own_brk _ _).1, (own_brk _ _).2]
        obtain ⟨k1, k2⟩ := key s st hG hR (by omega)
        exact ⟨fun hc => k1 (by show s.cnt + (1 + (idl l wf wt af (cuts wf wt bs) (min b.2.2 wt) st).length) ≤ 3000; have : (idl l wf wt af (cuts wf wt bs) (cl wf wt b).2.2 st).length = (idl l wf wt af (cuts wf wt bs) (min b.2.2 wt) st).length := rfl; omega), fun hc => k2 (by have : (idl l wf wt af (cuts wf wt bs) (cl wf wt b).2.2 st).length = (idl l wf wt af (cuts wf wt bs) (min b.2.2 wt) st).length := rfl; omega)⟩
    · have e : cuts wf wt (b :: bs) = cuts wf wt bs := cuts_neg hb
      rw [if_pos (Or.inl (by omega)), e]
      rw [e] at hC
      exact rnP_ok haf bs a s st hG hR hC hs

/-! ### The reference -/
omit hok hn in
theorem eat_idl {wf wt af : Int} (st : Nat × Int) : ∀ (cs : List Bk) (a : Int) (o : List (Pl × Bool)), Cs wt cs a →
    ∃ x, (eat cs a o).2.2 = o ++ x ∧ idl l wf wt af cs a st = x ++ idn l wf wt af (eat cs a o).2.1 (eat cs a o).1 (res l wf af (eat cs a o).1 st) ∧ Cs wt (eat cs a o).2.1 (eat cs a o).1 ∧ a ≤ (eat cs a o).1 ∧ (∀ c cs', cs = c :: cs' → c.2.1 = a → a < (eat cs a o).1) ∧ (∀ c cs', (eat cs a o).2.1 = c :: cs' → (eat cs a o).1 < c.2.1)
  | [], a, o, h => by
    rw [eat, idl]
    refine ⟨[], by simp, ?_, h, Int.le_refl _, (fun c cs' (e : ([] : List Bk) = c :: cs') => by cases e), (fun c cs' (e : ([] : List Bk) = c :: cs') => by cases e)⟩
    rw [idn, List.nil_append]
    by_cases ha : a < wt
    · rw [if_pos ha]
    · rw [if_neg ha, gJ_end ha]; rfl
  | b :: bs, a, o, h => by
    obtain ⟨h1, h2, h3, h4⟩ := h
    rw [eat, idl]
    by_cases hb : b.2.1 = a
    · rw [if_pos hb, if_neg (by omega)]
      obtain ⟨x, e1, e2, e3, e4, e5, e6⟩ := eat_idl st bs b.2.2 (o ++ [((b.1, a, b.2.2 - a), true)]) h4
      refine ⟨brk b :: x, ?_, ?_, e3, by omega, fun c cs' _ _ => by omega, e6⟩
      · rw [e1]; unfold brk; rw [hb]; simp
      · rw [e2]; rfl
    · rw [if_neg hb, if_pos (by omega)]
      refine ⟨[], by simp, ?_, ⟨h1, h2, h3, h4⟩, Int.le_refl _, fun c cs' e hc => by cases e; exact absurd hc hb, fun c cs' e => by cases e; show a < b.2.1; omega⟩
      rw [idn]; rfl
theorem idn_step {wf wt af a : Int} {k : Nat} {r : Int} {cs : List Bk} (hG : G l (k, r)) (hC : Cs wt cs a) (ha : a < wt) (hc : ∀ c cs', cs = c :: cs' → c.2.1 ≠ a) :
    a < upto wt cs (a + r) ∧ upto wt cs (a + r) ≤ wt ∧ G l (nxt l k (r - (upto wt cs (a + r) - a))) ∧ Cs wt cs (upto wt cs (a + r)) ∧
    idn l wf wt af cs a (k, r) = ((itm l k, a, upto wt cs (a + r) - a), false) :: idn l wf wt af cs (upto wt cs (a + r)) (nxt l k (r - (upto wt cs (a + r) - a))) := by
  obtain ⟨g1, g2, g3⟩ := hG
  have g2' : 1 ≤ r := g2
  have g3' : r ≤ lg l k := g3
  cases cs with
  | nil =>
    have e : upto wt [] (a + r) = a + min r (wt - a) := by show min (a + r) wt = _; omega
    refine ⟨by rw [e]; omega, by rw [e]; omega, by rw [e]; exact G_nxt hok hn g1 (by omega) (by omega), by rw [e]; show a + min r (wt - a) ≤ wt; omega, ?_⟩
    rw [idn, idn, gJ_step hok hn ⟨g1, g2, g3⟩ ha, e, show a + min r (wt - a) - a = min r (wt - a) from by omega]
    rfl
  | cons c cs' =>
    obtain ⟨h1, h2, h3, h4⟩ := hC
    have hne := hc c cs' rfl
    have e : upto wt (c :: cs') (a + r) = a + min r (c.2.1 - a) := by unfold upto; show min (min (a + r) wt) c.2.1 = _; omega
    refine ⟨by rw [e]; omega, by rw [e]; omega, by rw [e]; exact G_nxt hok hn g1 (by omega) (by omega), by rw [e]; exact ⟨by omega, h2, h3, h4⟩, ?_⟩
    rw [idn, idn, gJ_step hok hn ⟨g1, g2, g3⟩ (show a < c.2.1 by omega), e, show a + min r (c.2.1 - a) - a = min r (c.2.1 - a) from by omega]
    rfl
/-- **The reference's run.** -/
theorem rfl_ok {wf wt af : Int} : ∀ (n : Nat) (a : Int) (k : Nat) (r : Int) (cs : List Bk) (o : List (Pl × Bool)), G l (k, r) → Cs wt cs a → (wt - a).toNat ≤ n →
    ∀ y, (∀ c cs', cs = c :: cs' → c.2.1 = a → y = idl l wf wt af cs a (k, r)) → ((∀ c cs', cs = c :: cs' → c.2.1 ≠ a) → y = idn l wf wt af cs a (k, r)) →
    (o.length + y.length ≤ 3001 → rfl_ l wf wt af n a k r cs o = o ++ y) ∧ (3001 < o.length + y.length → 3001 < (rfl_ l wf wt af n a k r cs o).length)
  | 0, a, k, r, cs, o, hG, hC, hn', y, hy1, hy2 => by
    have ha : ¬ a < wt := by omega
    have hy : y = [] := by
      cases cs with
      | nil => rw [hy2 (fun c cs' e => by cases e), idn, gJ_end ha]; rfl
      | cons c cs' => obtain ⟨h1, h2, h3, h4⟩ := hC; omega
    rw [rfl_, hy]
    exact ⟨fun _ => by simp, fun h => by simpa using h⟩
  | n + 1, a, k, r, cs, o, hG, hC, hn', y, hy1, hy2 => by
    rw [rfl_]
    by_cases ha : a < wt
    · by_cases ho : o.length ≤ 3001
      · rw [if_pos ⟨ha, ho⟩]
        have step : (∀ c cs', cs = c :: cs' → c.2.1 ≠ a) → 
            (o.length + y.length ≤ 3001 → rfl_ l wf wt af n (upto wt cs (a + r)) (nxt l k (r - (upto wt cs (a + r) - a))).1 (nxt l k (r - (upto wt cs (a + r) - a))).2 cs (o ++ [((itm l k, a, upto wt cs (a + r) - a), false)]) = o ++ y) ∧
            (3001 < o.length + y.length → 3001 < (rfl_ l wf wt af n (upto wt cs (a + r)) (nxt l k (r - (upto wt cs (a + r) - a))).1 (nxt l k (r - (upto wt cs (a + r) - a))).2 cs (o ++ [((itm l k, a, upto wt cs (a + r) - a), false)])).length) := by
          intro hc
          obtain ⟨h1, h2, h3, h4, h5⟩ := idn_step hok hn (wf := wf) (af := af) hG hC ha hc
          have hy := hy2 hc
          rw [h5] at hy
          obtain ⟨y', hy'⟩ : ∃ y', y' = idn l wf wt af cs (upto wt cs (a + r)) (nxt l k (r - (upto wt cs (a + r) - a))) := ⟨_, rfl⟩
          rw [← hy'] at hy
          have ih := rfl_ok (wf := wf) (af := af) n (upto wt cs (a + r)) (nxt l k (r - (upto wt cs (a + r) - a))).1 (nxt l k (r - (upto wt cs (a + r) - a))).2 cs (o ++ [((itm l k, a, upto wt cs (a + r) - a), false)]) h3 h4 (by omega) y'
            (fun c cs' e hca => by
              subst e
              rw [hy', idl, if_neg (by omega), idn, gJ_end (by omega)]; rfl)
            (fun _ => hy')
          rw [hy]
          rw [List.length_append, List.length_singleton] at ih
          rw [List.length_cons]
          exact ⟨fun h => by rw [ih.1 (by omega), List.append_assoc]; rfl, fun h => ih.2 (by omega)⟩
        by_cases hh : hd cs a = true
        · rw [if_pos hh]
          obtain ⟨c, cs', ecs, hc⟩ : ∃ c cs', cs = c :: cs' ∧ c.2.1 = a := by
            cases cs with
            | nil => cases hh
            | cons c cs' => exact ⟨c, cs', rfl, of_decide_eq_true hh⟩
          obtain ⟨x, e1, e2, e3, e4, e5, e6⟩ := eat_idl (l := l) (wf := wf) (af := af) (k, r) cs a o hC
          have hy := hy1 c cs' ecs hc
          rw [e2] at hy
          have hlt := e5 c cs' ecs hc
          have ih := rfl_ok (wf := wf) (af := af) n (eat cs a o).1 (res l wf af (eat cs a o).1 (k, r)).1 (res l wf af (eat cs a o).1 (k, r)).2 (eat cs a o).2.1 (eat cs a o).2.2 (G_res hok hn wf af _ hG) e3 (by omega) (idn l wf wt af (eat cs a o).2.1 (eat cs a o).1 (res l wf af (eat cs a o).1 (k, r)))
            (fun d ds ed hd => by have := e6 d ds ed; omega) (fun _ => rfl)
          rw [e1, List.length_append] at ih
          rw [hy, List.length_append, e1]
          exact ⟨fun h => by rw [ih.1 (by omega), List.append_assoc], fun h => ih.2 (by omega)⟩
        · rw [if_neg hh]
          exact step (fun c cs' e hc => hh (by subst e; exact decide_eq_true hc))
      · rw [if_neg (fun h => ho h.2)]
        exact ⟨fun h => by omega, fun h => by omega⟩
    · rw [if_neg (fun h => ha h.1)]
      have hy : y = [] := by
        cases cs with
        | nil => rw [hy2 (fun c cs' e => by cases e), idn, gJ_end ha]; rfl
        | cons c cs' => obtain ⟨h1, h2, h3, h4⟩ := hC; omega
      rw [hy]
      exact ⟨fun _ => by simp, fun h => by simpa using h⟩
/-- From the beginning on. -/
theorem rfl_all {wf wt af : Int} {bs : List Bk} (hC : Cs wt (cuts wf wt bs) wf) (n : Nat) (hn' : (wt - wf).toNat ≤ n) :
    ((all l wf wt af bs).length ≤ 3000 → rfl_ l wf wt af n wf 0 (lg l 0) (cuts wf wt bs) [] = all l wf wt af bs) ∧ (3000 < (all l wf wt af bs).length → 3000 < (rfl_ l wf wt af n wf 0 (lg l 0) (cuts wf wt bs) []).length) := by
  have h := rfl_ok hok hn (wf := wf) (wt := wt) (af := af) n wf 0 (lg l 0) (cuts wf wt bs) [] (G_zero hok hn) hC hn' (all l wf wt af bs) (fun c cs' _ _ => rfl) (fun hc => by
    unfold all
    cases hcs : cuts wf wt bs with
    | nil =>
      rw [idl, idn]
      by_cases h : wf < wt
      · rw [if_pos h, res_zero hok hn]
      · rw [if_neg h, gJ_end h]; rfl
    | cons c cs =>
      have hne := hc c cs hcs
      rw [hcs] at hC
      obtain ⟨h1, -⟩ := hC
      rw [idl, idn, if_pos (by omega), res_zero hok hn])
  rw [List.length_nil, Nat.zero_add, List.nil_append] at h
  refine ⟨fun hc => h.1 (by omega), fun hc => ?_⟩
  by_cases hx : (all l wf wt af bs).length ≤ 3001
  · rw [h.1 hx]; exact hc
  · have := h.2 (by omega); omega
/-- From the beginning on: the program. -/
def s0 : PS := ⟨0, 0, false, [], []⟩
theorem rnP_all {wf wt af : Int} (haf : 1 ≤ af ∧ af ≤ 4) {bs : List Bk} (hC : Cs wt (cuts wf wt bs) wf) :
    ((all l wf wt af bs).length ≤ 3000 → (rnP l wf wt af bs wf s0).own = ownOf (all l wf wt af bs) ∧ (rnP l wf wt af bs wf s0).oth = othOf (all l wf wt af bs)) ∧ (3000 < (all l wf wt af bs).length → 3000 < (rnP l wf wt af bs wf s0).cnt) := by
  have h := rnP_ok hok hn haf bs wf s0 (0, lg l 0) (G_zero hok hn) ⟨rfl, Or.inl ⟨rfl, rfl⟩⟩ hC (by decide)
  have h0 : s0.cnt = 0 := rfl
  rw [h0, Nat.zero_add] at h
  exact ⟨fun hc => h.1 hc, fun hc => h.2 hc⟩
omit hok hn in
theorem own_oth (x : List (Pl × Bool)) : (ownOf x).length + (othOf x).length = x.length ∧ (ownOf x ++ othOf x).Perm (x.map (·.1)) := by
  induction x with
  | nil => exact ⟨rfl, List.Perm.refl _⟩
  | cons p x ih =>
    obtain ⟨i1, i2⟩ := ih
    unfold ownOf othOf at *
    obtain ⟨q, t⟩ := p
    cases t
    · rw [List.filter_cons_of_pos (by rfl), List.filter_cons_of_neg (by simp)]
      exact ⟨by simp only [List.map_cons, List.length_cons]; omega, by simpa using i2⟩
    · rw [List.filter_cons_of_neg (by simp), List.filter_cons_of_pos (by rfl)]
      refine ⟨by simp only [List.map_cons, List.length_cons]; omega, ?_⟩
      simp only [List.map_cons]
      exact (List.perm_middle).trans (i2.cons q)
/-! ### What plays are like -/
def Pok (a b : Int) (p : Pl) : Prop := a ≤ p.2.1 ∧ 1 ≤ p.2.2 ∧ p.2.1 + p.2.2 ≤ b
theorem gI_ok (to : Int) : ∀ (n : Nat) (f : Int) (st : Nat × Int), G l st → f ≤ to →
    (∀ p ∈ (gI l to n f st).1, Pok f to p ∧ p.2.2 ≤ 3600000 ∧ p.1 ∈ l.map (·.1)) ∧ (gI l to n f st).1.Pairwise (fun p q => p.2.1 + p.2.2 ≤ q.2.1)
  | 0, f, st, _, _ => ⟨fun p hp => by simp [gI] at hp, by simp [gI]⟩
  | n + 1, f, st, hG, hft => by
    obtain ⟨g1, g2, g3⟩ := hG
    have hl := lg_in hok g1
    rw [gI]
    by_cases hf : f < to
    · rw [if_pos hf]
      obtain ⟨i1, i2⟩ := gI_ok to n (f + min st.2 (to - f)) _ (G_nxt hok hn g1 (r := st.2 - min st.2 (to - f)) (by omega) (by omega)) (by omega)
      refine ⟨fun p hp => ?_, List.pairwise_cons.2 ⟨fun q hq => (i1 q hq).1.1, i2⟩⟩
      rcases List.mem_cons.1 hp with rfl | hp
      · refine ⟨⟨Int.le_refl _, by show 1 ≤ min st.2 (to - f); omega, by show f + min st.2 (to - f) ≤ to; omega⟩, by show min st.2 (to - f) ≤ 3600000; omega, ?_⟩
        show itm l st.1 ∈ _
        unfold itm
        rw [List.getD_eq_getElem?_getD, List.getElem?_eq_getElem g1]
        exact List.mem_map.2 ⟨l[st.1], List.getElem_mem g1, rfl⟩
      · obtain ⟨⟨j1, j2, j3⟩, j4⟩ := i1 p hp
        exact ⟨⟨by omega, j2, j3⟩, j4⟩
    · rw [if_neg hf]
      exact ⟨fun p hp => by simp at hp, by simp⟩
theorem idl_ok {wf wt af : Int} : ∀ (cs : List Bk) (a : Int) (st : Nat × Int), G l st → Cs wt cs a →
    (∀ p ∈ idl l wf wt af cs a st, Pok a wt p.1 ∧ (p.2 = false → p.1.2.2 ≤ 3600000 ∧ p.1.1 ∈ l.map (·.1))) ∧ (idl l wf wt af cs a st).Pairwise (fun p q => p.1.2.1 + p.1.2.2 ≤ q.1.2.1)
  | [], a, st, hG, hC => by
    rw [idl]
    by_cases ha : a < wt
    · rw [if_pos ha]
      obtain ⟨h1, h2⟩ := gI_ok hok hn wt (wt - a).toNat a _ (G_res hok hn wf af a hG) (by omega)
      refine ⟨fun p hp => ?_, ?_⟩
      · obtain ⟨q, hq, rfl⟩ := List.mem_map.1 hp
        exact ⟨(h1 q hq).1, fun _ => (h1 q hq).2⟩
      · unfold tg; rw [List.pairwise_map]; exact h2
    · rw [if_neg ha]
      exact ⟨fun p hp => by simp at hp, by simp⟩
  | b :: bs, a, st, hG, hC => by
    obtain ⟨c1, c2, c3, c4⟩ := hC
    have key : ∀ st', G l st' → (∀ p ∈ brk b :: idl l wf wt af bs b.2.2 st', Pok b.2.1 wt p.1 ∧ (p.2 = false → p.1.2.2 ≤ 3600000 ∧ p.1.1 ∈ l.map (·.1))) ∧ (brk b :: idl l wf wt af bs b.2.2 st').Pairwise (fun p q => p.1.2.1 + p.1.2.2 ≤ q.1.2.1) := by
      intro st' hG'
      obtain ⟨i1, i2⟩ := idl_ok (wf := wf) (af := af) bs b.2.2 st' hG' c4
      refine ⟨fun p hp => ?_, List.pairwise_cons.2 ⟨fun q hq => ?_, i2⟩⟩
      · rcases List.mem_cons.1 hp with rfl | hp
        · exact ⟨⟨Int.le_refl _, by show 1 ≤ b.2.2 - b.2.1; omega, by show b.2.1 + (b.2.2 - b.2.1) ≤ wt; omega⟩, fun h => by cases h⟩
        · obtain ⟨⟨j1, j2, j3⟩, j4⟩ := i1 p hp
          exact ⟨⟨by omega, j2, j3⟩, j4⟩
      · have := (i1 q hq).1.1
        show b.2.1 + (b.2.2 - b.2.1) ≤ q.1.2.1
        omega
    rw [idl]
    by_cases ha : a < b.2.1
    · rw [if_pos ha]
      obtain ⟨h1, h2⟩ := gI_ok hok hn b.2.1 (b.2.1 - a).toNat a _ (G_res hok hn wf af a hG) (by omega)
      obtain ⟨k1, k2⟩ := key _ (gJ_G hok hn b.2.1 (b.2.1 - a).toNat a _ (G_res hok hn wf af a hG))
      refine ⟨fun p hp => ?_, ?_⟩
      · rcases List.mem_append.1 hp with hp | hp
        · obtain ⟨q, hq, rfl⟩ := List.mem_map.1 hp
          obtain ⟨⟨j1, j2, j3⟩, j4⟩ := h1 q hq
          refine ⟨⟨j1, j2, ?_⟩, fun _ => j4⟩
          show q.2.1 + q.2.2 ≤ wt
          omega
        · obtain ⟨⟨j1, j2, j3⟩, j4⟩ := k1 p hp
          exact ⟨⟨by omega, j2, j3⟩, j4⟩
      · rw [List.pairwise_append]
        refine ⟨by unfold tg; rw [List.pairwise_map]; exact h2, k2, fun p hp q hq => ?_⟩
        obtain ⟨p', hp', rfl⟩ := List.mem_map.1 hp
        have := (h1 p' hp').1.2.2
        have := (k1 q hq).1.1
        show p'.2.1 + p'.2.2 ≤ _
        omega
    · rw [if_neg ha]
      obtain ⟨k1, k2⟩ := key st hG
      refine ⟨fun p hp => ?_, k2⟩
      obtain ⟨⟨j1, j2, j3⟩, j4⟩ := k1 p hp
      exact ⟨⟨by omega, j2, j3⟩, j4⟩
end
end Go.Proofs.YtfillnkebohciaaGreatDoor.Rn
namespace Go.Proofs.YtfillnkebohciaaGreatDoor.Rn
open Come (tot Ok atP)
open T (Step)

/-- A right state of the player between gaps. -/
def Kp (l : List Step) (s : PS) : Prop := s.i < l.length ∧ (s.half = true → 1 ≤ s.rest ∧ s.rest < lg l s.i)
section
variable {l : List Step} (hok : Ok l) (hn : l ≠ [])
include hok hn
theorem gOn_G {wf af a : Int} {s : PS} (h : Kp l s) : G l ((gOn l wf af a s).i, (gOn l wf af a s).rest) ∧ (gOn l wf af a s).half = false := by
  obtain ⟨h1, h2⟩ := h
  have hg := lg_in hok h1
  unfold gOn
  by_cases h4 : af = 4
  · rw [if_pos h4]
    exact ⟨G_unseen hok hn wf a, rfl⟩
  · rw [if_neg h4]
    by_cases h3 : s.half = true ∧ af = 3
    · rw [if_pos h3]; exact ⟨G_nx hok hn s.i, rfl⟩
    · rw [if_neg h3]
      by_cases h5 : s.half = false ∨ af = 2
      · rw [if_pos h5]; exact ⟨⟨h1, hg.1, Int.le_refl _⟩, rfl⟩
      · rw [if_neg h5]
        have hh : s.half = true := by
          cases hx : s.half with
          | true => rfl
          | false => exact absurd (Or.inl hx) h5
        obtain ⟨e1, e2⟩ := h2 hh
        exact ⟨⟨h1, e1, by show s.rest ≤ lg l s.i; omega⟩, rfl⟩
theorem gst_K {to f : Int} {s : PS} (h : G l (s.i, s.rest)) (hf : f < to) : Kp l (gst l to f s) ∧ G l ((gst l to f s).i, (gst l to f s).rest) := by
  obtain ⟨h1, h2, h3⟩ := h
  have h2' : 1 ≤ s.rest := h2
  have h3' : s.rest ≤ lg l s.i := h3
  have h1' : s.i < l.length := h1
  unfold gst
  by_cases h : 0 < s.rest - min s.rest (to - f)
  · rw [if_pos h]
    exact ⟨⟨h1', fun _ => ⟨by show 1 ≤ s.rest - min s.rest (to - f); omega, by show s.rest - min s.rest (to - f) < lg l s.i; omega⟩⟩, h1', by show 1 ≤ s.rest - min s.rest (to - f); omega, by show s.rest - min s.rest (to - f) ≤ lg l s.i; omega⟩
  · rw [if_neg h]
    exact ⟨⟨nx_lt hn _, fun e => by cases e⟩, G_nx hok hn s.i⟩
theorem gpl_K (to : Int) : ∀ (n : Nat) (f : Int) (s : PS), G l (s.i, s.rest) → Kp l s → Kp l (gpl l to n f s)
  | 0, _, _, _, h => h
  | n + 1, f, s, hG, h => by
    rw [gpl]
    by_cases hc : f < to ∧ s.cnt ≤ 3000
    · rw [if_pos hc]
      obtain ⟨k1, k2⟩ := gst_K hok hn hG hc.1
      exact gpl_K to n _ _ k2 k1
    · rw [if_neg hc]; exact h
theorem gap_K {wf af f to : Int} {s : PS} (h : Kp l s) : Kp l (gap l wf af f to s) := by
  unfold gap
  split
  · obtain ⟨k1, k2⟩ := gOn_G hok hn (wf := wf) (af := af) (a := f) h
    exact gpl_K hok hn to _ f _ k1 ⟨k1.1, fun e => by rw [k2] at e; cases e⟩
  · exact h
omit hok hn in
theorem gpl_cnt (to : Int) : ∀ (n : Nat) (f : Int) (s : PS), (gpl l to n f s).cnt ≤ max s.cnt 3001
  | 0, _, s => Nat.le_max_left _ _
  | n + 1, f, s => by
    rw [gpl]
    by_cases hc : f < to ∧ s.cnt ≤ 3000
    · rw [if_pos hc]
      have hx : (gst l to f s).cnt = s.cnt + 1 := by
        unfold gst PS.cnt
        split <;> (simp; omega)
      have := gpl_cnt to n (f + min s.rest (to - f)) (gst l to f s)
      omega
    · rw [if_neg hc]; exact Nat.le_max_left _ _
omit hok hn in
theorem gap_cnt (wf af f to : Int) (s : PS) : (gap l wf af f to s).cnt ≤ max s.cnt 3001 := by
  unfold gap
  split
  · have := gpl_cnt (l := l) to (to - f).toNat f (gOn l wf af f s)
    rw [(gOn_cnt wf af f s).1] at this
    exact this
  · exact Nat.le_max_left _ _
end
end Go.Proofs.YtfillnkebohciaaGreatDoor.Rn
namespace Go.Proofs.YtfillnkebohciaaGreatDoor.Rn
open Come (tot Ok its nub has Bs leB Pt)
open T (Step)

/-- The steps that plays are. -/
def sps (x : List Pl) : List Step := x.map fun p => (p.1, p.2.2)
/-- By how much less an item is on. -/
def lp (x y : List Pl) (k : ByteArray) : Option Pt :=
  if ((its (sps x) k).length : Int) - (its (sps y) k).length = 0 ∧ tot (its (sps x) k) - tot (its (sps y) k) = 0 then none
  else some (k, ((its (sps x) k).length : Int) - (its (sps y) k).length, 1, tot (its (sps x) k) - tot (its (sps y) k), 1)
def lost (l : List Step) (x y : List Pl) : List Pt := (Told.dd (l.map (·.1))).filterMap (lp x y)
theorem its_none {x : List Pl} {k : ByteArray} (h : k ∉ x.map (·.1)) : its (sps x) k = [] := by
  unfold its sps
  rw [List.filter_eq_nil_iff]
  intro s hs
  obtain ⟨p, hp, rfl⟩ := List.mem_map.1 hs
  intro e
  exact h (List.mem_map.2 ⟨p, hp, of_decide_eq_true e⟩)
theorem filterMap_isSome {α β : Type} (f : α → Option β) (l : List α) : (l.filter fun x => (f x).isSome).filterMap f = l.filterMap f := by
  induction l with
  | nil => rfl
  | cons x l ih =>
    cases h : f x with
    | none => rw [List.filter_cons_of_neg (by simp [h]), List.filterMap_cons_none h, ih]
    | some y => rw [List.filter_cons_of_pos (by simp [h]), List.filterMap_cons_some h, List.filterMap_cons_some h, ih]
def up (k : Bs) : ByteArray := ⟨k.toArray⟩
theorem two_lists {β : Type} {f : Bs → Option β} {A B : List Bs} (hA : A.Pairwise (fun x y => leB x y = true ∧ x ≠ y)) (hB : B.Pairwise (fun x y => leB x y = true ∧ x ≠ y)) (h : ∀ k, (f k).isSome = true → (k ∈ A ↔ k ∈ B)) : A.filterMap f = B.filterMap f := by
  rw [← filterMap_isSome f A, ← filterMap_isSome f B]
  congr 1
  refine Come.lt_unique (hA.filter _) (hB.filter _) (fun k => ?_)
  rw [List.mem_filter, List.mem_filter]
  exact ⟨fun ⟨h1, h2⟩ => ⟨(h k h2).1 h1, h2⟩, fun ⟨h1, h2⟩ => ⟨(h k h2).2 h1, h2⟩⟩
/-- The keys of both maps in order tell as much as all items in order. -/
theorem srt_lost {l : List Step} {x y : List Pl} {ks : List ByteArray} (hn : ks.Nodup) (hk : ∀ k, k ∈ ks ↔ k ∈ x.map (·.1) ∨ k ∈ y.map (·.1)) (hx : ∀ p ∈ x, p.1 ∈ l.map (·.1)) (hy : ∀ p ∈ y, p.1 ∈ l.map (·.1)) :
    (SK.srt ks).filterMap (lp x y) = lost l x y := by
  unfold lost SK.srt Told.dd
  have hA := Come.sorted_eq (ks := ks.map (·.data.toList)) (ss := ks.map (·.data.toList)) (zs := ks.map (·.data.toList)) (List.Perm.refl _)
    (List.pairwise_map.2 (hn.imp (fun {a b} hne e => hne (ByteArray.ext (Array.toList_inj.1 e))))) (fun _ => Iff.rfl)
  have hA1 := Come.compact_lt _ (Come.ms_sorted (ks.map (·.data.toList)))
  rw [← hA] at hA1
  have hB1 := Come.compact_lt _ (Come.ms_sorted ((l.map (·.1)).map (·.data.toList)))
  show ((((ks.map (·.data.toList)).mergeSort leB)).map up).filterMap (lp x y) = ((Lib.compact (((l.map (·.1)).map (·.data.toList)).mergeSort leB)).map up).filterMap (lp x y)
  have hmA : ∀ k : Bs, k ∈ (ks.map (·.data.toList)).mergeSort leB ↔ up k ∈ ks := fun k => by
    rw [List.mem_mergeSort, List.mem_map]
    exact ⟨fun ⟨z, hz, e⟩ => by subst e; exact hz, fun h => ⟨up k, h, rfl⟩⟩
  have hmB : ∀ k : Bs, k ∈ Lib.compact (((l.map (·.1)).map (·.data.toList)).mergeSort leB) ↔ up k ∈ l.map (·.1) := fun k => by
    rw [Come.compact_mem, List.mem_mergeSort, List.mem_map]
    exact ⟨fun ⟨z, hz, e⟩ => by subst e; exact hz, fun h => ⟨up k, h, rfl⟩⟩
  rw [List.filterMap_map, List.filterMap_map]
  refine two_lists hA1 hB1 (fun k hs => ?_)
  rw [hmA, hmB, hk]
  constructor
  · rintro (h1 | h1)
    · obtain ⟨p, hp, e⟩ := List.mem_map.1 h1
      rw [← e]; exact hx p hp
    · obtain ⟨p, hp, e⟩ := List.mem_map.1 h1
      rw [← e]; exact hy p hp
  · intro h1
    by_cases a : up k ∈ x.map (·.1)
    · exact Or.inl a
    · by_cases b : up k ∈ y.map (·.1)
      · exact Or.inr b
      · exfalso
        have e : lp x y (up k) = none := by
          unfold lp
          rw [its_none a, its_none b]
          rfl
        simp [Function.comp, e] at hs
end Go.Proofs.YtfillnkebohciaaGreatDoor.Rn
