/- The reference's unseen: which step would be on. The reference's plays with breaks: their row, and what adds to it. The reference's RunAll. Printed by wip/gen/runallgen.py. The reference's RunOf. -/
import Derived.Test.YtfillnkebohciaaGreatDoorRnP
import Derived.Test.YtfillnkebohciaaGreatDoorComeA
import Derived.Test.YtfillnkebohciaaGreatDoorPwRun
import Derived.Test.YtfillnkebohciaaGreatDoorSmall
import Derived.Deep.Cut
import Derived.StillTailTactics
import Derived.Test.YtfillnkebohciaaGreatDoorPlayed
namespace Go.Proofs.YtfillnkebohciaaGreatDoor.Rn
open Go.RowKit
open T (Step stK steps_at)
open Come (tot Ok atP)

theorem lg_at {l : List Step} {k : Nat} (hk : k < l.length) : lg l k = l[k].2 := by unfold lg; rw [List.getD_eq_getElem?_getD, List.getElem?_eq_getElem hk]; rfl
theorem itm_at {l : List Step} {k : Nat} (hk : k < l.length) : itm l k = l[k].1 := by unfold itm; rw [List.getD_eq_getElem?_getD, List.getElem?_eq_getElem hk]; rfl
def UnRes (R : Nat × Int) (e : Ending) : Prop := e = .returned (.tuple #[.int .i64 R.1, .int .i64 R.2])
set_option maxHeartbeats 4000000 in
set_option maxRecDepth 100000 in
theorem unseen_any (A : Option Addr) (c : Nat) (l : List Step) (wf a : Int) (w : World) (h1 : stK.C w A l) (hok : Ok l) (hn : l ≠ []) (hl : l.length ≤ 5000) (h0 : 0 ≤ wf ∧ wf ≤ a ∧ a ≤ 345686400000) :
    Calls Tryz.prog 93 #[.slice A l.length c, .int .i64 wf, .int .i64 a] w fun e w' => UnRes (unseen l wf a) e ∧ Below w.heap.size w w' := by
  have H1 := Lib.hid h1
  have HOK := Lib.hid hok
  have hT1 := Come.tot_pos hok hn
  have HT2 : Hid (tot l ≤ 18000000000) := Lib.hid (by have := (Come.tot_in hok hl l.length).2; rwa [List.take_length] at this)
  have hm0 := Int.emod_nonneg (a - wf) (show tot l ≠ 0 by omega)
  have hm1 := Int.emod_lt_of_pos (a - wf) (show 0 < tot l by omega)
  obtain ⟨R, hR⟩ : ∃ R, atP l ((a - wf) % tot l) 0 = R := ⟨_, rfl⟩
  have HU : Hid (unseen l wf a = (R.1, lg l R.1 - R.2)) := Lib.hid (by unfold unseen; rw [hR])
  have HRR := Lib.hid hR
  have HM := Lib.hid (And.intro hm0 hm1)
  have HTT := Lib.hid (fun k => Come.tot_in hok hl k)
  obtain ⟨h00, h01, h02⟩ := h0
  have HT1 := Lib.hid hT1
  clear hR h1 hok hn hm0 hm1 hT1
  go_enter Tryz.func93, Tryz.ntmps93
  go_wp2
  go_loopw [8, 16] (fun s8 s16 wr => ∃ (k : Nat) (t : Int), s16 = .int .i64 k ∧ s8 = .int .i64 t ∧ k ≤ l.length ∧ Hid (tot (l.take k) = t) ∧ Hid (Below w.heap.size w wr)) (fun _ s _ => l.length - (intOf s).toNat)
  case atStart => exact ⟨0, 0, rfl, rfl, Nat.zero_le _, Lib.hid (by rw [List.take_zero]; rfl), Lib.hid (Below.refl _ _)⟩
  case round =>
    obtain ⟨k, t, rfl, rfl, hk, HS, HB⟩ := hrel
    by_cases hlt : k < l.length
    · obtain ⟨b1, o1, rfl, f0, f1⟩ := steps_at (H1.out.mono HB.out) k hlt
      obtain ⟨hb1, hb2⟩ := HOK.out _ (List.getElem_mem hlt)
      have hk1 : (k : Int) < l.length := by omega
      have HQ : Hid (tot (l.take (k + 1)) = t + l[k].2) := Lib.hid (by rw [Come.tot_take hlt, HS.out])
      have ht0 : 0 ≤ t := by have := (HTT.out k).1; rw [HS.out] at this; exact this
      have ht1 : t ≤ 18000000000 := by have := (HTT.out k).2; rw [HS.out] at this; exact this
      generalize l[k] = s at *
      obtain ⟨s1, s2⟩ := s
      go_wp2
      go_roundw
      case rel => exact ⟨k + 1, t + s2, by go_num, rfl, by omega, HQ, Lib.hid (HB.out.alloc HB.out.size _)⟩
      case measure => simp [intOf]; omega
    · obtain rfl : k = l.length := by omega
      obtain rfl : t = tot l := by rw [← HS.out, List.take_length]
      have hT1 := HT1.out
      have hT2 := HT2.out
      have hm := HM.out
      have hrr := HRR.out
      have HS1 := Lib.hid (show (a - wf) % tot l < tot (l.drop 0) by rw [List.drop_zero]; exact hm.2)
      generalize tot l = T at *
      have hTn : ¬ T = 0 := by omega
      obtain ⟨hm0, hm1⟩ := hm
      have HRR2 := Lib.hid hrr
      have ha1 : 0 ≤ a - wf := by omega
      clear hrr HRR HM
      go_wp2
      obtain ⟨wo, hwo⟩ : ∃ wo : World, wo = wr := ⟨_, rfl⟩
      subst hwo
      go_loopw [11, 32] (fun s11 s32 wr => ∃ (k : Nat) (r : Int), s32 = .int .i64 k ∧ s11 = .int .i64 r ∧ 0 ≤ r ∧ r ≤ 18000000000 ∧ k ≤ l.length ∧ Hid (atP (l.drop k) r k = R) ∧ Hid (r < tot (l.drop k)) ∧ Hid (Below w.heap.size w wr)) (fun _ s _ => l.length - (intOf s).toNat)
      case atStart => exact ⟨0, (a - wf) % T, rfl, rfl, hm0, by omega, Nat.zero_le _, Lib.hid (by rw [List.drop_zero]; exact HRR2.out), HS1, HB⟩
      case round =>
        obtain ⟨k, r, rfl, rfl, hr0, hr1, hk, HA, HL, HB2⟩ := hrel
        by_cases hlt : k < l.length
        · obtain ⟨b1, o1, rfl, f0, f1⟩ := steps_at (H1.out.mono HB2.out) k hlt
          obtain ⟨hb1, hb2⟩ := HOK.out _ (List.getElem_mem hlt)
          have hk1 : (k : Int) < l.length := by omega
          have ha := HA.out
          rw [Come.atP_drop hlt] at ha
          have HLG := Lib.hid (lg_at hlt)
          have HL2 : Hid (r < l[k].2 + tot (l.drop (k + 1))) := Lib.hid (by have := HL.out; rw [List.drop_eq_getElem_cons hlt, tot] at this; exact this)
          generalize l[k] = s at *
          obtain ⟨s1, s2⟩ := s
          have HQ := Lib.hid ha
          clear ha HA HL
          by_cases hc : r < s2
          · have HQ2 : Hid ((k, r) = R) := Lib.hid (by have := HQ.out; rwa [if_pos hc] at this)
            have HUU : Hid (unseen l wf a = (k, s2 - r)) := Lib.hid (by rw [HU.out, ← HQ2.out, HLG.out])
            have hsr : IntKind.i64.wrap (s2 - r) = s2 - r := by rw [IntKind.wrap_i64]; simp only [] at hb1 hb2; omega
            clear HQ
            go_wp2
            go_quiet (fail)
            go_wp2
            go_ret2
            exact ⟨by rw [HUU.out]; rfl, B.below_drew (HB2.out.alloc HB2.out.size _) _⟩
          · have HQ2 : Hid (atP (l.drop (k + 1)) (r - s2) (k + 1) = R) := Lib.hid (by have := HQ.out; rwa [if_neg hc] at this)
            have HL3 : Hid (r - s2 < tot (l.drop (k + 1))) := Lib.hid (by have := HL2.out; simp only [] at this; omega)
            clear HQ
            go_wp2
            go_roundw
            case rel => exact ⟨k + 1, r - s2, by go_num, rfl, by omega, by omega, by omega, HQ2, HL3, Lib.hid (HB2.out.alloc HB2.out.size _)⟩
            case measure => simp [intOf]; omega
        · obtain rfl : k = l.length := by omega
          have := HL.out
          rw [List.drop_length, tot] at this
          omega
end Go.Proofs.YtfillnkebohciaaGreatDoor.Rn
namespace Go.Proofs.YtfillnkebohciaaGreatDoor.Rn
open Go.RowKit
open F (Fr Cl)
open T (Step stK steps_at)
open Come (tot Ok)

def pdE (x : Pl × Bool) : List Value := [.string ⟨#[]⟩, .string x.1.1, .int .i64 x.1.2.1, .int .i64 x.1.2.2, .bool x.2]
theorem pdE1 (x : Pl × Bool) : ∀ v ∈ pdE x, v.oneCell' = true := by
  intro v hv
  simp [pdE] at hv
  rcases hv with rfl | rfl | rfl | rfl | rfl <;> rfl
def pdK : B.Kd (Pl × Bool) := .flat 5 pdE (fun _ => rfl) pdE1
theorem info_pd : (Tryz.prog.info? 122).map (fun i => (i.zero, i.size, i.bytes)) = some (some (.agg #[.string ⟨#[]⟩, .string ⟨#[]⟩, .int .i64 0, .int .i64 0, .bool false]), 5, 56) := by kernel_rfl
theorem pd_at {w : World} {A : Option Addr} {l : List (Pl × Bool)} (h : pdK.C w A l) (k : Nat) (hk : k < l.length) : ∃ b off, A = some ⟨b, off, none⟩ ∧ w.cell? ⟨b, off + k * 5, none⟩ = some (.string ⟨#[]⟩) ∧ w.cell? ⟨b, off + k * 5 + 1, none⟩ = some (.string l[k].1.1) ∧ w.cell? ⟨b, off + k * 5 + 2, none⟩ = some (.int .i64 l[k].1.2.1) ∧ w.cell? ⟨b, off + k * 5 + 3, none⟩ = some (.int .i64 l[k].1.2.2) ∧ w.cell? ⟨b, off + k * 5 + 4, none⟩ = some (.bool l[k].2) := by
  obtain ⟨b, off, cs, e, K, hc⟩ := h.at k hk
  have K' : cs = [.string ⟨#[]⟩, .string l[k].1.1, .int .i64 l[k].1.2.1, .int .i64 l[k].1.2.2, .bool l[k].2] := K
  subst K'
  have h0 := hc 0 (by simp)
  have h1 := hc 1 (by simp)
  have h2 := hc 2 (by simp)
  have h3 := hc 3 (by simp)
  have h4 := hc 4 (by simp)
  exact ⟨b, off, e, by simpa [pdK, B.Kd.flat] using h0, by simpa [pdK, B.Kd.flat] using h1, by simpa [pdK, B.Kd.flat] using h2, by simpa [pdK, B.Kd.flat] using h3, by simpa [pdK, B.Kd.flat] using h4⟩
/-- The variable at g with the row of plays so far. -/
structure Ot (w1 w : World) (g : Nat) (v : Value) (out : List (Pl × Bool)) : Prop where
  be : Below w1.heap.size w1 w
  lo : w1.heap.size ≤ g
  c : Cl w g 0 v
  O : B.Own w w1.heap.size 122 5 pdE v out
  ne : v.ownBlock ≠ some g
theorem Ot.below {w1 w w' : World} {g : Nat} {v : Value} {out : List (Pl × Bool)} (h : Ot w1 w g v out) (hb : Below w.heap.size w w') : Ot w1 w' g v out :=
  ⟨h.be.trans (hb.mono h.be.size), h.lo, h.c.below hb, own_fr (S := fun _ => False) h.O (Fr.of_below hb) (fun _ _ h => h), h.ne⟩
theorem Ot.app {w1 w w' : World} {g : Nat} {v v1 : Value} {out : List (Pl × Bool)} {y : Pl × Bool} {o : Obj} (h : Ot w1 w g v out) (hO : B.Own w' w1.heap.size 122 5 pdE v1 (out ++ [y])) (ha : v1.ownBlock = v.ownBlock ∨ ∀ g, v1.ownBlock = some g → w.heap.size ≤ g) (hg : (w.alloc o).grownBy w' v.ownBlock) :
    Cl w' g 0 v ∧ Ot w1 (w'.setCell ⟨g, 0, none⟩ v1) g v1 (out ++ [y]) := by
  have hf : Fr (fun j => v.ownBlock = some j) w w' := ((Fr.refl _ w).alloc o).grown hg (fun g e _ => e)
  have hc := h.c.fr hf h.ne
  have hn : v1.ownBlock ≠ some g := fun e => by
    rcases ha with ha | ha
    · exact h.ne (ha ▸ e)
    · have := ha g e
      have := h.c.lt
      omega
  exact ⟨hc, (h.be.trans (hf.below h.be.size (fun k hk => ((h.O : w.ownsRow _ _ _ _ _ _).lt k hk).1))).setCell h.lo _, h.lo, hc.set _, own_fr hO (fr_set w' ⟨g, 0, none⟩ v1) (fun i e (q : i = g) => hn (q ▸ e)), hn⟩
set_option maxHeartbeats 2000000 in
set_option maxRecDepth 100000 in
theorem add_any {w1 w : World} {g : Nat} {v : Value} {out : List (Pl × Bool)} (h : Ot w1 w g v out) (it : ByteArray) (f t : Int) (br : Bool) (hft : f < t) (h0 : 0 ≤ f) (h1 : t ≤ 345686400000) (hl : out.length ≤ 10000) :
    Calls Tryz.prog 92 #[.string it, .int .i64 f, .int .i64 t, .bool br, .pointer (some ⟨g, 0, none⟩)] w fun e w' => e = .returned (.tuple #[]) ∧ ∃ v', Ot w1 w' g v' (out ++ [((it, f, t - f), br)]) := by
  have HO := Lib.hid h
  have HL := Lib.hid hl
  have fc := h.c.1
  have k1 : 0 ≤ t - f := by omega
  have k2 : t - f ≤ 345686400000 := by omega
  clear h
  go_enter Tryz.func92, Tryz.ntmps92
  go_wp2_with (at_builtin; (refine Copy.wpl_append_s w1.heap.size rfl _ _ 118 122 (.agg #[.string ⟨#[]⟩, .string ⟨#[]⟩, .int .i64 0, .int .i64 0, .bool false]) 5 56 rfl Tryz.underlying118 info_pd rfl (by decide) (by decide) pdE (fun _ => rfl) pdE1 _ out ((it, f, t - f), br) _ rfl HO.out.O rfl _ rfl rfl HO.out.be.size (by have := HL.out; omega) ?_); intro v7 w7 hO7 ha7 hg7; obtain ⟨A7, c7, rfl⟩ : ∃ A7 c7, v7 = .slice A7 (out.length + 1) c7 := (by obtain ⟨A7, c7, e⟩ := Copy.shape hO7; exact ⟨A7, c7, by rw [e, List.length_append, List.length_singleton]⟩); have HP7 := Lib.hid (HO.out.app hO7 ha7 hg7); have e6 := HP7.out.1.1; have z6 := HP7.out.1.2; clear hO7 ha7 hg7)
  go_end0
  exact ⟨rfl, _, HP7.out.2⟩

theorem eat_no {cs : List Bk} {a : Int} {o : List (Pl × Bool)} (h : hd cs a = false) : eat cs a o = (a, cs, o) := by
  cases cs with
  | nil => rfl
  | cons c cs => rw [eat, if_neg (of_decide_eq_false h)]
theorem eat_yes {c : Bk} {cs : List Bk} {a : Int} {o : List (Pl × Bool)} (h : c.2.1 = a) : eat (c :: cs) a o = eat cs c.2.2 (o ++ [((c.1, a, c.2.2 - a), true)]) := by rw [eat, if_pos h]
theorem cuts_snoc (wf wt : Int) (bs : List Bk) (b : Bk) : cuts wf wt (bs ++ [b]) = cuts wf wt bs ++ cuts wf wt [b] := by unfold cuts; rw [List.map_append, List.filter_append]
def slen : Value → Nat
  | .slice _ n _ => n
  | _ => 0
/-- What a row of breaks is without its first. -/
theorem bk_tail {w : World} {b off : Nat} {c : Bk} {cs : List Bk} (h : bkK.C w (some ⟨b, off, none⟩) (c :: cs)) : bkK.C w (some ⟨b, off + 3, none⟩) cs ∧ (cs = [] → bkK.C w (some ⟨b, off, none⟩) cs) := by
  refine ⟨⟨by have := h.1; simp at this; omega, fun hp => ⟨b, off + 3, rfl, fun j hj => ?_⟩⟩, fun e => by subst e; exact B.Kd.C_nil _ _ _⟩
  obtain ⟨b', o', cs', e, K, hc⟩ := h.at (j + 1) (by simpa using hj)
  simp only [Option.some.injEq, Addr.mk.injEq, and_true] at e
  obtain ⟨rfl, rfl⟩ := e
  refine ⟨cs', K, fun i hi => ?_⟩
  have := hc i hi
  rw [show off + 3 + j * bkK.sz + i = off + (j + 1) * bkK.sz + i from by show off + 3 + j * 3 + i = off + (j + 1) * 3 + i; omega]
  exact this
end Go.Proofs.YtfillnkebohciaaGreatDoor.Rn
namespace Go.Proofs.YtfillnkebohciaaGreatDoor.Rn
open Go.RowKit
open F (Fr Cl)
open T (Step stK steps_at)
open Come (tot Ok)

/-- Through a piece of the walk by the one state behind it. -/
theorem wp_mid0 {P : Program} {c : Code} {Q : Exit → Act → World → Prop} {a : Act} {w : World} {V : World} {F : Act} (walk : c.wp P (fun e a' w' => e = .normal ∧ a' = F ∧ w' = V) a w) (cont : Q .normal F V) : c.wp P Q a w :=
  Code.wp_mono (by rintro e a' w' ⟨rfl, rfl, rfl⟩; exact cont) walk
theorem rfl_stop {l : List Step} {wf wt af : Int} {n : Nat} {a : Int} {k : Nat} {r : Int} {cs : List Bk} {o : List (Pl × Bool)} (h : ¬ (a < wt ∧ o.length ≤ 3001)) : rfl_ l wf wt af n a k r cs o = o := by
  cases n with
  | zero => rfl
  | succ n => rw [rfl_, if_neg h]
theorem rfl_brk {l : List Step} {wf wt af : Int} {n : Nat} {a : Int} {k : Nat} {r : Int} {cs cs2 : List Bk} {o o2 : List (Pl × Bool)} {a2 : Int} (h : a < wt ∧ o.length ≤ 3001) (hn : (wt - a).toNat ≤ n) (hh : hd cs a = true) (he : eat cs a o = (a2, cs2, o2)) (hlt : a < a2) :
    ∃ m, rfl_ l wf wt af n a k r cs o = rfl_ l wf wt af m a2 (res l wf af a2 (k, r)).1 (res l wf af a2 (k, r)).2 cs2 o2 ∧ (wt - a2).toNat ≤ m := by
  cases n with
  | zero => exact absurd hn (by omega)
  | succ n => exact ⟨n, by rw [rfl_, if_pos h, if_pos hh, he], by omega⟩
theorem rfl_go {l : List Step} {wf wt af : Int} {n : Nat} {a : Int} {k : Nat} {r : Int} {cs : List Bk} {o : List (Pl × Bool)} {M : Int} (h : a < wt ∧ o.length ≤ 3001) (hn : (wt - a).toNat ≤ n) (hh : hd cs a = false) (hM : upto wt cs (a + r) = M) (hlt : a < M) :
    ∃ m, rfl_ l wf wt af n a k r cs o = rfl_ l wf wt af m M (nxt l k (r - (M - a))).1 (nxt l k (r - (M - a))).2 cs (o ++ [((itm l k, a, M - a), false)]) ∧ (wt - M).toNat ≤ m := by
  cases n with
  | zero => exact absurd hn (by omega)
  | succ n => exact ⟨n, by rw [rfl_, if_pos h, if_neg (by rw [hh]; decide), hM], by omega⟩
theorem hd_yes {cs : List Bk} {a : Int} (h : hd cs a = true) : ∃ c cs', cs = c :: cs' ∧ c.2.1 = a := by
  cases cs with
  | nil => cases h
  | cons c cs' => exact ⟨c, cs', rfl, of_decide_eq_true h⟩
theorem hd_no {cs : List Bk} {a : Int} (h : hd cs a = false) : ∀ c cs', cs = c :: cs' → c.2.1 ≠ a := by
  intro c cs' e
  subst e
  exact of_decide_eq_false h
/-- A row has room for what is in it. -/
theorem own_cap {α : Type} {w : World} {base : Nat} {e : TypeId} {k : Nat} {enc : α → List Value} {A : Option Addr} {n c : Nat} {xs : List α} (h : B.Own w base e k enc (.slice A n c) xs) : n ≤ c := by
  have h0 : w.ownsRow base e k (.slice A n c) xs.length (xs.flatMap enc) := h
  rcases h0.2 with ⟨e0, -⟩ | ⟨g, cap, cur, e0, -, -, hc, -⟩
  · simp only [Value.slice.injEq] at e0; omega
  · simp only [Value.slice.injEq] at e0; omega
theorem meas {wt a a2 : Int} (h : a < a2) (h1 : a < wt) : (wt - a2).toNat < (wt - a).toNat := by omega
/-- What RunAll tells. -/
def RaRes (R : List (Pl × Bool)) (e : Ending) (w' : World) : Prop := ∃ A c, e = .returned (.tuple #[.slice A R.length c, .bool (decide (R.length ≤ 3000))]) ∧ pdK.C w' A R
set_option maxHeartbeats 8000000 in
set_option maxRecDepth 100000 in
theorem runAll (A : Option Addr) (cL : Nat) (l : List Step) (wf wt af : Int) (A2 : Option Addr) (c2 : Nat) (bs : List Bk) (w : World) (h1 : stK.C w A l) (hok : Ok l) (hn : l ≠ []) (hl : l.length ≤ 5000) (hC : bkK.C w A2 bs) (hbl : bs.length ≤ 500)
    (hbs : ∀ x ∈ bs, 0 ≤ x.2.1 ∧ x.2.1 < x.2.2 ∧ x.2.2 ≤ 345686400000) (hcs : Cs wt (cuts wf wt bs) wf) (ha : 0 ≤ wf ∧ wf ≤ wt ∧ wt ≤ 345686400000) (haf : 1 ≤ af ∧ af ≤ 4) :
    Calls Tryz.prog 63 #[.slice A l.length cL, .agg #[.int .i64 wf, .int .i64 wt], .slice A2 bs.length c2, .int .i64 af] w fun e w' => RaRes (rfl_ l wf wt af (wt - wf).toNat wf 0 (lg l 0) (cuts wf wt bs) []) e w' ∧ Below w.heap.size w w' := by
  obtain ⟨ha0, ha1, ha2⟩ := ha
  have H1 := Lib.hid h1
  have HC := Lib.hid hC
  have HOK := Lib.hid hok
  have HNE := Lib.hid hn
  have HL := Lib.hid hl
  have HBS := Lib.hid hbs
  have HBL := Lib.hid hbl
  have HCS := Lib.hid hcs
  have HAF := Lib.hid haf
  have HA := Lib.hid ((Below.refl _ w).alloc (Nat.le_refl _) (.cells #[.int .i64 wf, .int .i64 wt] 31))
  have hlp : 0 < l.length := List.length_pos_iff.2 hn
  have HLP := Lib.hid hlp
  have HX0 : Hid ((w.alloc (.cells #[.int .i64 wf, .int .i64 wt] 31)).cell? ⟨w.heap.size, 0, none⟩ = some (.int .i64 wf)) := Lib.hid ((World.cell?_alloc_new w _ _ 0).trans rfl)
  have HX1 : Hid ((w.alloc (.cells #[.int .i64 wf, .int .i64 wt] 31)).cell? ⟨w.heap.size, 1, none⟩ = some (.int .i64 wt)) := Lib.hid ((World.cell?_alloc_new w _ _ 1).trans rfl)
  have HS0 : Hid ((w.alloc (.cells #[.int .i64 wf, .int .i64 wt] 31)).heap.size = w.heap.size + 1) := Lib.hid (by simp)
  obtain ⟨R, hR⟩ : ∃ R, rfl_ l wf wt af (wt - wf).toNat wf 0 (lg l 0) (cuts wf wt bs) [] = R := ⟨_, rfl⟩
  have HR00 := Lib.hid hR.symm
  rw [hR]
  clear h1 hok hn hl hC hbl hbs hcs haf hlp hR
  go_enter Tryz.func63, Tryz.ntmps63
  go_wp2
  generalize w.alloc (.cells #[.int .i64 wf, .int .i64 wt] 31) = W0 at *
  go_loopw [10, 22] (fun s10 s22 wr => ∃ (k : Nat) (vc : Value), vc = s10 ∧ s22 = .int .i64 k ∧ k ≤ bs.length ∧ Hid (B.Own wr W0.heap.size 34 3 bkE vc (cuts wf wt (bs.take k))) ∧ Hid (Below W0.heap.size W0 wr)) (fun _ s _ => bs.length - (intOf s).toNat)
  case atStart => exact ⟨0, _, rfl, rfl, Nat.zero_le _, Lib.hid (by rw [List.take_zero]; exact B.Own.nil _ _ _ _ _), Lib.hid (Below.refl _ _)⟩
  case round =>
    obtain ⟨k, vc, rfl, rfl, hk, HO, HB⟩ := hrel
    by_cases hlt : k < bs.length
    · obtain ⟨b1', o1, rfl, g0, g1, g2⟩ := bk_at (HC.out.mono (B.below_trans HA.out HB.out)) k hlt
      have hk1 : (k : Int) < bs.length := by omega
      have hb5 : bs.length ≤ 500 := HBL.out
      obtain ⟨q1, q2, q3⟩ := HBS.out _ (List.getElem_mem hlt)
      have HTK : Hid (cuts wf wt (bs.take (k + 1)) = cuts wf wt (bs.take k) ++ cuts wf wt [bs[k]]) := Lib.hid (by rw [List.take_succ_eq_append_getElem hlt, cuts_snoc])
      have HLT : Hid ((cuts wf wt (bs.take k)).length ≤ 500) := Lib.hid (by
        have h1 := List.length_filter_le (fun b : Bk => decide (b.2.1 < b.2.2)) ((bs.take k).map (cl wf wt))
        rw [List.length_map, List.length_take] at h1
        have := HBL.out
        show (List.filter _ _).length ≤ 500
        omega)
      generalize hbk : bs[k] = bk at *
      obtain ⟨b1, bf, bt⟩ := bk
      simp only [] at g0 g1 g2 q1 q2 q3
      generalize cuts wf wt (bs.take k) = xs at *
      obtain ⟨F, hF⟩ : ∃ F, max bf wf = F := ⟨_, rfl⟩
      obtain ⟨T, hT⟩ : ∃ T, min bt wt = T := ⟨_, rfl⟩
      have HCE : Hid (cuts wf wt [(b1, bf, bt)] = if F < T then [(b1, F, T)] else []) := Lib.hid (by
        by_cases h : F < T
        · rw [if_pos h, cuts_pos (by rw [hF, hT]; exact h)]; unfold cl; simp only []; rw [hF, hT]; rfl
        · rw [if_neg h, cuts_neg (by rw [hF, hT]; exact h)]; rfl)
      clear hbk
      have HAL := Lib.hid ((Below.refl _ wr).alloc (Nat.le_refl _) (.cells #[.string b1, .int .i64 bf, .int .i64 bt] 34))
      have C0 := Lib.hid (Cl.new wr #[.string b1, .int .i64 bf, .int .i64 bt] 34 0 _ rfl)
      have C1 := Lib.hid (Cl.new wr #[.string b1, .int .i64 bf, .int .i64 bt] 34 1 _ rfl)
      have C2 := Lib.hid (Cl.new wr #[.string b1, .int .i64 bf, .int .i64 bt] 34 2 _ rfl)
      go_upto_region 5 with (fail)
      clear g0 g1 g2
      have HB1 := Lib.hid (HB.out.trans (HAL.out.mono HB.out.size))
      have HO1 := Lib.hid (HO.out.below HAL.out)
      have HSZ : Hid (wr.heap.size < (wr.alloc (.cells #[.string b1, .int .i64 bf, .int .i64 bt] 34)).heap.size) := Lib.hid (by simp)
      have HWS := Lib.hid HB.out.size
      generalize wr.alloc (.cells #[.string b1, .int .i64 bf, .int .i64 bt] 34) = W1 at *
      have x0 := B.cell_below HB1.out HX0.out
      have x1 := B.cell_below HB1.out HX1.out
      have y1 := C1.out.1
      have y2 := C2.out.1
      have z1 := C1.out.2
      have z2 := C2.out.2
      have HSW : Hid (W1.drew.cell? ⟨w.heap.size, 0, none⟩ = some (.int .i64 wf) ∧ W1.drew.cell? ⟨w.heap.size, 1, none⟩ = some (.int .i64 wt)) := Lib.hid ⟨x0, x1⟩
      have HNE2 : Hid (w.heap.size < wr.heap.size) := Lib.hid (by have := HWS.out; have := HS0.out; omega)
      have HSA : Hid ((W1.drew.setCell ⟨wr.heap.size, 1, none⟩ (.int .i64 F)).cell? ⟨w.heap.size, 0, none⟩ = some (.int .i64 wf) ∧ (W1.drew.setCell ⟨wr.heap.size, 1, none⟩ (.int .i64 F)).cell? ⟨w.heap.size, 1, none⟩ = some (.int .i64 wt)) := Lib.hid (by
        have hne := HNE2.out
        exact ⟨by rw [World.cell?_setCell_other _ _ _ _ (by simp <;> omega)]; exact HSW.out.1, by rw [World.cell?_setCell_other _ _ _ _ (by simp <;> omega)]; exact HSW.out.2⟩)
      have HSB : Hid (((W1.drew.setCell ⟨wr.heap.size, 1, none⟩ (.int .i64 F)).setCell ⟨wr.heap.size, 2, none⟩ (.int .i64 T)).cell? ⟨w.heap.size, 0, none⟩ = some (.int .i64 wf) ∧ ((W1.drew.setCell ⟨wr.heap.size, 1, none⟩ (.int .i64 F)).setCell ⟨wr.heap.size, 2, none⟩ (.int .i64 T)).cell? ⟨w.heap.size, 1, none⟩ = some (.int .i64 wt)) := Lib.hid (by
        have hne := HNE2.out
        exact ⟨by rw [World.cell?_setCell_other _ _ _ _ (by simp <;> omega)]; exact HSA.out.1, by rw [World.cell?_setCell_other _ _ _ _ (by simp <;> omega)]; exact HSA.out.2⟩)
      have D0 : Hid (Cl W1.drew wr.heap.size 0 (.string b1)) := Lib.hid (C0.out.below (B.below_drew (Below.refl _ _) 1))
      have D1 : Hid (Cl W1.drew wr.heap.size 1 (.int .i64 bf)) := Lib.hid (C1.out.below (B.below_drew (Below.refl _ _) 1))
      have D2 : Hid (Cl W1.drew wr.heap.size 2 (.int .i64 bt)) := Lib.hid (C2.out.below (B.below_drew (Below.refl _ _) 1))
      have HB2 : Hid (Below W0.heap.size W0 W1.drew) := Lib.hid (B.below_drew HB1.out 1)
      have HO2 : Hid (B.Own W1.drew W0.heap.size 34 3 bkE vc xs) := Lib.hid (HO1.out.below (B.below_drew (Below.refl _ _) 1))
      have HVC := Lib.hid (fun g (e : vc.ownBlock = some g) => ((World.ownsRow.lt (HO.out : wr.ownsRow _ _ _ _ _ _) g e).2))
      apply wp_mid0 (V := (W1.drew.setCell ⟨wr.heap.size, 1, none⟩ (.int .i64 F)).setCell ⟨wr.heap.size, 2, none⟩ (.int .i64 T))
      case walk =>
        refine wp_region_held_drew (S := fun w' => w'.cell? ⟨w.heap.size, 0, none⟩ = some (.int .i64 wf) ∧ w'.cell? ⟨w.heap.size, 1, none⟩ = some (.int .i64 wt)) (by kernel_rfl) (HSW.out) (fun hHeld => ?_)
        refine wpAnyH_take (i := 0) (v := ?_) At.at0 (by kernel_rfl) (by kernel_rfl) (by kernel_rfl) (fun _ _ _ h => by cases h.1) (Or.inl ⟨by rfl, ?_⟩) (by assumption) ?_
        rotate_left
        · (intro w9 hSw; (try dsimp only at hSw); go_simp; try (with_reducible rfl))
        try simp only [Act.put, List.setIfInBounds_toArray, List.set_cons_zero, List.set_cons_succ]
        refine wpAnyH_take (i := 1) (v := ?_) At.at1 (by kernel_rfl) (by kernel_rfl) (by kernel_rfl) (fun _ _ _ h => by cases h.1) (Or.inl ⟨by rfl, ?_⟩) (by assumption) ?_
        rotate_left
        · (intro w9 hSw; (try dsimp only at hSw); go_simp; try (with_reducible rfl))
        try simp only [Act.put, List.setIfInBounds_toArray, List.set_cons_zero, List.set_cons_succ]
        refine wpAnyH_take (i := 3) (v := ?_) At.at3 (by kernel_rfl) (by kernel_rfl) (by kernel_rfl) (fun _ _ _ h => by cases h.1) (Or.inl ⟨by rfl, ?_⟩) (by assumption) ?_
        rotate_left
        · (intro w9 hSw; (try dsimp only at hSw); go_simp; try (with_reducible rfl))
        try simp only [Act.put, List.setIfInBounds_toArray, List.set_cons_zero, List.set_cons_succ]
        refine wpAnyH_take (i := 4) (v := ?_) At.at4 (by kernel_rfl) (by kernel_rfl) (by kernel_rfl) (fun _ _ _ h => by cases h.1) (Or.inl ⟨by rfl, ?_⟩) (by assumption) ?_
        rotate_left
        · (intro w9 hSw; (try dsimp only at hSw); have p0 := hSw.1; have p1 := hSw.2; go_simp; try (with_reducible rfl))
        try simp only [Act.put, List.setIfInBounds_toArray, List.set_cons_zero, List.set_cons_succ]
        refine wpAnyH_take (i := 6) (v := ?_) At.at6 (by kernel_rfl) (by kernel_rfl) (by kernel_rfl) (fun _ _ _ h => by cases h.1) (Or.inl ⟨by rfl, ?_⟩) (by assumption) ?_
        rotate_left
        · (intro w9 hSw; (try dsimp only at hSw); go_simp; try (with_reducible rfl))
        try simp only [Act.put, List.setIfInBounds_toArray, List.set_cons_zero, List.set_cons_succ]
        refine wpAnyH_take (i := 7) (v := ?_) At.at7 (by kernel_rfl) (by kernel_rfl) (by kernel_rfl) (fun _ _ _ h => by cases h.1) (Or.inl ⟨by rfl, ?_⟩) (by assumption) ?_
        rotate_left
        · (intro w9 hSw; (try dsimp only at hSw); go_simp; try (with_reducible rfl))
        try simp only [Act.put, List.setIfInBounds_toArray, List.set_cons_zero, List.set_cons_succ]
        refine wpAnyH_take (i := 9) (v := ?_) At.at9 (by kernel_rfl) (by kernel_rfl) (by kernel_rfl) (fun _ _ _ h => by cases h.1) (Or.inl ⟨by rfl, ?_⟩) (by assumption) ?_
        rotate_left
        · (intro w9 hSw; (try dsimp only at hSw); go_simp; try (with_reducible rfl))
        try simp only [Act.put, List.setIfInBounds_toArray, List.set_cons_zero, List.set_cons_succ]
        refine wpAnyH_take (i := 10) (v := ?_) At.at10 (by kernel_rfl) (by kernel_rfl) (by kernel_rfl) (fun _ _ _ h => by cases h.1) (Or.inl ⟨by rfl, ?_⟩) (by assumption) ?_
        rotate_left
        · (intro w9 hSw; (try dsimp only at hSw); have p0 := hSw.1; have p1 := hSw.2; go_simp; try (with_reducible rfl))
        try simp only [Act.put, List.setIfInBounds_toArray, List.set_cons_zero, List.set_cons_succ]
        refine wpAnyH_ready (rs := [2, 8]) (by kernel_rfl) (by simp) ?_
        refine AllReadyH.cons At.at2 (fun K hK => ?_) (AllReadyH.cons At.at8 (fun K hK => ?_) AllReadyH.nil)
        · go_simp
          refine hK.out _ _ (by assumption) (fun hHeld => ?_)
          clear hK K
          try simp only [Act.put, List.setIfInBounds_toArray, List.set_cons_zero, List.set_cons_succ]
          refine wpAnyH_take (i := 5) (v := ?_) At.at5 (by kernel_rfl) (by kernel_rfl) (by kernel_rfl) (fun _ _ _ h => by cases h.1) (Or.inl ⟨by rfl, ?_⟩) (by assumption) ?_
          rotate_left
          · (intro w9 hSw; (try dsimp only at hSw); go_simp; try (with_reducible rfl))
          try simp only [Act.put, List.setIfInBounds_toArray, List.set_cons_zero, List.set_cons_succ]
          refine wpAnyH_ready (rs := [8]) (by kernel_rfl) (by simp) ?_
          refine AllReadyH.cons At.at8 (fun K hK => ?_) AllReadyH.nil
          go_simp
          refine hK.out _ _ (by assumption) (fun hHeld => ?_)
          clear hK K
          try simp only [Act.put, List.setIfInBounds_toArray, List.set_cons_zero, List.set_cons_succ]
          refine wpAnyH_take (i := 11) (v := ?_) At.at11 (by kernel_rfl) (by kernel_rfl) (by kernel_rfl) (fun _ _ _ h => by cases h.1) (Or.inl ⟨by rfl, ?_⟩) (by assumption) ?_
          rotate_left
          · (intro w9 hSw; (try dsimp only at hSw); go_simp; try (with_reducible rfl))
          try simp only [Act.put, List.setIfInBounds_toArray, List.set_cons_zero, List.set_cons_succ]
          refine wpAnyH_take (i := 12) (v := ?_) At.at12 (by kernel_rfl) (by kernel_rfl) (by kernel_rfl) (fun _ _ _ h => by cases h.1) (Or.inl ⟨by rfl, ?_⟩) (by assumption) ?_
          rotate_left
          · (intro w9 hSw; (try dsimp only at hSw); go_simp; try (with_reducible rfl))
          try simp only [Act.put, List.setIfInBounds_toArray, List.set_cons_zero, List.set_cons_succ]
          refine wpAnyH_take (i := 13) (v := ?_) At.at13 (by kernel_rfl) (by kernel_rfl) (by kernel_rfl) (fun _ _ _ h => by cases h.1) (Or.inl ⟨by rfl, ?_⟩) (by assumption) ?_
          rotate_left
          · (intro w9 hSw; (try dsimp only at hSw); go_simp; try (with_reducible rfl))
          try simp only [Act.put, List.setIfInBounds_toArray, List.set_cons_zero, List.set_cons_succ]
          refine wpAnyH_ready (rs := [14]) (by kernel_rfl) (by simp) ?_
          refine AllReadyH.cons At.at14 (fun K hK => ?_) AllReadyH.nil
          go_simp
          refine hK.out _ _ (by first | assumption | exact HSA.out) (fun hHeld => ?_)
          clear hK K
          try simp only [Act.put, List.setIfInBounds_toArray, List.set_cons_zero, List.set_cons_succ]
          refine wpAnyH_take (i := 15) (v := ?_) At.at15 (by kernel_rfl) (by kernel_rfl) (by kernel_rfl) (fun _ _ _ h => by cases h.1) (Or.inl ⟨by rfl, ?_⟩) (by assumption) ?_
          rotate_left
          · (intro w9 hSw; (try dsimp only at hSw); go_simp; try (with_reducible rfl))
          try simp only [Act.put, List.setIfInBounds_toArray, List.set_cons_zero, List.set_cons_succ]
          refine wpAnyH_take (i := 16) (v := ?_) At.at16 (by kernel_rfl) (by kernel_rfl) (by kernel_rfl) (fun _ _ _ h => by cases h.1) (Or.inl ⟨by rfl, ?_⟩) (by assumption) ?_
          rotate_left
          · (intro w9 hSw; (try dsimp only at hSw); go_simp; try (with_reducible rfl))
          try simp only [Act.put, List.setIfInBounds_toArray, List.set_cons_zero, List.set_cons_succ]
          refine wpAnyH_ready (rs := [17]) (by kernel_rfl) (by simp) ?_
          refine AllReadyH.cons At.at17 (fun K hK => ?_) AllReadyH.nil
          go_simp
          refine hK.out _ _ (by first | assumption | exact HSB.out) (fun hHeld => ?_)
          clear hK K
          try simp only [Act.put, List.setIfInBounds_toArray, List.set_cons_zero, List.set_cons_succ]
          refine wpAnyH_done (by kernel_rfl) ?_ _
          exact ⟨rfl, rfl, rfl⟩
        · go_simp
          refine hK.out _ _ (by assumption) (fun hHeld => ?_)
          clear hK K
          try simp only [Act.put, List.setIfInBounds_toArray, List.set_cons_zero, List.set_cons_succ]
          refine wpAnyH_take (i := 11) (v := ?_) At.at11 (by kernel_rfl) (by kernel_rfl) (by kernel_rfl) (fun _ _ _ h => by cases h.1) (Or.inl ⟨by rfl, ?_⟩) (by assumption) ?_
          rotate_left
          · (intro w9 hSw; (try dsimp only at hSw); go_simp; try (with_reducible rfl))
          try simp only [Act.put, List.setIfInBounds_toArray, List.set_cons_zero, List.set_cons_succ]
          refine wpAnyH_ready (rs := [2]) (by kernel_rfl) (by simp) ?_
          refine AllReadyH.cons At.at2 (fun K hK => ?_) AllReadyH.nil
          go_simp
          refine hK.out _ _ (by assumption) (fun hHeld => ?_)
          clear hK K
          try simp only [Act.put, List.setIfInBounds_toArray, List.set_cons_zero, List.set_cons_succ]
          refine wpAnyH_take (i := 5) (v := ?_) At.at5 (by kernel_rfl) (by kernel_rfl) (by kernel_rfl) (fun _ _ _ h => by cases h.1) (Or.inl ⟨by rfl, ?_⟩) (by assumption) ?_
          rotate_left
          · (intro w9 hSw; (try dsimp only at hSw); go_simp; try (with_reducible rfl))
          try simp only [Act.put, List.setIfInBounds_toArray, List.set_cons_zero, List.set_cons_succ]
          refine wpAnyH_take (i := 12) (v := ?_) At.at12 (by kernel_rfl) (by kernel_rfl) (by kernel_rfl) (fun _ _ _ h => by cases h.1) (Or.inl ⟨by rfl, ?_⟩) (by assumption) ?_
          rotate_left
          · (intro w9 hSw; (try dsimp only at hSw); go_simp; try (with_reducible rfl))
          try simp only [Act.put, List.setIfInBounds_toArray, List.set_cons_zero, List.set_cons_succ]
          refine wpAnyH_take (i := 13) (v := ?_) At.at13 (by kernel_rfl) (by kernel_rfl) (by kernel_rfl) (fun _ _ _ h => by cases h.1) (Or.inl ⟨by rfl, ?_⟩) (by assumption) ?_
          rotate_left
          · (intro w9 hSw; (try dsimp only at hSw); go_simp; try (with_reducible rfl))
          try simp only [Act.put, List.setIfInBounds_toArray, List.set_cons_zero, List.set_cons_succ]
          refine wpAnyH_ready (rs := [14]) (by kernel_rfl) (by simp) ?_
          refine AllReadyH.cons At.at14 (fun K hK => ?_) AllReadyH.nil
          go_simp
          refine hK.out _ _ (by first | assumption | exact HSA.out) (fun hHeld => ?_)
          clear hK K
          try simp only [Act.put, List.setIfInBounds_toArray, List.set_cons_zero, List.set_cons_succ]
          refine wpAnyH_take (i := 15) (v := ?_) At.at15 (by kernel_rfl) (by kernel_rfl) (by kernel_rfl) (fun _ _ _ h => by cases h.1) (Or.inl ⟨by rfl, ?_⟩) (by assumption) ?_
          rotate_left
          · (intro w9 hSw; (try dsimp only at hSw); go_simp; try (with_reducible rfl))
          try simp only [Act.put, List.setIfInBounds_toArray, List.set_cons_zero, List.set_cons_succ]
          refine wpAnyH_take (i := 16) (v := ?_) At.at16 (by kernel_rfl) (by kernel_rfl) (by kernel_rfl) (fun _ _ _ h => by cases h.1) (Or.inl ⟨by rfl, ?_⟩) (by assumption) ?_
          rotate_left
          · (intro w9 hSw; (try dsimp only at hSw); go_simp; try (with_reducible rfl))
          try simp only [Act.put, List.setIfInBounds_toArray, List.set_cons_zero, List.set_cons_succ]
          refine wpAnyH_ready (rs := [17]) (by kernel_rfl) (by simp) ?_
          refine AllReadyH.cons At.at17 (fun K hK => ?_) AllReadyH.nil
          go_simp
          refine hK.out _ _ (by first | assumption | exact HSB.out) (fun hHeld => ?_)
          clear hK K
          try simp only [Act.put, List.setIfInBounds_toArray, List.set_cons_zero, List.set_cons_succ]
          refine wpAnyH_done (by kernel_rfl) ?_ _
          exact ⟨rfl, rfl, rfl⟩
      case cont =>
        have E0 := Lib.hid ((D0.out.set_ne (p := ⟨wr.heap.size, 1, none⟩) (by simp) (.int .i64 F)).set_ne (p := ⟨wr.heap.size, 2, none⟩) (by simp) (.int .i64 T))
        have E1 := Lib.hid ((D1.out.set (.int .i64 F)).set_ne (p := ⟨wr.heap.size, 2, none⟩) (by simp) (.int .i64 T))
        have E2 := Lib.hid ((D2.out.set_ne (p := ⟨wr.heap.size, 1, none⟩) (by simp) (.int .i64 F)).set (.int .i64 T))
        have HB3 := Lib.hid ((HB2.out.setCell (p := ⟨wr.heap.size, 1, none⟩) HWS.out (.int .i64 F)).setCell (p := ⟨wr.heap.size, 2, none⟩) HWS.out (.int .i64 T))
        have HO3 := Lib.hid (own_fr (own_fr HO2.out (fr_set _ ⟨wr.heap.size, 1, none⟩ (.int .i64 F)) (fun g e (q : g = wr.heap.size) => by have := HVC.out g e; omega)) (fr_set _ ⟨wr.heap.size, 2, none⟩ (.int .i64 T)) (fun g e (q : g = wr.heap.size) => by have := HVC.out g e; omega))
        clear x0 x1 y1 y2 z1 z2 HSW HSA HSB D0 D1 D2 HO2 HB2
        generalize (W1.drew.setCell ⟨wr.heap.size, 1, none⟩ (.int .i64 F)).setCell ⟨wr.heap.size, 2, none⟩ (.int .i64 T) = W5 at *
        have y0 := E0.out.1
        have y1 := E1.out.1
        have y2 := E2.out.1
        by_cases hFT : F < T
        · rw [if_pos hFT] at HCE
          go_wp2_with (at_builtin; (refine Copy.wpl_append_g (w0 := W0) W0.heap.size rfl _ _ 29 34 (.agg #[.string ⟨#[]⟩, .int .i64 0, .int .i64 0]) 3 32 rfl Tryz.underlying29 info_bk rfl (by decide) (by decide) bkE (fun _ => rfl) bkE1 _ xs (b1, F, T) _ rfl HO3.out rfl _ rfl rfl HB3.out HB3.out.size (by have := HLT.out; omega) ?_); intro v1 w1 HO5 HB5 _; have HP := Lib.hid HO5; have HBP := Lib.hid HB5; clear HO5 HB5)
          go_roundw
          case rel => exact ⟨k + 1, _, rfl, by go_num, by omega, Lib.hid (by rw [HTK.out, HCE.out]; exact HP.out), HBP⟩
          case measure => simp [intOf]; omega
        · rw [if_neg hFT] at HCE
          go_wp2
          go_roundw
          case rel => exact ⟨k + 1, _, rfl, by go_num, by omega, Lib.hid (by rw [HTK.out, HCE.out, List.append_nil]; exact HO3.out), HB3⟩
          case measure => simp [intOf]; omega
    · obtain rfl : k = bs.length := by omega
      have ho := HO.out
      rw [List.take_length] at ho
      obtain ⟨A3, c3, rfl⟩ := Copy.shape ho
      have HC3 : Hid (bkK.C wr A3 (cuts wf wt bs)) := Lib.hid (by
        obtain ⟨A', c', e, hC⟩ := B.own_S (k := 3) (enc := bkE) (hl := fun _ => rfl) (h1 := bkE1) ho (by
          have h1 := List.length_filter_le (fun b : Bk => decide (b.2.1 < b.2.2)) (bs.map (cl wf wt))
          rw [List.length_map] at h1
          have := HBL.out
          show (List.filter _ _).length ≤ _
          omega)
        simp only [Value.slice.injEq] at e
        obtain ⟨rfl, -, -⟩ := e
        exact hC)
      have hcap := own_cap ho
      have hc5 : (cuts wf wt bs).length ≤ 500 := by
        have h1 := List.length_filter_le (fun b : Bk => decide (b.2.1 < b.2.2)) (bs.map (cl wf wt))
        rw [List.length_map] at h1
        have := HBL.out
        show (List.filter _ _).length ≤ 500
        omega
      have HCL := Lib.hid hc5
      have HCP := Lib.hid hcap
      obtain ⟨w1, hw1⟩ : ∃ w1 : World, w1 = wr := ⟨_, rfl⟩
      subst hw1
      have HBW := Lib.hid (B.below_trans HA.out HB.out)
      have HY0 := Lib.hid (B.cell_below HB.out HX0.out)
      have HY1 := Lib.hid (B.cell_below HB.out HX1.out)
      have HR0 := HR00
      clear HR00
      have HCS0 := Lib.hid HCS.out
      generalize cuts wf wt bs = cs0 at *
      have HOT0 : Hid (Ot w1 (w1.alloc (.cells #[.slice none 0 0] 118)) w1.heap.size (.slice none 0 0) []) := Lib.hid ⟨(Below.refl _ _).alloc (Nat.le_refl _) _, Nat.le_refl _, Cl.new w1 _ _ 0 _ rfl, B.Own.nil _ _ _ _ _, by simp [Value.ownBlock]⟩
      have hlp := HLP.out
      have HST := Lib.hid (fun W (hb : Below w1.heap.size w1 W) j (hj : j < l.length) => steps_at (H1.out.mono (HBW.out.trans (hb.mono HBW.out.size))) j hj)
      have HG0 := Lib.hid (G_zero HOK.out HNE.out)
      have HAF1 := HAF.out
      have HAL := Lib.hid (fun o => ((Below.refl _ w1).alloc (Nat.le_refl _) o))
      clear ho HO hcap hc5 HCS HB HX0 HX1 HC HBS HBL
      go_upto_region 11 with (fail)
      obtain ⟨b1, o1, rfl, s0, s1⟩ := HST.out _ (HAL.out (.cells #[.slice none 0 0] 118)) 0 hlp
      have s1' : ∀ o, (w1.alloc o).cell? ⟨b1, o1 + 1, none⟩ = some (.int .i64 l[0].2) := fun o => by
        obtain ⟨b9, o9, e9, -, h9⟩ := HST.out _ (HAL.out o) 0 hlp
        simp only [Option.some.injEq, Addr.mk.injEq, and_true] at e9
        obtain ⟨rfl, rfl⟩ := e9
        simpa using h9
      have y0' := fun o => B.cell_below (HAL.out o) HY0.out
      have hlg0 : lg l 0 = l[0].2 := lg_at hlp
      rw [hlg0] at HG0 HR0
      have hl0 : (0 : Int) < l.length := by omega
      clear s0 s1
      go_quiet (fail)
      go_wp2
      clear s1' y0'
      have HOT1 := fun q => (HOT0.out.below (B.below_drew (Below.refl _ (w1.alloc (.cells #[.slice none 0 0] 118))) q))
      have HOT2 := Lib.hid HOT1
      clear HOT1
      go_loopw [10, 15, 16, 17] (fun s10 s15 s16 s17 wr => ∃ (a r : Int) (k n : Nat) (cs : List Bk) (A4 : Option Addr) (c4 : Nat) (v : Value) (out : List (Pl × Bool)), s10 = .slice A4 cs.length c4 ∧ s15 = .int .i64 a ∧ s16 = .int .i64 k ∧ s17 = .int .i64 r ∧ wf ≤ a ∧ a ≤ 345686400000 ∧ Hid (G l (k, r)) ∧ Hid (Cs wt cs a) ∧ Hid (bkK.C w1 A4 cs) ∧ cs.length ≤ 500 ∧ cs.length ≤ c4 ∧ Hid (out.length ≤ 3502) ∧ Hid (Ot w1 wr w1.heap.size v out) ∧ Hid (R = rfl_ l wf wt af n a k r cs out) ∧ Hid ((wt - a).toNat ≤ n)) (fun _ s15 _ _ _ => (wt - intOf s15).toNat)
      case atStart => exact ⟨wf, l[0].2, 0, _, cs0, A3, c3, _, [], rfl, rfl, rfl, rfl, by omega, by omega, HG0, HCS0, HC3, HCL.out, HCP.out, Lib.hid (by simp), Lib.hid (HOT2.out _), HR0, Lib.hid (Nat.le_refl _)⟩
      case round =>
        obtain ⟨a, r, k, n, cs, A4, c4, v, out, rfl, rfl, rfl, rfl, hw1, hw2, HG, HCs, HCb, hcl, hcc, HOL, HOt, HR, HN⟩ := hrel
        clear HOT0 HOT2 HR0 HG0 HCS0 HC3 HCL HCP
        have x1 := B.cell_below HOt.out.be HY1.out
        obtain ⟨Av, cv, eV⟩ := Copy.shape HOt.out.O
        subst eV
        have xo := HOt.out.c.1
        have hol5 : out.length ≤ 3502 := HOL.out
        by_cases hlt : a < wt
        · by_cases hol : out.length ≤ 3001
          · cases hh : hd cs a with
            | true =>
              obtain ⟨c, cs', rfl, hca⟩ := hd_yes hh
              obtain ⟨E, hE⟩ : ∃ E, eat (c :: cs') a out = E := ⟨_, rfl⟩
              have HE := Lib.hid hE
              obtain ⟨x, -, -, HCE0, hale, haltE, -⟩ := eat_idl (l := l) (wf := wf) (af := af) (k, r) (c :: cs') a out HCs.out
              have hltE := haltE c cs' rfl hca
              rw [hE] at HCE0 hltE
              have HCE := Lib.hid HCE0
              have HLE := Lib.hid hltE
              have HBR2 := Lib.hid (rfl_brk (l := l) (wf := wf) (af := af) (k := k) (r := r) (n := n) ⟨hlt, hol⟩ HN.out hh (show eat (c :: cs') a out = (E.1, E.2.1, E.2.2) from hE) hltE)
              obtain ⟨bc, oc, rfl, f0, f1, f2⟩ := bk_at HCb.out 0 (by simp)
              simp only [List.getElem_cons_zero, Nat.zero_mul, Nat.add_zero] at f0 f1 f2
              have g1 := B.cell_below HOt.out.be f1
              have hca2 : (c.2.1 == a) = true := by rw [hca]; exact beq_self_eq_true _
              rw [hca] at g1
              have hlen0 : 0 < (c :: cs').length := by simp
              have HOS : Hid (out.length + (c :: cs').length ≤ 3502) := Lib.hid (by simp at hcl ⊢; omega)
              have hol3 : (out.length : Int) ≤ 3001 := by omega
              clear hE hca hale haltE hltE HCE0 f0 f1 f2
              go_wp2
              go_loopw [10, 15] (fun s10 s15 wr => ∃ (a' : Int) (cs2 : List Bk) (A5 : Option Addr) (c5 : Nat) (v' : Value) (out' : List (Pl × Bool)), s10 = .slice A5 cs2.length c5 ∧ s15 = .int .i64 a' ∧ wf ≤ a' ∧ a' ≤ 345686400000 ∧ Hid (Cs wt cs2 a') ∧ Hid (bkK.C w1 A5 cs2) ∧ cs2.length ≤ c5 ∧ Hid (out'.length + cs2.length ≤ 3502) ∧ cs2.length ≤ 500 ∧ Hid (Ot w1 wr w1.heap.size v' out') ∧ Hid (eat cs2 a' out' = E)) (fun s10 _ _ => slen s10)
              case atStart => exact ⟨a, c :: cs', some ⟨bc, oc, none⟩, c4, _, out, rfl, rfl, by omega, by omega, HCs, HCb, hcc, HOS, hcl, HOt, HE⟩
              case round =>
                obtain ⟨a2, cs2, A5, c5, v', out2, rfl, rfl, ha2, ha3, HCS2, HCB2, hc5, HOS2, hcl2, HOT2, HE2⟩ := hrel
                clear HOS HE HCs HCb
                cases hh2 : hd cs2 a2 with
                | true =>
                  obtain ⟨d, ds, rfl, hda⟩ := hd_yes hh2
                  obtain ⟨bd, od, rfl, f0, f1, f2⟩ := bk_at HCB2.out 0 (by simp)
                  simp only [List.getElem_cons_zero, Nat.zero_mul, Nat.add_zero] at f0 f1 f2
                  have HTL := Lib.hid (bk_tail HCB2.out)
                  obtain ⟨k1, k2, k3, k4⟩ := HCS2.out
                  have HCD := Lib.hid k4
                  have hd5 : 0 ≤ a2 := by omega
                  have HE3 := Lib.hid ((eat_yes (cs := ds) (o := out2) hda).symm.trans HE2.out)
                  have CA := Lib.hid (fun W (hb : Below wr.heap.size wr W) => add_any (HOT2.out.below hb) d.1 a2 d.2.2 true (by omega) (by omega) (by omega) (by have := HOS2.out; simp at this; omega))
                  have HOS3 : Hid ((out2 ++ [((d.1, a2, d.2.2 - a2), true)]).length + ds.length ≤ 3502) := Lib.hid (by have := HOS2.out; simp at this ⊢; omega)
                  have hdl : ds.length ≤ 500 := by simp at hcl2; omega
                  have g1 := B.cell_below HOT2.out.be f1
                  have hda2 : (d.2.1 == a2) = true := by rw [hda]; exact beq_self_eq_true _
                  rw [hda] at g1 f1 k2
                  generalize d.1 = d1 at *
                  generalize d.2.2 = d2 at *
                  clear HCS2 HCB2 HE2 HOS2 hh2 hda hda2 k1 k4
                  simp only [List.length_cons] at hc5 hcl2
                  have hl1 : (1 : Int) ≤ ((ds.length + 1 : Nat) : Int) := by omega
                  have hl2 : ((ds.length + 1 : Nat) : Int) ≤ (c5 : Int) := by omega
                  go_upto_region 15 with (fail)
                  have HBD : Hid (Below wr.heap.size wr wr.drew) := Lib.hid (B.below_drew (Below.refl _ _) 1)
                  have HOD := Lib.hid (HOT2.out.below HBD.out)
                  clear g1
                  refine wp_region_held_drew (S := fun w' => Below w1.heap.size w1 w') (by kernel_rfl) (HOD.out.be) (fun hHeld => ?_)
                  refine wpAnyH_take (i := 0) (v := ?_) At.at0 (by kernel_rfl) (by kernel_rfl) (by kernel_rfl) (fun _ _ _ h => h) (Or.inl ⟨by rfl, ?_⟩) (by assumption) ?_
                  rotate_left
                  · (intro w9 hSw; (try dsimp only at hSw); go_simp; try (with_reducible rfl))
                  try simp only [Act.put, List.setIfInBounds_toArray, List.set_cons_zero, List.set_cons_succ]
                  refine wpAnyH_take (i := 1) (v := ?_) At.at1 (by kernel_rfl) (by kernel_rfl) (by kernel_rfl) (fun _ _ _ h => h) (Or.inl ⟨by rfl, ?_⟩) (by assumption) ?_
                  rotate_left
                  · (intro w9 hSw; (try dsimp only at hSw); go_simp; try (with_reducible rfl))
                  try simp only [Act.put, List.setIfInBounds_toArray, List.set_cons_zero, List.set_cons_succ]
                  refine wpAnyH_take (i := 2) (v := ?_) At.at2 (by kernel_rfl) (by kernel_rfl) (by kernel_rfl) (fun _ _ _ h => h) (Or.inl ⟨by rfl, ?_⟩) (by assumption) ?_
                  rotate_left
                  · (intro w9 hSw; (try dsimp only at hSw); go_simp; try (with_reducible rfl))
                  try simp only [Act.put, List.setIfInBounds_toArray, List.set_cons_zero, List.set_cons_succ]
                  refine wpAnyH_take (i := 3) (v := ?_) At.at3 (by kernel_rfl) (by kernel_rfl) (by kernel_rfl) (fun _ _ _ h => h) (Or.inl ⟨by rfl, ?_⟩) (by assumption) ?_
                  rotate_left
                  · (intro w9 hSw; (try dsimp only at hSw); go_simp; try (with_reducible rfl))
                  try simp only [Act.put, List.setIfInBounds_toArray, List.set_cons_zero, List.set_cons_succ]
                  refine wpAnyH_take (i := 4) (v := ?_) At.at4 (by kernel_rfl) (by kernel_rfl) (by kernel_rfl) (fun _ _ _ h => h) (Or.inl ⟨by rfl, ?_⟩) (by assumption) ?_
                  rotate_left
                  · (intro w9 hSw; (try dsimp only at hSw); have q1 := (B.cell_below hSw f0); have q2 := (B.cell_below hSw f2); go_simp; try (with_reducible rfl))
                  try simp only [Act.put, List.setIfInBounds_toArray, List.set_cons_zero, List.set_cons_succ]
                  refine wpAnyH_take (i := 5) (v := ?_) At.at5 (by kernel_rfl) (by kernel_rfl) (by kernel_rfl) (fun _ _ _ h => h) (Or.inl ⟨by rfl, ?_⟩) (by assumption) ?_
                  rotate_left
                  · (intro w9 hSw; (try dsimp only at hSw); go_simp; try (with_reducible rfl))
                  try simp only [Act.put, List.setIfInBounds_toArray, List.set_cons_zero, List.set_cons_succ]
                  refine wpAnyH_take (i := 6) (v := ?_) At.at6 (by kernel_rfl) (by kernel_rfl) (by kernel_rfl) (fun _ _ _ h => h) (Or.inl ⟨by rfl, ?_⟩) (by assumption) ?_
                  rotate_left
                  · (intro w9 hSw; (try dsimp only at hSw); go_simp; try (with_reducible rfl))
                  try simp only [Act.put, List.setIfInBounds_toArray, List.set_cons_zero, List.set_cons_succ]
                  refine wpAnyH_take (i := 7) (v := ?_) At.at7 (by kernel_rfl) (by kernel_rfl) (by kernel_rfl) (fun _ _ _ h => h) (Or.inl ⟨by rfl, ?_⟩) (by assumption) ?_
                  rotate_left
                  · (intro w9 hSw; (try dsimp only at hSw); go_simp; try (with_reducible rfl))
                  try simp only [Act.put, List.setIfInBounds_toArray, List.set_cons_zero, List.set_cons_succ]
                  refine wpAnyH_take (i := 8) (v := ?_) At.at8 (by kernel_rfl) (by kernel_rfl) (by kernel_rfl) (fun _ _ _ h => h) (Or.inl ⟨by rfl, ?_⟩) (by assumption) ?_
                  rotate_left
                  · (intro w9 hSw; (try dsimp only at hSw); go_simp; try (with_reducible rfl))
                  try simp only [Act.put, List.setIfInBounds_toArray, List.set_cons_zero, List.set_cons_succ]
                  refine wpAnyH_take (i := 9) (v := ?_) At.at9 (by kernel_rfl) (by kernel_rfl) (by kernel_rfl) (fun _ _ _ h => h) (Or.inl ⟨by rfl, ?_⟩) (by assumption) ?_
                  rotate_left
                  · (intro w9 hSw; (try dsimp only at hSw); go_simp; try (with_reducible rfl))
                  try simp only [Act.put, List.setIfInBounds_toArray, List.set_cons_zero, List.set_cons_succ]
                  refine wpAnyH_take (i := 10) (v := ?_) At.at10 (by kernel_rfl) (by kernel_rfl) (by kernel_rfl) (fun _ _ _ h => h) (Or.inl ⟨by rfl, ?_⟩) (by assumption) ?_
                  rotate_left
                  · (intro w9 hSw; (try dsimp only at hSw); have q1 := (B.cell_below hSw f0); have q2 := (B.cell_below hSw f2); go_simp; try (with_reducible rfl))
                  try simp only [Act.put, List.setIfInBounds_toArray, List.set_cons_zero, List.set_cons_succ]
                  refine wpAnyH_ready (rs := [11]) (by kernel_rfl) (by simp) ?_
                  refine AllReadyH.cons At.at11 (fun K hK => ?_) AllReadyH.nil
                  go_simp
                  go_at_call 92; refine (CA.out _ HBD.out).mono ?_; rintro e w5 ⟨rfl, v5, hO5⟩; have HO5 := Lib.hid hO5; clear hO5
                  go_simp
                  refine hK.out _ _ (HO5.out.be) (fun hHeld => ?_)
                  clear hK K
                  try simp only [Act.put, List.setIfInBounds_toArray, List.set_cons_zero, List.set_cons_succ]
                  refine wpAnyH_done (by kernel_rfl) ?_ _
                  have g2 := B.cell_below HO5.out.be f2
                  by_cases hcq : c5 = 1
                  · obtain rfl : ds = [] := List.eq_nil_of_length_eq_zero (by omega)
                    subst hcq
                    go_wp2
                    go_roundw
                    case rel => exact ⟨d2, [], some ⟨bd, od, none⟩, 0, ⟨rfl, rfl, rfl⟩, rfl, by omega, by omega, HCD, Lib.hid (HTL.out.2 (by first | rfl | trivial)), by simp, _, _, HOS3, by simp, HO5, HE3⟩
                    case measure => simp [slen]
                  · go_wp2
                    go_roundw
                    case rel => ((repeat apply Exists.intro); exact ⟨⟨d2, ds, some ⟨bd, od + 3, none⟩, c5 - 1, _, _, rfl, rfl, by omega, by omega, HCD, Lib.hid HTL.out.1, by omega, HOS3, hdl, HO5, HE3⟩, rfl⟩)
                    case measure => simp [slen]
                | false =>
                  have HE4 : Hid (E = (a2, cs2, out2)) := Lib.hid ((eat_no hh2).symm.trans HE2.out).symm
                  have hbr := HBR2.out
                  have hce := HCE.out
                  have hle := HLE.out
                  rw [HE4.out] at hbr hce hle
                  simp only [] at hbr hce hle
                  obtain ⟨m, HRR0, hnn⟩ := hbr
                  rw [← HR.out] at HRR0
                  have HNN := Lib.hid hnn
                  have HLT2 := Lib.hid hle
                  have HGR0 := G_res HOK.out HNE.out wf af a2 HG.out
                  have HOL2 : Hid (out2.length ≤ 3502) := Lib.hid (by have := HOS2.out; omega)
                  obtain ⟨hk0, hr1, hr2⟩ := HG.out
                  simp only [] at hk0 hr1 hr2
                  obtain ⟨bl, ol, el, t0, t1⟩ := HST.out _ HOT2.out.be k hk0
                  simp only [Option.some.injEq, Addr.mk.injEq, and_true] at el
                  obtain ⟨rfl, rfl⟩ := el
                  have hlk : lg l k = l[k].2 := lg_at hk0
                  have hkl : (k : Int) < l.length := by omega
                  have hl5 : l.length ≤ 5000 := HL.out
                  have x2 := B.cell_below HOT2.out.be HY1.out
                  have x3 := B.cell_below HOT2.out.be HY0.out
                  clear HBR2 HCE HLE HE2 HE4 hce hle
                  obtain ⟨xk, hxk⟩ : ∃ xk, l[k].2 = xk := ⟨_, rfl⟩
                  rw [hxk] at t1 hlk
                  have hno := hd_no hh2
                  clear hh2
                  cases cs2 with
                  | nil =>
                    simp only [List.length_nil] at *
                    by_cases h4 : af = 4
                    · have h4b : (af == 4) = true := by rw [h4]; rfl
                      obtain ⟨k2, r2, hu⟩ : ∃ k2 r2, unseen l wf a2 = (k2, r2) := ⟨_, _, rfl⟩
                      have CU := Lib.hid (fun W (hb : Below w1.heap.size w1 W) => unseen_any _ cL l wf a2 W (H1.out.mono (HBW.out.trans (hb.mono HBW.out.size))) HOK.out HNE.out HL.out ⟨ha0, ha2, ha3⟩)
                      rw [hu] at CU
                      have hres : res l wf af a2 (k, r) = (k2, r2) := by unfold res; rw [if_pos h4]; exact hu
                      rw [hres] at HRR0 HGR0
                      have HRR := Lib.hid HRR0
                      have HGR := Lib.hid HGR0
                      clear HRR0 HGR0 hres
                      clear hu h4
                      go_wp2_with (go_at_call 93; refine (CU.out _ HOT2.out.be).mono ?_; rintro e w8 ⟨hU, hB8⟩; unfold UnRes at hU; obtain rfl := hU; have HOT3 := Lib.hid (HOT2.out.below hB8); clear hB8)
                      go_roundw
                      case rel => exact ⟨a2, r2, k2, m, _, _, c5, _, out2, rfl, rfl, rfl, rfl, ha2, ha3, HGR, HCS2, HCB2, hcl2, hc5, HOL2, HOT3, HRR, HNN⟩
                      case measure => exact meas HLT2.out hlt
                    · have h4b : (af == 4) = false := by simpa using h4
                      by_cases hw : r = xk
                      · have hwb : (r == xk) = true := by rw [hw]; exact beq_self_eq_true _
                        have hres : res l wf af a2 (k, r) = (k, r) := by unfold res; rw [if_neg h4, if_pos (.inl (by show r = lg l k; rw [hlk]; exact hw))]
                        rw [hres] at HRR0 HGR0
                        have HRR := Lib.hid HRR0
                        have HGR := Lib.hid HGR0
                        clear HRR0 HGR0 hres
                        clear hw h4
                        go_wp2
                        go_roundw
                        case rel => exact ⟨a2, r, k, m, _, _, c5, _, out2, rfl, rfl, rfl, rfl, ha2, ha3, HGR, HCS2, HCB2, hcl2, hc5, HOL2, HOT2, HRR, HNN⟩
                        case measure => exact meas HLT2.out hlt
                      · have hwb : (r == xk) = false := by rw [beq_eq_false_iff_ne]; exact hw
                        by_cases h1 : af = 1
                        · have h1b : (af == 1) = true := by rw [h1]; rfl
                          have hres : res l wf af a2 (k, r) = (k, r) := by unfold res; rw [if_neg h4, if_pos (.inr h1)]
                          rw [hres] at HRR0 HGR0
                          have HRR := Lib.hid HRR0
                          have HGR := Lib.hid HGR0
                          clear HRR0 HGR0 hres
                          clear hw h4 h1
                          go_wp2
                          go_roundw
                          case rel => exact ⟨a2, r, k, m, _, _, c5, _, out2, rfl, rfl, rfl, rfl, ha2, ha3, HGR, HCS2, HCB2, hcl2, hc5, HOL2, HOT2, HRR, HNN⟩
                          case measure => exact meas HLT2.out hlt
                        · have h1b : (af == 1) = false := by simpa using h1
                          by_cases h2 : af = 2
                          · have h2b : (af == 2) = true := by rw [h2]; rfl
                            have hres : res l wf af a2 (k, r) = (k, xk) := by unfold res; rw [if_neg h4, if_neg (by rintro (h | h); exact hw (h.trans hlk); exact h1 h), if_pos h2, hlk]
                            rw [hres] at HRR0 HGR0
                            have HRR := Lib.hid HRR0
                            have HGR := Lib.hid HGR0
                            clear HRR0 HGR0 hres
                            clear hw h4 h1 h2
                            go_wp2
                            go_roundw
                            case rel => exact ⟨a2, xk, k, m, _, _, c5, _, out2, rfl, rfl, rfl, rfl, ha2, ha3, HGR, HCS2, HCB2, hcl2, hc5, HOL2, HOT2, HRR, HNN⟩
                            case measure => exact meas HLT2.out hlt
                          · have h2b : (af == 2) = false := by simpa using h2
                            have h3b : (af == 3) = true := by rw [show af = 3 by omega]; rfl
                            obtain ⟨j, hj, hj2⟩ : ∃ j, nx l k = j ∧ j < l.length := ⟨_, rfl, nx_lt HNE.out k⟩
                            obtain ⟨bj, oj, ej, -, u1⟩ := HST.out _ HOT2.out.be j hj2
                            simp only [Option.some.injEq, Addr.mk.injEq, and_true] at ej
                            obtain ⟨rfl, rfl⟩ := ej
                            obtain ⟨xj, hxj⟩ : ∃ xj, l[j].2 = xj := ⟨_, rfl⟩
                            rw [hxj] at u1
                            have hlj : lg l j = xj := by rw [lg_at hj2, hxj]
                            have hjj : (((k : Int) + 1) % (l.length : Int)) = (j : Int) := by rw [← hj]; unfold nx; push_cast; rfl
                            have hm1 : ((k : Int) + 1).tmod (l.length : Int) = (j : Int) := by rw [Int.tmod_eq_emod_of_nonneg (by omega)]; exact hjj
                            have hk15 : (k : Int) + 1 ≤ 5000 := by omega
                            have hjl : (j : Int) < l.length := by omega
                            have hnz2 : ¬ ((l.length : Int) = 0) := by omega
                            have hnz : ¬ (l = []) := HNE.out
                            have hres : res l wf af a2 (k, r) = (j, xj) := by unfold res; rw [if_neg h4, if_neg (by rintro (h | h); exact hw (h.trans hlk); exact h1 h), if_neg h2, hj, hlj]
                            rw [hres] at HRR0 HGR0
                            have HRR := Lib.hid HRR0
                            have HGR := Lib.hid HGR0
                            clear HRR0 HGR0 hres
                            clear hw h4 h1 h2 hj hxj hlj
                            go_wp2
                            go_roundw
                            case rel => exact ⟨a2, xj, j, m, _, _, c5, _, out2, rfl, rfl, rfl, rfl, ha2, ha3, HGR, HCS2, HCB2, hcl2, hc5, HOL2, HOT2, HRR, HNN⟩
                            case measure => exact meas HLT2.out hlt
                  | cons d ds =>
                    have hdb : (d.2.1 == a2) = false := by rw [beq_eq_false_iff_ne]; exact hno d ds rfl
                    obtain ⟨bd, od, rfl, -, p1, -⟩ := bk_at HCB2.out 0 (by simp)
                    simp only [List.getElem_cons_zero, Nat.zero_mul, Nat.add_zero] at p1
                    have p2 := B.cell_below HOT2.out.be p1
                    have hlen2 : 0 < (d :: ds).length := by simp
                    generalize d.2.1 = df at *
                    clear hno p1
                    by_cases h4 : af = 4
                    · have h4b : (af == 4) = true := by rw [h4]; rfl
                      obtain ⟨k2, r2, hu⟩ : ∃ k2 r2, unseen l wf a2 = (k2, r2) := ⟨_, _, rfl⟩
                      have CU := Lib.hid (fun W (hb : Below w1.heap.size w1 W) => unseen_any _ cL l wf a2 W (H1.out.mono (HBW.out.trans (hb.mono HBW.out.size))) HOK.out HNE.out HL.out ⟨ha0, ha2, ha3⟩)
                      rw [hu] at CU
                      have hres : res l wf af a2 (k, r) = (k2, r2) := by unfold res; rw [if_pos h4]; exact hu
                      rw [hres] at HRR0 HGR0
                      have HRR := Lib.hid HRR0
                      have HGR := Lib.hid HGR0
                      clear HRR0 HGR0 hres
                      clear hu h4
                      go_wp2_with (go_at_call 93; refine (CU.out _ HOT2.out.be).mono ?_; rintro e w8 ⟨hU, hB8⟩; unfold UnRes at hU; obtain rfl := hU; have HOT3 := Lib.hid (HOT2.out.below hB8); clear hB8)
                      go_roundw
                      case rel => exact ⟨a2, r2, k2, m, _, _, c5, _, out2, rfl, rfl, rfl, rfl, ha2, ha3, HGR, HCS2, HCB2, hcl2, hc5, HOL2, HOT3, HRR, HNN⟩
                      case measure => exact meas HLT2.out hlt
                    · have h4b : (af == 4) = false := by simpa using h4
                      by_cases hw : r = xk
                      · have hwb : (r == xk) = true := by rw [hw]; exact beq_self_eq_true _
                        have hres : res l wf af a2 (k, r) = (k, r) := by unfold res; rw [if_neg h4, if_pos (.inl (by show r = lg l k; rw [hlk]; exact hw))]
                        rw [hres] at HRR0 HGR0
                        have HRR := Lib.hid HRR0
                        have HGR := Lib.hid HGR0
                        clear HRR0 HGR0 hres
                        clear hw h4
                        go_wp2
                        go_roundw
                        case rel => exact ⟨a2, r, k, m, _, _, c5, _, out2, rfl, rfl, rfl, rfl, ha2, ha3, HGR, HCS2, HCB2, hcl2, hc5, HOL2, HOT2, HRR, HNN⟩
                        case measure => exact meas HLT2.out hlt
                      · have hwb : (r == xk) = false := by rw [beq_eq_false_iff_ne]; exact hw
                        by_cases h1 : af = 1
                        · have h1b : (af == 1) = true := by rw [h1]; rfl
                          have hres : res l wf af a2 (k, r) = (k, r) := by unfold res; rw [if_neg h4, if_pos (.inr h1)]
                          rw [hres] at HRR0 HGR0
                          have HRR := Lib.hid HRR0
                          have HGR := Lib.hid HGR0
                          clear HRR0 HGR0 hres
                          clear hw h4 h1
                          go_wp2
                          go_roundw
                          case rel => exact ⟨a2, r, k, m, _, _, c5, _, out2, rfl, rfl, rfl, rfl, ha2, ha3, HGR, HCS2, HCB2, hcl2, hc5, HOL2, HOT2, HRR, HNN⟩
                          case measure => exact meas HLT2.out hlt
                        · have h1b : (af == 1) = false := by simpa using h1
                          by_cases h2 : af = 2
                          · have h2b : (af == 2) = true := by rw [h2]; rfl
                            have hres : res l wf af a2 (k, r) = (k, xk) := by unfold res; rw [if_neg h4, if_neg (by rintro (h | h); exact hw (h.trans hlk); exact h1 h), if_pos h2, hlk]
                            rw [hres] at HRR0 HGR0
                            have HRR := Lib.hid HRR0
                            have HGR := Lib.hid HGR0
                            clear HRR0 HGR0 hres
                            clear hw h4 h1 h2
                            go_wp2
                            go_roundw
                            case rel => exact ⟨a2, xk, k, m, _, _, c5, _, out2, rfl, rfl, rfl, rfl, ha2, ha3, HGR, HCS2, HCB2, hcl2, hc5, HOL2, HOT2, HRR, HNN⟩
                            case measure => exact meas HLT2.out hlt
                          · have h2b : (af == 2) = false := by simpa using h2
                            have h3b : (af == 3) = true := by rw [show af = 3 by omega]; rfl
                            obtain ⟨j, hj, hj2⟩ : ∃ j, nx l k = j ∧ j < l.length := ⟨_, rfl, nx_lt HNE.out k⟩
                            obtain ⟨bj, oj, ej, -, u1⟩ := HST.out _ HOT2.out.be j hj2
                            simp only [Option.some.injEq, Addr.mk.injEq, and_true] at ej
                            obtain ⟨rfl, rfl⟩ := ej
                            obtain ⟨xj, hxj⟩ : ∃ xj, l[j].2 = xj := ⟨_, rfl⟩
                            rw [hxj] at u1
                            have hlj : lg l j = xj := by rw [lg_at hj2, hxj]
                            have hjj : (((k : Int) + 1) % (l.length : Int)) = (j : Int) := by rw [← hj]; unfold nx; push_cast; rfl
                            have hm1 : ((k : Int) + 1).tmod (l.length : Int) = (j : Int) := by rw [Int.tmod_eq_emod_of_nonneg (by omega)]; exact hjj
                            have hk15 : (k : Int) + 1 ≤ 5000 := by omega
                            have hjl : (j : Int) < l.length := by omega
                            have hnz2 : ¬ ((l.length : Int) = 0) := by omega
                            have hnz : ¬ (l = []) := HNE.out
                            have hres : res l wf af a2 (k, r) = (j, xj) := by unfold res; rw [if_neg h4, if_neg (by rintro (h | h); exact hw (h.trans hlk); exact h1 h), if_neg h2, hj, hlj]
                            rw [hres] at HRR0 HGR0
                            have HRR := Lib.hid HRR0
                            have HGR := Lib.hid HGR0
                            clear HRR0 HGR0 hres
                            clear hw h4 h1 h2 hj hxj hlj
                            go_wp2
                            go_roundw
                            case rel => exact ⟨a2, xj, j, m, _, _, c5, _, out2, rfl, rfl, rfl, rfl, ha2, ha3, HGR, HCS2, HCB2, hcl2, hc5, HOL2, HOT2, HRR, HNN⟩
                            case measure => exact meas HLT2.out hlt
            | false =>
              obtain ⟨hk0, hr1, hr2⟩ := HG.out
              simp only [] at hk0 hr1 hr2
              have hr3 : r ≤ 3600000 := by have := (lg_in HOK.out hk0).2; omega
              obtain ⟨bl, ol, el, t0, t1⟩ := HST.out _ HOt.out.be k hk0
              simp only [Option.some.injEq, Addr.mk.injEq, and_true] at el
              obtain ⟨rfl, rfl⟩ := el
              obtain ⟨ik, hik⟩ : ∃ ik, l[k].1 = ik := ⟨_, rfl⟩
              have hit : itm l k = ik := by rw [itm_at hk0, hik]
              rw [hik] at t0
              obtain ⟨M, hM⟩ : ∃ M, upto wt cs (a + r) = M := ⟨_, rfl⟩
              obtain ⟨s1, s2, s3, s4, -⟩ := idn_step HOK.out HNE.out (wf := wf) (af := af) HG.out HCs.out hlt (hd_no hh)
              rw [hM] at s1 s2 s3 s4
              obtain ⟨m, hR2, hm2⟩ := rfl_go (l := l) (wf := wf) (af := af) (k := k) ⟨hlt, hol⟩ HN.out hh hM s1
              rw [← HR.out, hit] at hR2
              have HNN := Lib.hid hm2
              have HCSM := Lib.hid s4
              have HLT2 := Lib.hid s1
              have hMw : wf ≤ M := by omega
              have hME : M ≤ 345686400000 := by omega
              have HOL2 : Hid ((out ++ [((ik, a, M - a), false)]).length ≤ 3502) := Lib.hid (by simp; omega)
              have CA := Lib.hid (fun W (hb : Below wr.heap.size wr W) => add_any (HOt.out.below hb) ik a M false s1 (by omega) hME (by omega))
              have hol3 : (out.length : Int) ≤ 3001 := by omega
              have hkl : (k : Int) < l.length := by omega
              have hl5 : l.length ≤ 5000 := HL.out
              have hd1 : 0 ≤ M - a := by omega
              have hd2 : M - a ≤ r := by
                have : M ≤ a + r := by
                  rw [← hM]; unfold upto
                  cases cs with
                  | nil => show min (a + r) wt ≤ _; omega
                  | cons c0 cs0 => show min (min (a + r) wt) c0.2.1 ≤ _; omega
                omega
              have hno := hd_no hh
              have hMd : M - a ≤ 345686400000 := by omega
              clear hh hit hm2 s4 HCs HG HN HR
              cases cs with
              | nil =>
                have hM1 : min (a + r) wt = M := hM
                clear hM hno
                by_cases hz : r - (M - a) = 0
                · have hzb : (r - (M - a) == 0) = true := by rw [hz]; rfl
                  obtain ⟨j, hj, hj2⟩ : ∃ j, nx l k = j ∧ j < l.length := ⟨_, rfl, nx_lt HNE.out k⟩
                  obtain ⟨xj, hxj⟩ : ∃ xj, l[j].2 = xj := ⟨_, rfl⟩
                  have HU1 := Lib.hid (fun W (hb : Below w1.heap.size w1 W) => (by
                    obtain ⟨bj, oj, ej, -, u1⟩ := HST.out W hb j hj2
                    simp only [Option.some.injEq, Addr.mk.injEq, and_true] at ej
                    obtain ⟨rfl, rfl⟩ := ej
                    rw [hxj] at u1
                    exact u1 : W.cell? ⟨b1, o1 + j * 2 + 1, none⟩ = some (.int .i64 xj)))
                  have hlj : lg l j = xj := by rw [lg_at hj2, hxj]
                  have hjj : (((k : Int) + 1) % (l.length : Int)) = (j : Int) := by rw [← hj]; unfold nx; push_cast; rfl
                  have hk15 : (k : Int) + 1 ≤ 5000 := by omega
                  have hjl : (j : Int) < l.length := by omega
                  have hnz2 : ¬ ((l.length : Int) = 0) := by omega
                  have hnz : ¬ (l = []) := HNE.out
                  have hnx : nxt l k (r - (M - a)) = (j, xj) := by unfold nxt; rw [if_pos hz, hj, hlj]
                  rw [hnx] at hR2 s3
                  have HRR := Lib.hid hR2
                  have HGR := Lib.hid s3
                  clear hR2 s3 hnx
                  clear hz hj hxj hlj
                  go_wp2_with (go_at_call 92; refine (CA.out _ (Below.refl _ _)).mono ?_; rintro e w5 ⟨rfl, v5, hO5⟩; have HO5 := Lib.hid hO5; clear hO5; have u1 := HU1.out _ HO5.out.be)
                  go_roundw
                  case rel => exact ⟨M, xj, j, m, _, _, c4, _, _, rfl, rfl, (by first | rfl | exact congrArg (Value.int .i64) hjj), rfl, hMw, hME, HGR, HCSM, HCb, hcl, hcc, HOL2, HO5, HRR, HNN⟩
                  case measure => exact meas HLT2.out hlt
                · have hzb : (r - (M - a) == 0) = false := by rw [beq_eq_false_iff_ne]; exact hz
                  have hnx : nxt l k (r - (M - a)) = (k, r - (M - a)) := by unfold nxt; rw [if_neg hz]
                  rw [hnx] at hR2 s3
                  have HRR := Lib.hid hR2
                  have HGR := Lib.hid s3
                  clear hR2 s3 hnx
                  clear hz
                  go_wp2_with (go_at_call 92; refine (CA.out _ (Below.refl _ _)).mono ?_; rintro e w5 ⟨rfl, v5, hO5⟩; have HO5 := Lib.hid hO5; clear hO5)
                  go_roundw
                  case rel => exact ⟨M, r - (M - a), k, m, _, _, c4, _, _, rfl, rfl, (by first | rfl | exact congrArg (Value.int .i64) hjj), rfl, hMw, hME, HGR, HCSM, HCb, hcl, hcc, HOL2, HO5, HRR, HNN⟩
                  case measure => exact meas HLT2.out hlt
              | cons d ds =>
                have hdb : (d.2.1 == a) = false := by rw [beq_eq_false_iff_ne]; exact hno d ds rfl
                obtain ⟨M1, hM1⟩ : ∃ M1, min (a + r) wt = M1 := ⟨_, rfl⟩
                have hM2 : min M1 d.2.1 = M := by rw [← hM1]; exact hM
                obtain ⟨bd, od, rfl, -, p1, -⟩ := bk_at HCb.out 0 (by simp)
                simp only [List.getElem_cons_zero, Nat.zero_mul, Nat.add_zero] at p1
                have p2 := B.cell_below HOt.out.be p1
                have hlen2 : 0 < (d :: ds).length := by simp
                generalize d.2.1 = df at *
                clear hno p1 hM
                by_cases hz : r - (M - a) = 0
                · have hzb : (r - (M - a) == 0) = true := by rw [hz]; rfl
                  obtain ⟨j, hj, hj2⟩ : ∃ j, nx l k = j ∧ j < l.length := ⟨_, rfl, nx_lt HNE.out k⟩
                  obtain ⟨xj, hxj⟩ : ∃ xj, l[j].2 = xj := ⟨_, rfl⟩
                  have HU1 := Lib.hid (fun W (hb : Below w1.heap.size w1 W) => (by
                    obtain ⟨bj, oj, ej, -, u1⟩ := HST.out W hb j hj2
                    simp only [Option.some.injEq, Addr.mk.injEq, and_true] at ej
                    obtain ⟨rfl, rfl⟩ := ej
                    rw [hxj] at u1
                    exact u1 : W.cell? ⟨b1, o1 + j * 2 + 1, none⟩ = some (.int .i64 xj)))
                  have hlj : lg l j = xj := by rw [lg_at hj2, hxj]
                  have hjj : (((k : Int) + 1) % (l.length : Int)) = (j : Int) := by rw [← hj]; unfold nx; push_cast; rfl
                  have hk15 : (k : Int) + 1 ≤ 5000 := by omega
                  have hjl : (j : Int) < l.length := by omega
                  have hnz2 : ¬ ((l.length : Int) = 0) := by omega
                  have hnz : ¬ (l = []) := HNE.out
                  have hnx : nxt l k (r - (M - a)) = (j, xj) := by unfold nxt; rw [if_pos hz, hj, hlj]
                  rw [hnx] at hR2 s3
                  have HRR := Lib.hid hR2
                  have HGR := Lib.hid s3
                  clear hR2 s3 hnx
                  clear hz hj hxj hlj
                  go_wp2_with (go_at_call 92; refine (CA.out _ (Below.refl _ _)).mono ?_; rintro e w5 ⟨rfl, v5, hO5⟩; have HO5 := Lib.hid hO5; clear hO5; have u1 := HU1.out _ HO5.out.be)
                  go_roundw
                  case rel => exact ⟨M, xj, j, m, _, _, c4, _, _, rfl, rfl, (by first | rfl | exact congrArg (Value.int .i64) hjj), rfl, hMw, hME, HGR, HCSM, HCb, hcl, hcc, HOL2, HO5, HRR, HNN⟩
                  case measure => exact meas HLT2.out hlt
                · have hzb : (r - (M - a) == 0) = false := by rw [beq_eq_false_iff_ne]; exact hz
                  have hnx : nxt l k (r - (M - a)) = (k, r - (M - a)) := by unfold nxt; rw [if_neg hz]
                  rw [hnx] at hR2 s3
                  have HRR := Lib.hid hR2
                  have HGR := Lib.hid s3
                  clear hR2 s3 hnx
                  clear hz
                  go_wp2_with (go_at_call 92; refine (CA.out _ (Below.refl _ _)).mono ?_; rintro e w5 ⟨rfl, v5, hO5⟩; have HO5 := Lib.hid hO5; clear hO5)
                  go_roundw
                  case rel => exact ⟨M, r - (M - a), k, m, _, _, c4, _, _, rfl, rfl, (by first | rfl | exact congrArg (Value.int .i64) hjj), rfl, hMw, hME, HGR, HCSM, HCb, hcl, hcc, HOL2, HO5, HRR, HNN⟩
                  case measure => exact meas HLT2.out hlt
          · have HE : Hid (R = out) := Lib.hid (by rw [HR.out]; exact rfl_stop (fun h => hol h.2))
            have hol2 : (3001 : Int) < out.length := by omega
            have hol3 : decide ((out.length : Int) ≤ 3000) = false := decide_eq_false (by omega)
            have HOK3 : Hid (decide (out.length ≤ 3000) = false) := Lib.hid (decide_eq_false (by omega))
            have xo2 := fun q => (HOt.out.below (B.below_drew (Below.refl _ wr) q)).c.1
            go_wp2
            go_quiet (fail)
            go_wp2
            go_ret2
            refine ⟨⟨Av, cv, by rw [HE.out, HOK3.out]; rfl, ?_⟩, HBW.out.trans ((B.below_drew HOt.out.be _).mono HBW.out.size)⟩
            rw [HE.out]
            obtain ⟨A', c', e, hC⟩ := B.own_S (k := 5) (enc := pdE) (hl := fun _ => rfl) (h1 := pdE1) (HOt.out.below (B.below_drew (Below.refl _ wr) _)).O (by have := HOL.out; omega)
            simp only [Value.slice.injEq] at e
            obtain ⟨rfl, -, -⟩ := e
            exact hC
        · have HE : Hid (R = out) := Lib.hid (by rw [HR.out]; exact rfl_stop (fun h => hlt h.1))
          obtain ⟨tb, htb⟩ : ∃ tb, decide ((out.length : Int) ≤ 3000) = tb := ⟨_, rfl⟩
          have HOK3 : Hid (decide (out.length ≤ 3000) = tb) := Lib.hid (by rw [← htb]; exact decide_eq_decide.2 (by omega))
          have xo2 := fun q => (HOt.out.below (B.below_drew (Below.refl _ wr) q)).c.1
          go_wp2
          go_quiet (fail)
          go_wp2
          go_ret2
          refine ⟨⟨Av, cv, by rw [HE.out, HOK3.out]; rfl, ?_⟩, HBW.out.trans ((B.below_drew HOt.out.be _).mono HBW.out.size)⟩
          rw [HE.out]
          obtain ⟨A', c', e, hC⟩ := B.own_S (k := 5) (enc := pdE) (hl := fun _ => rfl) (h1 := pdE1) (HOt.out.below (B.below_drew (Below.refl _ wr) _)).O (by have := HOL.out; omega)
          simp only [Value.slice.injEq] at e
          obtain ⟨rfl, -, -⟩ := e
          exact hC
end Go.Proofs.YtfillnkebohciaaGreatDoor.Rn
namespace Go.Proofs.YtfillnkebohciaaGreatDoor.Rn
open Go.RowKit
open F (Fr Cl)
open T (Step stK)
open Come (tot Ok)

set_option maxRecDepth 100000 in
theorem info_plB : (Tryz.prog.info? 77).map (fun i => (i.zero, i.size, i.bytes)) = some (some (.agg #[.string ⟨#[]⟩, .string ⟨#[]⟩, .int .i64 0, .int .i64 0]), 4, 48) := by kernel_rfl
set_option maxHeartbeats 4000000 in
set_option maxRecDepth 100000 in
theorem runOf_big (A : Option Addr) (cL n : Nat) (wf wt af : Int) (A2 : Option Addr) (c2 n2 : Nat) (w : World) (R : List (Pl × Bool)) (hR : 3000 < R.length)
    (CP : ∀ W, Below w.heap.size w W → Calls Tryz.prog 63 #[.slice A n cL, .agg #[.int .i64 wf, .int .i64 wt], .slice A2 n2 c2, .int .i64 af] W fun e w' => RaRes R e w' ∧ Below W.heap.size W w') :
    Calls Tryz.prog 33 #[.slice A n cL, .agg #[.int .i64 wf, .int .i64 wt], .slice A2 n2 c2, .int .i64 af] w fun e w' => e = .returned (.tuple #[.slice none 0 0, .int .i64 2]) ∧ Below w.heap.size w w' := by
  have HA := Lib.hid (fun (c : Array Value) (e : TypeId) => (Below.refl w.heap.size w).alloc (Nat.le_refl _) (.cells c e))
  have HCP := Lib.hid CP
  have hb : decide (R.length ≤ 3000) = false := decide_eq_false (by omega)
  unfold RaRes at HCP
  rw [hb] at HCP
  clear CP hR hb
  go_enter Tryz.func33, Tryz.ntmps33
  go_wp2_with (go_at_call 63; refine (HCP.out _ (HA.out _ _)).mono ?_; rintro e w2 ⟨⟨A3, c3, rfl, hC⟩, hB2⟩; have HB2 := Lib.hid (B.below_trans (HA.out _ _) hB2); clear hB2 hC)
  go_ret2
  exact ⟨rfl, HB2.out⟩
set_option maxHeartbeats 4000000 in
set_option maxRecDepth 100000 in
theorem runOf_good (A : Option Addr) (cL n : Nat) (wf wt af : Int) (A2 : Option Addr) (c2 n2 : Nat) (w : World) (R : List (Pl × Bool)) (hR : R.length ≤ 3000)
    (CP : ∀ W, Below w.heap.size w W → Calls Tryz.prog 63 #[.slice A n cL, .agg #[.int .i64 wf, .int .i64 wt], .slice A2 n2 c2, .int .i64 af] W fun e w' => RaRes R e w' ∧ Below W.heap.size W w') :
    Calls Tryz.prog 33 #[.slice A n cL, .agg #[.int .i64 wf, .int .i64 wt], .slice A2 n2 c2, .int .i64 af] w fun e w' => (∃ A c, e = .returned (.tuple #[.slice A (R.map (·.1)).length c, .int .i64 0]) ∧ plK.C w' A (R.map (·.1))) ∧ Below w.heap.size w w' := by
  have HA := Lib.hid (fun (c : Array Value) (e : TypeId) => (Below.refl w.heap.size w).alloc (Nat.le_refl _) (.cells c e))
  have HCP := Lib.hid CP
  have hb : decide (R.length ≤ 3000) = true := decide_eq_true hR
  have HL := Lib.hid hR
  unfold RaRes at HCP
  rw [hb] at HCP
  have HSL : Hid ((R.map (·.1)).length = R.length) := Lib.hid (List.length_map _)
  clear CP hR hb
  go_enter Tryz.func33, Tryz.ntmps33
  go_wp2_with (go_at_call 63; refine (HCP.out _ (HA.out _ _)).mono ?_; rintro e w2 ⟨⟨A3, c3, rfl, hC⟩, hB2⟩; have HB2 := Lib.hid (B.below_trans (HA.out _ _) hB2); have HC := Lib.hid hC; clear hB2 hC)
  go_loopw [12, 27] (fun s12 s27 wr => ∃ (k : Nat), s27 = .int .i64 k ∧ k ≤ R.length ∧ Hid (B.Own wr w2.heap.size 77 4 plE s12 ((R.take k).map (·.1))) ∧ Hid (Below w2.heap.size w2 wr)) (fun _ s _ => R.length - (intOf s).toNat)
  case atStart => exact ⟨0, rfl, Nat.zero_le _, Lib.hid (by rw [List.take_zero]; exact B.Own.nil _ _ _ _ _), Lib.hid (Below.refl _ _)⟩
  case round =>
    obtain ⟨k, rfl, hk, HO, HB⟩ := hrel
    by_cases hlt : k < R.length
    · obtain ⟨b1, o1, rfl, f0, f1, f2, f3, f4⟩ := pd_at (HC.out.mono HB.out) k hlt
      have hk1 : (k : Int) < R.length := by omega
      have hk3 : (k : Int) < 3000 := by have := HL.out; omega
      have HTK : Hid ((R.take (k + 1)).map (·.1) = (R.take k).map (·.1) ++ [R[k].1]) := Lib.hid (by rw [List.take_succ_eq_append_getElem hlt, List.map_append]; rfl)
      have HLT : Hid (((R.take k).map (·.1)).length ≤ 3000) := Lib.hid (by rw [List.length_map, List.length_take]; have := HL.out; omega)
      generalize R[k] = s at *
      obtain ⟨⟨s1, s2, s3⟩, s4⟩ := s
      generalize (R.take k).map (·.1) = xs at *
      go_wp2_with (at_builtin; (refine Copy.wpl_append_g (w0 := w2) w2.heap.size rfl _ _ 68 77 (.agg #[.string ⟨#[]⟩, .string ⟨#[]⟩, .int .i64 0, .int .i64 0]) 4 48 rfl Tryz.underlying68 info_plB rfl (by decide) (by decide) plE (fun _ => rfl) plE1 _ xs (s1, s2, s3) _ rfl (HO.out.below ((Below.refl _ _).alloc (Nat.le_refl _) _)) rfl _ (by simp) rfl (HB.out.alloc HB.out.size _) (by have := HB.out.size; simp; omega) (by have := HLT.out; omega) ?_); intro v1 w1 HO1 HB1 _; have HP := Lib.hid HO1; have HBP := Lib.hid HB1; clear HO1 HB1)
      go_roundw
      case rel => exact ⟨k + 1, by go_num, by omega, by rw [HTK.out]; exact HP, HBP⟩
      case measure => simp [intOf]; omega
    · obtain rfl : k = R.length := by omega
      have ho := HO.out
      rw [List.take_length] at ho
      obtain ⟨A6, c6, e6, hC6⟩ := B.own_S (k := 4) (enc := plE) (hl := fun _ => rfl) (h1 := plE1) ho (by rw [HSL.out]; have := HL.out; omega)
      subst e6
      have HC6 := Lib.hid hC6
      have HB6 := Lib.hid (B.below_trans HB2.out HB.out)
      clear ho hC6 HO
      go_wp2
      go_ret2
      exact ⟨⟨_, _, rfl, HC6.out⟩, HB6.out⟩
end Go.Proofs.YtfillnkebohciaaGreatDoor.Rn
