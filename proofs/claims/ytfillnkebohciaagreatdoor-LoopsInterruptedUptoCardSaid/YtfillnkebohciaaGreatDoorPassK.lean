/- A pass of a tree: parts with kids, the program's. -/
import Derived.Test.YtfillnkebohciaaGreatDoorPass
namespace Go.Proofs.YtfillnkebohciaaGreatDoor.T
open Go.RowKit
open L (Lp row row1 At AtR lv kdL kid_at)
open F (Fr Cl)

/-- A number of a kid changes. -/
theorem Nd.setOf {tst : Bool} {w0 w : World} {lo hi : Nat} {x : Lp} {b : Nat} {had : Int} {cnt cnt' : List Int} {f : Fm} (h : Nd tst w0 w lo hi x b had cnt f) (i : Nat) (u : Int) (hc : x.kind = 4 → f.os.set i u = cnt') :
    Nd tst w0 (w.setCell ⟨f.go, i, none⟩ (.int .i64 u)) lo hi x b had cnt' { f with os := f.os.set i u } :=
  have hf : Fr (fun k => k = f.go) w (w.setCell ⟨f.go, i, none⟩ (.int .i64 u)) := Fr.set (p := ⟨f.go, i, none⟩) (Fr.refl (fun k => k = f.go) w) (fun _ => rfl) _
  have hne : ¬ b = f.go := fun e => h.go.2.2 e.symm
  { h with
    hiw := Nat.le_trans h.hiw hf.size
    rw := fun i u hi => (h.rw i u hi).fr hf hne
    c6 := h.c6.fr hf hne
    c7 := h.c7.fr hf hne
    c8 := h.c8.fr hf hne
    c9 := fun ht => (h.c9 ht).fr hf hne
    ol := by show (f.os.set i u).length = _; rw [List.length_set]; exact h.ol
    oc := hc
    oe := fun j hj => by
      have hj' : j < f.os.length := by have : j < (f.os.set i u).length := hj; simpa using this
      show Cl _ f.go j (.int .i64 ((f.os.set i u)[j]'hj))
      rw [List.getElem_set]
      split
      · rename_i e; subst e; exact (h.oe i hj').set _
      · rename_i e; exact (h.oe j hj').set_ne (by intro e2; cases e2; exact e rfl) _
    ke := fun j hj => hf.cell (h.gk (by rw [← h.kl]; show 0 < f.ki.length; have : j < f.ki.length := hj; omega)).2.2.2.2 (h.ke j hj) }
theorem ki_ok {tst : Bool} {w0 w W0 : World} {n lo hi : Nat} {x : Lp} {b : Nat} {st : St} {ob : Ob} {v : Value} {l : List Step} {had : Int} {cnt : List Int} {f : Fm} (h : Pre tst w0 w (n + 1) lo hi x b st ob v l) (nd : Nd tst w0 w lo hi x b had cnt f) (hW : Below w0.heap.size w0 W0) : KiOk w0 W0 n x f.ki ob where
  len := nd.kl
  dis := nd.kd
  hob := fun q hq => by obtain ⟨j, hj, rfl⟩ := List.getElem_of_mem hq; have := (nd.kin j hj).1; have := (nd.kin j hj).2.1; have := h.hob; omega
  hlo := fun q hq => by obtain ⟨j, hj, rfl⟩ := List.getElem_of_mem hq; have := (nd.kin j hj).1; have := h.hlo; omega
  hw0 := hW
  obw := h.how0
  hbs := h.hob.2.2
  gd := h.gd.2
theorem nd_run {tst : Bool} {w0 W0 wr : World} {n lo hi : Nat} {x : Lp} {b : Nat} {ob : Ob} {v : Value} {had : Int} {cnt : List Int} {f : Fm} {m : List Step} {T : List St × List Step} {is : List Nat} (nd : Nd tst w0 W0 lo hi x b had cnt f) (hob : ((ob.o < lo ∨ hi ≤ ob.o) ∧ hi ≤ ob.bs ∧ ob.o < ob.bs)) (hv : ∀ g, v.ownBlock = some g → ob.bs ≤ g)
    (h : Run tst w0 n W0 wr x f.ki ob v m T is) : Nd tst w0 wr lo hi x b had cnt f := by
  obtain ⟨v', -, hf, -⟩ := h
  have key : ∀ k, lo ≤ k → k < hi → (∀ j (h : j < f.ki.length), ¬ (f.ki[j].lo ≤ k ∧ k < f.ki[j].hi)) → ¬ Sk f.ki ob v k := fun k hlk hk hj hS => by
    rcases hS with ⟨q, hq, h1⟩ | h1 | h1
    · obtain ⟨j, hj', rfl⟩ := List.getElem_of_mem hq; exact hj j hj' h1
    · omega
    · have := hv k h1; omega
  exact nd.fr hf (key b nd.lob nd.bhi (fun j hj h => ((nd.kin j hj).2.2 b h.1 h.2).1 rfl)) (key _ nd.go.1 nd.go.2.1 (fun j hj h => ((nd.kin j hj).2.2 _ h.1 h.2).2.1 rfl)) (fun hp => key _ (nd.gk hp).2.1 (nd.gk hp).2.2.1 (fun j hj h => ((nd.kin j hj).2.2 _ h.1 h.2).2.2 rfl))
/-- All kids have passed. -/
theorem pass_done {tst : Bool} {w0 w W0 wr : World} {n lo hi : Nat} {x : Lp} {b : Nat} {st : St} {ob : Ob} {v : Value} {l : List Step} {cnt' : List Int} {f : Fm} {T : List St × List Step} (hob : ((ob.o < lo ∨ hi ≤ ob.o) ∧ hi ≤ ob.bs ∧ ob.o < ob.bs)) (hv : ∀ g, v.ownBlock = some g → ob.bs ≤ g) (hlo : lo ≤ b) (hobw : ob.bs ≤ w.heap.size)
    (nd : Nd tst w0 W0 lo hi x b st.had cnt' f) (hf : Fr (Sx lo hi ob v) w W0) (h : Run tst w0 n W0 wr x f.ki ob v l T []) (hp : passS (n + 2) x st = (.mk (w64 (st.had + 1)) cnt' T.1, T.2)) :
    PassPost tst w0 w (n + 1) lo hi x b st ob v l (wr.setCell ⟨b, 7, none⟩ (.int .i64 (wrap64 (st.had + 1)))) := by
  have nd2 := nd_run nd hob hv h
  obtain ⟨v', hn, hf2, hr⟩ := h
  have hbh := nd.bhi
  have hFs : Fr (fun k => k = b) wr (wr.setCell ⟨b, 7, none⟩ (.int .i64 (wrap64 (st.had + 1)))) := Fr.set (p := ⟨b, 7, none⟩) (Fr.refl (fun k => k = b) _) (fun _ => rfl) _
  have hvl := hn.lo hv (show ob.bs ≤ W0.heap.size by have := hf.size; omega)
  have hout : ∀ l', OutV tst wr ob v' l' → OutV tst (wr.setCell ⟨b, 7, none⟩ (.int .i64 (wrap64 (st.had + 1)))) ob v' l' := fun l' ho => ho.fr hFs (by omega) (fun g e => by have := hvl g e; omega)
  have hF : Fr (Sx lo hi ob v) w (wr.setCell ⟨b, 7, none⟩ (.int .i64 (wrap64 (st.had + 1)))) := (hf.trans hf2 (fun k _ hS => by
    rcases hS with ⟨q, hq, h1, h2⟩ | h1 | h1
    · obtain ⟨j, hj', rfl⟩ := List.getElem_of_mem hq
      have := (nd.kin j hj').1
      have := (nd.kin j hj').2.1
      exact .inl ⟨by omega, by omega⟩
    · exact .inr (.inl h1)
    · exact .inr (.inr h1))).trans hFs (fun k _ e => .inl ⟨by omega, by omega⟩)
  have hN : NewV w v v' := by
    rcases hn with hn | hn
    · exact .inl hn
    · exact .inr fun g e => Nat.le_trans hf.size (hn g e)
  refine ⟨v', hN, hF, ?_⟩
  rw [hp]
  rcases hr with ⟨ks, l', hA⟩ | hov
  · obtain ⟨a1, a2, a3, a4, a5, a6⟩ := hA
    have a5' : ks = T.1 := a5
    have a6' : l' ++ [] = l ++ T.2 := a6
    rw [List.append_nil] at a6'
    refine .inl ⟨by rw [← List.length_append, ← a6']; exact a3, by rw [← a6']; exact hout _ a4, ?_⟩
    refine ⟨by show T.1.length = _; rw [← a5', a1], f, by rw [w64_eq]; exact nd2.setHad _, fun j h1 h2 h3 => ?_⟩
    have h3' : j < ks.length := by rw [a5']; exact h3
    have e : ks[j]'h3' = (St.mk (w64 (st.had + 1)) cnt' T.1).kids[j]'h3 := by subst a5'; rfl
    rw [← e]
    exact (a2 j h1 h2 h3').1.fr hFs (fun k k1 k2 e => ((nd.kin j h2).2.2 k k1 k2).1 e)
  · obtain ⟨l', q1, q2, q3⟩ := hov.2
    exact .inr ⟨hov.1, l', q1, q2, hout _ q3⟩
theorem idx_row {x : Lp} (h : x.kind = 2) (had : Int) (cnt : List Int) : idx x had cnt = List.range x.kids.length := by unfold idx; rw [if_pos h]
theorem idx_turn {x : Lp} (h : x.kind = 3) (had : Int) (cnt : List Int) : idx x had cnt = [(had.tmod x.kids.length).toNat] := by unfold idx; rw [if_neg (by omega), if_pos h]
theorem idx_share {x : Lp} (h : x.kind = 4) (had : Int) (cnt : List Int) : idx x had cnt = [next x had cnt] := by unfold idx; rw [if_neg (by omega), if_neg (by omega), if_pos h]
theorem idx_rep {x : Lp} (h : x.kind = 5) (had : Int) (cnt : List Int) : idx x had cnt = List.replicate x.many.toNat 0 := by unfold idx; rw [if_neg (by omega), if_neg (by omega), if_neg (by omega)]
theorem range_drop {n k : Nat} (h : k < n) : (List.range n).drop k = k :: (List.range n).drop (k + 1) := by
  rw [List.drop_eq_getElem_cons (by simpa using h)]; simp
theorem rep_drop {n k : Nat} (h : k < n) : (List.replicate n (0 : Nat)).drop k = 0 :: (List.replicate n 0).drop (k + 1) := by
  rw [List.drop_eq_getElem_cons (by simpa using h)]; simp
theorem run_start {tst : Bool} {w0 W0 : World} {n : Nat} {x : Lp} {ki : List KI} {ob : Ob} {v : Value} {l : List Step} {ks : List St} (is : List Nat) (h1 : ks.length = x.kids.length) (h2 : ∀ j (h1 : j < x.kids.length) (h2 : j < ki.length) (h3 : j < ks.length), Tr tst w0 n W0 ki[j].lo ki[j].hi x.kids[j] ki[j].b ks[j] ∧ Bd l.length n x.kids[j] ks[j])
    (h3 : l.length ≤ 5000) (h4 : OutV tst W0 ob v l) : Run tst w0 n W0 W0 x ki ob v l (runs (kf (n + 1) x) is ks) is :=
  ⟨v, .inl rfl, Fr.refl _ _, .inl ⟨ks, l, h1, h2, h3, h4, rfl, rfl⟩⟩
theorem passS_eq {n : Nat} {x : Lp} {st : St} (hk : x.kind ≠ 1) (cnt' : List Int) (hc : (if x.kind = 4 then bump st.cnt (next x st.had st.cnt) else st.cnt) = cnt') (is : List Nat) (hi : idx x st.had st.cnt = is) :
    passS (n + 2) x st = (.mk (w64 (st.had + 1)) cnt' (runs (kf (n + 1) x) is st.kids).1, (runs (kf (n + 1) x) is st.kids).2) := by rw [passS_kids hk, hc, hi]
set_option maxHeartbeats 4000000 in
set_option maxRecDepth 100000 in
theorem pass_row (n : Nat) (ih : PassAt n) (x : Lp) (b : Nat) (st : St) (lo hi : Nat) (ob : Ob) (v : Value) (l : List Step) (w0 w : World) (h : Pre true w0 w (n + 1) lo hi x b st ob v l) (hk : x.kind = 2) :
    Calls Tryz.prog 80 #[.pointer (some ⟨b, 0, none⟩), .pointer (some ⟨ob.o, 0, none⟩)] w fun e w' => e = .returned (.tuple #[]) ∧ PassPost true w0 w (n + 1) lo hi x b st ob v l w' := by
  obtain ⟨hl, f, nd, htr⟩ := h.tr
  obtain ⟨A, m, c, rfl⟩ : ∃ A n c, v = .slice A n c := by obtain ⟨A, c, e⟩ := Copy.shape h.out.2.2.1; exact ⟨A, _, c, e⟩
  have HN : Hid (m = l.length) := Lib.hid (by obtain ⟨A', c', e⟩ := Copy.shape h.out.2.2.1; cases e; rfl)
  have hp := (own_ok h.gd.own).2.2.1 (by omega)
  have HPR := Lib.hid h
  have HH := Lib.hid nd
  have HV : Hid (∀ g, (Value.slice A m c).ownBlock = some g → ob.bs ≤ g) := Lib.hid (fun g e => (World.ownsRow.lt h.out.2.2.1 g e).1)
  have HBq := Lib.hid (fun q => (B.below_drew (Below.refl _ w) q : Below w.heap.size w (w.drewN q)))
  have HRS := Lib.hid (fun q => run_start (tst := true) (w0 := w0) (W0 := w.drewN q) (n := n) (ki := f.ki) (List.range x.kids.length) hl (fun j h1 h2 h3 => ⟨(htr j h1 h2 h3).fr (S := fun _ => False) (Fr.of_below (HBq.out q)) (fun _ _ _ h => h), h.bd.2.2 j h1 h3⟩) h.le (h.out.below (HBq.out q)))
  have HKO := Lib.hid (fun q => ki_ok h nd (h.hw0.trans ((HBq.out q).mono h.hw0.size)))
  have f0 : w.cell? ⟨b, 0, none⟩ = some (.int .i64 2) := by rw [← hk]; exact (nd.rw 0 _ rfl).1
  obtain ⟨e6, -⟩ := nd.gk hp
  have f6 : w.cell? ⟨b, 6, none⟩ = some (.slice (some ⟨f.gk, 0, none⟩) x.kids.length f.ck) := by rw [← e6]; exact nd.c6.1
  have cf := full ob.o A m c 5000 w h.out.1.1 (h.out.2.1 rfl).1
  have hle : decide ((5000 : Int) < m) = false := decide_eq_false (by rw [HN.out]; have := h.le; omega)
  have LK : x.kids.length ≤ 1048576 := nd.ok.2.2.1
  have HOBW := Lib.hid h.out.2.2.2
  have HP := Lib.hid (passS_eq (n := n) (x := x) (st := st) (by omega) st.cnt (by rw [if_neg (by omega)]) _ (idx_row hk _ _))
  generalize hT : runs (kf (n + 1) x) (List.range x.kids.length) st.kids = T at *
  clear hT h nd htr hl hk hp e6
  go_enter Tryz.func80, Tryz.ntmps80
  go_wp2_with (go_at_call 81; refine cf.mono ?_; rintro e w1 ⟨rfl, q, rfl⟩)
  have HKQ := Lib.hid (HKO.out q)
  have HNQ := Lib.hid (HH.out.later (HBq.out q))
  have HRQ := Lib.hid (HRS.out q)
  have HFQ := Lib.hid (Fr.of_below (S := Sx lo hi ob (.slice A m c)) (HBq.out q))
  clear HKO HRS HBq
  generalize w.drewN q = W0 at *
  go_loopw [59] (fun s wr => ∃ k : Nat, s = .int .i64 k ∧ k ≤ x.kids.length ∧ Hid (Run true w0 n W0 wr x f.ki ob (.slice A m c) l T ((List.range x.kids.length).drop k))) (fun s _ => x.kids.length - (intOf s).toNat)
  case atStart => exact ⟨0, rfl, by omega, Lib.hid (by rw [List.drop_zero]; exact HRQ.out)⟩
  case round =>
    obtain ⟨k, rfl, hk, HR⟩ := hrel
    by_cases hlt : k < x.kids.length
    · have nd2 := nd_run HNQ.out HPR.out.hob HV.out HR.out
      have hj : k < f.ki.length := by rw [HNQ.out.kl]; exact hlt
      have fp := nd2.ke k hj
      have hr := HR.out
      rw [range_drop hlt] at hr
      have cc := call_kid ih HKQ.out HV.out hr hlt hj
      have hk1 : (k : Int) < x.kids.length := by omega
      generalize f.ki[k].b = pb at fp cc
      clear nd2 hj hr
      go_wp2_with (go_at_call 80; refine cc.mono ?_; rintro e w1 ⟨rfl, hR1⟩; have HR1 := Lib.hid hR1; clear hR1)
      go_roundw
      case rel => exact ⟨k + 1, by go_num, by omega, HR1⟩
      case measure => simp [intOf]; omega
    · obtain rfl : k = x.kids.length := by omega
      have hr := HR.out
      rw [List.drop_eq_nil_of_le (by simp)] at hr
      have HR2 := Lib.hid hr
      have nd2 := nd_run HNQ.out HPR.out.hob HV.out HR.out
      have y7 := nd2.c7.1
      have x7 := nd2.c7.2
      clear hr nd2
      go_wp2
      go_end0
      exact ⟨rfl, pass_done HPR.out.hob HV.out HNQ.out.lob HOBW.out HNQ.out HFQ.out HR2.out HP.out⟩
set_option maxHeartbeats 4000000 in
set_option maxRecDepth 100000 in
theorem pass_rep (n : Nat) (ih : PassAt n) (x : Lp) (b : Nat) (st : St) (lo hi : Nat) (ob : Ob) (v : Value) (l : List Step) (w0 w : World) (h : Pre true w0 w (n + 1) lo hi x b st ob v l) (hk : x.kind = 5) :
    Calls Tryz.prog 80 #[.pointer (some ⟨b, 0, none⟩), .pointer (some ⟨ob.o, 0, none⟩)] w fun e w' => e = .returned (.tuple #[]) ∧ PassPost true w0 w (n + 1) lo hi x b st ob v l w' := by
  obtain ⟨hl, f, nd, htr⟩ := h.tr
  obtain ⟨A, m, c, rfl⟩ : ∃ A n c, v = .slice A n c := by obtain ⟨A, c, e⟩ := Copy.shape h.out.2.2.1; exact ⟨A, _, c, e⟩
  have HN : Hid (m = l.length) := Lib.hid (by obtain ⟨A', c', e⟩ := Copy.shape h.out.2.2.1; cases e; rfl)
  have hp := (own_ok h.gd.own).2.2.1 (by omega)
  obtain ⟨M, hM⟩ : ∃ M : Nat, x.many = M := ⟨x.many.toNat, by have := ((own_ok h.gd.own).2.2.2.1 hk).2.1; omega⟩
  have HPR := Lib.hid h
  have HH := Lib.hid nd
  have HV : Hid (∀ g, (Value.slice A m c).ownBlock = some g → ob.bs ≤ g) := Lib.hid (fun g e => (World.ownsRow.lt h.out.2.2.1 g e).1)
  have HBq := Lib.hid (fun q => (B.below_drew (Below.refl _ w) q : Below w.heap.size w (w.drewN q)))
  have HRS := Lib.hid (fun q => run_start (tst := true) (w0 := w0) (W0 := w.drewN q) (n := n) (ki := f.ki) (List.replicate M 0) hl (fun j h1 h2 h3 => ⟨(htr j h1 h2 h3).fr (S := fun _ => False) (Fr.of_below (HBq.out q)) (fun _ _ _ h => h), h.bd.2.2 j h1 h3⟩) h.le (h.out.below (HBq.out q)))
  have HKO := Lib.hid (fun q => ki_ok h nd (h.hw0.trans ((HBq.out q).mono h.hw0.size)))
  have f0 : w.cell? ⟨b, 0, none⟩ = some (.int .i64 5) := by rw [← hk]; exact (nd.rw 0 _ rfl).1
  obtain ⟨e6, -⟩ := nd.gk hp
  have f6 : w.cell? ⟨b, 6, none⟩ = some (.slice (some ⟨f.gk, 0, none⟩) x.kids.length f.ck) := by rw [← e6]; exact nd.c6.1
  have cf := full ob.o A m c 5000 w h.out.1.1 (h.out.2.1 rfl).1
  have hle : decide ((5000 : Int) < m) = false := decide_eq_false (by rw [HN.out]; have := h.le; omega)
  have hm := (own_ok h.gd.own).2.2.2.1 hk
  have f3 : w.cell? ⟨b, 3, none⟩ = some (.int .i64 x.many) := (nd.rw 3 _ rfl).1
  have HK1 : Hid (0 < f.ki.length) := Lib.hid (by rw [nd.kl]; omega)
  have HP1 : Hid (0 < x.kids.length) := Lib.hid hp
  have LM : M ≤ 100 := by omega
  rw [hM] at f3
  have LK : x.kids.length ≤ 1048576 := nd.ok.2.2.1
  have HOBW := Lib.hid h.out.2.2.2
  have HP := Lib.hid (passS_eq (n := n) (x := x) (st := st) (by omega) st.cnt (by rw [if_neg (by omega)]) (List.replicate M 0) (by rw [idx_rep hk, hM, Int.toNat_natCast]))
  generalize hT : runs (kf (n + 1) x) (List.replicate M 0) st.kids = T at *
  clear hT hm hM h nd htr hl hk hp e6
  go_enter Tryz.func80, Tryz.ntmps80
  go_wp2_with (go_at_call 81; refine cf.mono ?_; rintro e w1 ⟨rfl, q, rfl⟩)
  have HKQ := Lib.hid (HKO.out q)
  have HNQ := Lib.hid (HH.out.later (HBq.out q))
  have HRQ := Lib.hid (HRS.out q)
  have HFQ := Lib.hid (Fr.of_below (S := Sx lo hi ob (.slice A m c)) (HBq.out q))
  clear HKO HRS HBq
  generalize w.drewN q = W0 at *
  go_loopw [19] (fun s wr => ∃ k : Nat, s = .int .i64 k ∧ k ≤ M ∧ Hid (Run true w0 n W0 wr x f.ki ob (.slice A m c) l T ((List.replicate M 0).drop k))) (fun s _ => M - (intOf s).toNat)
  case atStart => exact ⟨0, rfl, by omega, Lib.hid (by rw [List.drop_zero]; exact HRQ.out)⟩
  case round =>
    obtain ⟨k, rfl, hk, HR⟩ := hrel
    by_cases hlt : k < M
    · have nd2 := nd_run HNQ.out HPR.out.hob HV.out HR.out
      have fp := nd2.ke 0 HK1.out
      have f6' : wr.cell? ⟨b, 6, none⟩ = some (.slice (some ⟨f.gk, 0, none⟩) x.kids.length f.ck) := by rw [← (nd2.gk HP1.out).1]; exact nd2.c6.1
      have hp0 : (0 : Int) < x.kids.length := by have := HP1.out; omega
      have hr := HR.out
      rw [rep_drop hlt] at hr
      have cc := call_kid ih HKQ.out HV.out hr HP1.out HK1.out
      have hk1 : (k : Int) < M := by omega
      generalize f.ki[0].b = pb at fp cc
      clear nd2 hr
      go_wp2_with (go_at_call 80; refine cc.mono ?_; rintro e w1 ⟨rfl, hR1⟩; have HR1 := Lib.hid hR1; clear hR1)
      go_roundw
      case rel => exact ⟨k + 1, by go_num, by omega, HR1⟩
      case measure => simp [intOf]; omega
    · obtain rfl : k = M := by omega
      have hr := HR.out
      rw [List.drop_eq_nil_of_le (by simp)] at hr
      have HR2 := Lib.hid hr
      have nd2 := nd_run HNQ.out HPR.out.hob HV.out HR.out
      have y7 := nd2.c7.1
      have x7 := nd2.c7.2
      clear hr nd2
      go_wp2
      go_end0
      exact ⟨rfl, pass_done HPR.out.hob HV.out HNQ.out.lob HOBW.out HNQ.out HFQ.out HR2.out HP.out⟩
set_option maxHeartbeats 4000000 in
set_option maxRecDepth 100000 in
theorem pass_turn (n : Nat) (ih : PassAt n) (x : Lp) (b : Nat) (st : St) (lo hi : Nat) (ob : Ob) (v : Value) (l : List Step) (w0 w : World) (h : Pre true w0 w (n + 1) lo hi x b st ob v l) (hk : x.kind = 3) :
    Calls Tryz.prog 80 #[.pointer (some ⟨b, 0, none⟩), .pointer (some ⟨ob.o, 0, none⟩)] w fun e w' => e = .returned (.tuple #[]) ∧ PassPost true w0 w (n + 1) lo hi x b st ob v l w' := by
  obtain ⟨hl, f, nd, htr⟩ := h.tr
  obtain ⟨A, m, c, rfl⟩ : ∃ A n c, v = .slice A n c := by obtain ⟨A, c, e⟩ := Copy.shape h.out.2.2.1; exact ⟨A, _, c, e⟩
  have HN : Hid (m = l.length) := Lib.hid (by obtain ⟨A', c', e⟩ := Copy.shape h.out.2.2.1; cases e; rfl)
  have hp := (own_ok h.gd.own).2.2.1 (by omega)
  obtain ⟨q3, hq3⟩ : ∃ q : Nat, st.had.tmod x.kids.length = q := ⟨(st.had.tmod x.kids.length).toNat, by have := Int.tmod_nonneg (x.kids.length : Int) h.bd.had.1; omega⟩
  have hq4 : q3 < x.kids.length := by have := Int.tmod_lt_of_pos st.had (b := x.kids.length) (by omega); omega
  have hq5 : (q3 : Int) < x.kids.length := by omega
  have HQ4 := Lib.hid hq4
  have HKL : Hid (q3 < f.ki.length) := Lib.hid (by rw [nd.kl]; exact hq4)
  have HPR := Lib.hid h
  have HH := Lib.hid nd
  have HV : Hid (∀ g, (Value.slice A m c).ownBlock = some g → ob.bs ≤ g) := Lib.hid (fun g e => (World.ownsRow.lt h.out.2.2.1 g e).1)
  have HBq := Lib.hid (fun q => (B.below_drew (Below.refl _ w) q : Below w.heap.size w (w.drewN q)))
  have HRS := Lib.hid (fun q => run_start (tst := true) (w0 := w0) (W0 := w.drewN q) (n := n) (ki := f.ki) [q3] hl (fun j h1 h2 h3 => ⟨(htr j h1 h2 h3).fr (S := fun _ => False) (Fr.of_below (HBq.out q)) (fun _ _ _ h => h), h.bd.2.2 j h1 h3⟩) h.le (h.out.below (HBq.out q)))
  have HKO := Lib.hid (fun q => ki_ok h nd (h.hw0.trans ((HBq.out q).mono h.hw0.size)))
  have f0 : w.cell? ⟨b, 0, none⟩ = some (.int .i64 3) := by rw [← hk]; exact (nd.rw 0 _ rfl).1
  obtain ⟨e6, -⟩ := nd.gk hp
  have f6 : w.cell? ⟨b, 6, none⟩ = some (.slice (some ⟨f.gk, 0, none⟩) x.kids.length f.ck) := by rw [← e6]; exact nd.c6.1
  have cf := full ob.o A m c 5000 w h.out.1.1 (h.out.2.1 rfl).1
  have hle : decide ((5000 : Int) < m) = false := decide_eq_false (by rw [HN.out]; have := h.le; omega)
  have f7 := nd.c7.1
  have fp := nd.ke q3 HKL.out
  have hnz : ¬ (x.kids = []) := fun e => by rw [e] at hp; simp at hp
  have LK : x.kids.length ≤ 1048576 := nd.ok.2.2.1
  have HOBW := Lib.hid h.out.2.2.2
  have HP := Lib.hid (passS_eq (n := n) (x := x) (st := st) (by omega) st.cnt (by rw [if_neg (by omega)]) [q3] (by rw [idx_turn hk, hq3, Int.toNat_natCast]))
  generalize hT : runs (kf (n + 1) x) [q3] st.kids = T at *
  clear hT h nd htr hl hk hp e6
  go_enter Tryz.func80, Tryz.ntmps80
  go_wp2_with (go_at_call 81; refine cf.mono ?_; rintro e w1 ⟨rfl, q, rfl⟩)
  have HND := Lib.hid (HH.out.later (HBq.out q))
  have g6 : (w.drewN q).cell? ⟨b, 6, none⟩ = some (.slice (some ⟨f.gk, 0, none⟩) x.kids.length f.ck) := f6
  have g7 : (w.drewN q).cell? ⟨b, 7, none⟩ = some (.int .i64 st.had) := f7
  have gp : (w.drewN q).cell? ⟨f.gk, q3, none⟩ = some (.pointer (some ⟨f.ki[q3].b, 0, none⟩)) := fp
  have HKQ := Lib.hid (HKO.out (q + 1))
  have HNQ := Lib.hid (HH.out.later (HBq.out (q + 1)))
  have HRQ := HRS.out (q + 1)
  have HFQ := Lib.hid (Fr.of_below (S := Sx lo hi ob (.slice A m c)) (HBq.out (q + 1)))
  have cc := call_kid ih HKQ.out HV.out HRQ HQ4.out HKL.out
  clear HKO HRS HBq HRQ HND
  change Hid (KiOk w0 (w.drewN q).drew n x f.ki ob) at HKQ
  change Hid (Nd true w0 (w.drewN q).drew lo hi x b st.had st.cnt f) at HNQ
  change Hid (Fr (Sx lo hi ob (.slice A m c)) w (w.drewN q).drew) at HFQ
  change Calls Tryz.prog _ _ (w.drewN q).drew (fun e w' => e = .returned (.tuple #[]) ∧ Run true w0 n (w.drewN q).drew w' x f.ki ob (.slice A m c) l T []) at cc
  generalize f.ki[q3].b = pb at gp cc ⊢
  generalize w.drewN q = W0 at *
  clear f6 f7 fp cf
  go_still_tail 17, (by kernel_rfl)
  change wpList _ _ _ _ _ W0.drew
  generalize W0.drew = W1 at *
  go_wp2_with (go_at_call 80; refine cc.mono ?_; rintro e w1 ⟨rfl, hR1⟩; have HR1 := Lib.hid hR1; have y7 := (nd_run HNQ.out HPR.out.hob HV.out hR1).c7.1; have x7 := (nd_run HNQ.out HPR.out.hob HV.out hR1).c7.2; clear hR1)
  go_end0
  exact ⟨rfl, pass_done HPR.out.hob HV.out HNQ.out.lob HOBW.out HNQ.out HFQ.out HR1.out HP.out⟩
set_option maxHeartbeats 4000000 in
set_option maxRecDepth 100000 in
theorem pass_share (n : Nat) (ih : PassAt n) (x : Lp) (b : Nat) (st : St) (lo hi : Nat) (ob : Ob) (v : Value) (l : List Step) (w0 w : World) (h : Pre true w0 w (n + 1) lo hi x b st ob v l) (hk : x.kind = 4) :
    Calls Tryz.prog 80 #[.pointer (some ⟨b, 0, none⟩), .pointer (some ⟨ob.o, 0, none⟩)] w fun e w' => e = .returned (.tuple #[]) ∧ PassPost true w0 w (n + 1) lo hi x b st ob v l w' := by
  obtain ⟨hl, f, nd, htr⟩ := h.tr
  obtain ⟨A, m, c, rfl⟩ : ∃ A n c, v = .slice A n c := by obtain ⟨A, c, e⟩ := Copy.shape h.out.2.2.1; exact ⟨A, _, c, e⟩
  have HN : Hid (m = l.length) := Lib.hid (by obtain ⟨A', c', e⟩ := Copy.shape h.out.2.2.1; cases e; rfl)
  have hp := (own_ok h.gd.own).2.2.1 (by omega)
  have HPR := Lib.hid h
  have HH := Lib.hid nd
  have HV : Hid (∀ g, (Value.slice A m c).ownBlock = some g → ob.bs ≤ g) := Lib.hid (fun g e => (World.ownsRow.lt h.out.2.2.1 g e).1)
  have hs5 := (own_ok h.gd.own).2.2.2.2.1 hk
  have hnl : next x st.had st.cnt < x.kids.length := by rw [← hs5]; exact scan_lt _ _ _ _ _ (by omega) (by omega)
  have HP := Lib.hid (passS_eq (n := n) (x := x) (st := st) (by omega) _ (by rw [if_pos hk]) _ (idx_share hk _ _))
  have HOC := Lib.hid (nd.oc hk)
  have cb := fun W hb => behind w0 W lo hi x b st.had st.cnt f (nd.later hb) (h.hw0.trans (hb.mono h.hw0.size)) hk hs5 (by omega)
  generalize next x st.had st.cnt = N at hnl HP cb
  have HNL := Lib.hid hnl
  have HKL : Hid (N < f.ki.length) := Lib.hid (by rw [nd.kl]; exact hnl)
  have HJO : Hid (N < f.os.length) := Lib.hid (by rw [nd.ol]; exact hnl)
  have hnl2 : (N : Int) < x.kids.length := by omega
  have HBQ := Lib.hid (fun q => (B.below_drew (Below.refl _ w) q : Below w.heap.size w (w.drewN q)))
  have HSO : Hid (∀ W : World, Below w.heap.size w W → Nd true w0 (W.setCell ⟨f.go, N, none⟩ (.int .i64 (wrap64 (f.os[N]'HJO.out + 1)))) lo hi x b st.had (bump st.cnt N) { f with os := f.os.set N (wrap64 (f.os[N]'HJO.out + 1)) } ∧ Cl W b 8 (.slice (some ⟨f.go, 0, none⟩) x.kids.length f.co) ∧ Cl W f.go N (.int .i64 (f.os[N]'HJO.out))) := Lib.hid (fun W hb => ⟨(nd.later hb).setOf _ _ (fun _ => by rw [bump, w64_eq, ← HOC.out, getD_at HJO.out]), (nd.later hb).c8, (nd.later hb).oe N HJO.out⟩)
  have HRS : Hid (∀ W u, Below w.heap.size w W → Run true w0 n (W.setCell ⟨f.go, N, none⟩ u) (W.setCell ⟨f.go, N, none⟩ u) x f.ki ob (.slice A m c) l (runs (kf (n + 1) x) [N] st.kids) [N]) := Lib.hid (fun W u hb => by
    have hF : Fr (fun k => k = f.go) w (W.setCell ⟨f.go, N, none⟩ u) := Fr.set (p := ⟨f.go, N, none⟩) (Fr.of_below (S := fun k => k = f.go) hb) (fun _ => rfl) _
    refine run_start (tst := true) [N] hl (fun j h1 h2 h3 => ⟨(htr j h1 h2 h3).fr hF (fun k k1 k2 e => ((nd.kin j h2).2.2 k k1 k2).2.1 e), h.bd.2.2 j h1 h3⟩) h.le (h.out.fr hF ?_ (fun g e e2 => ?_))
    · have := nd.go.2.1; have := nd.go.1; have := h.hob; omega
    · have := nd.go.2.1; have := h.hob; have := HV.out g e; omega)
  have HKO := Lib.hid (fun (W : World) u (hb : Below w.heap.size w W) => ki_ok (W0 := W.setCell ⟨f.go, N, none⟩ u) h nd ((h.hw0.trans (hb.mono h.hw0.size)).trans ((Fr.set (p := ⟨f.go, N, none⟩) (Fr.refl (fun k => k = f.go) W) (fun _ => rfl) u).below (by have := hb.size; have := h.hw0.size; omega) (fun k e => by have := nd.go.1; have := h.hlo; omega))))
  have HFQ := Lib.hid (fun (W : World) u (hb : Below w.heap.size w W) => Fr.set (p := ⟨f.go, N, none⟩) (Fr.of_below (S := Sx lo hi ob (.slice A m c)) hb) (fun _ => .inl ⟨nd.go.1, nd.go.2.1⟩) u)
  have f0 : w.cell? ⟨b, 0, none⟩ = some (.int .i64 4) := by rw [← hk]; exact (nd.rw 0 _ rfl).1
  obtain ⟨e6, -⟩ := nd.gk hp
  have E6 := Lib.hid e6
  have cf := full ob.o A m c 5000 w h.out.1.1 (h.out.2.1 rfl).1
  have hle : decide ((5000 : Int) < m) = false := decide_eq_false (by rw [HN.out]; have := h.le; omega)
  have LK : x.kids.length ≤ 1048576 := nd.ok.2.2.1
  have HOBW := Lib.hid h.out.2.2.2
  generalize hT : runs (kf (n + 1) x) [N] st.kids = T at *
  generalize hU : f.os[N]'HJO.out = U at *
  clear hT hU h nd htr hl hk hp e6 hs5 hnl
  go_enter Tryz.func80, Tryz.ntmps80
  go_wp2_with (first
    | (go_at_call 81; refine cf.mono ?_; rintro e w1 ⟨rfl, q, rfl⟩)
    | (go_at_call 108; refine (cb _ (HBQ.out _)).mono ?_; rintro e w2 ⟨rfl, hB2⟩; have HB2 := Lib.hid (B.below_trans (HBQ.out q) hB2); clear hB2; obtain ⟨hS1, hS2, hS3⟩ := HSO.out _ HB2.out; have HND := Lib.hid hS1; clear hS1; have y8 := hS2.1; have yo := hS3.1; have zo := hS3.2; clear hS2 hS3; have y6 : (w2.setCell ⟨f.go, N, none⟩ (.int .i64 (wrap64 (U + 1)))).cell? ⟨b, 6, none⟩ = some (.slice (some ⟨f.gk, 0, none⟩) x.kids.length f.ck) := (by have := HND.out.c6.1; rw [← E6.out]; exact this); have yp : (w2.setCell ⟨f.go, N, none⟩ (.int .i64 (wrap64 (U + 1)))).cell? ⟨f.gk, N, none⟩ = some (.pointer (some ⟨(f.ki[N]'HKL.out).b, 0, none⟩)) := HND.out.ke N HKL.out; have cc := call_kid ih (HKO.out w2 (.int .i64 (wrap64 (U + 1))) HB2.out) HV.out (HRS.out w2 (.int .i64 (wrap64 (U + 1))) HB2.out) HNL.out HKL.out; generalize (f.ki[N]'HKL.out).b = pb at yp cc)
    | (go_at_call 80; refine cc.mono ?_; rintro e w3 ⟨rfl, hR1⟩; have HR1 := Lib.hid hR1; have y7 := (nd_run HND.out HPR.out.hob HV.out hR1).c7.1; have x7 := (nd_run HND.out HPR.out.hob HV.out hR1).c7.2; clear hR1))
  go_end0
  exact ⟨rfl, pass_done HPR.out.hob HV.out HND.out.lob HOBW.out HND.out (HFQ.out _ _ HB2.out) HR1.out HP.out⟩
/-- Every pass. -/
theorem pass : ∀ n, PassAt n := by
  intro n
  have item : ∀ (n : Nat) (x : Lp) (b : Nat) (st : St) (lo hi : Nat) (ob : Ob) (v : Value) (l : List Step) (w0 w : World), Pre true w0 w n lo hi x b st ob v l → x.kind = 1 →
      Calls Tryz.prog 80 #[.pointer (some ⟨b, 0, none⟩), .pointer (some ⟨ob.o, 0, none⟩)] w fun e w' => e = .returned (.tuple #[]) ∧ PassPost true w0 w n lo hi x b st ob v l w' := fun n x b st lo hi ob v l w0 w h hk => by
    have hkl := (own_ok h.gd.own).2.1 hk
    have hlen := h.bd.len
    obtain ⟨f, nd⟩ : ∃ f, Nd true w0 w lo hi x b st.had st.cnt f := by
      have := h.tr
      cases n with
      | zero => exact this.1
      | succ n => obtain ⟨-, f, nd, -⟩ := this; exact ⟨f, nd⟩
    refine (pass_item w0 w lo hi x b st.had st.cnt f nd hk ob v l h.hob h.out h.le).mono fun e w' ⟨he, v', h1, h2, h3, h4⟩ => ⟨he, v', h1, Fr.weak h4 (fun k _ hS => ?_), ?_⟩
    · rcases hS with hS | hS | hS
      · exact .inl ⟨by have := nd.lob; omega, by have := nd.bhi; omega⟩
      · exact .inr (.inl hS)
      · exact .inr (.inr hS)
    · rw [passS_item hk]
      rcases Nat.lt_or_ge l.length 5000 with hlt | hge
      · refine .inl ⟨by show l.length + 1 ≤ 5000; omega, h2, ?_⟩
        cases n with
        | zero => exact ⟨⟨f, h3⟩, hkl, by show st.kids.length = 0; omega⟩
        | succ n => exact ⟨hlen, f, h3, fun j h1 h2 h3 => by omega⟩
      · exact .inr ⟨by show 5000 < l.length + 1; omega, _, by rw [List.length_append]; show 5000 < l.length + 1; omega, by rw [List.length_append]; show l.length + 1 ≤ 5001; have := h.le; omega, h2⟩
  induction n with
  | zero =>
    intro x b st lo hi ob v l w0 w h
    refine item 0 x b st lo hi ob v l w0 w h ?_
    by_cases hk : x.kind = 1
    · exact hk
    · have := (own_ok h.gd.own).2.2.1 hk
      have := h.gd.2
      omega
  | succ n ih =>
    intro x b st lo hi ob v l w0 w h
    obtain ⟨h1, h5⟩ := (own_ok h.gd.own).1
    rcases (by omega : x.kind = 1 ∨ x.kind = 2 ∨ x.kind = 3 ∨ x.kind = 4 ∨ x.kind = 5) with hk | hk | hk | hk | hk
    · exact item (n + 1) x b st lo hi ob v l w0 w h hk
    · exact pass_row n ih x b st lo hi ob v l w0 w h hk
    · exact pass_turn n ih x b st lo hi ob v l w0 w h hk
    · exact pass_share n ih x b st lo hi ob v l w0 w h hk
    · exact pass_rep n ih x b st lo hi ob v l w0 w h hk
end Go.Proofs.YtfillnkebohciaaGreatDoor.T
