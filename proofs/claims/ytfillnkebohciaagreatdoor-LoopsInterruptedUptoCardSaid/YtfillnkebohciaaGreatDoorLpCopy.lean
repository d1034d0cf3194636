/- The reference's CopyLoop and StaysLoop; loops in memory of certain blocks. -/
import Derived.Test.YtfillnkebohciaaGreatDoorLpSame
import Derived.Test.YtfillnkebohciaaGreatDoorOwn
namespace Go.Proofs.YtfillnkebohciaaGreatDoor.L
open Go.RowKit
open F (Fr Cl)

/-- As At, and all that it reads lies in these blocks. -/
def AtR (R : Nat → Prop) : Nat → World → Lp → Option Addr → Option Addr → Prop
  | n, w, x, A, As => x.ok ∧ B.Kd.int.C w As x.shares ∧ (0 < x.shares.length → ∃ b off, As = some ⟨b, off, none⟩ ∧ R b) ∧ (0 < x.kids.length → ∃ b off, A = some ⟨b, off, none⟩ ∧ R b ∧
      match n with
      | 0 => False
      | n + 1 => ∀ j (h : j < x.kids.length), ∃ A' As' c c', (∀ i u, (row x.kids[j] A' As' c c')[i]? = some u → w.cell? ⟨b, off + j * 6 + i, none⟩ = some u) ∧ AtR R n w x.kids[j] A' As')
theorem AtR.at {R : Nat → Prop} : ∀ {n : Nat} {w : World} {x : Lp} {A As : Option Addr}, AtR R n w x A As → At n w x A As := by
  intro n
  induction n with
  | zero =>
    intro w x A As h
    unfold AtR at h
    refine ⟨⟨by have := h.1.2.2.1; omega, fun hp => ?_⟩, h.2.1, h.1⟩
    obtain ⟨_, _, _, _, h⟩ := h.2.2.2 hp
    exact h.elim
  | succ n ih =>
    intro w x A As h
    unfold AtR at h
    refine ⟨⟨by have := h.1.2.2.1; omega, fun hp => ?_⟩, h.2.1, h.1⟩
    obtain ⟨b, off, e, _, h⟩ := h.2.2.2 hp
    refine ⟨b, off, e, fun j hj => ?_⟩
    obtain ⟨A', As', c, c', h1, h2⟩ := h j hj
    have h3 := ih h2
    refine ⟨row x.kids[j] A' As' c c', ⟨A', As', c, c', rfl, h3.1, h3.2.1, h3.2.2⟩, fun i hi => ?_⟩
    rw [kdL_sz]
    exact h1 i _ (List.getElem?_eq_getElem hi)
theorem C_fr {w w' : World} {S R : Nat → Prop} {As : Option Addr} {xs : List Int} (h : B.Kd.int.C w As xs) (hr : 0 < xs.length → ∃ b off, As = some ⟨b, off, none⟩ ∧ R b) (hf : Fr S w w') (hs : ∀ b, R b → ¬ S b) : B.Kd.int.C w' As xs :=
  ⟨h.1, fun hp => by
    obtain ⟨b, off, e, hc⟩ := h.2 hp
    obtain ⟨b', off', e', hR⟩ := hr hp
    rw [e] at e'
    cases e'
    refine ⟨b, off, e, fun j hj => ?_⟩
    obtain ⟨cs, hK, hcs⟩ := hc j hj
    exact ⟨cs, hK, fun i hi => hf.cell (hs b hR) (hcs i hi)⟩⟩
theorem AtR.fr {R R' S : Nat → Prop} : ∀ {n : Nat} {w w' : World} {x : Lp} {A As : Option Addr}, AtR R n w x A As → Fr S w w' → (∀ b, R b → ¬ S b) → (∀ b, R b → R' b) → AtR R' n w' x A As := by
  intro n
  induction n with
  | zero =>
    intro w w' x A As h hf hs hR
    unfold AtR at h ⊢
    refine ⟨h.1, C_fr h.2.1 h.2.2.1 hf hs, fun hp => ?_, fun hp => ?_⟩
    · obtain ⟨b, off, e, hb⟩ := h.2.2.1 hp; exact ⟨b, off, e, hR b hb⟩
    · obtain ⟨_, _, _, _, h⟩ := h.2.2.2 hp; exact h.elim
  | succ n ih =>
    intro w w' x A As h hf hs hR
    unfold AtR at h ⊢
    refine ⟨h.1, C_fr h.2.1 h.2.2.1 hf hs, fun hp => ?_, fun hp => ?_⟩
    · obtain ⟨b, off, e, hb⟩ := h.2.2.1 hp; exact ⟨b, off, e, hR b hb⟩
    · obtain ⟨b, off, e, hb, h⟩ := h.2.2.2 hp
      refine ⟨b, off, e, hR b hb, fun j hj => ?_⟩
      obtain ⟨A', As', c, c', h1, h2⟩ := h j hj
      exact ⟨A', As', c, c', fun i u hu => hf.cell (hs b hb) (h1 i u hu), ih h2 hf hs hR⟩

/-! ### slices.Clone at ints -/
def inE (n : Int) : List Value := [.int .i64 n]
theorem inE1 : ∀ x : Int, ∀ v ∈ inE x, v.oneCell' = true := by intro x v hv; simp [inE] at hv; subst hv; rfl
theorem info_int : (Tryz.prog.info? 3).map (fun i => (i.zero, i.size, i.bytes)) = some (some (.int .i64 0), 1, 8) := by kernel_rfl
set_option maxRecDepth 100000 in
theorem cloneInt (A1 : Option Addr) (cap : Nat) (xs : List Int) (w : World) (C : B.Kd.int.C w A1 xs) (hb : xs.length ≤ 1048576) :
    Calls Tryz.prog 38 #[.slice A1 xs.length cap] w fun e w' => ∃ A c, e = .returned (.slice A xs.length c) ∧ B.Own w' w.heap.size 3 1 inE (.slice A xs.length c) xs ∧ Below w.heap.size w w' := by
  have HL := Lib.hid hb
  clear hb
  cases A1 with
  | none =>
    obtain rfl : xs = [] := List.eq_nil_of_length_eq_zero (Nat.eq_zero_of_not_pos fun hp => by obtain ⟨_, _, e, _⟩ := C.2 hp; cases e)
    clear HL C
    have hnil := fun w a n c => Lib.run_eql_slice_nil (P := Tryz.prog) w 23 3 a n c 0 0 Tryz.underlying23
    go_enter Tryz.func38, Tryz.ntmps38
    go_wp2
    go_ret
    exact ⟨none, 0, rfl, B.Own.nil _ _ _ _ _, Below.refl _ _⟩
  | some A =>
    have HB := Lib.hid ((Below.refl _ w).alloc (Nat.le_refl _) (.cells #[] 3))
    have HC := Lib.hid (C.mono HB.out)
    have HO := Lib.hid (Copy.lit_own w w.heap.size (Nat.le_refl _) 3 1 inE)
    clear C
    have hnil := fun w a n c => Lib.run_eql_slice_nil (P := Tryz.prog) w 23 3 a n c 0 0 Tryz.underlying23
    go_enter Tryz.func38, Tryz.ntmps38
    go_wp2_with (at_builtin; (refine B.wpl_append_all (w0 := w) w.heap.size rfl _ _ 23 3 (.int .i64 0) 1 8 rfl Tryz.underlying23 info_int rfl (by decide) (by decide) inE (fun _ => rfl) inE1 _ [] xs HO.out rfl A cap rfl HC.out HB.out (by simp) (by have := HL.out; simp; omega) ?_); intro v1 w1 HO1 HB1 _; rw [List.nil_append] at HO1)
    go_ret
    obtain ⟨A', c', e⟩ := Copy.shape HO1
    subst e
    exact ⟨A', c', rfl, HO1, HB1⟩
theorem own_blk {α : Type} {w : World} {base : Nat} {e : TypeId} {k : Nat} {enc : α → List Value} {A : Option Addr} {c : Nat} {xs : List α} (h : B.Own w base e k enc (.slice A xs.length c) xs) (hp : 0 < xs.length) : ∃ g, A = some ⟨g, 0, none⟩ ∧ base ≤ g ∧ (Value.slice A xs.length c).ownBlock = some g := by
  rcases h.2 with ⟨_, h0⟩ | ⟨g, cap, cur, e, h1, _⟩
  · omega
  · cases e
    exact ⟨g, rfl, h1, rfl⟩
def rowR (x : Lp) (A As : Option Addr) (c c' : Nat) : B.Rw 6 := ⟨row x A As c c', rfl, row1 x A As c c'⟩
theorem info_loop : (Tryz.prog.info? 25).map (fun i => (i.zero, i.size, i.bytes)) = some (some (.agg #[.int .i64 0, .string ⟨#[]⟩, .int .i64 0, .int .i64 0, .slice none 0 0, .slice none 0 0]), 6, 88) := by kernel_rfl
/-- Rows that hold copies of these loops. -/
def Rows (R : Nat → Prop) (n : Nat) (w : World) (l : List Lp) (rs : List (B.Rw 6)) : Prop :=
  ∀ j (h1 : j < l.length) (h2 : j < rs.length), ∃ m A As c c', n = m + 1 ∧ rs[j] = rowR l[j] A As c c' ∧ AtR R m w l[j] A As
theorem Rows.fr {R R' S : Nat → Prop} {n : Nat} {w w' : World} {l : List Lp} {rs : List (B.Rw 6)} (h : Rows R n w l rs) (hf : Fr S w w') (hs : ∀ b, R b → ¬ S b) (hR : ∀ b, R b → R' b) : Rows R' n w' l rs := fun j h1 h2 => by
  obtain ⟨m, A, As, c, c', e1, e2, h3⟩ := h j h1 h2
  exact ⟨m, A, As, c, c', e1, e2, h3.fr hf hs hR⟩
def CpAt (n : Nat) : Prop := ∀ (x : Lp) (A As : Option Addr) (c c' : Nat) (w : World), At n w x A As →
    Calls Tryz.prog 12 #[lv x A As c c'] w fun e w' => ∃ A' As' d d', e = .returned (lv x A' As' d d') ∧ AtR (fun b => w.heap.size ≤ b ∧ b < w'.heap.size) n w' x A' As' ∧ Below w.heap.size w w'
theorem set6 {w : World} {g : Nat} {a b c d e f a' b' c' d' e' f' : Value} {t : TypeId} {fr : Nat × Nat} (h : w.heap[g]? = some (.cells #[a, b, c, d, e, f] t fr)) :
    ((((((w.setCell ⟨g, 0, none⟩ a').setCell ⟨g, 1, none⟩ b').setCell ⟨g, 2, none⟩ c').setCell ⟨g, 3, none⟩ d').setCell ⟨g, 4, none⟩ e').setCell ⟨g, 5, none⟩ f').heap[g]? = some (.cells #[a', b', c', d', e', f'] t fr) := by
  simp [World.setCell, Array.getElem?_modify, h]
theorem fr_grown {w1 wr w3 : World} {row : Option Nat} {o o' : Obj} (hb : Below (wr.alloc o).heap.size (wr.alloc o) w3) (hg : (w3.alloc o').grownBy w1 row) : Fr (fun b => row = some b) wr w1 :=
  ((((Fr.refl _ wr).alloc o).then_below hb).alloc o').grown hg (fun _ e _ => e)
/-- One more row. -/
theorem Rows.snoc {R R' : Nat → Prop} {n : Nat} {w w' : World} {l : List Lp} {rs : List (B.Rw 6)} {S : Nat → Prop} (h : Rows R n w l rs) (hf : Fr S w w') (hs : ∀ b, R b → ¬ S b) (hR : ∀ b, R b → R' b) {k m : Nat} (hk : rs.length = k) (hl : k < l.length) {A As : Option Addr} {c c' : Nat} (hn : n = m + 1) (hat : AtR R' m w' l[k] A As) : Rows R' n w' l (rs ++ [rowR l[k] A As c c']) := by
  intro j h1 h2
  by_cases hj : j < rs.length
  · obtain ⟨m, A, As, c, c', e1, e2, h3⟩ := h j h1 hj
    exact ⟨m, A, As, c, c', e1, by rw [List.getElem_append_left hj]; exact e2, h3.fr hf hs hR⟩
  · have hjk : j = k := by simp at h2; omega
    subst hjk
    exact ⟨m, A, As, c, c', hn, by rw [List.getElem_append_right (by omega)]; simp [hk], hat⟩
/-- Rows of the call's own that are all a loop's kids. -/
theorem Rows.done {R : Nat → Prop} {n : Nat} {w : World} {x : Lp} {rs : List (B.Rw 6)} {base : Nat} {A As : Option Addr} {c : Nat} (h : Rows R n w x.kids rs) (hl : rs.length = x.kids.length) (ho : B.Own w base 25 6 Subtype.val (.slice A x.kids.length c) rs) (hR : ∀ b, base ≤ b → b < w.heap.size → R b)
    (hok : x.ok) (hs : B.Kd.int.C w As x.shares) (hsr : 0 < x.shares.length → ∃ b off, As = some ⟨b, off, none⟩ ∧ R b) : AtR R n w x A As := by
  unfold AtR
  refine ⟨hok, hs, hsr, fun hp => ?_⟩
  have ho' : B.Own w base 25 6 Subtype.val (.slice A rs.length c) rs := by rw [hl]; exact ho
  obtain ⟨g, rfl, hg, -⟩ := own_blk ho' (by omega)
  refine ⟨g, 0, rfl, hR g hg (World.ownsRow.lt ho' g rfl).2, ?_⟩
  have hrow : ∀ j (hj : j < rs.length) i u, rs[j].val[i]? = some u → w.cell? ⟨g, 0 + j * 6 + i, none⟩ = some u := fun j hj i u hu => by
    obtain ⟨hi, rfl⟩ := List.getElem?_eq_some_iff.1 hu
    have hc := World.ownsRow.cells (show w.ownsRow base 25 6 (.slice (some ⟨g, 0, none⟩) rs.length c) rs.length (rs.flatMap Subtype.val) from ho') (g := g) rfl (j * 6 + i) (rs[j].val[i]) (B.flatMap_at (fun x : B.Rw 6 => x.2.1) j hj i hi)
    rw [Lib.add_plain] at hc
    rw [← hc]
    simp
  cases n with
  | zero => obtain ⟨m, _, _, _, _, e, _⟩ := h 0 hp (by omega); cases e
  | succ n =>
    intro j hj
    obtain ⟨m, A', As', c, c', e1, e2, h3⟩ := h j hj (by omega)
    obtain rfl : n = m := by omega
    refine ⟨A', As', c, c', fun i u hu => hrow j (by omega) i u ?_, h3⟩
    rw [e2]
    exact hu
set_option maxHeartbeats 8000000 in
set_option maxRecDepth 100000 in
theorem copied : ∀ n, CpAt n := by
  intro n
  induction n using Nat.strongRecOn with
  | ind n ih =>
    intro x A As c c' w h
    obtain ⟨C, D, hok⟩ := h
    have L := C.1
    have HIH := Lib.hid ih
    have HOK := Lib.hid hok
    have HC := Lib.hid C
    have HD := Lib.hid D
    clear ih C D
    unfold lv
    have HA := Lib.hid (fun (c c' : Array Value) (o o' : TypeId) => ((Below.refl w.heap.size w).alloc (Nat.le_refl _) (.cells c o)).alloc (by simp) (.cells c' o'))
    have HT := Lib.hid (fun (c c' : Array Value) (o o' : TypeId) (w2 : World) => @Copy.two w w2 c c' o o')
    have HS := Lib.hid (fun (c c' : Array Value) (o o' : TypeId) => (by simp : ((w.alloc (.cells c o)).alloc (.cells c' o')).heap.size = w.heap.size + 2))
    go_enter Tryz.func12, Tryz.ntmps12
    go_wp2
    generalize hw2 : ((w.alloc (Obj.cells #[.int .i64 x.kind, .string x.item, .int .i64 x.long, .int .i64 x.many, .slice A x.kids.length c, .slice As x.shares.length c'] 25)).alloc (Obj.cells #[.int .i64 0, .string ⟨#[]⟩, .int .i64 0, .int .i64 0, .slice none 0 0, .slice none 0 0] 25)) = W2
    have HW2 := Lib.hid hw2
    have HS2 : Hid (W2.heap.size = w.heap.size + 2) := Lib.hid (by rw [← hw2]; exact HS.out _ _ _ _)
    have HB2 : Hid (Below w.heap.size w W2) := Lib.hid (by rw [← hw2]; exact HA.out _ _ _ _)
    clear hw2 HA HS
    go_loopw [3, 9] (fun s3 s9 wr => ∃ (k : Nat) (rs : List (B.Rw 6)), s9 = .int .i64 k ∧ k ≤ x.kids.length ∧ Hid (rs.length = k) ∧ Hid (B.Own wr (w.heap.size + 2) 25 6 Subtype.val s3 rs) ∧ Hid (Rows (fun b => w.heap.size + 2 ≤ b ∧ b < wr.heap.size ∧ s3.ownBlock ≠ some b) n wr x.kids rs) ∧ Hid (Below (w.heap.size + 2) W2 wr)) (fun _ s9 _ => x.kids.length - (intOf s9).toNat)
    case atStart => exact ⟨0, [], rfl, by omega, Lib.hid rfl, Lib.hid (B.Own.nil _ _ _ _ _), Lib.hid (fun j _ h => absurd h (by simp)), Lib.hid (Below.refl _ _)⟩
    case round =>
      obtain ⟨k, rs, rfl, hk, HR, HO, HK, HB⟩ := hrel
      have HSZ : Hid (w.heap.size + 2 ≤ wr.heap.size) := Lib.hid (by have := HB.out.size; have := HS2.out; omega)
      have HBW : Hid (Below w.heap.size w wr) := Lib.hid (HB2.out.trans (HB.out.mono (by omega)))
      by_cases hlt : k < x.kids.length
      · obtain ⟨b1, o1, m, A2, As2, c2, c2', rfl, rfl, hat, e1⟩ := kid_at (HC.out.mono HBW.out) k hlt
        have f0 := e1 0 _ rfl
        have f1 := e1 1 _ rfl
        have f2 := e1 2 _ rfl
        have f3 := e1 3 _ rfl
        have f4 := e1 4 _ rfl
        have f5 := e1 5 _ rfl
        simp only [Nat.add_zero] at f0
        have hk1 : (k : Int) < x.kids.length := by omega
        have HA3 := Lib.hid (fun (c : Array Value) (e : TypeId) => (Below.refl _ wr).alloc (Nat.le_refl _) (.cells c e))
        have cc := fun c e => HIH.out m (by omega) x.kids[k] A2 As2 c2 c2' _ (hat.mono (HA3.out c e))
        unfold lv at cc
        clear e1 hat
        go_wp2_with (first
          | (go_at_call 12; refine (cc _ _).mono ?_; rintro e w3 ⟨A3, As3, c3, c3', rfl, hR3, HB3⟩; have HR3 := Lib.hid hR3; have HB3' := Lib.hid HB3; clear hR3 HB3)
          | (at_builtin; (refine Copy.wpl_append_s (w.heap.size + 2) rfl _ _ 22 25 (.agg #[.int .i64 0, .string ⟨#[]⟩, .int .i64 0, .int .i64 0, .slice none 0 0, .slice none 0 0]) 6 88 rfl Tryz.underlying22 info_loop rfl (by decide) (by decide) Subtype.val (fun y => y.2.1) (fun y => y.2.2) _ rs (rowR x.kids[k] A3 As3 c3 c3') _ rfl ((HO.out.below (HA3.out _ _)).below HB3'.out) rfl _ rfl rfl (by have := HSZ.out; have := HB3'.out.size; simp at this; omega) (by have := HR.out; have := HOK.out.2.2.1; omega) ?_); intro v1 w1 hO1 hOB1 hG1; have HO1 := Lib.hid hO1; have HOB1 := Lib.hid hOB1; have HG1 := Lib.hid hG1; clear hO1 hOB1 hG1))
        have HFR := Lib.hid (fr_grown HB3'.out HG1.out)
        have HSZ3 : Hid (wr.heap.size + 1 ≤ w3.heap.size ∧ w3.heap.size + 1 ≤ w1.heap.size) := Lib.hid (by have := HB3'.out.size; have := HG1.out.size; simp at *; omega)
        have HFR3 : Hid (Fr (fun b => u3.ownBlock = some b) w3 w1) := Lib.hid (((Fr.refl _ w3).alloc _).grown HG1.out (fun g e _ => e))
        have HLT : Hid (∀ g, u3.ownBlock = some g → w.heap.size + 2 ≤ g ∧ g < wr.heap.size) := Lib.hid (fun g hg => World.ownsRow.lt HO.out g hg)
        have HRR : Hid (∀ b, (w.heap.size + 2 ≤ b ∧ b < wr.heap.size ∧ u3.ownBlock ≠ some b) → (w.heap.size + 2 ≤ b ∧ b < w1.heap.size ∧ v1.ownBlock ≠ some b)) := Lib.hid (fun b hb => ⟨hb.1, by have := HSZ3.out; omega, fun e => by
          rcases HOB1.out with h1 | h1
          · exact hb.2.2 (h1 ▸ e)
          · have := h1 b e; have := HSZ3.out; omega⟩)
        have HR4 : Hid (AtR (fun b => w.heap.size + 2 ≤ b ∧ b < w1.heap.size ∧ v1.ownBlock ≠ some b) m w1 x.kids[k] A3 As3) := Lib.hid (by
          refine AtR.fr HR3.out HFR3.out (fun b hb e => ?_) (fun b hb => ?_)
          · have := (HLT.out b e).2
            have := hb.1
            simp at this
            omega
          · have h1 := hb.1
            have h2 := hb.2
            have h3 := HSZ3.out
            have h4 := HSZ.out
            simp at h1
            refine ⟨by omega, by omega, fun e => ?_⟩
            rcases HOB1.out with h5 | h5
            · have := (HLT.out b (h5 ▸ e)).2
              omega
            · have := h5 b e; omega)
        have HK1 : Hid (Rows (fun b => w.heap.size + 2 ≤ b ∧ b < w1.heap.size ∧ v1.ownBlock ≠ some b) (m + 1) w1 x.kids (rs ++ [rowR x.kids[k] A3 As3 c3 c3'])) := Lib.hid (Rows.snoc HK.out HFR.out (fun b hb e => hb.2.2 e) HRR.out HR.out hlt rfl HR4.out)
        have HBN := Lib.hid (HB.out.trans (HFR.out.below (B := w.heap.size + 2) HSZ.out (fun g hg => (HLT.out g hg).1)))
        have HRN : Hid ((rs ++ [rowR x.kids[k] A3 As3 c3 c3']).length = k + 1) := Lib.hid (by rw [List.length_append, HR.out]; rfl)
        go_roundw
        case rel => exact ⟨k + 1, rs ++ [rowR x.kids[k] A3 As3 c3 c3'], by go_num, by omega, HRN, HO1, HK1, HBN⟩
        case measure => simp [intOf]; omega
      · obtain rfl : k = x.kids.length := by omega
        obtain ⟨As3, c3, rfl⟩ : ∃ A3 c3, u3 = .slice A3 x.kids.length c3 := by
          obtain ⟨A3, c3, e⟩ := Copy.shape HO.out
          exact ⟨A3, c3, by rw [e, HR.out]⟩
        have HT2 := HT.out _ _ _ _ wr (by rw [HW2.out, HS2.out]; exact HB.out)
        have z0 := HT2.1 0 _ rfl
        have z1 := HT2.1 1 _ rfl
        have z2 := HT2.1 2 _ rfl
        have z3 := HT2.1 3 _ rfl
        have z4 := HT2.1 4 _ rfl
        have z5 := HT2.1 5 _ rfl
        have ci := cloneInt As c' x.shares wr (HD.out.mono HBW.out) HOK.out.2.2.2.1
        clear HT2
        go_wp2_with (go_at_call 38; refine ci.mono ?_; rintro e w3 ⟨A3, c4, rfl, hO3, hB3⟩; have HO3 := Lib.hid hO3; have HB3 := Lib.hid hB3; clear hO3 hB3; have HT3 := Lib.hid (HT.out _ _ _ _ w3 (by rw [HW2.out, HS2.out]; exact HB.out.trans (HB3.out.mono HSZ.out))); have y0 := HT3.out.1 0 _ rfl; have y1 := HT3.out.1 1 _ rfl; have y2 := HT3.out.1 2 _ rfl; have y3 := HT3.out.1 3 _ rfl; have y4 := HT3.out.1 4 _ rfl; have y5 := HT3.out.1 5 _ rfl; have v0 := HT3.out.2.1 0 _ rfl; have v1 := HT3.out.2.1 1 _ rfl; have v2 := HT3.out.2.1 2 _ rfl; have v3 := HT3.out.2.1 3 _ rfl; have v4 := HT3.out.2.1 4 _ rfl; have v5 := HT3.out.2.1 5 _ rfl; have fz := HT3.out.2.2.1; have fz2 := HT3.out.2.2.2)
        have hsame : ∀ (W : World) (i : Nat), w.heap.size + 2 ≤ i → W = ((((((((w3.setCell ⟨w.heap.size, 4, none⟩ (Value.slice As3 x.kids.length c3)).setCell ⟨w.heap.size, 5, none⟩ (Value.slice A3 x.shares.length c4)).setCell ⟨w.heap.size + 1, 0, none⟩ (Value.int IntKind.i64 x.kind)).setCell ⟨w.heap.size + 1, 1, none⟩ (Value.string x.item)).setCell ⟨w.heap.size + 1, 2, none⟩ (Value.int IntKind.i64 x.long)).setCell ⟨w.heap.size + 1, 3, none⟩ (Value.int IntKind.i64 x.many)).setCell ⟨w.heap.size + 1, 4, none⟩ (Value.slice As3 x.kids.length c3)).setCell ⟨w.heap.size + 1, 5, none⟩ (Value.slice A3 x.shares.length c4)) → W.heap[i]? = w3.heap[i]? := fun W i hi e => by
          subst e
          rw [Below.heap_setCell _ _ _ _ (by simp; omega), Below.heap_setCell _ _ _ _ (by simp; omega), Below.heap_setCell _ _ _ _ (by simp; omega), Below.heap_setCell _ _ _ _ (by simp; omega), Below.heap_setCell _ _ _ _ (by simp; omega), Below.heap_setCell _ _ _ _ (by simp; omega), Below.heap_setCell _ _ _ _ (by simp; omega), Below.heap_setCell _ _ _ _ (by simp; omega)]
        have hfr : Fr (fun b => w.heap.size ≤ b ∧ b < w.heap.size + 2) w3 ((((((((w3.setCell ⟨w.heap.size, 4, none⟩ (Value.slice As3 x.kids.length c3)).setCell ⟨w.heap.size, 5, none⟩ (Value.slice A3 x.shares.length c4)).setCell ⟨w.heap.size + 1, 0, none⟩ (Value.int IntKind.i64 x.kind)).setCell ⟨w.heap.size + 1, 1, none⟩ (Value.string x.item)).setCell ⟨w.heap.size + 1, 2, none⟩ (Value.int IntKind.i64 x.long)).setCell ⟨w.heap.size + 1, 3, none⟩ (Value.int IntKind.i64 x.many)).setCell ⟨w.heap.size + 1, 4, none⟩ (Value.slice As3 x.kids.length c3)).setCell ⟨w.heap.size + 1, 5, none⟩ (Value.slice A3 x.shares.length c4)) := by
          refine Fr.set (Fr.set (Fr.set (Fr.set (Fr.set (Fr.set (Fr.set (Fr.set (Fr.refl _ _) ?_ _) ?_ _) ?_ _) ?_ _) ?_ _) ?_ _) ?_ _) ?_ _
          all_goals intro _; simp
        have hrow : w3.heap[w.heap.size + 1]? = some (.cells #[.int .i64 0, .string ⟨#[]⟩, .int .i64 0, .int .i64 0, .slice none 0 0, .slice none 0 0] 25 (0, 0)) := by
          rw [HB3.out.block (w.heap.size + 1) (by have := HSZ.out; omega), HB.out.block (w.heap.size + 1) (by omega), ← HW2.out]
          exact heap_alloc2_new w _ _
        refine bodyPost_ret (results_cell_row rfl _ _ (w.heap.size + 1) 25 #[.int .i64 x.kind, .string x.item, .int .i64 x.long, .int .i64 x.many, .slice As3 x.kids.length c3, .slice A3 x.shares.length c4] (0, 0) _ rfl (set6 (a := .int .i64 0) (b := .string ⟨#[]⟩) (c := .int .i64 0) (d := .int .i64 0) (e := .slice none 0 0) (f := .slice none 0 0) ((Below.heap_setCell _ _ _ _ (by simp)).trans ((Below.heap_setCell _ _ _ _ (by simp)).trans hrow))) Tryz.underlying25 rfl (by kernel_rfl)) rfl ?_
        generalize hWf : ((((((((w3.setCell ⟨w.heap.size, 4, none⟩ (Value.slice As3 x.kids.length c3)).setCell ⟨w.heap.size, 5, none⟩ (Value.slice A3 x.shares.length c4)).setCell ⟨w.heap.size + 1, 0, none⟩ (Value.int IntKind.i64 x.kind)).setCell ⟨w.heap.size + 1, 1, none⟩ (Value.string x.item)).setCell ⟨w.heap.size + 1, 2, none⟩ (Value.int IntKind.i64 x.long)).setCell ⟨w.heap.size + 1, 3, none⟩ (Value.int IntKind.i64 x.many)).setCell ⟨w.heap.size + 1, 4, none⟩ (Value.slice As3 x.kids.length c3)).setCell ⟨w.heap.size + 1, 5, none⟩ (Value.slice A3 x.shares.length c4)) = Wf at hfr ⊢
        have hs2 := fun i hi => hsame Wf i hi hWf.symm
        have hk3 : B.Own Wf (w.heap.size + 2) 25 6 Subtype.val (.slice As3 x.kids.length c3) rs := Copy.own_same (HO.out.below HB3.out) hs2
        have hsh : B.Own Wf wr.heap.size 3 1 inE (.slice A3 x.shares.length c4) x.shares := Copy.own_same HO3.out (fun i hi => hs2 i (by have := HSZ.out; omega))
        have hsz := hfr.size
        have hwr := HB3.out.size
        have h2 := HSZ.out
        refine ⟨As3, A3, c3, c4, rfl, Rows.done (HK.out.fr (S := fun b => w.heap.size ≤ b ∧ b < w.heap.size + 2) ((Fr.of_below HB3.out).trans hfr (fun _ _ h => h)) (fun b hb h => by omega) (fun b hb => ⟨by omega, by omega⟩)) HR.out hk3 (fun b hb hlt => ⟨by omega, hlt⟩) HOK.out ?_ ?_, ?_⟩
        · obtain ⟨A', c', e, hC⟩ := B.own_int hsh (by have := HOK.out.2.2.2.1; omega)
          cases e
          exact hC
        · intro hp
          obtain ⟨g, e, hg, -⟩ := own_blk hsh hp
          exact ⟨g, 0, e, by omega, (World.ownsRow.lt hsh g (by rw [e]; rfl)).2⟩
        · exact (HBW.out.trans (HB3.out.mono (by omega))).trans (hfr.below (by omega) (fun b hb => hb.1))
end Go.Proofs.YtfillnkebohciaaGreatDoor.L
