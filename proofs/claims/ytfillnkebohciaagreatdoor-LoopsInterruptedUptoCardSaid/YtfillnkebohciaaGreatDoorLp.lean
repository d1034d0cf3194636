/- Loops: what they are, and how an argument that is a loop opens. -/
import Derived.Test.YtfillnkebohciaaGreatDoorOpen
namespace Go.Proofs.YtfillnkebohciaaGreatDoor.L
open Go.RowKit Go.ChangeShapes

/-- A loop. -/
inductive Lp where
  | mk (kind : Int) (item : ByteArray) (long many : Int) (kids : List Lp) (shares : List Int)
def Lp.kind : Lp → Int | .mk k _ _ _ _ _ => k
def Lp.item : Lp → ByteArray | .mk _ i _ _ _ _ => i
def Lp.long : Lp → Int | .mk _ _ l _ _ _ => l
def Lp.many : Lp → Int | .mk _ _ _ m _ _ => m
def Lp.kids : Lp → List Lp | .mk _ _ _ _ ks _ => ks
def Lp.shares : Lp → List Int | .mk _ _ _ _ _ s => s
def Lp.ok (x : Lp) : Prop := (O.okI x.kind ∧ O.okI x.long ∧ O.okI x.many) ∧ x.item.size ≤ 1048576 ∧ x.kids.length ≤ 1048576 ∧ x.shares.length ≤ 1048576 ∧ ∀ n ∈ x.shares, O.okI n
def row (x : Lp) (A As : Option Addr) (c c' : Nat) : List Value := [.int .i64 x.kind, .string x.item, .int .i64 x.long, .int .i64 x.many, .slice A x.kids.length c, .slice As x.shares.length c']
theorem row1 (x : Lp) (A As : Option Addr) (c c' : Nat) : ∀ v ∈ row x A As c c', v.oneCell' = true := by
  intro v hv
  simp [row] at hv
  rcases hv with rfl | rfl | rfl | rfl | rfl | rfl <;> rfl
/-- A loop whose kids are of this kind. -/
def upL (d : B.Kd Lp) : B.Kd Lp :=
  ⟨6, fun w x cs => ∃ A As c c', cs = row x A As c c' ∧ d.C w A x.kids ∧ B.Kd.int.C w As x.shares ∧ x.ok,
    fun ⟨_, _, _, _, e, _⟩ => by subst e; rfl, fun ⟨A, As, c, c', e, h1, h2, h3⟩ hb => ⟨A, As, c, c', e, h1.mono hb, h2.mono hb, h3⟩, fun ⟨_, _, _, _, e, _⟩ => by subst e; exact row1 _ _ _ _ _⟩
/-- Loops of at most so many floors. -/
def kdL : Nat → B.Kd Lp
  | 0 => ⟨6, fun _ _ _ => False, fun h => h.elim, fun h _ => h.elim, fun h => h.elim⟩
  | n + 1 => upL (kdL n)
theorem kdL_sz (n : Nat) : (kdL n).sz = 6 := by cases n <;> rfl
theorem C_lift {d d' : B.Kd Lp} (hs : d.sz = d'.sz) (hK : ∀ w x cs, d.K w x cs → d'.K w x cs) {w : World} {A : Option Addr} {xs : List Lp} (h : d.C w A xs) : d'.C w A xs :=
  ⟨h.1, fun hp => by
    obtain ⟨b, off, e, hc⟩ := h.2 hp
    refine ⟨b, off, e, fun j hj => ?_⟩
    obtain ⟨cs, h1, h2⟩ := hc j hj
    exact ⟨cs, hK _ _ _ h1, by rw [← hs]; exact h2⟩⟩
theorem kdL_up (n : Nat) : ∀ w x cs, (kdL n).K w x cs → (kdL (n + 1)).K w x cs := by
  induction n with
  | zero => intro w x cs h; exact h.elim
  | succ n ih =>
    rintro w x cs ⟨A, As, c, c', e, h1, h2, h3⟩
    exact ⟨A, As, c, c', e, C_lift (by rw [kdL_sz, kdL_sz]) ih h1, h2, h3⟩
theorem kdL_le {n m : Nat} (h : n ≤ m) : ∀ w x cs, (kdL n).K w x cs → (kdL m).K w x cs := by
  induction h with
  | refl => intro w x cs h; exact h
  | step _ ih => intro w x cs h; exact kdL_up _ w x cs (ih w x cs h)
theorem slice_at {α : Type} {d : B.Kd α} {t e : TypeId} {ok : α → Prop} {H : Type} {enc : TypeId × Value → H} {w : World} {base : Nat} {sp : Nat → Bool} {held : Bool} {fuel : Nat} {cs : List Value} {x : DataW H × List MemPlace}
    (ht : Tryz.prog.underlying t = some (.slice e)) (he : Tryz.prog.cellsOf e = d.sz) (hpos : 0 < d.sz) (hK : ∀ m, m < fuel → ∀ cs x, DataW.trod enc Tryz.prog w base sp held m e cs = some x → Rows.uptoBulk x.1 ≤ 1048576 → ∃ a, d.K w a cs ∧ ok a)
    (h : DataW.trod enc Tryz.prog w base sp held fuel t cs = some x) (hb : Rows.uptoBulk x.1 ≤ 1048576) : ∃ xs A c, cs = [.slice A xs.length c] ∧ d.C w A xs ∧ xs.length ≤ 1048576 ∧ ∀ y ∈ xs, ok y := by
  rcases DataW.trod_slice ht h with ⟨rfl, rfl⟩ | ⟨a, len, cap, elems, rest, n, hfu, rfl, rfl, hba, hlc, hcm, hel, hat, -⟩
  · exact ⟨[], none, 0, rfl, d.C_nil w none, by simp, fun x hx => by simp at hx⟩
  · simp only [Rows.uptoBulk] at hb
    have hlen : elems.length ≤ 1048576 := by have := O.length_le (elems.map (·.1)); simp at this; omega
    rw [he] at hat
    have each : ∀ i, i < len → ∃ y : α, ok y ∧ ∃ ci, d.K w y ci ∧ ∀ r (hr : r < ci.length), w.cell? ((a.add (i * d.sz)).add r) = some ci[r] := by
      intro i hi
      have hi' : i < elems.length := by omega
      have h1 := hat i hi
      rw [List.getElem?_eq_getElem hi', Option.bind_eq_some_iff] at h1
      obtain ⟨ci, hci, htr⟩ := h1
      obtain ⟨_, hcl, hcc⟩ := World.cells?_some hci
      have hbk : Rows.uptoBulk elems[i].1 ≤ 1048576 := Nat.le_trans (O.part_le (l := elems.map (fun y => y.1)) (List.mem_map.2 ⟨elems[i], List.getElem_mem hi', rfl⟩)) (by omega)
      obtain ⟨y, hK, ho⟩ := hK _ (by omega) _ _ htr hbk
      exact ⟨y, ho, ci, hK, fun r hr => by rw [hcc r (by omega), List.getElem?_eq_getElem hr]⟩
    obtain ⟨xs, hxl, hx⟩ := O.list_of len each
    refine ⟨xs, some a, cap, by rw [hxl], ⟨by omega, fun hp => ?_⟩, by omega, fun x hx' => ?_⟩
    · obtain ⟨_, ci, hK, hcell⟩ := hx 0 hp
      have hcl := d.len hK
      have h0 := hcell 0 (by omega)
      have hs : a.spot = none := by simpa [Addr.add] using World.cell?_spot h0
      obtain ⟨b, off, s⟩ := a
      obtain rfl : s = none := hs
      refine ⟨b, off, rfl, fun j hj => ?_⟩
      obtain ⟨_, cj, hK, hcell⟩ := hx j hj
      exact ⟨cj, hK, fun i hi => by have := hcell i hi; rwa [Lib.add_plain, Lib.add_plain] at this⟩
    · obtain ⟨i, hi, rfl⟩ := List.getElem_of_mem hx'
      exact (hx i hi).1
theorem bulk_agg {H : Type} {xs : List (DataW H × List MemPlace)} {i : Nat} {y : DataW H × List MemPlace} (hi : xs[i]? = some y) (hb : Rows.uptoBulk (.agg (xs.map (·.1))) ≤ 1048576) : Rows.uptoBulk y.1 ≤ 1048576 := by
  simp only [Rows.uptoBulk] at hb
  have := O.part_le (d := y.1) (l := xs.map (·.1)) (List.mem_map.2 ⟨y, List.mem_of_getElem? hi, rfl⟩)
  omega
set_option maxRecDepth 100000 in
theorem opens (H : Type) (enc : TypeId × Value → H) (w : World) (base : Nat) (sp : Nat → Bool) (held : Bool) : ∀ (fuel : Nat) (cs : List Value) (x : DataW H × List MemPlace),
    DataW.trod enc Tryz.prog w base sp held fuel 25 cs = some x → Rows.uptoBulk x.1 ≤ 1048576 → ∃ a, (kdL fuel).K w a cs := by
  intro fuel
  induction fuel using Nat.strongRecOn with
  | ind fuel ih =>
    intro cs x h hb
    obtain ⟨xs, n, rfl, rfl, hl, hxs, hf⟩ := DataW.trod_struct Tryz.underlying25 h
    have hcl : cs.length = 6 := hl
    match xs, hxs with
    | [y0, y1, y2, y3, y4, y5], _ =>
      have f0 := hf 0 _ rfl
      have f1 := hf 1 _ rfl
      have f2 := hf 2 _ rfl
      have f3 := hf 3 _ rfl
      have f4 := hf 4 _ rfl
      have f5 := hf 5 _ rfl
      obtain ⟨k, e0, -, w0⟩ := DataW.trod_int Tryz.underlying3 f0
      obtain ⟨s, e1, z1, _⟩ := DataW.trod_string Tryz.underlying9 f1
      obtain ⟨lo, e2, -, w2⟩ := DataW.trod_int Tryz.underlying3 f2
      obtain ⟨ma, e3, -, w3⟩ := DataW.trod_int Tryz.underlying3 f3
      have b1 : Rows.uptoBulk y1.1 ≤ 1048576 := bulk_agg (i := 1) rfl hb
      obtain ⟨kids, A, c, e4, hC, hkl, -⟩ := slice_at (d := kdL n) (ok := fun _ => True) Tryz.underlying22 (by rw [kdL_sz]; kernel_rfl) (by rw [kdL_sz]; decide) (fun m hm cs x hx hbx => by
        obtain ⟨a, ha⟩ := ih m (by omega) cs x hx hbx
        exact ⟨a, kdL_le (by omega) _ _ _ ha, trivial⟩) f4 (bulk_agg (i := 4) rfl hb)
      obtain ⟨sh, As, c', e5, hCs, hsl, hso⟩ := slice_at (d := B.Kd.int) (ok := O.okI) Tryz.underlying23 (by kernel_rfl) (by decide) (fun m hm cs x hx hbx => O.oInt.2 H enc w base sp held m cs x hx hbx) f5 (bulk_agg (i := 5) rfl hb)
      refine ⟨.mk k s lo ma kids sh, A, As, c, c', ?_, hC, hCs, ?_⟩
      · match cs, hcl with
        | [a0, a1, a2, a3, a4, a5], _ =>
          have q0 : [a0] = [.int .i64 k] := e0
          have q1 : [a1] = [.string s] := e1
          have q2 : [a2] = [.int .i64 lo] := e2
          have q3 : [a3] = [.int .i64 ma] := e3
          have q4 : [a4] = [.slice A kids.length c] := e4
          have q5 : [a5] = [.slice As sh.length c'] := e5
          cases q0
          cases q1
          cases q2
          cases q3
          cases q4
          cases q5
          rfl
      · have z1' : y1.1 = .lit (.string s.data.toList) := by rw [z1]
        rw [z1'] at b1
        simp only [Rows.uptoBulk] at b1
        have hs : s.data.toList.length = s.size := rfl
        have ok : ∀ n : Int, (Lit.int .i64 n).wf = true → O.okI n := fun n hn => by unfold O.okI; simpa [Lit.wf, IntKind.min, IntKind.max, IntKind.signed, IntKind.bits] using hn
        exact ⟨⟨ok _ w0, ok _ w2, ok _ w3⟩, by show s.size ≤ 1048576; omega, hkl, hsl, hso⟩
end Go.Proofs.YtfillnkebohciaaGreatDoor.L
