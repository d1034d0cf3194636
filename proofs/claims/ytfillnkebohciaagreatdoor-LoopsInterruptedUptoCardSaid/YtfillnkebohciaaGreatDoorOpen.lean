/- From what an argument reads as to what it holds: kinds of data opened, where the bulk is bounded. -/
import Derived.Test.YtfillnkebohciaaGreatDoorBase
import Derived.Test.YtfillnkebohciaaGreatDoorProg
import Derived.Test.YtfillnkebohciaaGreatDoorRows
import Derived.DataReads
import Derived.ChangeSame
import Derived.OpenShut
import Derived.WideShapes
namespace Go.Proofs.YtfillnkebohciaaGreatDoor.O
open Go.RowKit Go.ChangeShapes

theorem one_le {H : Type} (d : DataW H) : 1 ≤ Rows.uptoBulk d := by
  cases d with
  | lit l => cases l <;> simp [Rows.uptoBulk]
  | _ => simp [Rows.uptoBulk]
theorem part_le {H : Type} {d : DataW H} {l : List (DataW H)} (h : d ∈ l) : Rows.uptoBulk d ≤ Rows.uptoBulkAll l := by
  induction l with
  | nil => cases h
  | cons x r ih =>
    simp only [Rows.uptoBulkAll]
    rcases List.mem_cons.1 h with e | e
    · subst e; omega
    · have := ih e; omega
theorem length_le {H : Type} (l : List (DataW H)) : l.length ≤ Rows.uptoBulkAll l := by
  induction l with
  | nil => simp [Rows.uptoBulkAll]
  | cons x r ih => have := one_le x; simp only [Rows.uptoBulkAll, List.length_cons]; omega

/-- Whatever reads at type t, of bounded bulk, is of this kind, and ok. -/
def Opens {α : Type} (d : B.Kd α) (t : TypeId) (ok : α → Prop) : Prop :=
  Tryz.prog.cellsOf t = d.sz ∧ ∀ (H : Type) (enc : TypeId × Value → H) (w : World) (base : Nat) (sp : Nat → Bool) (held : Bool) (fuel : Nat) (cs : List Value) (x : DataW H × List MemPlace),
    DataW.trod enc Tryz.prog w base sp held fuel t cs = some x → Rows.uptoBulk x.1 ≤ 1048576 → ∃ a, d.K w a cs ∧ ok a
theorem opens_str {t : TypeId} (ht : Tryz.prog.underlying t = some .string) (hc : Tryz.prog.cellsOf t = 1) : Opens B.Kd.str t (fun s => s.size ≤ 1048576) :=
  ⟨hc, fun H enc w base sp held fuel cs x h hb => by
    obtain ⟨s, rfl, rfl, _⟩ := DataW.trod_string ht h
    refine ⟨s, rfl, ?_⟩
    simp only [Rows.uptoBulk] at hb
    have : s.data.toList.length = s.size := rfl
    omega⟩
theorem opens_int {t : TypeId} (ht : Tryz.prog.underlying t = some (.int .i64)) (hc : Tryz.prog.cellsOf t = 1) : Opens B.Kd.int t (fun n => -9223372036854775808 ≤ n ∧ n ≤ 9223372036854775807) :=
  ⟨hc, fun H enc w base sp held fuel cs x h hb => by
    obtain ⟨n, rfl, rfl, hw⟩ := DataW.trod_int ht h
    exact ⟨n, rfl, by simpa [Lit.wf, IntKind.min, IntKind.max, IntKind.signed, IntKind.bits] using hw⟩⟩
theorem opens_bool {t : TypeId} (ht : Tryz.prog.underlying t = some .bool) (hc : Tryz.prog.cellsOf t = 1) : Opens B.Kd.bool t (fun _ => True) :=
  ⟨hc, fun H enc w base sp held fuel cs x h hb => by
    obtain ⟨b, rfl, rfl⟩ := DataW.trod_bool ht h
    exact ⟨b, rfl, trivial⟩⟩
/-- The same cells, read as another kind. -/
theorem Opens.as {α β : Type} {d : B.Kd α} {t : TypeId} {ok : α → Prop} (h : Opens d t ok) (d' : B.Kd β) (ok' : β → Prop) (hs : d.sz = d'.sz) (f : α → β) (hK : ∀ w a cs, d.K w a cs → d'.K w (f a) cs) (ho : ∀ a, ok a → ok' (f a)) : Opens d' t ok' :=
  ⟨h.1.trans hs, fun H enc w base sp held fuel cs x hx hb => by
    obtain ⟨a, h1, h2⟩ := h.2 H enc w base sp held fuel cs x hx hb
    exact ⟨f a, hK w a cs h1, ho a h2⟩⟩
def pair {α β : Type} (d : B.Kd α) (d' : B.Kd β) : B.Kd (α × β) :=
  ⟨d.sz + d'.sz, fun w x cs => ∃ c c', cs = c ++ c' ∧ d.K w x.1 c ∧ d'.K w x.2 c',
    fun ⟨c, c', e, h, h'⟩ => by rw [e, List.length_append, d.len h, d'.len h'], fun ⟨c, c', e, h, h'⟩ hb => ⟨c, c', e, d.mono h hb, d'.mono h' hb⟩,
    fun ⟨c, c', e, h, h'⟩ v hv => by subst e; exact (List.mem_append.1 hv).elim (d.one h v) (d'.one h' v)⟩
theorem opens_pair {α β : Type} {d : B.Kd α} {d' : B.Kd β} {t : TypeId} {f0 f1 : Field} {ok : α → Prop} {ok' : β → Prop} (ht : Tryz.prog.underlying t = some (.struct #[f0, f1])) (h0 : Opens d f0.type ok) (h1 : Opens d' f1.type ok')
    (o0 : f0.offset = 0) (o1 : f1.offset = d.sz) (hc : Tryz.prog.cellsOf t = d.sz + d'.sz) : Opens (pair d d') t (fun x => ok x.1 ∧ ok' x.2) :=
  ⟨hc, fun H enc w base sp held fuel cs x h hb => by
    obtain ⟨y0, y1, n, rfl, hl, t0, t1⟩ := trod_struct2 ht h
    rw [h0.1, o0] at t0
    rw [h1.1, o1] at t1
    rw [hc] at hl
    simp only [Rows.uptoBulk, Rows.uptoBulkAll] at hb
    obtain ⟨a, k0, ok0⟩ := h0.2 _ _ _ _ _ _ _ _ _ t0 (by omega)
    obtain ⟨a', k1, ok1⟩ := h1.2 _ _ _ _ _ _ _ _ _ t1 (by omega)
    refine ⟨(a, a'), ⟨_, _, ?_, k0, k1⟩, ok0, ok1⟩
    rw [List.drop_zero, List.take_of_length_le (l := cs.drop d.sz) (by rw [List.length_drop]; omega), List.take_append_drop]⟩
theorem list_of {α : Type} {Q : Nat → α → Prop} : ∀ (n : Nat), (∀ i, i < n → ∃ x, Q i x) → ∃ xs : List α, xs.length = n ∧ ∀ i (h : i < xs.length), Q i xs[i] := by
  intro n
  induction n with
  | zero => intro _; exact ⟨[], rfl, fun i h => absurd h (by simp)⟩
  | succ n ih =>
    intro h
    obtain ⟨xs, hl, hx⟩ := ih (fun i hi => h i (by omega))
    obtain ⟨x, hq⟩ := h n (by omega)
    refine ⟨xs ++ [x], by simp [hl], fun i hi => ?_⟩
    by_cases hin : i < xs.length
    · rw [List.getElem_append_left hin]; exact hx i hin
    · have : i = n := by simp at hi; omega
      subst this
      rw [List.getElem_append_right (by omega)]
      simpa [hl] using hq
theorem opens_slice {α : Type} {d : B.Kd α} {t e : TypeId} {ok : α → Prop} (ht : Tryz.prog.underlying t = some (.slice e)) (he : Opens d e ok) (hpos : 0 < d.sz) (hc : Tryz.prog.cellsOf t = 1) :
    Opens d.sl t (fun xs => xs.length ≤ 1048576 ∧ ∀ x ∈ xs, ok x) :=
  ⟨hc, fun H enc w base sp held fuel cs x h hb => by
    rcases DataW.trod_slice ht h with ⟨rfl, rfl⟩ | ⟨a, len, cap, elems, rest, n, -, rfl, rfl, hba, hlc, hcm, hel, hat, -⟩
    · exact ⟨[], ⟨none, 0, rfl, d.C_nil w none⟩, by simp, fun x hx => by simp at hx⟩
    · simp only [Rows.uptoBulk] at hb
      have hlen : elems.length ≤ 1048576 := by have := length_le (elems.map (·.1)); simp at this; omega
      rw [he.1] at hat
      have each : ∀ i, i < len → ∃ y : α, ok y ∧ ∃ ci, d.K w y ci ∧ ∀ r (hr : r < ci.length), w.cell? ((a.add (i * d.sz)).add r) = some ci[r] := by
        intro i hi
        have hi' : i < elems.length := by omega
        have h1 := hat i hi
        rw [List.getElem?_eq_getElem hi', Option.bind_eq_some_iff] at h1
        obtain ⟨ci, hci, htr⟩ := h1
        obtain ⟨_, hcl, hcc⟩ := World.cells?_some hci
        have hbk : Rows.uptoBulk elems[i].1 ≤ 1048576 := Nat.le_trans (part_le (l := elems.map (fun y => y.1)) (List.mem_map.2 ⟨elems[i], List.getElem_mem hi', rfl⟩)) (by omega)
        obtain ⟨y, hK, ho⟩ := he.2 _ _ _ _ _ _ _ _ _ htr hbk
        exact ⟨y, ho, ci, hK, fun r hr => by rw [hcc r (by omega), List.getElem?_eq_getElem hr]⟩
      obtain ⟨xs, hxl, hx⟩ := list_of len each
      refine ⟨xs, ⟨some a, cap, by rw [hxl], by omega, fun hp => ?_⟩, by omega, fun x hx' => ?_⟩
      · obtain ⟨_, ci, hK, hcell⟩ := hx 0 hp
        have hcl := d.len hK
        have h0 := hcell 0 (by omega)
        have hs : a.spot = none := by simpa [Addr.add] using World.cell?_spot h0
        obtain ⟨b, off, s⟩ := a
        obtain rfl : s = none := hs
        refine ⟨b, off, rfl, fun j hj => ?_⟩
        obtain ⟨_, cj, hK, hcell⟩ := hx j hj
        exact ⟨cj, hK, fun i hi => by have := hcell i hi; rwa [Lib.add_plain, Lib.add_plain] at this⟩
      · obtain ⟨i, hi, rfl⟩ := List.getElem_of_mem hx'
        exact (hx i hi).1⟩

/-! ### the kinds at hand -/
def okI (n : Int) : Prop := -9223372036854775808 ≤ n ∧ n ≤ 9223372036854775807
def okS (s : ByteArray) : Prop := s.size ≤ 1048576
def okL {α : Type} (ok : α → Prop) (xs : List α) : Prop := xs.length ≤ 1048576 ∧ ∀ x ∈ xs, ok x
theorem oStr : Opens B.Kd.str 9 okS := opens_str Tryz.underlying9 (by kernel_rfl)
theorem oInt : Opens B.Kd.int 3 okI := opens_int Tryz.underlying3 (by kernel_rfl)
/-! ### arguments -/
theorem okWide_slice {P : Program} {t e : TypeId} {w : World} {base : Nat} {v : Value} (ht : P.underlying t = some (.slice e)) (h : Value.okWide P w .any base t v) : ∃ A n c, v = .slice A n c := by
  simp only [Value.okWide, ht, Cell.okWide] at h
  cases v <;> simp_all [Cell.ok]
theorem arg_slP {α : Type} {d : B.Kd α} {P : Program} {t e : TypeId} {ok : List α → Prop} {H : Type} {enc : TypeId × Value → H} {W : World} {base b0 : Nat} {sp : Nat → Bool} {held : Bool} {v : Value} {x : DataW H} {ps : List MemPlace}
    (ho : ∀ fuel cs y, DataW.trod enc P W base sp held fuel t cs = some y → Rows.uptoBulk y.1 ≤ 1048576 → ∃ a, d.sl.K W a cs ∧ ok a) (ht : P.underlying t = some (.slice e)) (hv : Value.okWide P W .any b0 t v) (h : DataW.Trod enc P W base sp held t v x ps) (hb : Rows.uptoBulk x ≤ 1048576) : ∃ xs, d.S W v xs ∧ ok xs := by
  obtain ⟨A, n, c, rfl⟩ := okWide_slice ht hv
  obtain ⟨fuel, hf⟩ := h
  obtain ⟨xs, hK, hok⟩ := ho fuel _ _ hf hb
  obtain ⟨A', c', e', hC⟩ := hK
  refine ⟨xs, ⟨A', c', ?_, hC⟩, hok⟩
  simpa [Value.cells] using e'
theorem arg_aggP {α : Type} {d : B.Kd α} {P : Program} {t : TypeId} {fs : Array Field} {ok : α → Prop} {H : Type} {enc : TypeId × Value → H} {W : World} {base b0 : Nat} {sp : Nat → Bool} {held : Bool} {v : Value} {x : DataW H} {ps : List MemPlace}
    (ho : ∀ fuel cs y, DataW.trod enc P W base sp held fuel t cs = some y → Rows.uptoBulk y.1 ≤ 1048576 → ∃ a, d.K W a cs ∧ ok a) (ht : P.underlying t = some (.struct fs)) (hv : Value.okWide P W .any b0 t v) (h : DataW.Trod enc P W base sp held t v x ps) (hb : Rows.uptoBulk x ≤ 1048576) : ∃ a cs, v = .agg cs ∧ d.K W a cs.toList ∧ ok a := by
  obtain ⟨cs, rfl, -⟩ := Go.WideShapes.okWide_struct ht hv
  obtain ⟨fuel, hf⟩ := h
  obtain ⟨a, hK, hok⟩ := ho fuel _ _ hf hb
  exact ⟨a, cs, rfl, hK, hok⟩
set_option maxRecDepth 100000 in
theorem arg_sl {α : Type} {d : B.Kd α} {t e : TypeId} {ok : List α → Prop} {H : Type} {enc : TypeId × Value → H} {W : World} {base b0 : Nat} {sp : Nat → Bool} {held : Bool} {v : Value} {x : DataW H} {ps : List MemPlace}
    (ho : Opens d.sl t ok) (ht : Tryz.prog.underlying t = some (.slice e)) (hv : Value.okWide Tryz.prog W .any b0 t v) (h : DataW.Trod enc Tryz.prog W base sp held t v x ps) (hb : Rows.uptoBulk x ≤ 1048576) : ∃ xs, d.S W v xs ∧ ok xs :=
  arg_slP (fun _ _ _ hy hyb => ho.2 _ _ _ _ _ _ _ _ _ hy hyb) ht hv h hb
set_option maxRecDepth 100000 in
theorem arg_agg {α : Type} {d : B.Kd α} {t : TypeId} {fs : Array Field} {ok : α → Prop} {H : Type} {enc : TypeId × Value → H} {W : World} {base b0 : Nat} {sp : Nat → Bool} {held : Bool} {v : Value} {x : DataW H} {ps : List MemPlace}
    (ho : Opens d t ok) (ht : Tryz.prog.underlying t = some (.struct fs)) (hv : Value.okWide Tryz.prog W .any b0 t v) (h : DataW.Trod enc Tryz.prog W base sp held t v x ps) (hb : Rows.uptoBulk x ≤ 1048576) : ∃ a cs, v = .agg cs ∧ d.K W a cs.toList ∧ ok a :=
  arg_aggP (fun _ _ _ hy hyb => ho.2 _ _ _ _ _ _ _ _ _ hy hyb) ht hv h hb
end Go.Proofs.YtfillnkebohciaaGreatDoor.O
