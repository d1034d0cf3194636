/- Copies and comparisons of chunks, files and manifests. -/
import Derived.Test.YtmcbljongeadeaaGreatDoorFiles
import Derived.Test.YtmcbljongeadeaaGreatDoorEq
import Derived.WalkSpells
namespace Go.Proofs.YtmcbljongeadeaaGreatDoor.Copy
open Go.RowKit

theorem info_chunk : (Tryz.prog.info? 40).map (fun i => (i.zero, i.size, i.bytes)) = some (some (.agg #[.string ⟨#[]⟩, .int .i64 0]), 2, 24) := by kernel_rfl
theorem info_file : (Tryz.prog.info? 27).map (fun i => (i.zero, i.size, i.bytes)) = some (some (.agg #[.string ⟨#[]⟩, .slice none 0 0]), 2, 40) := by kernel_rfl
def ckE (c : ByteArray × Int) : List Value := [.string c.1, .int .i64 c.2]
theorem ckE1 : ∀ x : ByteArray × Int, ∀ v ∈ ckE x, v.oneCell' = true := by intro x v hv; simp [ckE] at hv; rcases hv with rfl | rfl <;> rfl
theorem shape {α : Type} {w : World} {base : Nat} {e : TypeId} {k : Nat} {enc : α → List Value} {v : Value} {xs : List α} (h : B.Own w base e k enc v xs) : ∃ A c, v = .slice A xs.length c := by
  rcases h.2 with ⟨rfl, h0⟩ | ⟨g, cap, cur, e, _⟩
  · exact ⟨none, 0, by rw [h0]⟩
  · exact ⟨_, cap, e⟩
theorem wpl_append_g {α : Type} {P : Program} {ops : Array Oper} {rest : List Oper} {o : Oper} {a : Act} {Q : Exit → Act → World → Prop} {W w0 : World} (base : Nat) (hgd : o.guard = none) (s x : Operand) (t e : TypeId) (z : Value) (k bytes : Nat)
    (ho : o.op = .call { callee := .builtin .append, args := #[s, x], argTypes := #[t, t] }) (ht : P.underlying t = some (.slice e)) (hinfo : (P.info? e).map (fun i => (i.zero, i.size, i.bytes)) = some (some z, k, bytes)) (hz : z.cells.size = k) (hk : 0 < k) (hby : 0 < bytes)
    (enc : α → List Value) (hlen : ∀ x, (enc x).length = k) (h1 : ∀ x, ∀ v ∈ enc x, v.oneCell' = true) (v : Value) (xs : List α) (y : α) (cs : Array Value) (hcs : cs.toList = enc y) 
    (HO : B.Own W base e k enc v xs) (hs : a.eval s = v) (nW : Nat) (hW : nW = W.heap.size) (hx : a.eval x = .slice (some ⟨nW, 0, none⟩) 1 1) (HB : Below base w0 W) (hbase : base ≤ W.heap.size) (hroom : (xs.length + 1) * bytes ≤ 140737488355328)
    (h : ∀ v1 w1, B.Own w1 base e k enc v1 (xs ++ [y]) → Below base w0 w1 → (W.alloc (.cells cs e)).grownBy w1 v.ownBlock → wpList P ops Q rest (a.put o.dst v1) w1) :
    wpList P ops Q (o :: rest) a (W.alloc (.cells cs e)) := by
  subst hW
  have HO0 : W.ownsRow base e k v xs.length (xs.flatMap enc) := HO
  obtain ⟨i0, hi, hzz⟩ := Option.map_eq_some_iff.1 hinfo
  simp only [Prod.mk.injEq] at hzz
  obtain ⟨hz0, hz1, hz2⟩ := hzz
  have hn : xs.length + 1 ≤ 140737488355328 := Nat.le_trans (Nat.le_mul_of_pos_right _ hby) hroom
  refine wpList_append_own (W.alloc (.cells cs e)) hgd s x t ho base e i0 z k bytes ht hi hz0 hz1 hz2 hz hk v xs.length _ hs (HO0.alloc _) ⟨W.heap.size, 0, none⟩ 1 1 (enc y) hx (by rw [hlen, Nat.one_mul]) ?_ (h1 y) (by simp only [maxLen]; omega) hroom (by simp; omega) ?_
  · intro j u hj
    rw [Lib.add_plain, Nat.zero_add, World.cell?_alloc_new, ← Array.getElem?_toList, hcs]
    exact hj
  · intro v1 w1 hown hg _
    exact h v1 w1 (by unfold B.Own; rw [List.length_append, List.length_singleton, List.flatMap_append, List.flatMap_singleton]; exact hown) ((HB.alloc hbase _).grown hg (by simp; omega) (fun k hk => (HO0.lt k hk).1)) hg
theorem sep {α β : Type} {w : World} {base base' : Nat} {e e' : TypeId} {k k' : Nat} {enc : α → List Value} {enc' : β → List Value} {v v' : Value} {xs : List α} {ys : List β} (h : B.Own w base e k enc v xs) (h' : B.Own w base' e' k' enc' v' ys) (hne : e ≠ e') : v'.ownBlock = none ∨ v'.ownBlock ≠ v.ownBlock := by
  rcases h'.2 with ⟨rfl, _⟩ | ⟨g, cap, cur, rfl, _, hg, _⟩
  · exact Or.inl rfl
  · refine Or.inr fun e1 => ?_
    rcases h.2 with ⟨rfl, _⟩ | ⟨g', cap', cur', rfl, _, hg', _⟩
    · cases e1
    · obtain rfl : g = g' := by simpa [Value.ownBlock] using e1
      rw [hg] at hg'
      simp only [Option.some.injEq, Obj.cells.injEq] at hg'
      exact hne hg'.2.1.symm
theorem own_grown {α : Type} {w w' : World} {base : Nat} {e : TypeId} {k : Nat} {enc : α → List Value} {v : Value} {xs : List α} {row : Option Nat} (h : B.Own w base e k enc v xs) (hg : w.grownBy w' row) (hne : v.ownBlock = none ∨ v.ownBlock ≠ row) : B.Own w' base e k enc v xs := World.ownsRow.kept h hg hne
theorem own_alloc {α : Type} {w : World} {base : Nat} {e : TypeId} {k : Nat} {enc : α → List Value} {v : Value} {xs : List α} (h : B.Own w base e k enc v xs) (o : Obj) : B.Own (w.alloc o) base e k enc v xs := World.ownsRow.alloc h o
theorem own_same {α : Type} {w w' : World} {base : Nat} {e : TypeId} {k : Nat} {enc : α → List Value} {v : Value} {xs : List α} (h : B.Own w base e k enc v xs) (hs : ∀ i, base ≤ i → w'.heap[i]? = w.heap[i]?) : B.Own w' base e k enc v xs := by
  refine ⟨h.1, ?_⟩
  rcases h.2 with hn | ⟨g, cap, cur, rfl, h1, h2, rest⟩
  · exact Or.inl hn
  · exact Or.inr ⟨g, cap, cur, rfl, h1, (hs g h1).trans h2, rest⟩
theorem own_mono {α : Type} {w : World} {base base' : Nat} {e : TypeId} {k : Nat} {enc : α → List Value} {v : Value} {xs : List α} (h : B.Own w base e k enc v xs) (hb : base' ≤ base) : B.Own w base' e k enc v xs := by
  refine ⟨h.1, ?_⟩
  rcases h.2 with hn | ⟨g, cap, cur, rfl, h1, rest⟩
  · exact Or.inl hn
  · exact Or.inr ⟨g, cap, cur, rfl, Nat.le_trans hb h1, rest⟩
theorem lit_own (w : World) (base : Nat) (hb : base ≤ w.heap.size) (e : TypeId) (k : Nat) {α : Type} (enc : α → List Value) : B.Own (w.alloc (.cells #[] e)) base e k enc (.slice (some ⟨w.heap.size, 0, none⟩) 0 0) [] :=
  World.ownsRow_lit w #[] 0 hb (Nat.zero_le _) (by simp)
set_option maxRecDepth 100000 in
theorem clone_chunk (v : Value) (xs : List (ByteArray × Int)) (w : World) (h : B.Kd.chunk.S w v xs) (hb : xs.length ≤ 1048576) :
    Calls Tryz.prog 11 #[v] w fun e w' => ∃ v', e = .returned v' ∧ B.Own w' w.heap.size 40 2 ckE v' xs ∧ Below w.heap.size w w' := by
  obtain ⟨A1, cap, rfl, C⟩ := h
  have HL := Lib.hid hb
  clear hb
  cases A1 with
  | none =>
    obtain rfl : xs = [] := List.eq_nil_of_length_eq_zero (Nat.eq_zero_of_not_pos fun hp => by obtain ⟨_, _, e, _⟩ := C.2 hp; cases e)
    clear HL C
    have hnil := fun w a n c => Lib.run_eql_slice_nil (P := Tryz.prog) w 25 40 a n c 0 0 Tryz.underlying25
    go_enter Tryz.func11, Tryz.ntmps11
    go_wp2
    go_ret
    exact ⟨_, rfl, B.Own.nil _ _ _ _ _, Below.refl _ _⟩
  | some A =>
    have HB := Lib.hid ((Below.refl _ w).alloc (Nat.le_refl _) (.cells #[] 40))
    have HC := Lib.hid (C.mono HB.out)
    have HO := Lib.hid (lit_own w w.heap.size (Nat.le_refl _) 40 2 ckE)
    clear C
    have hnil := fun w a n c => Lib.run_eql_slice_nil (P := Tryz.prog) w 25 40 a n c 0 0 Tryz.underlying25
    go_enter Tryz.func11, Tryz.ntmps11
    go_wp2_with (at_builtin; (refine B.wpl_append_all (w0 := w) w.heap.size rfl _ _ 25 40 (.agg #[.string ⟨#[]⟩, .int .i64 0]) 2 24 rfl Tryz.underlying25 info_chunk rfl (by decide) (by decide) ckE (fun _ => rfl) ckE1 _ [] xs HO.out rfl A cap rfl HC.out HB.out (by simp) (by have := HL.out; simp; omega) ?_); intro v1 w1 HO1 HB1 _; rw [List.nil_append] at HO1)
    go_ret
    exact ⟨_, rfl, HO1, HB1⟩

abbrev Fl := Files.Fl
/-- The file's row. -/
def flR (k : ByteArray) (A : Option Addr) (n c : Nat) : B.Rw 2 := ⟨[.string k, .slice A n c], rfl, by intro v hv; simp at hv; rcases hv with rfl | rfl <;> rfl⟩
/-- A row of files of the call's own, with the rows of their chunks. -/
def FileRows (w : World) (lo : Nat) (v : Value) (l : List Fl) : Prop :=
  ∃ rs : List (B.Rw 2), B.Own w lo 27 2 Subtype.val v rs ∧ rs.length = l.length ∧ ∀ j (h1 : j < l.length) (h2 : j < rs.length), ∃ A c, rs[j].val = [.string l[j].1, .slice A l[j].2.length c] ∧ B.Own w lo 40 2 ckE (.slice A l[j].2.length c) l[j].2
theorem FileRows.same {w w' : World} {lo : Nat} {v : Value} {l : List Fl} (h : FileRows w lo v l) (hs : ∀ i, lo ≤ i → w'.heap[i]? = w.heap[i]?) : FileRows w' lo v l := by
  obtain ⟨rs, ho, hl, hk⟩ := h
  exact ⟨rs, own_same ho hs, hl, fun j h1 h2 => by obtain ⟨A, c, e, h3⟩ := hk j h1 h2; exact ⟨A, c, e, own_same h3 hs⟩⟩
theorem FileRows.S {w : World} {lo : Nat} {v : Value} {l : List Fl} (h : FileRows w lo v l) (hl : l.length ≤ 1048576) (hc : ∀ f ∈ l, f.2.length ≤ 1048576) : B.Kd.file.S w v l := by
  obtain ⟨rs, ho, hr, hk⟩ := h
  exact B.own_K B.Kd.file ho (by omega) hr (fun j h => by obtain ⟨A, c, e1, h3⟩ := hk j h (by rw [hr]; exact h); exact ⟨A, c, e1, by obtain ⟨A', c', e2, h4⟩ := B.own_chunk h3 (by have := hc _ (List.getElem_mem h); omega); cases e2; exact h4⟩)
set_option maxRecDepth 100000 in
theorem copyFilesR (v : Value) (l : List Fl) (w : World) (h : B.Kd.file.S w v l) (hl : l.length ≤ 1048576) (hc : ∀ f ∈ l, f.2.length ≤ 1048576) :
    Calls Tryz.prog 5 #[v] w fun e w' => ∃ v', e = .returned v' ∧ FileRows w' w.heap.size v' l ∧ Below w.heap.size w w' := by
  obtain ⟨A1, cap, rfl, C⟩ := h
  have L1 := C.1
  have HL := Lib.hid hl
  have HC := Lib.hid hc
  clear hl hc
  go_enter Tryz.func5, Tryz.ntmps5
  go_wp2
  go_loopw [3, 8] (fun s3 s8 wr => ∃ (k : Nat) (rs : List (B.Rw 2)), s8 = .int .i64 k ∧ k ≤ l.length ∧ Hid (rs.length = k) ∧ Hid (B.Own wr w.heap.size 27 2 Subtype.val s3 rs) ∧ Hid (∀ j (h1 : j < l.length) (h2 : j < rs.length), ∃ A c, rs[j].val = [.string l[j].1, .slice A l[j].2.length c] ∧ B.Own wr w.heap.size 40 2 ckE (.slice A l[j].2.length c) l[j].2) ∧ Hid (Below w.heap.size w wr)) (fun _ s8 _ => l.length - (intOf s8).toNat)
  case atStart => exact ⟨0, [], rfl, by omega, Lib.hid rfl, Lib.hid (B.Own.nil _ _ _ _ _), Lib.hid (fun j _ h => absurd h (by simp)), Lib.hid (Below.refl _ _)⟩
  case round =>
    obtain ⟨k, rs, rfl, hk, HR, HO, HK, HB⟩ := hrel
    by_cases hlt : k < l.length
    · obtain ⟨b1, o1, cs1, rfl, K1, e1⟩ := C.at k hlt
      obtain ⟨A2, c2, rfl, D⟩ := K1
      have f0 : wr.cell? ⟨b1, o1 + k * 2, none⟩ = some (.string l[k].1) := by simpa [B.Kd.file] using B.cell_below HB.out (e1 0 (by simp))
      have f1 : wr.cell? ⟨b1, o1 + k * 2 + 1, none⟩ = some (.slice A2 l[k].2.length c2) := by simpa [B.Kd.file] using B.cell_below HB.out (e1 1 (by simp))
      have hk1 : (k : Int) < l.length := by omega
      have HA := Lib.hid ((Below.refl _ wr).alloc (Nat.le_refl _) (.cells #[.string l[k].1, .slice A2 l[k].2.length c2] 27))
      have cc := clone_chunk _ l[k].2 _ ⟨A2, c2, rfl, (D.mono HB.out).mono HA.out⟩ (HC.out _ (List.getElem_mem hlt))
      have HN := Lib.hid (fun (i : Nat) (u : Value) (w2 : World) (hb : Below (wr.alloc (.cells #[.string l[k].1, .slice A2 l[k].2.length c2] 27)).heap.size (wr.alloc (.cells #[.string l[k].1, .slice A2 l[k].2.length c2] 27)) w2) (hc : (#[Value.string l[k].1, .slice A2 l[k].2.length c2] : Array Value)[i]? = some u) => (B.cell_below hb (by rw [World.cell?_alloc_new]; exact hc) : w2.cell? ⟨wr.heap.size, i, none⟩ = some u))
      have HFZ := Lib.hid (fun (i : Nat) (w2 : World) (hb : Below (wr.alloc (.cells #[.string l[k].1, .slice A2 l[k].2.length c2] 27)).heap.size (wr.alloc (.cells #[.string l[k].1, .slice A2 l[k].2.length c2] 27)) w2) => ((World.frozen?_of_block (a := ⟨wr.heap.size, i, none⟩) (hb.block wr.heap.size (by simp))).trans (by simp only [World.frozen?, heap_alloc_new]; simp) : w2.frozen? ⟨wr.heap.size, i, none⟩ = false))
      clear e1 D
      go_wp2_with (first
        | (go_at_call 11; refine cc.mono ?_; rintro e w2 ⟨v4, rfl, HO2, HB2⟩; obtain ⟨A4, c4, rfl⟩ := shape HO2; have g0 := HN.out 0 _ _ HB2 rfl; have g1 := HN.out 1 _ _ HB2 rfl; have gf := HFZ.out 1 _ HB2; have HW := Lib.hid (Below.setCell (HA.out.trans (HB2.mono (by simp))) (p := ⟨wr.heap.size, 1, none⟩) (Nat.le_refl _) (.slice A4 l[k].2.length c4)))
        | (at_builtin; go_loud (refine wpl_append_g (w0 := w) w.heap.size rfl _ _ 22 27 (.agg #[.string ⟨#[]⟩, .slice none 0 0]) 2 40 rfl Tryz.underlying22 info_file rfl (by decide) (by decide) Subtype.val (fun x => x.2.1) (fun x => x.2.2) _ rs (flR l[k].1 A4 l[k].2.length c4) _ rfl (HO.out.below HW.out) rfl _ (by simp) rfl (B.below_trans HB.out HW.out) (by have := HW.out.size; have := HB.out.size; omega) (by have := HR.out; have := HL.out; omega) ?_); intro v6 w6 HO6 HB6 HG6))
      have HO5 := Lib.hid (HO.out.below HW.out)
      have HK6 : Hid (∀ j (h1 : j < l.length) (h2 : j < (rs ++ [flR l[k].1 A4 l[k].2.length c4]).length), ∃ A c, (rs ++ [flR l[k].1 A4 l[k].2.length c4])[j].val = [.string l[j].1, .slice A l[j].2.length c] ∧ B.Own w6 w.heap.size 40 2 ckE (.slice A l[j].2.length c) l[j].2) := Lib.hid (fun j h1 h2 => by
        by_cases hj : j < rs.length
        · obtain ⟨A, c, e1, h3⟩ := HK.out j h1 hj
          exact ⟨A, c, by rw [List.getElem_append_left hj]; exact e1, own_grown (own_alloc (h3.below HW.out) _) HG6 (sep HO5.out (h3.below HW.out) (by decide))⟩
        · have hl := HR.out
          simp at h2
          obtain rfl : j = k := by omega
          have h3 := own_mono (HO2.setCell (p := ⟨wr.heap.size, 1, none⟩) (by simp) (.slice A4 l[j].2.length c4)) (show w.heap.size ≤ _ from Nat.le_trans HB.out.size (by simp))
          exact ⟨A4, c4, by rw [List.getElem_append_right (by omega)]; simp [flR], own_grown (own_alloc h3 _) HG6 (sep HO5.out h3 (by decide))⟩)
      clear HK HO HB HO2 HB2 cc HW HN HFZ HA HG6 HO5
      have HO7 := Lib.hid HO6
      have HB7 := Lib.hid HB6
      clear HO6 HB6
      go_wp2
      go_roundw
      case rel => exact ⟨k + 1, _, by go_num, by omega, Lib.hid (by simp [HR.out]), HO7, HK6, HB7⟩
      case measure => simp [intOf]; omega
    · obtain rfl : k = l.length := by omega
      go_wp2
      go_ret
      exact ⟨_, rfl, ⟨rs, HO.out, HR.out, HK.out⟩, HB.out⟩
theorem copyFiles (v : Value) (l : List Fl) (w : World) (h : B.Kd.file.S w v l) (hl : l.length ≤ 1048576) (hc : ∀ f ∈ l, f.2.length ≤ 1048576) :
    Calls Tryz.prog 5 #[v] w fun e w' => ∃ v', e = .returned v' ∧ (∀ w'', (∀ i, w.heap.size ≤ i → w''.heap[i]? = w'.heap[i]?) → B.Kd.file.S w'' v' l) ∧ Below w.heap.size w w' :=
  (copyFilesR v l w h hl hc).mono fun e w' ⟨v', h1, h2, h3⟩ => ⟨v', h1, fun w'' hs => (h2.same hs).S hl hc, h3⟩
theorem frozen_new {w w2 : World} {c : Array Value} {o : TypeId} (hb : Below (w.alloc (.cells c o)).heap.size (w.alloc (.cells c o)) w2) (i : Nat) : w2.frozen? ⟨w.heap.size, i, none⟩ = false :=
  (World.frozen?_of_block (a := ⟨w.heap.size, i, none⟩) (hb.block w.heap.size (by simp))).trans (by simp only [World.frozen?, heap_alloc_new]; simp)
theorem two {w w2 : World} {a b : Array Value} {s t : TypeId} (hb : Below ((w.alloc (.cells a s)).alloc (.cells b t)).heap.size ((w.alloc (.cells a s)).alloc (.cells b t)) w2) :
    (∀ i u, a[i]? = some u → w2.cell? ⟨w.heap.size, i, none⟩ = some u) ∧ (∀ i u, b[i]? = some u → w2.cell? ⟨w.heap.size + 1, i, none⟩ = some u) ∧ (∀ i, w2.frozen? ⟨w.heap.size, i, none⟩ = false) ∧ (∀ i, w2.frozen? ⟨w.heap.size + 1, i, none⟩ = false) := by
  have e : (w.alloc (.cells a s)).heap.size = w.heap.size + 1 := by simp
  have h1 : ∀ i, (w2.frozen? ⟨(w.alloc (.cells a s)).heap.size, i, none⟩) = false := frozen_new hb
  rw [e] at h1
  refine ⟨fun i u h => B.cell_below hb (B.cell_below ((Below.refl _ (w.alloc (.cells a s))).alloc (Nat.le_refl _) _) (by rw [World.cell?_alloc_new]; exact h)), fun i u h => B.cell_below hb ?_, fun i => ?_, h1⟩
  · rw [← e, World.cell?_alloc_new]; exact h
  · refine frozen_new (w := w) (c := a) (o := s) (w2 := w2) ?_ i
    exact ((Below.refl _ (w.alloc (.cells a s))).alloc (Nat.le_refl _) _).trans (hb.mono (by simp))
theorem set2 {w : World} {g : Nat} {a b x y : Value} {t : TypeId} {fr : Nat × Nat} (h : w.heap[g]? = some (.cells #[a, b] t fr)) : ((w.setCell ⟨g, 0, none⟩ x).setCell ⟨g, 1, none⟩ y).heap[g]? = some (.cells #[x, y] t fr) := by
  simp [World.setCell, Array.getElem?_modify, h]
set_option maxRecDepth 100000 in
theorem copyManifestR (no : Int) (v : Value) (l : List Fl) (w : World) (h : B.Kd.file.S w v l) (hl : l.length ≤ 1048576) (hc : ∀ f ∈ l, f.2.length ≤ 1048576) :
    Calls Tryz.prog 4 #[.agg #[.int .i64 no, v]] w fun e w' => ∃ v', e = .returned (.agg #[.int .i64 no, v']) ∧ FileRows w' (w.heap.size + 2) v' l ∧ Below w.heap.size w w' := by
  have cf := fun W h' => copyFilesR v l W h' hl hc
  obtain ⟨A1, cap, rfl, C⟩ := h
  have HA := Lib.hid (fun (c c' : Array Value) (o : TypeId) => ((Below.refl _ w).alloc (Nat.le_refl _) (.cells c o)).alloc (by simp) (.cells c' o))
  clear hl hc
  go_enter Tryz.func4, Tryz.ntmps4
  go_wp2_with (go_at_call 5; refine (cf _ ⟨A1, cap, rfl, C.mono (HA.out _ _ _)⟩).mono ?_; rintro e w2 ⟨v2, rfl, HD, HB⟩; obtain ⟨A2, c2, rfl⟩ : ∃ A2 c2, v2 = .slice A2 l.length c2 := (by obtain ⟨rs, ho, hr, -⟩ := HD; obtain ⟨A2, c2, e⟩ := shape ho; exact ⟨A2, c2, by rw [e, hr]⟩); have g0 := (two HB).1 0 _ rfl; have g1 := (two HB).1 1 _ rfl; have g2 := (two HB).2.1 0 _ rfl; have g3 := (two HB).2.1 1 _ rfl; have z1 := (two HB).2.2.1; have z2 := (two HB).2.2.2)
  have hrow : w2.heap[w.heap.size + 1]? = some (.cells #[.int .i64 0, .slice none 0 0] 24 (0, 0)) := by
    rw [HB.block (w.heap.size + 1) (by simp)]
    exact heap_alloc2_new w _ _
  refine bodyPost_ret (results_cell_row rfl _ _ (w.heap.size + 1) 24 #[.int .i64 no, .slice A2 l.length c2] (0, 0) _ rfl (set2 (a := .int .i64 0) (b := .slice none 0 0) ((Below.heap_setCell _ _ _ _ (by simp)).trans hrow)) Tryz.underlying24 rfl (by kernel_rfl)) rfl ?_
  have e2 : (( w.alloc (.cells #[.int .i64 no, .slice A1 l.length cap] 24)).alloc (.cells #[.int .i64 0, .slice none 0 0] 24)).heap.size = w.heap.size + 2 := by simp
  rw [e2] at HD
  refine ⟨_, rfl, HD.same (fun i hi' => ?_), ?_⟩
  ·    rw [Below.heap_setCell _ _ _ _ (by simp; omega), Below.heap_setCell _ _ _ _ (by simp; omega), Below.heap_setCell _ _ _ _ (by simp; omega)]
  · exact (((B.below_trans (HA.out _ _ _) HB).setCell (p := ⟨w.heap.size, 1, none⟩) (Nat.le_refl _) _).setCell (p := ⟨w.heap.size + 1, 0, none⟩) (Nat.le_succ _) _).setCell (p := ⟨w.heap.size + 1, 1, none⟩) (Nat.le_succ _) _
theorem copyManifest (no : Int) (v : Value) (l : List Fl) (w : World) (h : B.Kd.file.S w v l) (hl : l.length ≤ 1048576) (hc : ∀ f ∈ l, f.2.length ≤ 1048576) :
    Calls Tryz.prog 4 #[.agg #[.int .i64 no, v]] w fun e w' => ∃ v', e = .returned (.agg #[.int .i64 no, v']) ∧ B.Kd.file.S w' v' l ∧ Below w.heap.size w w' :=
  (copyManifestR no v l w h hl hc).mono fun e w' ⟨v', h1, h2, h3⟩ => ⟨v', h1, h2.S hl hc, h3⟩
theorem sameFile (f g : Fl) (A1 A2 : Option Addr) (c1 c2 : Nat) (w : World) (h1 : B.Kd.chunk.C w A1 f.2) (h2 : B.Kd.chunk.C w A2 g.2) :
    Calls Tryz.prog 9 #[.agg #[.string f.1, .slice A1 f.2.length c1], .agg #[.string g.1, .slice A2 g.2.length c2]] w fun e w' => e = .returned (.bool (decide (f = g))) ∧ Below w.heap.size w w' := by
  have ce := fun W hb => Eq.eq_chunk _ _ f.2 g.2 W (B.Kd.S.mono ⟨A1, c1, rfl, h1⟩ hb) (B.Kd.S.mono ⟨A2, c2, rfl, h2⟩ hb) _ rfl
  have HA := Lib.hid (fun (c c' : Array Value) (o : TypeId) => ((Below.refl _ w).alloc (Nat.le_refl _) (.cells c o)).alloc (by simp) (.cells c' o))
  by_cases hq : f.1 = g.1
  · have hqb : (f.1.toList == g.1.toList) = true := by rw [hq]; exact beq_self_eq_true _
    have HX : Hid (decide (f = g) = decide (f.2 = g.2)) := Lib.hid (by rw [decide_eq_decide]; exact ⟨fun e => by rw [e], fun e => Prod.ext hq e⟩)
    generalize decide (f.2 = g.2) = b at ce HX
    clear hq
    go_enter Tryz.func9, Tryz.ntmps9
    go_wp2_with (go_at_call 25; refine (ce _ (HA.out _ _ _)).mono ?_; rintro e w2 ⟨rfl, HB⟩)
    go_ret
    exact ⟨by rw [HX.out]; rfl, B.below_trans (HA.out _ _ _) HB⟩
  · have hqb : (f.1.toList == g.1.toList) = false := by
      rw [beq_eq_false_iff_ne]
      intro e
      exact hq (ByteArray.ext (Array.toList_inj.1 (by simpa [ByteArray.toList_eq] using e)))
    have HX : Hid (decide (f = g) = false) := Lib.hid (decide_eq_false (fun e => hq (by rw [e])))
    clear hq
    go_enter Tryz.func9, Tryz.ntmps9
    go_wp2
    go_ret
    exact ⟨by rw [HX.out]; rfl, HA.out _ _ _⟩
end Go.Proofs.YtmcbljongeadeaaGreatDoor.Copy
