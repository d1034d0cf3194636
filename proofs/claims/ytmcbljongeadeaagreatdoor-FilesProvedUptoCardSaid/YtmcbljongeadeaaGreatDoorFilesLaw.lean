/- signlaw1.FilesProved answers true: the walk over the contracts. -/
import Derived.Test.YtmcbljongeadeaaGreatDoorInv
namespace Go.Proofs.YtmcbljongeadeaaGreatDoor.Pf
open Go.RowKit

/-- How many are yet to come. -/
def left (b : Bool) : Nat := if b then 0 else 1
/-- What comes before what. -/
structure Dep (b1 b3 b4 b5 b6 b8 b9 b10 b11 b12 : Bool) : Prop where
  d43 : b4 = true → b3 = true
  d54 : b5 = true → b4 = true
  d65 : b6 = true → b5 = true
  d11 : b11 = true → b1 = true
  d19 : b11 = true → b9 = true
  d18 : b11 = true → b8 = true
  d20 : b12 = true → b10 = true
  d26 : b12 = true → b6 = true
  d21 : b12 = true → b11 = true
theorem off {b c : Bool} (h : b = true → c = true) (hc : c = false) : b = false := by
  cases b with
  | false => rfl
  | true => rw [h rfl] at hc; cases hc
set_option maxHeartbeats 40000000 in
set_option maxRecDepth 100000 in
theorem law_any (no : Int) (v : Value) (l : List Fl) (key root : ByteArray) (f : Fl) (Af : Option Addr) (cf : Nat) (u : Value) (proof : List Tw) (hs : ∀ g ∈ l, Small g) (hl : l.length ≤ 1048576) (hkey : key.size ≤ 9223372036854775807) (hsf : Small f) (hp : ∀ t ∈ proof, t.2.size ≤ 1048576) (hpl : proof.length ≤ 1048576) (w : World) (h : B.Kd.file.S w v l) (hC : B.Kd.chunk.C w Af f.2) (h2 : B.Kd.twig.S w u proof) (ht : Hex.Tab w) :
    Calls Tryz.prog 3 #[.agg #[.int .i64 no, v], .string key, .string root, .agg #[.string f.1, .slice Af f.2.length cf], u] w fun e w' => e = .returned (.bool true) ∧ Below w.heap.size w w' := by
  obtain ⟨A, c, rfl, C0⟩ := h
  obtain ⟨Ap, cp, rfl, C1⟩ := h2
  have h : B.Kd.file.S w (.slice A l.length c) l := ⟨A, c, rfl, C0⟩
  have h2 : B.Kd.twig.S w (.slice Ap proof.length cp) proof := ⟨Ap, cp, rfl, C1⟩
  have d1 := Lib.hid (fun W (hb : Below w.heap.size w W) => Copy.copyManifestR no _ l W (h.mono hb) hl (fun g hg => (hs g hg).2.1))
  have d2 := Lib.hid (fun W (v : Value) (hv : B.Kd.file.S W v [f]) => Copy.copyFilesR v [f] W hv (by simp) (fun g hg => by simp at hg; subst hg; exact hsf.2.1))
  have d3 := Lib.hid (fun W (hb : Below w.heap.size w W) => clone_twig _ proof W (h2.mono hb) hpl)
  have hcl : ∀ g ∈ l, g.2.length ≤ 1048576 := fun g hg => (hs g hg).2.1
  have hfl : f.2.length ≤ 1048576 := hsf.2.1
  have HCC := Lib.hid hC
  have HFF := Lib.hid (fun W (hb : Below w.heap.size w W) => (⟨h.mono hb, hC.mono hb, h2.mono hb⟩ : B.Kd.file.S W (.slice A l.length c) l ∧ B.Kd.chunk.C W Af f.2 ∧ B.Kd.twig.S W (.slice Ap proof.length cp) proof))
  have HPV := Lib.hid (fun W (hb : Below w.heap.size w W) => proved_any no _ l key root f Af cf _ proof hs hl hkey hsf hp W (h.mono hb) (hC.mono hb) (h2.mono hb) (ht.below hb))
  have HSM := Lib.hid (fun W v' (h1 : B.Kd.file.S W (.slice A l.length c) l) (h2 : B.Kd.file.S W v' l) => Man.same no no (.slice A l.length c) v' l l W h1 h2)
  rw [show decide (no = no ∧ l = l) = true from decide_eq_true ⟨rfl, rfl⟩] at HSM
  have HSF := Lib.hid (fun W Ax cx (h1 : B.Kd.chunk.C W Af f.2) (h2 : B.Kd.chunk.C W Ax f.2) => Copy.sameFile f f Af Ax cf cx W h1 h2)
  rw [show decide (f = f) = true from decide_eq_true rfl] at HSF
  obtain ⟨W0, hW0⟩ : ∃ W0, W0 = (w.alloc (.cells #[.int .i64 no, .slice A l.length c] 24)).alloc (.cells #[.string f.1, .slice Af f.2.length cf] 27) := ⟨_, rfl⟩
  have HB0 : Hid (Below w.heap.size w W0) := Lib.hid (by rw [hW0]; exact ((Below.refl _ w).alloc (Nat.le_refl _) _).alloc (by simp) _)
  have hw1 : (w.alloc (.cells #[.int .i64 no, .slice A l.length c] 24)).heap.size = w.heap.size + 1 := by simp
  have HN := Lib.hid (fun (W : World) (hb : Below W0.heap.size W0 W) => (by
    have q0 := B.cell_below hb (show W0.cell? ⟨w.heap.size, 0, none⟩ = some (.int .i64 no) from by rw [hW0]; exact B.cell_below ((Below.refl _ (w.alloc (.cells #[.int .i64 no, .slice A l.length c] 24))).alloc (Nat.le_refl _) _) (by rw [World.cell?_alloc_new]; rfl))
    have q1 := B.cell_below hb (show W0.cell? ⟨w.heap.size, 1, none⟩ = some (.slice A l.length c) from by rw [hW0]; exact B.cell_below ((Below.refl _ (w.alloc (.cells #[.int .i64 no, .slice A l.length c] 24))).alloc (Nat.le_refl _) _) (by rw [World.cell?_alloc_new]; rfl))
    have q2 := B.cell_below hb (show W0.cell? ⟨w.heap.size + 1, 0, none⟩ = some (.string f.1) by rw [hW0, ← hw1, World.cell?_alloc_new]; rfl)
    have q3 := B.cell_below hb (show W0.cell? ⟨w.heap.size + 1, 1, none⟩ = some (.slice Af f.2.length cf) by rw [hW0, ← hw1, World.cell?_alloc_new]; rfl)
    exact ⟨q0, q1, q2, q3⟩ : W.cell? ⟨w.heap.size, 0, none⟩ = some (.int .i64 no) ∧ W.cell? ⟨w.heap.size, 1, none⟩ = some (.slice A l.length c) ∧ W.cell? ⟨w.heap.size + 1, 0, none⟩ = some (.string f.1) ∧ W.cell? ⟨w.heap.size + 1, 1, none⟩ = some (.slice Af f.2.length cf)))
  clear h h2 hC ht hs hsf hp hkey C0 C1
  have HI0 := Lib.hid (⟨by rw [← hW0]; exact ⟨rfl, rfl, rfl, Nat.le_refl _, fun _ _ => rfl⟩, nofun, nofun, nofun, nofun, nofun, nofun, nofun, nofun, nofun, nofun, nofun⟩ : Inv W0 no l f proof (.agg #[.int .i64 no, .slice A l.length c]) (.agg #[.string f.1, .slice Af f.2.length cf]) (.slice Ap proof.length cp) false false false false false false false false false false false false false undef undef undef undef undef undef undef undef undef undef undef (((w.alloc (.cells #[.int .i64 no, .slice A l.length c] 24)).alloc (.cells #[.string f.1, .slice Af f.2.length cf] 27)).drewN 1))
  go_enter Tryz.func3, Tryz.ntmps3
  go_wp2
  refine wp_region_any (by kernel_rfl) ?_
  refine region_inv (fun n L a W => ∃ (b0 b1 b2 b3 b4 b5 b6 b7 b8 b9 b10 b11 b12 b13 : Bool) (t11 t12 t13 t14 t15 t16 t17 t18 t19 t20 t21 t22 : Value), L = #[b0, b1, b2, b3, b4, b5, b6, b7, b8, b9, b10, b11, b12, b13] ∧ n = left b0 + left b1 + left b2 + left b3 + left b4 + left b5 + left b6 + left b7 + left b8 + left b9 + left b10 + left b11 + left b12 + left b13 ∧
    a = ({ tmps := #[.agg #[.int .i64 no, .slice A l.length c], .string key, .string root, .agg #[.string f.1, .slice Af f.2.length cf], .slice Ap proof.length cp, .pointer (some ⟨w.heap.size, 0, none⟩), undef, undef, .pointer (some ⟨w.heap.size + 1, 0, none⟩), undef, .bool false, t11, t12, t13, t14, t15, t16, t17, t18, t19, t20, t21, t22, undef, undef, undef, undef, undef, undef, undef, undef, undef, undef, undef, undef, undef, undef, undef, undef, undef, undef, undef, undef, undef], defers := [] } : Act) ∧ (b13 = true → t13 = t22 ∧ b8 = true) ∧ Dep b1 b3 b4 b5 b6 b8 b9 b10 b11 b12 ∧
    Inv W0 no l f proof (.agg #[.int .i64 no, .slice A l.length c]) (.agg #[.string f.1, .slice Af f.2.length cf]) (.slice Ap proof.length cp) b0 b1 b2 b3 b4 b5 b6 b7 b8 b9 b10 b11 b12 t11 t12 t14 t15 t16 t17 t18 t19 t20 t21 t22 W) ?hs ?h0 ?hd _ _ _ _ ⟨false, false, false, false, false, false, false, false, false, false, false, false, false, false, undef, undef, undef, undef, undef, undef, undef, undef, undef, undef, undef, undef, by kernel_rfl, by kernel_rfl, rfl, nofun, ⟨nofun, nofun, nofun, nofun, nofun, nofun, nofun, nofun, nofun⟩, HI0.out⟩
  case h0 =>
    rintro L a W ⟨b0, b1, b2, b3, b4, b5, b6, b7, b8, b9, b10, b11, b12, b13, -, -, -, -, -, -, -, -, -, -, -, -, rfl, hn, -⟩
    have HT : ∀ b, left b = 0 → b = true := by decide
    have e0 := HT b0 (by omega)
    have e1 := HT b1 (by omega)
    have e2 := HT b2 (by omega)
    have e3 := HT b3 (by omega)
    have e4 := HT b4 (by omega)
    have e5 := HT b5 (by omega)
    have e6 := HT b6 (by omega)
    have e7 := HT b7 (by omega)
    have e8 := HT b8 (by omega)
    have e9 := HT b9 (by omega)
    have e10 := HT b10 (by omega)
    have e11 := HT b11 (by omega)
    have e12 := HT b12 (by omega)
    have e13 := HT b13 (by omega)
    subst e0 e1 e2 e3 e4 e5 e6 e7 e8 e9 e10 e11 e12 e13
    show Region.ready .any _ _ = []
    kernel_rfl
  case hd =>
    rintro n L a W ⟨b0, b1, b2, b3, b4, b5, b6, b7, b8, b9, b10, b11, b12, b13, t11, t12, t13, t14, t15, t16, t17, t18, t19, t20, t21, t22, rfl, hn, rfl, h13, -, hI⟩ hr
    unfold Region.ready at hr
    rw [List.filter_eq_nil_iff] at hr
    have e7 : b7 = true := by
      have := hr 7 (by simp)
      simpa [Region.binds] using this
    subst e7
    have e0 : b0 = true := by
      have := hr 0 (by simp)
      simpa [Region.binds] using this
    subst e0
    have e2 : b2 = true := by
      have := hr 2 (by simp)
      simpa [Region.binds] using this
    subst e2
    have e9 : b9 = true := by
      have := hr 9 (by simp)
      simpa [Region.binds] using this
    subst e9
    have e10 : b10 = true := by
      have := hr 10 (by simp)
      simpa [Region.binds] using this
    subst e10
    have e1 : b1 = true := by
      have := hr 1 (by simp)
      simpa [Region.binds] using this
    subst e1
    have e3 : b3 = true := by
      have := hr 3 (by simp)
      simpa [Region.binds] using this
    subst e3
    have e4 : b4 = true := by
      have := hr 4 (by simp)
      simpa [Region.binds] using this
    subst e4
    have e5 : b5 = true := by
      have := hr 5 (by simp)
      simpa [Region.binds] using this
    subst e5
    have e6 : b6 = true := by
      have := hr 6 (by simp)
      simpa [Region.binds] using this
    subst e6
    have e8 : b8 = true := by
      have := hr 8 (by simp)
      simpa [Region.binds] using this
    subst e8
    have e11 : b11 = true := by
      have := hr 11 (by simp)
      simpa [Region.binds] using this
    subst e11
    have e12 : b12 = true := by
      have := hr 12 (by simp)
      simpa [Region.binds] using this
    subst e12
    have e13 : b13 = true := by
      have := hr 13 (by simp)
      simpa [Region.binds] using this
    subst e13
    clear hr
    obtain ⟨p, xp, yp, rfl, -, hp2, hp3⟩ := hI.h9 rfl
    obtain ⟨q, xq, yq, rfl, -, hq2, hq3, -⟩ := hI.h10 rfl
    obtain ⟨A1, c1, rfl, hF1⟩ := hI.h1 rfl
    obtain ⟨Ax, cx, rfl, hX⟩ := hI.h6 rfl
    obtain ⟨A3, c3, rfl, hT⟩ := hI.h8 rfl
    obtain ⟨rfl, rfl⟩ : xp = .int .i64 no ∧ yp = .slice A1 l.length c1 := by simpa using hp3 rfl
    obtain ⟨rfl, rfl⟩ : xq = .string f.1 ∧ yq = .slice Ax f.2.length cx := by simpa using hq3 rfl
    obtain rfl := (h13 rfl).1
    obtain ⟨p0, p1, -, -⟩ := cells_of hp2
    obtain ⟨q0, q1, -, -⟩ := cells_of hq2
    have B0 := hI.below
    have BW := HB0.out.trans (B0.mono HB0.out.size)
    have SM := hF1.S hl hcl
    have SX := B.own_chunk hX (by omega)
    have ST := own_twig hT (by omega)
    obtain ⟨Ay, cy, ey, CX⟩ := SX
    cases ey
    obtain ⟨g0, g1, g2, g3⟩ := HN.out _ B0
    clear hI h13 hn hp2 hp3 hq2 hq3 hF1 hX hT HI0 d1 d2 d3
    go_wp2_with (first
      | (go_at_call 7; refine (HPV.out _ BW).mono ?_; rintro e w7 ⟨rfl, B7⟩; have B07 := B.below_trans B0 B7; have BW7 := B.below_trans BW B7; have SM := SM.mono B7; have CX := CX.mono B7; have ST := ST.mono B7; obtain ⟨g0, g1, g2, g3⟩ := HN.out _ B07; have p0 := B.cell_below B7 p0; have p1 := B.cell_below B7 p1; have q0 := B.cell_below B7 q0; have q1 := B.cell_below B7 q1)
      | (go_at_call 8; refine (HSM.out _ _ (HFF.out _ BW7).1 SM).mono ?_; rintro e w8 ⟨rfl, B8⟩; have B08 := B.below_trans B07 B8; have BW8 := B.below_trans BW7 B8; have CX := CX.mono B8; have ST := ST.mono B8; obtain ⟨g0, g1, g2, g3⟩ := HN.out _ B08; have p0 := B.cell_below B8 p0; have p1 := B.cell_below B8 p1; have q0 := B.cell_below B8 q0; have q1 := B.cell_below B8 q1)
      | (go_at_call 9; refine (HSF.out _ _ _ (HFF.out _ BW8).2.1 CX).mono ?_; rintro e w9 ⟨rfl, B9⟩; have BW9 := B.below_trans BW8 B9; have ST := ST.mono B9)
      | (go_at_call 10; refine (Eq.eq_twig _ _ proof proof _ (HFF.out _ BW9).2.2 ST true (decide_eq_true rfl)).mono ?_; rintro e wa ⟨rfl, Ba⟩; have BWa := B.below_trans BW9 Ba))
    go_ret
    exact ⟨rfl, BWa⟩
  case hs =>
    rintro n L a W ⟨b0, b1, b2, b3, b4, b5, b6, b7, b8, b9, b10, b11, b12, b13, t11, t12, t13, t14, t15, t16, t17, t18, t19, t20, t21, t22, rfl, hn, rfl, h13, hdep, hI⟩ ih i hi
    have hlt : left true = 0 := rfl
    have hlf : left false = 1 := rfl
    unfold Region.ready at hi
    rw [List.mem_filter] at hi
    obtain ⟨hr, hc⟩ := hi
    have hr14 : i < 14 := by simpa using hr
    have B0 := hI.below
    have BW := HB0.out.trans (B0.mono HB0.out.size)
    obtain ⟨g0, g1, g2, g3⟩ := HN.out _ B0
    clear hr
    obtain rfl | rfl | rfl | rfl | rfl | rfl | rfl | rfl | rfl | rfl | rfl | rfl | rfl | rfl : i = 0 ∨ i = 1 ∨ i = 2 ∨ i = 3 ∨ i = 4 ∨ i = 5 ∨ i = 6 ∨ i = 7 ∨ i = 8 ∨ i = 9 ∨ i = 10 ∨ i = 11 ∨ i = 12 ∨ i = 13 := by omega
    · simp [Region.binds] at hc
      have e0 : b0 = false := by simp [hc]
      clear hc
      subst e0
      refine wpOp_step rfl (fun K hK => ?_)
      go_simp
      refine hK _ _ (ih _ _ _ ⟨_, _, _, _, _, _, _, _, _, _, _, _, _, _, _, _, _, _, _, _, _, _, _, _, _, _, rfl, by omega, rfl, h13, hdep, hI.op0⟩)
    · simp [Region.binds] at hc
      have e1 : b1 = false := by simp [hc]
      have eb0 : b0 = true := by simp [hc]
      have eb11 : b11 = false := off hdep.d11 (by assumption)
      clear hc
      subst e1 eb0 eb11
      obtain rfl := hI.h0 rfl
      refine wpOp_step rfl (fun K hK => ?_)
      go_simp
      go_at_call 4
      refine (d1.out _ BW).mono ?_
      rintro e W' ⟨v', rfl, hF, hb⟩
      go_simp
      refine hK _ _ (ih _ _ _ ⟨_, _, _, _, _, _, _, _, _, _, _, _, _, _, _, _, _, _, _, _, _, _, _, _, _, _, rfl, by omega, rfl, h13, { hdep with d11 := fun _ => rfl }, hI.op1 hb hF⟩)
    · simp [Region.binds] at hc
      have e2 : b2 = false := by simp [hc]
      clear hc
      subst e2
      refine wpOp_step rfl (fun K hK => ?_)
      go_simp
      refine hK _ _ (ih _ _ _ ⟨_, _, _, _, _, _, _, _, _, _, _, _, _, _, _, _, _, _, _, _, _, _, _, _, _, _, rfl, by omega, rfl, h13, hdep, hI.op2⟩)
    · simp [Region.binds] at hc
      have e3 : b3 = false := by simp [hc]
      have eb2 : b2 = true := by simp [hc]
      have eb4 : b4 = false := off hdep.d43 (by assumption)
      have eb5 : b5 = false := off hdep.d54 (by assumption)
      have eb6 : b6 = false := off hdep.d65 (by assumption)
      have eb12 : b12 = false := off hdep.d26 (by assumption)
      clear hc
      subst e3 eb2 eb4 eb5 eb6 eb12
      obtain rfl := hI.h2 rfl
      refine wpOp_step rfl (fun K hK => ?_)
      go_simp
      refine hK _ _ (ih _ _ _ ⟨_, _, _, _, _, _, _, _, _, _, _, _, _, _, _, _, _, _, _, _, _, _, _, _, _, _, rfl, by omega, rfl, h13, { hdep with d43 := fun _ => rfl }, hI.op3 (lit_file W f Af cf (HCC.out.mono BW) _)⟩)
    · simp [Region.binds] at hc
      have e4 : b4 = false := by simp [hc]
      have eb3 : b3 = true := by simp [hc]
      have eb1 : b1 = true := by simp [hc]
      have eb5 : b5 = false := off hdep.d54 (by assumption)
      have eb6 : b6 = false := off hdep.d65 (by assumption)
      have eb12 : b12 = false := off hdep.d26 (by assumption)
      clear hc
      subst e4 eb3 eb1 eb5 eb6 eb12
      obtain ⟨s, rfl, hS⟩ := hI.h3 rfl rfl
      refine wpOp_step rfl (fun K hK => ?_)
      go_simp
      go_at_call 5
      refine (d2.out _ _ hS).mono ?_
      rintro e W' ⟨v', rfl, hF, hb⟩
      obtain ⟨g, c2, rfl, hI2⟩ := hI.op4 rfl hb hF
      go_simp
      refine hK _ _ (ih _ _ _ ⟨_, _, _, _, _, _, _, _, _, _, _, _, _, _, _, _, _, _, _, _, _, _, _, _, _, _, rfl, by omega, rfl, h13, { hdep with d43 := fun _ => rfl, d54 := fun _ => rfl }, hI2⟩)
    · simp [Region.binds] at hc
      have e5 : b5 = false := by simp [hc]
      have eb4 : b4 = true := by simp [hc]
      have eb6 : b6 = false := off hdep.d65 (by assumption)
      have eb12 : b12 = false := off hdep.d26 (by assumption)
      clear hc
      subst e5 eb4 eb6 eb12
      obtain ⟨g, c2, rfl⟩ := hI.at5
      refine wpOp_step rfl (fun K hK => ?_)
      go_simp
      refine hK _ _ (ih _ _ _ ⟨_, _, _, _, _, _, _, _, _, _, _, _, _, _, _, _, _, _, _, _, _, _, _, _, _, _, rfl, by omega, rfl, h13, { hdep with d54 := fun _ => rfl, d65 := fun _ => rfl }, hI.op5 rfl⟩)
    · simp [Region.binds] at hc
      have e6 : b6 = false := by simp [hc]
      have eb5 : b5 = true := by simp [hc]
      have eb4 : b4 = true := hdep.d54 (by assumption)
      have eb12 : b12 = false := off hdep.d26 (by assumption)
      clear hc
      subst e6 eb5 eb4 eb12
      obtain ⟨g, Ax, cx, rfl, x0, x1, hI2⟩ := hI.at6 rfl
      refine wpOp_step rfl (fun K hK => ?_)
      go_simp
      refine hK _ _ (ih _ _ _ ⟨_, _, _, _, _, _, _, _, _, _, _, _, _, _, _, _, _, _, _, _, _, _, _, _, _, _, rfl, by omega, rfl, h13, { hdep with d65 := fun _ => rfl, d26 := fun _ => rfl }, hI2⟩)
    · simp [Region.binds] at hc
      have e7 : b7 = false := by simp [hc]
      clear hc
      subst e7
      refine wpOp_step rfl (fun K hK => ?_)
      go_simp
      refine hK _ _ (ih _ _ _ ⟨_, _, _, _, _, _, _, _, _, _, _, _, _, _, _, _, _, _, _, _, _, _, _, _, _, _, rfl, by omega, rfl, h13, hdep, hI.op7⟩)
    · simp [Region.binds] at hc
      have e8 : b8 = false := by simp [hc]
      have eb7 : b7 = true := by simp [hc]
      have eb4 : b4 = true := by simp [hc]
      clear hc
      subst e8 eb7 eb4
      obtain rfl := hI.h7 rfl
      refine wpOp_step rfl (fun K hK => ?_)
      go_simp
      go_at_call 6
      refine (d3.out _ BW).mono ?_
      rintro e W' ⟨v', rfl, hF, hb⟩
      go_simp
      refine hK _ _ (ih _ _ _ ⟨_, _, _, _, _, _, _, _, _, _, _, _, _, _, _, _, _, _, _, _, _, _, _, _, _, _, rfl, by omega, rfl, fun e => absurd (h13 e).2 (by decide), { hdep with d18 := fun _ => rfl }, hI.op8 hb hF⟩)
    · simp [Region.binds] at hc
      have e9 : b9 = false := by simp [hc]
      have eb11 : b11 = false := off hdep.d19 (by assumption)
      have eb12 : b12 = false := off hdep.d21 (by assumption)
      clear hc
      subst e9 eb11 eb12
      refine wpOp_step rfl (fun K hK => ?_)
      go_simp
      refine hK _ _ (ih _ _ _ ⟨_, _, _, _, _, _, _, _, _, _, _, _, _, _, _, _, _, _, _, _, _, _, _, _, _, _, rfl, by omega, rfl, h13, { hdep with d19 := fun _ => rfl }, hI.op9 _ _⟩)
    · simp [Region.binds] at hc
      have e10 : b10 = false := by simp [hc]
      have eb12 : b12 = false := off hdep.d20 (by assumption)
      clear hc
      subst e10 eb12
      refine wpOp_step rfl (fun K hK => ?_)
      go_simp
      refine hK _ _ (ih _ _ _ ⟨_, _, _, _, _, _, _, _, _, _, _, _, _, _, _, _, _, _, _, _, _, _, _, _, _, _, rfl, by omega, rfl, h13, { hdep with d20 := fun _ => rfl }, hI.op10 _ _⟩)
    · simp [Region.binds] at hc
      have e11 : b11 = false := by simp [hc]
      have eb9 : b9 = true := by simp [hc]
      have eb1 : b1 = true := by simp [hc]
      have eb8 : b8 = true := by simp [hc]
      have eb0 : b0 = true := by simp [hc]
      have eb10 : b10 = true := by simp [hc]
      have eb12 : b12 = false := off hdep.d21 (by assumption)
      clear hc
      subst e11 eb9 eb1 eb8 eb0 eb10 eb12
      obtain ⟨p, x, y, A1, c1, rfl, hh, rfl, hI2⟩ := hI.at11
      obtain ⟨x0, x1, x2, x3⟩ := cells_of hh
      refine wpOp_step rfl (fun K hK => ?_)
      go_simp
      refine hK _ _ (ih _ _ _ ⟨_, _, _, _, _, _, _, _, _, _, _, _, _, _, _, _, _, _, _, _, _, _, _, _, _, _, rfl, by omega, rfl, h13, { hdep with d11 := fun _ => rfl, d19 := fun _ => rfl, d18 := fun _ => rfl, d21 := fun _ => rfl }, hI2⟩)
    · simp [Region.binds] at hc
      have e12 : b12 = false := by simp [hc]
      have eb10 : b10 = true := by simp [hc]
      have eb6 : b6 = true := by simp [hc]
      have eb11 : b11 = true := by simp [hc]
      have eb1 : b1 = true := by simp [hc]
      have eb8 : b8 = true := hdep.d18 (by assumption)
      have eb9 : b9 = true := by simp [hc]
      clear hc
      subst e12 eb10 eb6 eb11 eb1 eb8 eb9
      obtain ⟨q, x, y, Ax, cx, rfl, hh, rfl, hI2⟩ := hI.at12
      obtain ⟨x0, x1, x2, x3⟩ := cells_of hh
      refine wpOp_step rfl (fun K hK => ?_)
      go_simp
      refine hK _ _ (ih _ _ _ ⟨_, _, _, _, _, _, _, _, _, _, _, _, _, _, _, _, _, _, _, _, _, _, _, _, _, _, rfl, by omega, rfl, h13, { hdep with d20 := fun _ => rfl, d26 := fun _ => rfl, d21 := fun _ => rfl }, hI2⟩)
    · simp [Region.binds] at hc
      have e13 : b13 = false := by simp [hc]
      have eb8 : b8 = true := by simp [hc]
      clear hc
      subst e13 eb8
      refine wpOp_step rfl (fun K hK => ?_)
      go_simp
      refine hK _ _ (ih _ _ _ ⟨_, _, _, _, _, _, _, _, _, _, _, _, _, _, _, _, _, _, _, _, _, _, _, _, _, _, rfl, by omega, rfl, fun _ => ⟨rfl, rfl⟩, hdep, hI⟩)
end Go.Proofs.YtmcbljongeadeaaGreatDoor.Pf
