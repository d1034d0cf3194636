/- Greatest common divisors: kit.Gcd, loop.divisor, the reference's divisor. -/
import Derived.Test.YtfillnkebohciaaGreatDoorPassRQ
namespace Go.Proofs.YtfillnkebohciaaGreatDoor.T
open Go.RowKit
open L (Lp)

theorem drew2 {w wr : World} {m : Nat} (h : ∃ q, wr = w.drewN q) : ∃ q, wr.drewN m = w.drewN q := by
  obtain ⟨q, rfl⟩ := h
  exact ⟨q + m, by simp [World.drewN, Nat.add_assoc]⟩
theorem drew3 {w wr w2 : World} (h : ∃ q, wr = w.drewN q) (h2 : ∃ q, w2 = wr.drewN q) : ∃ q, w2 = w.drewN q := by
  obtain ⟨q, rfl⟩ := h2
  exact drew2 h
theorem gcd_step {a b : Nat} : Nat.gcd b (a % b) = Nat.gcd a b := by rw [Nat.gcd_comm a b, Nat.gcd_rec b a, Nat.gcd_comm]
/-- The greatest common divisor of numbers and g. -/
def gcdL : List Int → Nat → Nat
  | [], g => g
  | n :: ns, g => gcdL ns (Nat.gcd g n.toNat)
theorem gcdL_drop {l : List Int} {k : Nat} (h : k < l.length) (g : Nat) : gcdL (l.drop k) g = gcdL (l.drop (k + 1)) (Nat.gcd g l[k].toNat) := by rw [List.drop_eq_getElem_cons h, gcdL]
theorem gcd_le {g : Nat} {n : Int} (h0 : 1 ≤ n) (h1 : n ≤ 1000) : Nat.gcd g n.toNat ≤ 1000 ∧ 1 ≤ Nat.gcd g n.toNat := by
  have := Nat.le_of_dvd (by omega) (Nat.gcd_dvd_right g n.toNat)
  have := Nat.gcd_pos_of_pos_right g (n := n.toNat) (by omega)
  omega
set_option maxHeartbeats 1000000 in
theorem gcd_any (a b : Nat) (ha : a ≤ 1000000000000) (hb : b ≤ 1000000000000) (w : World) :
    Calls Tryz.prog 69 #[.int .i64 a, .int .i64 b] w fun e w' => e = .returned (.int .i64 (Nat.gcd a b)) ∧ ∃ q, w' = w.drewN q := by
  have HG : Hid (Nat.gcd a b = Nat.gcd a b) := Lib.hid rfl
  generalize hG : Nat.gcd a b = G at HG ⊢
  have HGG := Lib.hid hG
  clear hG HG
  go_enter Tryz.func69, Tryz.ntmps69
  go_wp2
  go_loopw [0, 1] (fun s0 s1 wr => ∃ a' b' : Nat, s0 = .int .i64 a' ∧ s1 = .int .i64 b' ∧ a' ≤ 1000000000000 ∧ b' ≤ 1000000000000 ∧ Hid (Nat.gcd a' b' = G) ∧ Hid (∃ q, wr = w.drewN q)) (fun _ s _ => (intOf s).toNat)
  case atStart => exact ⟨a, b, rfl, rfl, ha, hb, HGG, Lib.hid ⟨0, rfl⟩⟩
  case round =>
    obtain ⟨a', b', rfl, rfl, ha', hb', HG, HB⟩ := hrel
    by_cases h0 : b' = 0
    · have hb0 : ((b' : Int) != 0) = false := by subst h0; rfl
      have HG2 : Hid (a' = G) := Lib.hid (by rw [← HG.out, h0, Nat.gcd_zero_right])
      have hmx : max (a' : Int) (-(a' : Int)) = a' := by omega
      clear h0
      go_wp2
      go_ret
      exact ⟨by rw [← HG2.out]; rfl, HB.out⟩
    · have hb0 : ((b' : Int) != 0) = true := by rw [bne_iff_ne]; omega
      have hlt := Nat.mod_lt a' (show 0 < b' by omega)
      have e : ((a' : Int).tmod b') = ((a' % b' : Nat) : Int) := by rw [Int.tmod_eq_emod_of_nonneg (by omega)]; rfl
      have HL : Hid (a' % b' < b') := Lib.hid hlt
      have HG2 : Hid (Nat.gcd b' (a' % b') = G) := Lib.hid (by rw [gcd_step, HG.out])
      generalize a' % b' = q at e HL HG2 hlt
      have hnz : ¬ ((b' : Int) = 0) := by omega
      have hnz2 : ¬ (b' = 0) := by omega
      clear hlt h0
      go_wp2
      go_quiet (fail)
      go_wp2
      go_roundw
      case rel => exact ⟨b', q, rfl, rfl, hb', by have := HL.out; omega, HG2, Lib.hid (drew2 HB.out)⟩
      case measure => simp [intOf]; exact HL.out
set_option maxHeartbeats 1000000 in
theorem rdiv_any (a b : Nat) (ha : a ≤ 1000000000000) (hb : b ≤ 1000000000000) (w : World) :
    Calls Tryz.prog 74 #[.int .i64 a, .int .i64 b] w fun e w' => e = .returned (.int .i64 (Nat.gcd a b)) ∧ ∃ q, w' = w.drewN q := by
  have HG : Hid (Nat.gcd a b = Nat.gcd a b) := Lib.hid rfl
  generalize hG : Nat.gcd a b = G at HG ⊢
  have HGG := Lib.hid hG
  clear hG HG
  go_enter Tryz.func74, Tryz.ntmps74
  go_wp2
  go_loopw [0, 1] (fun s0 s1 wr => ∃ a' b' : Nat, s0 = .int .i64 a' ∧ s1 = .int .i64 b' ∧ a' ≤ 1000000000000 ∧ b' ≤ 1000000000000 ∧ Hid (Nat.gcd a' b' = G) ∧ Hid (∃ q, wr = w.drewN q)) (fun _ s _ => (intOf s).toNat)
  case atStart => exact ⟨a, b, rfl, rfl, ha, hb, HGG, Lib.hid ⟨0, rfl⟩⟩
  case round =>
    obtain ⟨a', b', rfl, rfl, ha', hb', HG, HB⟩ := hrel
    by_cases h0 : b' = 0
    · have hb0 : ((b' : Int) != 0) = false := by subst h0; rfl
      have HG2 : Hid (a' = G) := Lib.hid (by rw [← HG.out, h0, Nat.gcd_zero_right])
      have hmx : max (a' : Int) (-(a' : Int)) = a' := by omega
      clear h0
      go_wp2
      go_ret
      exact ⟨by rw [← HG2.out]; rfl, HB.out⟩
    · have hb0 : ((b' : Int) != 0) = true := by rw [bne_iff_ne]; omega
      have hlt := Nat.mod_lt a' (show 0 < b' by omega)
      have e : ((a' : Int).tmod b') = ((a' % b' : Nat) : Int) := by rw [Int.tmod_eq_emod_of_nonneg (by omega)]; rfl
      have HL : Hid (a' % b' < b') := Lib.hid hlt
      have HG2 : Hid (Nat.gcd b' (a' % b') = G) := Lib.hid (by rw [gcd_step, HG.out])
      generalize a' % b' = q at e HL HG2 hlt
      have hnz : ¬ ((b' : Int) = 0) := by omega
      have hnz2 : ¬ (b' = 0) := by omega
      clear hlt h0
      go_wp2
      go_quiet (fail)
      go_wp2
      go_roundw
      case rel => exact ⟨b', q, rfl, rfl, hb', by have := HL.out; omega, HG2, Lib.hid (drew2 HB.out)⟩
      case measure => simp [intOf]; exact HL.out
set_option maxHeartbeats 1000000 in
theorem divisor_any (A : Option Addr) (c : Nat) (l : List Int) (w0 w : World) (h : B.Kd.int.C w0 A l) (hb : Below w0.heap.size w0 w) (hl : ∀ s ∈ l, 1 ≤ s ∧ s ≤ 1000) :
    Calls Tryz.prog 105 #[.slice A l.length c] w fun e w' => e = .returned (.int .i64 (gcdL l 0)) ∧ ∃ q, w' = w.drewN q := by
  have L := h.1
  have HH := Lib.hid h
  have HB0 := Lib.hid hb
  have HS := Lib.hid hl
  clear h hb hl
  go_enter Tryz.func105, Tryz.ntmps105
  go_wp2
  go_loopw [3, 8] (fun s3 s8 wr => ∃ k g : Nat, s8 = .int .i64 k ∧ s3 = .int .i64 g ∧ k ≤ l.length ∧ g ≤ 1000 ∧ Hid (gcdL (l.drop k) g = gcdL l 0) ∧ Hid (∃ q, wr = w.drewN q)) (fun _ s _ => l.length - (intOf s).toNat)
  case atStart => exact ⟨0, 0, rfl, rfl, by omega, by omega, Lib.hid (by rw [List.drop_zero]), Lib.hid ⟨0, rfl⟩⟩
  case round =>
    obtain ⟨k, g, rfl, rfl, hk, hg, HG, HB⟩ := hrel
    by_cases hlt : k < l.length
    · obtain ⟨b2, o2, rfl, f0⟩ := share_at (w := wr) HH.out (by obtain ⟨q, e⟩ := HB.out; rw [e]; exact HB0.out.trans (B.below_drew (Below.refl _ _) q)) k hlt
      have hs := HS.out l[k] (List.getElem_mem hlt)
      rw [getD_at hlt] at f0
      have HG2 := HG.out
      rw [gcdL_drop hlt] at HG2
      have HG3 := Lib.hid HG2
      have HLE := Lib.hid (gcd_le (g := g) hs.1 hs.2)
      generalize l[k] = n at hs f0 HG3 HLE
      obtain ⟨m, rfl⟩ : ∃ m : Nat, n = m := ⟨n.toNat, by omega⟩
      rw [Int.toNat_natCast] at HG3 HLE
      have cg := gcd_any g m (by omega) (by omega) wr
      have hk1 : (k : Int) < l.length := by omega
      clear HG2 hs
      go_wp2_with (go_at_call 69; refine cg.mono ?_; rintro e w2 ⟨rfl, hB2⟩; have HB2 := Lib.hid (drew3 HB.out hB2); clear hB2)
      go_roundw
      case rel => exact ⟨k + 1, Nat.gcd g m, by go_num, rfl, by omega, HLE.out.1, HG3, HB2⟩
      case measure => simp [intOf]; omega
    · obtain rfl : k = l.length := by omega
      have HG2 := HG.out
      rw [List.drop_length, gcdL] at HG2
      have HG3 := Lib.hid HG2
      clear HG2
      go_wp2
      go_ret
      exact ⟨by rw [← HG3.out]; rfl, HB.out⟩
/-! ### when a part is as at the beginning -/
theorem gcdL_pos : ∀ (l : List Int) (g : Nat), (∀ s ∈ l, 1 ≤ s ∧ s ≤ 1000) → 1 ≤ g → 1 ≤ gcdL l g ∧ gcdL l g ≤ g := by
  intro l
  induction l with
  | nil => intro g _ h; exact ⟨h, Nat.le_refl _⟩
  | cons n ns ih =>
    intro g h hg
    have h1 := h n List.mem_cons_self
    have h2 := Nat.gcd_pos_of_pos_right g (n := n.toNat) (by omega)
    have h3 := Nat.le_of_dvd (by omega) (Nat.gcd_dvd_left g n.toNat)
    have := ih (Nat.gcd g n.toNat) (fun s hs => h s (List.mem_cons_of_mem _ hs)) h2
    exact ⟨this.1, Nat.le_trans this.2 h3⟩
theorem sumI_le : ∀ (l : List Int) (s : Int), (∀ n ∈ l, 1 ≤ n ∧ n ≤ 1000) → 0 ≤ s → s + 1000 * l.length ≤ 4000000000 → s + l.length ≤ sumI l s ∧ sumI l s ≤ s + 1000 * l.length ∧ (l ≠ [] → ∀ n, l.head? = some n → s + n ≤ sumI l s) := by
  intro l
  induction l with
  | nil => intro s _ _ _; simp [sumI]
  | cons n ns ih =>
    intro s h h0 hb
    have h1 := h n List.mem_cons_self
    have hb' : s + 1000 * ((ns.length : Int) + 1) ≤ 4000000000 := by simpa using hb
    have hw : w64 (s + n) = s + n := by rw [w64_eq]; unfold wrap64; omega
    have := ih (s + n) (fun s hs => h s (List.mem_cons_of_mem _ hs)) (by omega) (by omega)
    rw [sumI, hw]
    simp only [List.length_cons]
    refine ⟨by omega, by omega, fun _ m hm => ?_⟩
    simp at hm
    omega
theorem share_div {l : List Int} (hl : ∀ s ∈ l, 1 ≤ s ∧ s ≤ 1000) (hp : 0 < l.length) (hn : l.length ≤ 1048576) : (1 ≤ gcdL l 0 ∧ gcdL l 0 ≤ 1000) ∧ (gcdL l 0 : Int) ≤ sumI l 0 ∧ sumI l 0 ≤ 4000000000 := by
  obtain ⟨n, ns, rfl⟩ : ∃ n ns, l = n :: ns := by cases l with | nil => simp at hp | cons n ns => exact ⟨n, ns, rfl⟩
  have h1 := hl n List.mem_cons_self
  have hs := sumI_le (n :: ns) 0 hl (by omega) (by have : (((n :: ns).length : Nat) : Int) ≤ 1048576 := by omega
                                                   omega)
  have h2 := hs.2.2 (by simp) n rfl
  have hg := gcdL_pos ns n.toNat (fun s h => hl s (List.mem_cons_of_mem _ h)) (by omega)
  have e : gcdL (n :: ns) 0 = gcdL ns n.toNat := by rw [gcdL, Nat.gcd_zero_left]
  rw [e]
  refine ⟨⟨hg.1, by omega⟩, by omega, by have := hs.2.1; have : (((n :: ns).length : Nat) : Int) ≤ 1048576 := by omega
                                         omega⟩
/-- After how many passes a part alone is as at the beginning. -/
def every (x : Lp) : Int := if x.kind = 3 then x.kids.length else if x.kind = 4 then (sumI x.shares 0).tdiv (gcdL x.shares 0) else 1
def homeB : Nat → Lp → St → Bool
  | 0, x, st => decide (st.had.tmod (every x) = 0)
  | n + 1, x, st => decide (st.had.tmod (every x) = 0) && (x.kids.zip st.kids).all fun p => homeB n p.1 p.2
theorem every_pos {x : Lp} (h : L.own x = 0) (hn : x.shares.length ≤ 1048576) : 1 ≤ every x ∧ every x ≤ 4000000000 ∨ x.kind = 3 := by
  obtain ⟨a1, a2, a3, a4, a5, a6, -⟩ := own_ok h
  unfold every
  split
  · exact .inr (by assumption)
  split
  · rename_i h4
    have hp : 0 < x.shares.length := by rw [a5 h4]; exact a3 (by omega)
    obtain ⟨⟨g1, g2⟩, g3, g4⟩ := share_div a6 hp hn
    refine .inl ?_
    rw [Int.tdiv_eq_ediv_of_nonneg (by omega)]
    have h1 : 1 ≤ sumI x.shares 0 / (gcdL x.shares 0 : Int) := (Int.le_ediv_iff_mul_le (by omega)).2 (by omega)
    have h2 := Int.ediv_le_self (a := sumI x.shares 0) (gcdL x.shares 0 : Int) (by omega)
    omega
  · exact .inl (by omega)
end Go.Proofs.YtfillnkebohciaaGreatDoor.T
