/- Loops that are played: trees in memory, and what they play. -/
import Derived.Test.YtfillnkebohciaaGreatDoorLpStay
namespace Go.Proofs.YtfillnkebohciaaGreatDoor.T
open Go.RowKit
open L (Lp row row1 At AtR lv kdL kid_at)
open F (Fr Cl)

/-- How often a part passed, how often each kid was dealt, and the kids. -/
inductive St where
  | mk (had : Int) (cnt : List Int) (kids : List St)
def St.had : St → Int | .mk h _ _ => h
def St.cnt : St → List Int | .mk _ c _ => c
def St.kids : St → List St | .mk _ _ k => k
abbrev Step := ByteArray × Int
def w64 (n : Int) : Int := IntKind.i64.wrap n
def sumI : List Int → Int → Int
  | [], s => s
  | n :: ns, s => sumI ns (w64 (s + n))
theorem sumI_drop {l : List Int} {k : Nat} (h : k < l.length) (s : Int) : sumI (l.drop k) s = sumI (l.drop (k + 1)) (w64 (s + l[k])) := by rw [List.drop_eq_getElem_cons h, sumI]
/-- The best of the places from i on. -/
def scan (f : Nat → Int) : Nat → Nat → Nat → Nat
  | 0, _, b => b
  | m + 1, i, b => scan f m (i + 1) (if f b < f i then i else b)
theorem scan_lt (f : Nat → Int) : ∀ (m i b n : Nat), i + m ≤ n → b < n → scan f m i b < n := by
  intro m
  induction m with
  | zero => intro i b n _ hb; exact hb
  | succ m ih =>
    intro i b n h hb
    unfold scan
    refine ih _ _ n (by omega) ?_
    split <;> omega
def score (x : Lp) (had : Int) (cnt : List Int) (i : Nat) : Int := w64 (w64 (x.shares.getD i 0 * w64 (had + 1)) - w64 (cnt.getD i 0 * sumI x.shares 0))
def next (x : Lp) (had : Int) (cnt : List Int) : Nat := scan (score x had cnt) x.shares.length 0 0
/-- The kids that are played in a pass, in order. -/
def idx (x : Lp) (had : Int) (cnt : List Int) : List Nat :=
  if x.kind = 2 then List.range x.kids.length else if x.kind = 3 then [(had.tmod x.kids.length).toNat] else if x.kind = 4 then [next x had cnt] else List.replicate x.many.toNat 0
def runs (f : Nat → St → St × List Step) : List Nat → List St → List St × List Step
  | [], ks => (ks, [])
  | i :: is, ks => match ks[i]? with
    | none => (ks, [])
    | some s => ((runs f is (ks.set i (f i s).1)).1, (f i s).2 ++ (runs f is (ks.set i (f i s).1)).2)
def bump (cnt : List Int) (i : Nat) : List Int := cnt.set i (w64 (cnt.getD i 0 + 1))
/-- A pass. -/
def passS : Nat → Lp → St → St × List Step
  | 0, _, st => (st, [])
  | n + 1, x, st =>
    if x.kind = 1 then (.mk (w64 (st.had + 1)) st.cnt st.kids, [(x.item, x.long)])
    else (.mk (w64 (st.had + 1)) (if x.kind = 4 then bump st.cnt (next x st.had st.cnt) else st.cnt) (runs (fun i s => match x.kids[i]? with | some k => passS n k s | none => (s, [])) (idx x st.had st.cnt) st.kids).1,
      (runs (fun i s => match x.kids[i]? with | some k => passS n k s | none => (s, [])) (idx x st.had st.cnt) st.kids).2)
/-- At the beginning. -/
def st0 : Nat → Lp → St
  | 0, x => .mk 0 (List.replicate x.kids.length 0) []
  | n + 1, x => .mk 0 (List.replicate x.kids.length 0) (x.kids.map (st0 n))
theorem st0_had (n : Nat) (x : Lp) : (st0 n x).had = 0 := by cases n <;> rfl
theorem st0_cnt (n : Nat) (x : Lp) : (st0 n x).cnt = List.replicate x.kids.length 0 := by cases n <;> rfl

/-! ### in memory -/
/-- Where a kid lies. -/
structure KI where
  lo : Nat
  hi : Nat
  b : Nat
structure Fm where
  (A As Ak : Option Addr)
  (c c' ck co go gk : Nat)
  os : List Int
  ki : List KI
/-- A part in memory, without its kids; tst: the program's (it has the sum of the shares too). -/
structure Nd (tst : Bool) (w0 w : World) (lo hi : Nat) (x : Lp) (b : Nat) (had : Int) (cnt : List Int) (f : Fm) : Prop where
  lob : lo ≤ b
  bhi : b < hi
  hiw : hi ≤ w.heap.size
  ok : x.ok
  rw : ∀ i u, (row x f.A f.As f.c f.c')[i]? = some u → Cl w b i u
  c6 : Cl w b 6 (.slice f.Ak x.kids.length f.ck)
  c7 : Cl w b 7 (.int .i64 had)
  c8 : Cl w b 8 (.slice (some ⟨f.go, 0, none⟩) x.kids.length f.co)
  c9 : tst = true → Cl w b 9 (.int .i64 (sumI x.shares 0))
  sh : B.Kd.int.C w0 f.As x.shares
  ol : f.os.length = x.kids.length
  oc : x.kind = 4 → f.os = cnt
  go : lo ≤ f.go ∧ f.go < hi ∧ f.go ≠ b
  oe : ∀ j (h : j < f.os.length), Cl w f.go j (.int .i64 f.os[j])
  gk : 0 < x.kids.length → f.Ak = some ⟨f.gk, 0, none⟩ ∧ lo ≤ f.gk ∧ f.gk < hi ∧ f.gk ≠ b ∧ f.gk ≠ f.go
  kl : f.ki.length = x.kids.length
  ke : ∀ j (h : j < f.ki.length), w.cell? ⟨f.gk, j, none⟩ = some (.pointer (some ⟨f.ki[j].b, 0, none⟩))
  kin : ∀ j (h : j < f.ki.length), lo ≤ f.ki[j].lo ∧ f.ki[j].hi ≤ hi ∧ ∀ k, f.ki[j].lo ≤ k → k < f.ki[j].hi → k ≠ b ∧ k ≠ f.go ∧ k ≠ f.gk
  kd : f.ki.Pairwise fun a b => a.hi ≤ b.lo
theorem Nd.fr {tst : Bool} {w0 w w' : World} {lo hi : Nat} {x : Lp} {b : Nat} {had : Int} {cnt : List Int} {f : Fm} {S : Nat → Prop} (h : Nd tst w0 w lo hi x b had cnt f) (hf : Fr S w w') (hb : ¬ S b) (hgo : ¬ S f.go) (hgk : 0 < x.kids.length → ¬ S f.gk) : Nd tst w0 w' lo hi x b had cnt f :=
  { h with
    hiw := Nat.le_trans h.hiw hf.size
    rw := fun i u hi => (h.rw i u hi).fr hf hb
    c6 := h.c6.fr hf hb
    c7 := h.c7.fr hf hb
    c8 := h.c8.fr hf hb
    c9 := fun ht => (h.c9 ht).fr hf hb
    oe := fun j hj => (h.oe j hj).fr hf hgo
    ke := fun j hj => hf.cell (hgk (by rw [← h.kl]; omega)) (h.ke j hj) }
/-- A part in memory with its kids. -/
def Tr (tst : Bool) (w0 : World) : Nat → World → Nat → Nat → Lp → Nat → St → Prop
  | 0, w, lo, hi, x, b, st => (∃ f, Nd tst w0 w lo hi x b st.had st.cnt f) ∧ x.kids.length = 0 ∧ st.kids.length = 0
  | n + 1, w, lo, hi, x, b, st => st.kids.length = x.kids.length ∧ ∃ f, Nd tst w0 w lo hi x b st.had st.cnt f ∧
      ∀ j (h1 : j < x.kids.length) (h2 : j < f.ki.length) (h3 : j < st.kids.length), Tr tst w0 n w f.ki[j].lo f.ki[j].hi x.kids[j] f.ki[j].b st.kids[j]
theorem Tr.fr {tst : Bool} {w0 : World} {S : Nat → Prop} : ∀ {n : Nat} {w w' : World} {lo hi : Nat} {x : Lp} {b : Nat} {st : St}, Tr tst w0 n w lo hi x b st → Fr S w w' → (∀ k, lo ≤ k → k < hi → ¬ S k) → Tr tst w0 n w' lo hi x b st := by
  intro n
  induction n with
  | zero =>
    rintro w w' lo hi x b st ⟨⟨f, h⟩, h0⟩ hf hs
    exact ⟨⟨f, h.fr hf (hs b h.lob h.bhi) (hs _ h.go.1 h.go.2.1) (fun hp => hs _ (h.gk hp).2.1 (h.gk hp).2.2.1)⟩, h0⟩
  | succ n ih =>
    rintro w w' lo hi x b st ⟨hl, f, h, hk⟩ hf hs
    refine ⟨hl, f, h.fr hf (hs b h.lob h.bhi) (hs _ h.go.1 h.go.2.1) (fun hp => hs _ (h.gk hp).2.1 (h.gk hp).2.2.1), fun j h1 h2 h3 => ih (hk j h1 h2 h3) hf (fun k hlo hhi => hs k ?_ ?_)⟩
    · exact Nat.le_trans (h.kin j h2).1 hlo
    · exact Nat.lt_of_lt_of_le hhi (h.kin j h2).2.1
theorem Tr.hiw {tst : Bool} {w0 : World} {n : Nat} {w : World} {lo hi : Nat} {x : Lp} {b : Nat} {st : St} (h : Tr tst w0 n w lo hi x b st) : hi ≤ w.heap.size ∧ lo < hi := by
  cases n with
  | zero => obtain ⟨⟨f, h⟩, _⟩ := h; exact ⟨h.hiw, Nat.lt_of_le_of_lt h.lob h.bhi⟩
  | succ n => obtain ⟨_, f, h, _⟩ := h; exact ⟨h.hiw, Nat.lt_of_le_of_lt h.lob h.bhi⟩
end Go.Proofs.YtfillnkebohciaaGreatDoor.T
