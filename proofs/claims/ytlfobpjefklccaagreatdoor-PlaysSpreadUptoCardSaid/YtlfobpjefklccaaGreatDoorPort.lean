/- Portions. -/
import Derived.Test.YtlfobpjefklccaaGreatDoorLowest
import Derived.Test.YtlfobpjefklccaaGreatDoorTal
import Derived.Test.YtlfobpjefklccaaGreatDoorSmall
import Derived.Test.YtlfobpjefklccaaGreatDoorComeA
namespace Go.Proofs.YtlfobpjefklccaaGreatDoor.Come
open Go.RowKit
open T (Step)

abbrev Pt := ByteArray × Int × Int × Int × Int
def ptE (x : Pt) : List Value := [.string x.1, .int .i64 x.2.1, .int .i64 x.2.2.1, .int .i64 x.2.2.2.1, .int .i64 x.2.2.2.2]
theorem ptE1 (x : Pt) : ∀ v ∈ ptE x, v.oneCell' = true := by
  intro v hv
  simp [ptE] at hv
  rcases hv with rfl | rfl | rfl | rfl | rfl <;> rfl
def ptK : B.Kd Pt := .flat 5 ptE (fun _ => rfl) ptE1
theorem info_pt : (Tryz.prog.info? 51).map (fun i => (i.zero, i.size, i.bytes)) = some (some (.agg #[.string ⟨#[]⟩, .int .i64 0, .int .i64 0, .int .i64 0, .int .i64 0]), 5, 48) := by kernel_rfl
/-- What part an item has in steps. -/
def pt (l : List Step) (k : ByteArray) : Pt := (k, ((Low.low (its l k).length l.length).1 : Int), ((Low.low (its l k).length l.length).2 : Int), ((Low.low (tot (its l k)).toNat (tot l).toNat).1 : Int), ((Low.low (tot (its l k)).toNat (tot l).toNat).2 : Int))
def pts (l : List Step) : List Pt := (Told.dd (l.map (·.1))).map (pt l)
theorem srt_dd (l : List Step) : SK.srt (nub l []) = Told.dd (l.map (·.1)) := by
  unfold SK.srt Told.dd
  have h := sorted_eq (ks := (nub l []).map (·.data.toList)) (ss := (nub l []).map (·.data.toList)) (zs := (l.map (·.1)).map (·.data.toList)) (List.Perm.refl _) ?_ (fun x => ?_)
  · have h' : ((nub l []).map (·.data.toList)).mergeSort (fun x y => decide (x ≤ y)) = Lib.compact (((l.map (·.1)).map (·.data.toList)).mergeSort (fun x y => decide (x ≤ y))) := h
    rw [h']
  · refine List.pairwise_map.2 ((nub_nodup l [] List.nodup_nil).imp (fun {a b} hne e => hne ?_))
    exact ByteArray.ext (Array.toList_inj.1 e)
  · rw [List.mem_map, List.mem_map]
    constructor
    · rintro ⟨k, hk, rfl⟩; exact ⟨k, ((nub_mem l [] k).1 hk).resolve_left (by simp), rfl⟩
    · rintro ⟨k, hk, rfl⟩; exact ⟨k, (nub_mem l [] k).2 (.inr hk), rfl⟩
theorem own_pt {w : World} {base : Nat} {e : TypeId} {v : Value} {xs : List Pt} (h : B.Own w base e 5 ptE v xs) (hn : xs.length ≤ 140737488355328) : ptK.S w v xs := B.own_S h hn
theorem dd_len (l : List Step) : (Told.dd (l.map (·.1))).length ≤ l.length := by have := Told.dd_length (l.map (·.1)); rwa [List.length_map] at this
theorem ptrs_keys (ks : List ByteArray) (bk : ByteArray → Nat) : (ptrs ks bk).map (·.1) = ks := by unfold ptrs; rw [List.map_map]; exact List.map_id' _
theorem str_at {w : World} {A : Option Addr} {xs : List ByteArray} (h : B.Kd.str.C w A xs) (k : Nat) (hk : k < xs.length) : ∃ b o, A = some ⟨b, o, none⟩ ∧ w.cell? ⟨b, o + k, none⟩ = some (.string xs[k]) := by
  obtain ⟨b, off, cs, e, K, hc⟩ := h.at k hk
  have K' : cs = [.string xs[k]] := K
  subst K'
  have h0 := hc 0 (by simp)
  exact ⟨b, off, e, by simpa [B.Kd.str, B.Kd.flat] using h0⟩
end Go.Proofs.YtlfobpjefklccaaGreatDoor.Come
