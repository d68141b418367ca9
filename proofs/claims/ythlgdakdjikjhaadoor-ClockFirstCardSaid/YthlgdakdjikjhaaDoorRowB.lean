/-
  Rows of truths in a block.
-/
import Derived.Test.YthlgdakdjikjhaaDoorBase
import Derived.Deep.OwnRows
namespace Go.Proofs.YthlgdakdjikjhaaDoor
open Go.RowKit

/-- A row of truths in a block. -/
def rowB (f : Nat → Bool) (n : Nat) : Array Value := ((List.range n).map fun i => Value.bool (f i)).toArray
theorem rowB_get (f : Nat → Bool) (n j : Nat) (h : j < n) : (rowB f n)[j]? = some (.bool (f j)) := by
  simp [rowB, h]
theorem rowB_set (f : Nat → Bool) (n j : Nat) (x : Bool) : (rowB f n).setIfInBounds j (.bool x) = rowB (fun i => if i = j then x else f i) n := by
  apply Array.ext'
  rw [Array.toList_setIfInBounds]
  refine List.ext_getElem? fun i => ?_
  rw [List.getElem?_set]
  simp only [rowB, List.length_map, List.length_range, List.getElem?_map]
  by_cases h : j = i
  · subst h
    by_cases h2 : j < n
    · simp [h2]
    · simp [h2]
  · rw [if_neg h]
    by_cases h2 : i < n
    · have : ¬ i = j := fun e => h e.symm
      simp [h2, this]
    · simp [h2]
theorem rowB_made (n : Nat) : madeCells #[.bool false] n = rowB (fun _ => false) n := by
  unfold madeCells rowB
  apply Array.ext'
  simp [Nat.mod_one]
theorem rowB_congr {f g : Nat → Bool} {n : Nat} (h : ∀ i, i < n → f i = g i) : rowB f n = rowB g n := by
  unfold rowB
  congr 1
  exact List.map_congr_left fun i hi => by rw [h i (List.mem_range.1 hi)]
theorem Blk.rowBt {w : World} {b : Nat} {f : Nat → Bool} {n : Nat} {t : TypeId} (h : Blk w b (rowB f n) t) (j : Nat) (hj : j < n) : w.cell? ⟨b, j, none⟩ = some (.bool (f j)) := (h.cell j).trans (rowB_get f n j hj)
theorem Blk.rowPutB {w : World} {b : Nat} {f g : Nat → Bool} {n : Nat} {t : TypeId} (h : Blk w b (rowB f n) t) (j : Nat) (x : Bool) (hg : ∀ i, i < n → g i = if i = j then x else f i) : Blk (w.setCell ⟨b, j, none⟩ (.bool x)) b (rowB g n) t := by
  have := h.set j (.bool x)
  rw [rowB_set, ← rowB_congr hg] at this
  exact this
end Go.Proofs.YthlgdakdjikjhaaDoor
