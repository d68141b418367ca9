/-
  Rows of numbers in a block.
-/
import Derived.Test.YthlgdakdjikjhaaDoorBase
import Derived.Deep.OwnRows
namespace Go.Proofs.YthlgdakdjikjhaaDoor
open Go.RowKit

/-- A row of numbers in a block. -/
def rowA (f : Nat → Int) (n : Nat) : Array Value := ((List.range n).map fun i => Value.int .i64 (f i)).toArray
theorem rowA_get (f : Nat → Int) (n j : Nat) (h : j < n) : (rowA f n)[j]? = some (.int .i64 (f j)) := by
  simp [rowA, h]
theorem rowA_set (f : Nat → Int) (n j : Nat) (x : Int) : (rowA f n).setIfInBounds j (.int .i64 x) = rowA (fun i => if i = j then x else f i) n := by
  apply Array.ext'
  rw [Array.toList_setIfInBounds]
  refine List.ext_getElem? fun i => ?_
  rw [List.getElem?_set]
  simp only [rowA, List.length_map, List.length_range, List.getElem?_map]
  by_cases h : j = i
  · subst h
    by_cases h2 : j < n
    · simp [h2]
    · simp [h2]
  · rw [if_neg h]
    by_cases h2 : i < n
    · have : ¬ i = j := fun e => h e.symm
      simp [h2, this]
    · simp [h2]
theorem rowA_made (n : Nat) : madeCells #[.int .i64 0] n = rowA (fun _ => 0) n := by
  unfold madeCells rowA
  apply Array.ext'
  simp [Nat.mod_one]
theorem rowA_congr {f g : Nat → Int} {n : Nat} (h : ∀ i, i < n → f i = g i) : rowA f n = rowA g n := by
  unfold rowA
  congr 1
  exact List.map_congr_left fun i hi => by rw [h i (List.mem_range.1 hi)]
theorem Blk.rowAt {w : World} {b : Nat} {f : Nat → Int} {n : Nat} {t : TypeId} (h : Blk w b (rowA f n) t) (j : Nat) (hj : j < n) : w.cell? ⟨b, j, none⟩ = some (.int .i64 (f j)) := (h.cell j).trans (rowA_get f n j hj)
theorem Blk.rowPut {w : World} {b : Nat} {f g : Nat → Int} {n : Nat} {t : TypeId} (h : Blk w b (rowA f n) t) (j : Nat) (x : Int) (hg : ∀ i, i < n → g i = if i = j then x else f i) : Blk (w.setCell ⟨b, j, none⟩ (.int .i64 x)) b (rowA g n) t := by
  have := h.set j (.int .i64 x)
  rw [rowA_set, ← rowA_congr hg] at this
  exact this
theorem Blk.rowInts {w : World} {b : Nat} {f : Nat → Int} {n : Nat} {t : TypeId} (h : Blk w b (rowA f n) t) : Ints w (some ⟨b, 0, none⟩) ((List.range n).map f) := by
  refine .inr ⟨b, 0, rfl, h.lt, fun i u hu => ?_⟩
  rw [Nat.zero_add, h.cell i]
  simp only [rowA, List.getElem?_toArray]
  rw [List.map_map] at hu
  exact hu

end Go.Proofs.YthlgdakdjikjhaaDoor
