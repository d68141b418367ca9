/-
  The choices, in their order: no program.
-/
import Derived.Test.YtkmpdcckgibkhaaGreatOe
namespace Go.Proofs.YtkmpdcckgibkhaaGreat
open Go.RowKit Go.ChangeMaps

def colL (F : Nat → List (List Nat)) (u : Nat) : List Int → Nat → List (List Nat)
  | [], _ => []
  | x :: r, c => (if 0 < x ∧ u.testBit c = false then (F (u ||| 2 ^ c)).map (c :: ·) else []) ++ colL F u r (c + 1)
/-- The choices of the rows, with the columns u in use. -/
def chs : List (List Int) → Nat → List (List Nat)
  | [], _ => [[]]
  | r :: rest, u => colL (chs rest) u r 0
theorem colL_len (F : Nat → List (List Nat)) (f : Nat → Nat) (h : ∀ u, (F u).length = f u) (u : Nat) : ∀ (r : List Int) (c : Nat), (colL F u r c).length = colS f u r c := by
  intro r
  induction r with
  | nil => intro c; rfl
  | cons x r ih =>
    intro c
    simp only [colL, colS, List.length_append, ih]
    congr 1
    split
    · rw [List.length_map, h]
    · rfl
theorem chs_len : ∀ (X : List (List Int)) (u : Nat), (chs X u).length = cntC X u := by
  intro X
  induction X with
  | nil => intro u; rfl
  | cons r rest ih => intro u; exact colL_len _ _ ih u r 0
theorem colL_skip {F : Nat → List (List Nat)} {u : Nat} {row : List Int} {kk : Nat} {x : Int} (hx : row[kk]? = some x) (hn : ¬ (0 < x ∧ u.testBit kk = false)) : colL F u (row.drop kk) kk = colL F u (row.drop (kk + 1)) (kk + 1) := by
  have hl : kk < row.length := (List.getElem?_eq_some_iff.1 hx).1
  rw [List.drop_eq_getElem_cons hl]
  rw [List.getElem?_eq_getElem hl] at hx
  cases hx
  rw [colL, if_neg hn, List.nil_append]
theorem colL_take {F : Nat → List (List Nat)} {u : Nat} {row : List Int} {kk : Nat} {x : Int} (hx : row[kk]? = some x) (hn : 0 < x ∧ u.testBit kk = false) : colL F u (row.drop kk) kk = (F (u ||| 2 ^ kk)).map (kk :: ·) ++ colL F u (row.drop (kk + 1)) (kk + 1) := by
  have hl : kk < row.length := (List.getElem?_eq_some_iff.1 hx).1
  rw [List.drop_eq_getElem_cons hl]
  rw [List.getElem?_eq_getElem hl] at hx
  cases hx
  rw [colL, if_pos hn]
theorem colL_here {F : Nat → List (List Nat)} {u : Nat} {row : List Int} {kk k : Nat} {x : Int} {T : List Nat} (hx : row[kk]? = some x) (hn : 0 < x ∧ u.testBit kk = false) (h : (colL F u (row.drop kk) kk)[k]? = some T) (hk : k < (F (u ||| 2 ^ kk)).length) :
    ∃ T', T = kk :: T' ∧ (F (u ||| 2 ^ kk))[k]? = some T' := by
  rw [colL_take hx hn, List.getElem?_append_left (by rw [List.length_map]; exact hk), List.getElem?_map] at h
  rw [List.getElem?_eq_getElem hk] at h ⊢
  exact ⟨_, (by simpa using h.symm), rfl⟩
theorem colL_later {F : Nat → List (List Nat)} {u : Nat} {row : List Int} {kk k : Nat} {x : Int} {T : List Nat} (hx : row[kk]? = some x) (hn : 0 < x ∧ u.testBit kk = false) (h : (colL F u (row.drop kk) kk)[k]? = some T) (hk : (F (u ||| 2 ^ kk)).length ≤ k) :
    (colL F u (row.drop (kk + 1)) (kk + 1))[k - (F (u ||| 2 ^ kk)).length]? = some T := by
  rw [colL_take hx hn, List.getElem?_append_right (by rw [List.length_map]; exact hk), List.length_map] at h
  exact h
theorem chs_row {X : List (List Int)} {r : Nat} {row : List Int} (h : X[r]? = some row) (u : Nat) : chs (X.drop r) u = colL (chs (X.drop (r + 1))) u (row.drop 0) 0 := by
  have hl : r < X.length := (List.getElem?_eq_some_iff.1 h).1
  rw [List.drop_eq_getElem_cons hl]
  rw [List.getElem?_eq_getElem hl] at h
  cases h
  rfl

theorem CW.above {W0 W W' : World} {X : List (List Int)} {a : Option Addr} {c t k f m B : Nat} {row : Option Nat} (h : CW W0 X a c t k f m W) (hg : W.grownBy W' row) (hr : ∀ j, row = some j → B ≤ j) (ht : t < B) (hk : k < B) (hf : f < B) (h0 : W0.heap.size ≤ B) : CW W0 X a c t k f m W' := by
  have hne : ∀ j, j < B → some j ≠ row := fun j hj e => by have := hr j e.symm; omega
  exact ⟨h.below.grown hg h.below.size (fun j hj => by have := hr j hj; omega), (hg.block t h.bt.lt (hne t ht)).trans h.bt, (hg.block k h.bk.lt (hne k hk)).trans h.bk,
    (hg.block f h.bf.lt (hne f hf)).trans h.bf, h.ge, h.tm, h.km, h.fm⟩

end Go.Proofs.YtkmpdcckgibkhaaGreat
