/-
  A table of zeros and ones that is being built.
-/
import Derived.Test.YtkmpdcckgibkhaaGreatUr
import Derived.Test.YtkmpdcckgibkhaaGreatOM
namespace Go.Proofs.YtkmpdcckgibkhaaGreat
open Go.RowKit

theorem info24 : (Tryz.prog.info? 24).map (fun i => (i.zero, i.size, i.bytes)) = some (some (.slice none 0 0), 1, 24) := by kernel_rfl

/-- A slice of the call's own, of rows in blocks of the call's own. -/
def TabI (B : Nat) (W : World) (v : Value) (X : List (List Int)) : Prop :=
  ∃ bs : List Nat, bs.length = X.length ∧ W.ownsRow B 24 1 v X.length ((bs.zip X).map fun p => Value.slice (some ⟨p.1, 0, none⟩) p.2.length p.2.length) ∧
    ∀ (j b : Nat) (r : List Int), bs[j]? = some b → X[j]? = some r → B ≤ b ∧ Blk W b (r.map (Value.int .i64)).toArray 3
theorem TabI.nil (B : Nat) (W : World) : TabI B W (.slice none 0 0) [] := ⟨[], rfl, ⟨rfl, .inl ⟨rfl, rfl⟩⟩, fun j b r h => by simp at h⟩
theorem TabI.low {B D : Nat} {W W' : World} {v : Value} {X : List (List Int)} (h : TabI B W v X) (hb : Below D W W') (hD : W.heap.size ≤ D) : TabI B W' v X := by
  obtain ⟨bs, h1, h2, h3⟩ := h
  exact ⟨bs, h1, ownsRow_low h2 hb hD, fun j b r hb' hr => ⟨(h3 j b r hb' hr).1, (h3 j b r hb' hr).2.below hb (Nat.lt_of_lt_of_le (h3 j b r hb' hr).2.lt hD)⟩⟩
theorem TabI.lt {B : Nat} {W : World} {v : Value} {X : List (List Int)} (h : TabI B W v X) (g : Nat) (hg : v.ownBlock = some g) : B ≤ g ∧ g < W.heap.size := by
  obtain ⟨bs, -, h2, -⟩ := h
  exact h2.lt g hg
/-- A row is added. -/
theorem TabI.push {B : Nat} {W W' : World} {v v' : Value} {X : List (List Int)} {bs : List Nat} (h1 : bs.length = X.length) (h3 : ∀ (j b : Nat) (r : List Int), bs[j]? = some b → X[j]? = some r → B ≤ b ∧ Blk W b (r.map (Value.int .i64)).toArray 3)
    (b : Nat) (r : List Int) (hB : B ≤ b) (hr : Blk W b (r.map (Value.int .i64)).toArray 3)
    (hown : W'.ownsRow B 24 1 v' (X.length + 1) (((bs.zip X).map fun p => Value.slice (some ⟨p.1, 0, none⟩) p.2.length p.2.length) ++ [.slice (some ⟨b, 0, none⟩) r.length r.length])) (hg : W.grownBy W' v.ownBlock) (hty : ∀ g, v.ownBlock = some g → ∃ cs, Blk W g cs 24) : TabI B W' v' (X ++ [r]) := by
  have hne : ∀ (k : Nat) (cs : Array Value), Blk W k cs 3 → some k ≠ v.ownBlock := by
    intro k cs hk e
    obtain ⟨cs2, hk2⟩ := hty k e.symm
    unfold Blk at hk hk2
    rw [hk] at hk2
    simp at hk2
  refine ⟨bs ++ [b], by simp [h1], ?_, fun j b' r' hb' hr' => ?_⟩
  · rw [List.zip_append h1, List.map_append, List.length_append]
    exact hown
  · rcases Nat.lt_or_ge j bs.length with hj | hj
    · rw [List.getElem?_append_left hj] at hb'
      rw [List.getElem?_append_left (by omega)] at hr'
      obtain ⟨k1, k2⟩ := h3 j b' r' hb' hr'
      exact ⟨k1, (hg.block b' k2.lt (hne b' _ k2)).trans k2⟩
    · rw [List.getElem?_append_right hj] at hb'
      rw [List.getElem?_append_right (by omega)] at hr'
      have hj0 : j - bs.length = 0 := by
        rcases Nat.eq_zero_or_pos (j - bs.length) with h | h
        · exact h
        · rw [List.getElem?_eq_none (by simp; omega)] at hb'; cases hb'
      rw [hj0] at hb'
      rw [show j - X.length = 0 by omega] at hr'
      simp at hb' hr'
      subst hb' hr'
      exact ⟨hB, (hg.block b hr.lt (hne b _ hr)).trans hr⟩
theorem TabI.ty {B : Nat} {W : World} {v : Value} {X : List (List Int)} (h : TabI B W v X) : ∀ g, v.ownBlock = some g → ∃ cs, Blk W g cs 24 := by
  obtain ⟨bs, -, h2, -⟩ := h
  intro g hg
  rcases h2.2 with ⟨rfl, -⟩ | ⟨g', c, cur, rfl, -, hb, -, -, -, -⟩
  · cases hg
  · simp [Value.ownBlock] at hg
    subst hg
    exact ⟨cur, hb⟩
/-- The rows can be read. -/
theorem TabI.rows {B : Nat} {W : World} {v : Value} {X : List (List Int)} (h : TabI B W v X) : ∃ a c, v = .slice a X.length c ∧ RowsAt W a X ∧ X.length ≤ c ∧ (a = none → c = 0) := by
  obtain ⟨bs, h1, h2, h3⟩ := h
  obtain ⟨a, c, hv, hr, -⟩ := ownsRow_vals h2
  have hl : ((bs.zip X).map fun p => Value.slice (some ⟨p.1, 0, none⟩) p.2.length p.2.length).length = X.length := by simp [h1]
  rw [hl] at hv
  subst hv
  have hf := ownsRow_facts h2
  refine ⟨a, c, rfl, ⟨_, hr, hl, fun i r hi => ?_⟩, hf.2.1, hf.2.2⟩
  have hil : i < X.length := (List.getElem?_eq_some_iff.1 hi).1
  have hbi : bs[i]? = some bs[i] := List.getElem?_eq_getElem (by omega)
  have hb := h3 i bs[i] r hbi hi
  refine ⟨some ⟨bs[i], 0, none⟩, r.length, ?_, ?_, fun h => (by cases h), Nat.le_refl _⟩
  · rw [List.getElem?_map, (List.getElem?_zip_eq_some (z := (bs[i], r))).2 ⟨hbi, hi⟩]; rfl
  · refine .inr ⟨bs[i], 0, rfl, hb.2.lt, fun k u hu => ?_⟩
    rw [Nat.zero_add, hb.2.cell k]
    simpa using hu
/-- The cells of one row. -/
theorem rowA_list (f : Nat → Int) (n : Nat) : rowA f n = (((List.range n).map f).map (Value.int .i64)).toArray := by simp [rowA]

end Go.Proofs.YtkmpdcckgibkhaaGreat
