/-
  The numbers that are dealt, and the lists that are built of them: no program.
-/
import Derived.Test.YtkmpdcckgibkhaaGreatVk
import Derived.Test.YtkmpdcckgibkhaaGreatUs
namespace Go.Proofs.YtkmpdcckgibkhaaGreat
open Go.RowKit

/-- The number at a place. -/
def xF (Z : List Int) (i : Nat) : Int := if i < Z.length then (Z.getD i 0 % 18446744073709551616) % 1000 else i
def lF (Z : List Int) (N : Nat) : List Int := (List.range (2 * N - 1)).map (xF Z)
theorem lF_len (Z : List Int) (N : Nat) : (lF Z N).length = 2 * N - 1 := by simp [lF]
theorem lF_at (Z : List Int) (N i : Nat) (h : i < 2 * N - 1) : (lF Z N)[i]? = some (xF Z i) := by simp [lF, h]
theorem xF_bound (Z : List Int) (i : Nat) (h : i ≤ 1000) : 0 ≤ xF Z i ∧ xF Z i ≤ 1000 := by
  unfold xF
  split
  · omega
  · omega
theorem lF_bound (Z : List Int) (N : Nat) (h : N ≤ 20) : ∀ x ∈ lF Z N, 0 ≤ x ∧ x ≤ 1000 := by
  intro x hx
  obtain ⟨i, hi, rfl⟩ := List.mem_map.1 hx
  exact xF_bound Z i (by have := List.mem_range.1 hi; omega)
theorem lF_take (Z : List Int) (N i : Nat) (h : i < 2 * N - 1) : (lF Z N).take (i + 1) = (lF Z N).take i ++ [xF Z i] := by
  rw [List.take_add_one, lF_at Z N i h]; rfl

theorem own_other {W W' : World} {base e k : Nat} {v : Value} {n : Nat} {xs : List Value} {r : Option Nat} (h : W.ownsRow base e k v n xs) (hg : W.grownBy W' r) (hr : v.ownBlock ≠ r ∨ r = none) : W'.ownsRow base e k v n xs := by
  refine ⟨h.1, ?_⟩
  rcases h.2 with h1 | ⟨g, cap, cur, h1, h2, h3, h4, h5, h6, h7⟩
  · exact .inl h1
  · subst h1
    refine .inr ⟨g, cap, cur, rfl, h2, ?_, h4, h5, h6, h7⟩
    have hlt : g < W.heap.size := lt_of_block (w := W) (b := g) h3
    rw [hg.block g hlt ?_]
    · exact h3
    · rcases hr with hr | rfl
      · exact fun e => hr e
      · intro e; cases e
theorem own_type {W : World} {base base' e e' : Nat} {v v' : Value} {n n' : Nat} {xs xs' : List Value} (h : W.ownsRow base e 1 v n xs) (h' : W.ownsRow base' e' 1 v' n' xs') (he : e ≠ e') : v.ownBlock ≠ v'.ownBlock ∨ v'.ownBlock = none := by
  rcases h.2 with ⟨rfl, -⟩ | ⟨g, cap, cur, rfl, _, h3, _, _, _, _⟩
  · rcases h'.2 with ⟨rfl, -⟩ | ⟨g', cap', cur', rfl, _, h3', _, _, _, _⟩
    · exact .inr rfl
    · exact .inl (by intro e; cases e)
  · rcases h'.2 with ⟨rfl, -⟩ | ⟨g', cap', cur', rfl, _, h3', _, _, _, _⟩
    · exact .inr rfl
    · refine .inl (fun hh => ?_)
      cases hh
      rw [h3] at h3'
      simp only [Option.some.injEq, Obj.cells.injEq] at h3'
      exact he h3'.2.1

/-- What the first loop has built. -/
structure DI (w : World) (N : Nat) (Z : List Int) (i5 i6 : Nat) (v5 v6 : Value) (bs : List Nat) (W : World) : Prop where
  below : Below w.heap.size w W
  own5 : W.ownsRow w.heap.size 3 1 v5 i5 (((lF Z N).take i5).map (Value.int .i64))
  len : bs.length = i6
  own6 : W.ownsRow w.heap.size 24 1 v6 i6 (bs.map fun b => Value.slice (some ⟨b, 0, none⟩) 1 1)
  rows : ∀ j b, bs[j]? = some b → w.heap.size ≤ b ∧ Blk W b #[.int .i64 ((lF Z N).getD j 0 % (N : Int))] 3 ∧ some b ≠ v5.ownBlock
theorem DI.alloc {w : World} {N : Nat} {Z : List Int} {i5 i6 : Nat} {v5 v6 : Value} {bs : List Nat} {W : World} (h : DI w N Z i5 i6 v5 v6 bs W) (o : Obj) : DI w N Z i5 i6 v5 v6 bs (W.alloc o) :=
  ⟨h.below.alloc h.below.size o, h.own5.alloc o, h.len, h.own6.alloc o, fun j b hb => ⟨(h.rows j b hb).1, (h.rows j b hb).2.1.alloc o, (h.rows j b hb).2.2⟩⟩
theorem DI.push5 {w : World} {N : Nat} {Z : List Int} {i i6 : Nat} {v5 v5' v6 : Value} {bs : List Nat} {W W' : World} (h : DI w N Z i i6 v5 v6 bs W) (hi : i < 2 * N - 1)
    (hown : W'.ownsRow w.heap.size 3 1 v5' (i + 1) (((lF Z N).take i).map (Value.int .i64) ++ [.int .i64 (xF Z i)])) (hg : W.grownBy W' v5.ownBlock) (hw : v5'.ownBlock = v5.ownBlock ∨ v5'.ownBlock = some W.heap.size) : DI w N Z (i + 1) i6 v5' v6 bs W' := by
  refine ⟨h.below.grown hg h.below.size (fun k hk => (h.own5.lt k hk).1), by rw [lF_take Z N i hi, List.map_append]; exact hown, h.len, own_other h.own6 hg (own_type h.own6 h.own5 (by decide)), fun j b hb => ?_⟩
  obtain ⟨r1, r2, r3⟩ := h.rows j b hb
  refine ⟨r1, (hg.block b r2.lt r3).trans r2, ?_⟩
  rcases hw with e | e
  · rw [e]; exact r3
  · rw [e]; intro hh; have := r2.lt; simp only [Option.some.injEq] at hh; omega
theorem DI.push6 {w : World} {N : Nat} {Z : List Int} {i i5 : Nat} {v5 v6 v6' : Value} {bs : List Nat} {b : Nat} {W W' : World} (h : DI w N Z i5 i v5 v6 bs W) (hi : i < 2 * N - 1) (hB : w.heap.size ≤ b) (hb : Blk W b #[.int .i64 (xF Z i % (N : Int))] 3) (hb5 : some b ≠ v5.ownBlock)
    (hown : W'.ownsRow w.heap.size 24 1 v6' (i + 1) ((bs.map fun b => Value.slice (some ⟨b, 0, none⟩) 1 1) ++ [.slice (some ⟨b, 0, none⟩) 1 1])) (hg : W.grownBy W' v6.ownBlock) : DI w N Z i5 (i + 1) v5 v6' (bs ++ [b]) W' := by
  have hne : ∀ (k : Nat) (cs : Array Value), Blk W k cs 3 → some k ≠ v6.ownBlock := by
    intro k cs hk e
    rcases h.own6.2 with ⟨h1, -⟩ | ⟨g, cap, cur, h1, _, h3, _, _, _, _⟩
    · rw [h1] at e; cases e
    · rw [h1] at e
      simp [Value.ownBlock] at e
      subst e
      unfold Blk at hk
      rw [hk] at h3
      simp at h3
  refine ⟨h.below.grown hg h.below.size (fun k hk => (h.own6.lt k hk).1), own_other h.own5 hg (own_type h.own5 h.own6 (by decide)), by simp [h.len], by rw [List.map_append]; exact hown, fun j b' hb' => ?_⟩
  rcases Nat.lt_or_ge j bs.length with hj | hj
  · rw [List.getElem?_append_left hj] at hb'
    obtain ⟨r1, r2, r3⟩ := h.rows j b' hb'
    exact ⟨r1, (hg.block b' r2.lt (hne b' _ r2)).trans r2, r3⟩
  · rw [List.getElem?_append_right hj] at hb'
    have hj0 : j - bs.length = 0 := by
      rcases Nat.eq_zero_or_pos (j - bs.length) with h | h
      · exact h
      · rw [List.getElem?_eq_none (by simp; omega)] at hb'; cases hb'
    rw [hj0] at hb'
    simp at hb'
    subst hb'
    have hji : j = i := by have := h.len; omega
    subst hji
    rw [show (lF Z N).getD j 0 = xF Z j by simp [List.getD, lF_at Z N j hi]]
    exact ⟨hB, (hg.block b hb.lt (hne b _ hb)).trans hb, hb5⟩

/-- The rows, as values. -/
theorem DI.rowsAt {w : World} {N : Nat} {Z : List Int} {i : Nat} {v5 v6 : Value} {bs : List Nat} {W : World} (h : DI w N Z i (2 * N - 1) v5 v6 bs W) :
    ∃ a c, v6 = .slice a (2 * N - 1) c ∧ Vals W a (bs.map fun b => Value.slice (some ⟨b, 0, none⟩) 1 1) ∧ RowsAt W a (((lF Z N).map (· % (N : Int))).map fun x => [x]) := by
  obtain ⟨a, c, hv, hr, -⟩ := ownsRow_vals h.own6
  have hl : (bs.map fun b => Value.slice (some ⟨b, 0, none⟩) 1 1).length = 2 * N - 1 := by simp [h.len]
  rw [hl] at hv
  refine ⟨a, c, hv, hr, _, hr, by simp [h.len, lF_len], fun j r hj => ?_⟩
  rw [List.getElem?_map, List.getElem?_map] at hj
  have hjl : j < 2 * N - 1 := by
    rcases Nat.lt_or_ge j (2 * N - 1) with h | h
    · exact h
    · rw [List.getElem?_eq_none (by rw [lF_len]; exact h)] at hj; cases hj
  rw [lF_at Z N j hjl] at hj
  simp at hj
  subst hj
  have hbi : bs[j]? = some (bs[j]'(by rw [h.len]; exact hjl)) := List.getElem?_eq_getElem _
  obtain ⟨r1, r2, -⟩ := h.rows j _ hbi
  refine ⟨some ⟨_, 0, none⟩, 1, by rw [List.getElem?_map, hbi]; rfl, .inr ⟨_, 0, rfl, r2.lt, fun k u hu => ?_⟩, (fun h => by cases h), Nat.le_refl _⟩
  rw [Nat.zero_add, r2.cell k, show (lF Z N).getD j 0 = xF Z j by simp [List.getD, lF_at Z N j hjl]]
  simpa using hu

theorem DI.rowOf {w : World} {N : Nat} {Z : List Int} {i : Nat} {v5 v6 : Value} {bs : List Nat} {W : World} (h : DI w N Z i (2 * N - 1) v5 v6 bs W) (p : Nat) (hp : p < 2 * N - 1) :
    ∃ b, (bs.map fun b => Value.slice (some ⟨b, 0, none⟩) 1 1)[p]? = some (.slice (some ⟨b, 0, none⟩) 1 1) ∧ Ints W (some ⟨b, 0, none⟩) [((lF Z N).map (· % (N : Int))).getD p 0] := by
  have hbi : bs[p]? = some (bs[p]'(by rw [h.len]; exact hp)) := List.getElem?_eq_getElem _
  obtain ⟨r1, r2, -⟩ := h.rows p _ hbi
  refine ⟨_, by rw [List.getElem?_map, hbi]; rfl, .inr ⟨_, 0, rfl, r2.lt, fun k u hu => ?_⟩⟩
  rw [Nat.zero_add, r2.cell k, show (lF Z N).getD p 0 = xF Z p by simp [List.getD, lF_at Z N p hp]]
  rw [show ((lF Z N).map (· % (N : Int))).getD p 0 = xF Z p % (N : Int) by simp [List.getD, lF_at Z N p hp]] at hu
  simpa using hu
theorem sumAt_mod (n : Int) (l : List Int) : ∀ P : List Nat, sumAt (l.map (· % n)) P % n = sumAt l P % n := by
  intro P
  induction P with
  | nil => rfl
  | cons p P ih =>
    unfold sumAt at ih ⊢
    rw [List.map_cons, List.map_cons, List.sum_cons, List.sum_cons, Int.add_emod, ih, ← Int.add_emod]
    have : (l.map (· % n)).getD p 0 = l.getD p 0 % n := by
      simp only [List.getD, List.getElem?_map]
      cases l[p]? with
      | none => simp
      | some x => rfl
    rw [this, Int.emod_add_emod]
theorem sumAt_take (l : List Int) (P : List Nat) (k p : Nat) (h : P[k]? = some p) : sumAt l (P.take (k + 1)) = sumAt l (P.take k) + l.getD p 0 := by
  unfold sumAt
  rw [List.take_add_one, h]
  simp
theorem sumAt_bound (l : List Int) : ∀ (P : List Nat), (∀ p ∈ P, 0 ≤ l.getD p 0 ∧ l.getD p 0 ≤ 1000) → 0 ≤ sumAt l P ∧ sumAt l P ≤ 1000 * P.length := by
  intro P
  induction P with
  | nil => intro _; simp [sumAt]
  | cons p P ih =>
    intro h
    have h1 := ih fun q hq => h q (List.mem_cons_of_mem _ hq)
    have h2 := h p List.mem_cons_self
    unfold sumAt at h1 ⊢
    rw [List.map_cons, List.sum_cons, List.length_cons]
    omega

end Go.Proofs.YtkmpdcckgibkhaaGreat
