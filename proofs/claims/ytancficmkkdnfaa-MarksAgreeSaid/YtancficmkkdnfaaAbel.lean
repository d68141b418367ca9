/-
  Abelian squares: how often letters occur; the first abelian square; the reference's walk.
-/
import Derived.Test.YtancficmkkdnfaaC
import Derived.Deep.RegionWith
namespace Go.Proofs.Ytancficmkkdnfaa
open Go.RowKit

/-- How often letter j occurs. -/
def cn (l : List UInt8) (j : Nat) : Nat := l.countP (fun c => c.toNat == 97 + j)
theorem cn_snoc (l : List UInt8) (c : UInt8) (j : Nat) : cn (l ++ [c]) j = cn l j + if c.toNat = 97 + j then 1 else 0 := by
  unfold cn
  rw [List.countP_append]
  by_cases h : c.toNat = 97 + j <;> simp [h]
theorem cn_append (a b : List UInt8) (j : Nat) : cn (a ++ b) j = cn a j + cn b j := List.countP_append
theorem cn_le (l : List UInt8) (j : Nat) : cn l j ≤ l.length := List.countP_le_length
/-- Do two strings have the same letters? -/
def sameB (a b : List UInt8) : Bool := cn a 0 == cn b 0 && cn a 1 == cn b 1 && cn a 2 == cn b 2 && cn a 3 == cn b 3
theorem sameB_refl (a : List UInt8) : sameB a a = true := by simp [sameB]
/-- The smallest half of an abelian square at the beginning, from p on. -/
def abI (d : List UInt8) (p : Nat) : Option Nat :=
  if 2 * p ≤ d.length then (if sameB (d.take p) ((d.drop p).take p) = true then some p else abI d (p + 1)) else none
termination_by d.length + 1 - p
def abO : List UInt8 → Nat → Option (Nat × Nat)
  | [], _ => none
  | c :: d, i => match abI (c :: d) 1 with
    | some p => some (i, p)
    | none => abO d (i + 1)
/-- The first abelian square: its position and half of its length. -/
def ab (l : List UInt8) : Option (Nat × Nat) := abO l 0
theorem abI_yes (d : List UInt8) (p : Nat) (h : 2 * p ≤ d.length) (he : sameB (d.take p) ((d.drop p).take p) = true) : abI d p = some p := by
  rw [abI, if_pos h, if_pos he]
theorem abI_no (d : List UInt8) (p : Nat) (h : 2 * p ≤ d.length) (he : sameB (d.take p) ((d.drop p).take p) = false) : abI d p = abI d (p + 1) := by
  rw [abI, if_pos h, if_neg (by rw [he]; simp)]
theorem abI_end (d : List UInt8) (p : Nat) (h : d.length < 2 * p) : abI d p = none := by
  rw [abI, if_neg (by omega)]
theorem abO_some (d : List UInt8) (i p : Nat) (h : abI d 1 = some p) : abO d i = some (i, p) := by
  cases d with
  | nil => rw [abI_end _ _ (by simp)] at h; cases h
  | cons c d => rw [abO, h]
theorem abO_none (l : List UInt8) (i : Nat) (hi : i < l.length) (h : abI (l.drop i) 1 = none) : abO (l.drop i) i = abO (l.drop (i + 1)) (i + 1) := by
  rw [List.drop_eq_getElem_cons hi] at h ⊢
  rw [abO, h]

/-! A square is an abelian square. -/
theorem abI_of_sqI (d : List UInt8) (p q : Nat) (h : sqI d p = some q) : (abI d p).isSome = true := by
  generalize hn : d.length + 1 - p = n
  induction n generalizing p with
  | zero => rw [sqI_end _ _ (by omega)] at h; cases h
  | succ n ih =>
    by_cases h2 : 2 * p ≤ d.length
    · cases hs : sameB (d.take p) ((d.drop p).take p) with
      | true => rw [abI_yes d p h2 hs]; rfl
      | false =>
        have he : d.take p ≠ (d.drop p).take p := fun e => by rw [← e, sameB_refl] at hs; cases hs
        rw [abI_no d p h2 hs]
        rw [sqI_no d p h2 he] at h
        exact ih (p + 1) h (by omega)
    · rw [sqI_end _ _ (by omega)] at h; cases h
theorem abO_of_sqO : ∀ (l : List UInt8) (i : Nat) (x : Nat × Nat), sqO l i = some x → ∃ y, abO l i = some y ∧ y.1 ≤ x.1 := by
  intro l
  induction l with
  | nil => intro i x h; cases h
  | cons c d ih =>
    intro i x h
    cases ha : abI (c :: d) 1 with
    | some p =>
      refine ⟨(i, p), abO_some _ i p ha, ?_⟩
      have : ∀ (l : List UInt8) (i : Nat) (x : Nat × Nat), sqO l i = some x → i ≤ x.1 := by
        intro l
        induction l with
        | nil => intro i x h; cases h
        | cons c d ih2 =>
          intro i x h
          rw [sqO] at h
          cases hq : sqI (c :: d) 1 with
          | none => rw [hq] at h; have := ih2 _ _ h; omega
          | some p => rw [hq] at h; cases h; exact Nat.le_refl _
      exact this _ i x h
    | none =>
      rw [sqO] at h
      cases hq : sqI (c :: d) 1 with
      | some p => have := abI_of_sqI _ _ _ hq; rw [ha] at this; cases this
      | none =>
        rw [hq] at h
        obtain ⟨y, h1, h2⟩ := ih (i + 1) x h
        exact ⟨y, by rw [abO, ha]; exact h1, h2⟩
theorem ab_of_sq (l : List UInt8) (x : Nat × Nat) (h : sq l = some x) : ∃ y, ab l = some y ∧ y.1 ≤ x.1 := abO_of_sqO l 0 x h

/-- The counts of a string, as a value. -/
def cnS (t : ByteArray) : Value := .agg #[.int .i64 (cn t.data.toList 0), .int .i64 (cn t.data.toList 1), .int .i64 (cn t.data.toList 2), .int .i64 (cn t.data.toList 3)]
def sameS (s t : ByteArray) : Bool := sameB s.data.toList t.data.toList
theorem eqi4 (t : TypeId) (a0 a1 a2 a3 b0 b1 b2 b3 : Int) (w : World) (hu : ∀ w, (underlying t).run Try.prog w = .ok (.array 4 3) w) : (Op.equalIn 10000 t (.agg #[.int .i64 a0, .int .i64 a1, .int .i64 a2, .int .i64 a3]) (.agg #[.int .i64 b0, .int .i64 b1, .int .i64 b2, .int .i64 b3])).run Try.prog w = .ok (a0 == b0 && a1 == b1 && a2 == b2 && a3 == b3) w := by
  have hs : ∀ w, (sizeOf 3).run Try.prog w = .ok 1 w := fun w => Try.sizeOf3 w
  have hg : ∀ w, (isAgg 3).run Try.prog w = .ok false w := fun w => Try.isAgg3 w
  rw [show (10000 : Nat) = 9999 + 1 from rfl, Op.equalIn]
  have eqi : ∀ (x y : Int) (w : World), (Op.equalIn 9999 3 (.int .i64 x) (.int .i64 y)).run Try.prog w = .ok (x == y) w := fun x y w => run_equalIn_int w 9998 3 .i64 .i64 x y Try.underlying3
  simp [hu, Sem.run_bind, go_sem, hs, List.range'_succ, hg, eqi]
  by_cases h0 : a0 = b0 <;> by_cases h1 : a1 = b1 <;> by_cases h2 : a2 = b2 <;> by_cases h3 : a3 = b3 <;> simp [h0, h1, h2, h3, go_sem]
theorem eqS83 (s t : ByteArray) (w : World) : (Op.equalIn 10000 83 (cnS s) (cnS t)).run Try.prog w = .ok (sameS s t) w := by
  unfold cnS sameS sameB
  rw [eqi4 83 _ _ _ _ _ _ _ _ w (fun w => Try.runUnderlying83 w)]
  congr 1
  rw [Bool.eq_iff_iff]; simp; omega
theorem bin83 (s t : ByteArray) (w : World) : (binOp .eql 83 (cnS s) (cnS t)).run Try.prog w = .ok (.bool (sameS s t)) w := by
  have h := eqS83 s t w
  unfold cnS at h ⊢
  go_simp
theorem guard83 (x y : Operand) (s t : ByteArray) (w : World) : (eqGuard .eql 83 x y (cnS s) (cnS t)).run Try.prog w = .ok () w := by
  unfold cnS
  go_simp
/-- The counts between two positions, as a value. -/
def bwS (l : List UInt8) (i j : Nat) : Value := .agg #[.int .i64 ((cn (l.take j) 0 : Int) - cn (l.take i) 0), .int .i64 ((cn (l.take j) 1 : Int) - cn (l.take i) 1), .int .i64 ((cn (l.take j) 2 : Int) - cn (l.take i) 2), .int .i64 ((cn (l.take j) 3 : Int) - cn (l.take i) 3)]
theorem cn_between (l : List UInt8) (i j k : Nat) (h : i ≤ j) : (cn (l.take j) k : Int) - cn (l.take i) k = cn ((l.drop i).take (j - i)) k := by
  have : l.take j = l.take i ++ (l.drop i).take (j - i) := by
    rw [← List.take_add, show i + (j - i) = j by omega]
  rw [this, cn_append]; omega
def sameW (l : List UInt8) (i p : Nat) : Bool := sameB ((l.drop i).take p) (((l.drop i).drop p).take p)
theorem eqW84 (l : List UInt8) (i p : Nat) (w : World) : (Op.equalIn 10000 84 (bwS l i (i + p)) (bwS l (i + p) (i + 2 * p))).run Try.prog w = .ok (sameW l i p) w := by
  unfold bwS sameW sameB
  rw [eqi4 84 _ _ _ _ _ _ _ _ w (fun w => Try.runUnderlying84 w)]
  congr 1
  have h1 := fun k => cn_between l i (i + p) k (by omega)
  have h2 := fun k => cn_between l (i + p) (i + 2 * p) k (by omega)
  rw [h1, h1, h1, h1, h2, h2, h2, h2, List.drop_drop, show i + p - i = p by omega, show i + 2 * p - (i + p) = p by omega]
  rw [Bool.eq_iff_iff]; simp; omega
theorem bin84 (l : List UInt8) (i p : Nat) (w : World) : (binOp .eql 84 (bwS l i (i + p)) (bwS l (i + p) (i + 2 * p))).run Try.prog w = .ok (.bool (sameW l i p)) w := by
  have h := eqW84 l i p w
  unfold bwS at h ⊢
  go_simp
theorem guard84 (x y : Operand) (l : List UInt8) (i j i2 j2 : Nat) (w : World) : (eqGuard .eql 84 x y (bwS l i j) (bwS l i2 j2)).run Try.prog w = .ok () w := by
  unfold bwS
  go_simp
end Go.Proofs.Ytancficmkkdnfaa
