/-
  The plain functions of which the walks speak: letters of a chain, cuts, shares, lists of cuts. No program.
-/
namespace Go.Proofs.Ythelnggbcgjbcaa

/-- Is a byte a letter from a to d? -/
def okb (c : UInt8) : Bool := decide (97 ≤ c.toNat) && decide (c.toNat ≤ 100)
theorem all_ok (c : UInt8) (r : List UInt8) (h : 97 ≤ (c.toNat : Int) ∧ (c.toNat : Int) ≤ 100) : (c :: r).all okb = r.all okb := by
  have : okb c = true := by simp [okb]; omega
  simp [this]
theorem all_bad (c : UInt8) (r : List UInt8) (h : (c.toNat : Int) < 97 ∨ 100 < (c.toNat : Int)) : (c :: r).all okb = false := by
  have : okb c = false := by simp [okb]; omega
  simp [this]
/-- A chain. -/
def chainB (l : List UInt8) : Bool := l.all okb && decide (l.length ≤ 24)
/-- How often letter j occurs. -/
def cn (l : List UInt8) (j : Nat) : Nat := l.countP (fun c => c.toNat == 97 + j)
theorem cn_snoc (l : List UInt8) (c : UInt8) (j : Nat) : cn (l ++ [c]) j = cn l j + if c.toNat = 97 + j then 1 else 0 := by
  unfold cn
  rw [List.countP_append]
  by_cases h : c.toNat = 97 + j <;> simp [h]
theorem cn_cons (l : List UInt8) (c : UInt8) (j : Nat) : cn (c :: l) j = cn l j + if c.toNat = 97 + j then 1 else 0 := by
  unfold cn
  rw [List.countP_cons]
  by_cases h : c.toNat = 97 + j <;> simp [h]
theorem cn_append (a b : List UInt8) (j : Nat) : cn (a ++ b) j = cn a j + cn b j := List.countP_append
theorem cn_le (l : List UInt8) (j : Nat) : cn l j ≤ l.length := List.countP_le_length
theorem okb_iff (c : UInt8) : okb c = true ↔ 97 ≤ c.toNat ∧ c.toNat ≤ 100 := by simp [okb]
/-- Each letter occurs an even number of times. -/
def evenB (l : List UInt8) : Bool := cn l 0 % 2 == 0 && cn l 1 % 2 == 0 && cn l 2 % 2 == 0 && cn l 3 % 2 == 0
/-- The number of letters that occur. -/
def kindsN (l : List UInt8) : Nat := min (cn l 0) 1 + min (cn l 1) 1 + min (cn l 2) 1 + min (cn l 3) 1
/-- Ascending positions from a first one to n - 1. -/
def cutsB (n : Int) : Int → List Int → Bool
  | _, [] => true
  | first, c :: r => decide (first ≤ c) && decide (c < n) && cutsB n (c + 1) r
/-- What the carrier of the next piece gets, and the other one, from a position on. -/
def shareGo (l : List UInt8) : Nat → List Int → List UInt8 × List UInt8
  | at_, [] => (l.drop at_, [])
  | at_, c :: r => ((l.drop at_).take (c.toNat - at_) ++ (shareGo l c.toNat r).2, (shareGo l c.toNat r).1)
/-- Do two strings have the same letters? -/
def sameB (a b : List UInt8) : Bool := cn a 0 == cn b 0 && cn a 1 == cn b 1 && cn a 2 == cn b 2 && cn a 3 == cn b 3
/-- Are cuts fair? -/
def fairB (l : List UInt8) (cuts : List Int) : Bool := sameB (shareGo l 0 cuts).1 (shareGo l 0 cuts).2
/-- All lists of so many ascending positions, in lexicographic order: 'fuel' positions are left from 'from_' on. -/
def lsts : Nat → Nat → Nat → List (List Int)
  | 0, _, _ => [[]]
  | _ + 1, _, 0 => []
  | m + 1, from_, fuel + 1 => (lsts m (from_ + 1) fuel).map ((from_ : Int) :: ·) ++ lsts (m + 1) (from_ + 1) fuel
/-- A ring opened at its first cut. -/
def openL (l : List UInt8) : List Int → List UInt8
  | [] => l
  | c :: _ => l.drop c.toNat ++ l.take c.toNat
def openC : List Int → List Int
  | [] => []
  | c :: r => r.map (· - c)
def fairRingP (l : List UInt8) (cuts : List Int) : Bool := fairB (openL l cuts) (openC cuts)
end Go.Proofs.Ythelnggbcgjbcaa
