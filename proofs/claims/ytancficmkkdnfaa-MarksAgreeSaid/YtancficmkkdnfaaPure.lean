/-
  Words: plain definitions.
-/
namespace Go.Proofs.Ytancficmkkdnfaa

def okk (k : Nat) (c : UInt8) : Bool := decide (97 ≤ c.toNat) && decide (c.toNat < 97 + k)
theorem okk_iff (k : Nat) (c : UInt8) : okk k c = true ↔ 97 ≤ c.toNat ∧ c.toNat < 97 + k := by simp [okk]
def overB (k : Nat) (l : List UInt8) : Bool := l.all (okk k)
theorem overB_cons (k : Nat) (c : UInt8) (l : List UInt8) : overB k (c :: l) = (okk k c && overB k l) := rfl
theorem overB_append (k : Nat) (a b : List UInt8) : overB k (a ++ b) = (overB k a && overB k b) := List.all_append
theorem overB_bad (k : Nat) (c : UInt8) (l : List UInt8) (h : c.toNat < 97 ∨ 97 + k ≤ c.toNat) : overB k (c :: l) = false := by
  rw [overB_cons, show okk k c = false by rw [Bool.eq_false_iff]; intro h2; rw [okk_iff] at h2; omega]; rfl
theorem overB_ok (k : Nat) (c : UInt8) (l : List UInt8) (h : 97 ≤ c.toNat ∧ c.toNat < 97 + k) : overB k (c :: l) = overB k l := by
  rw [overB_cons, (okk_iff k c).2 h]; rfl
theorem overB_mem {k : Nat} {l : List UInt8} (h : overB k l = true) {c : UInt8} (hc : c ∈ l) : 97 ≤ c.toNat ∧ c.toNat < 97 + k :=
  (okk_iff k c).1 (List.all_eq_true.1 h c hc)
theorem overB_mono {j k : Nat} (hjk : j ≤ k) {l : List UInt8} (h : overB j l = true) : overB k l = true := by
  rw [overB, List.all_eq_true]; intro x hx
  have := overB_mem h hx
  rw [okk_iff]; omega
theorem overB_take {k : Nat} {l : List UInt8} (h : overB k l = true) (n : Nat) : overB k (l.take n) = true := by
  rw [overB, List.all_eq_true]; intro x hx
  exact (okk_iff k x).2 (overB_mem h (List.mem_of_mem_take hx))
theorem overB_drop {k : Nat} {l : List UInt8} (h : overB k l = true) (n : Nat) : overB k (l.drop n) = true := by
  rw [overB, List.all_eq_true]; intro x hx
  exact (okk_iff k x).2 (overB_mem h (List.mem_of_mem_drop hx))

def wordB (l : List UInt8) : Bool := decide (l.length ≤ 120) && overB 4 l
def imgB (l : List UInt8) : Bool := decide (1 ≤ l.length) && decide (l.length ≤ 12) && overB 4 l
def mapB (m : List (List UInt8)) : Bool := m.all imgB && m.length == 3

/-- The smallest period of a square at the beginning, from p on. -/
def sqI (d : List UInt8) (p : Nat) : Option Nat :=
  if 2 * p ≤ d.length then (if d.take p = (d.drop p).take p then some p else sqI d (p + 1)) else none
termination_by d.length + 1 - p
def sqO : List UInt8 → Nat → Option (Nat × Nat)
  | [], _ => none
  | c :: d, i => match sqI (c :: d) 1 with
    | some p => some (i, p)
    | none => sqO d (i + 1)
/-- The first square: its position and its period. -/
def sq (l : List UInt8) : Option (Nat × Nat) := sqO l 0
def freeB (l : List UInt8) : Bool := (sq l).isNone
/-- Does the word end with a square of a period from p on? -/
def endsI (l : List UInt8) (p : Nat) : Bool :=
  if 2 * p ≤ l.length then (if l.drop (l.length - p) = (l.drop (l.length - 2 * p)).take p then true else endsI l (p + 1)) else false
termination_by l.length + 1 - p
def endsB (l : List UInt8) : Bool := endsI l 1
end Go.Proofs.Ytancficmkkdnfaa
