/-
  How many choices rows have: no program.
-/
import Derived.Test.YtkmpdcckgibkhaaGreatI
import Derived.Test.YtkmpdcckgibkhaaGreatL
namespace Go.Proofs.YtkmpdcckgibkhaaGreat
open Go.RowKit Go.ChangeMaps

/-- The sum over the columns from c on that a row allows and that are not in use. -/
def colS (f : Nat → Nat) (u : Nat) : List Int → Nat → Nat
  | [], _ => 0
  | x :: r, c => (if 0 < x ∧ u.testBit c = false then f (u ||| 2 ^ c) else 0) + colS f u r (c + 1)
/-- How many choices the rows have, with the columns u in use. -/
def cntC : List (List Int) → Nat → Nat
  | [], _ => 1
  | r :: rest, u => colS (cntC rest) u r 0
theorem colS_le (f : Nat → Nat) (B : Nat) (hf : ∀ u, f u ≤ B) (u : Nat) : ∀ (r : List Int) (c : Nat), colS f u r c ≤ r.length * B := by
  intro r
  induction r with
  | nil => intro c; simp [colS]
  | cons x r ih =>
    intro c
    simp only [colS, List.length_cons, Nat.succ_mul]
    have := ih (c + 1)
    have := hf (u ||| 2 ^ c)
    split <;> omega
theorem cntC_le : ∀ (X : List (List Int)) (u : Nat), (∀ r ∈ X, r.length ≤ 5) → cntC X u ≤ 5 ^ X.length := by
  intro X
  induction X with
  | nil => intro u _; simp [cntC]
  | cons r rest ih =>
    intro u h
    have h1 := colS_le (cntC rest) (5 ^ rest.length) (fun u => ih u (fun r hr => h r (List.mem_cons_of_mem _ hr))) u r 0
    have h2 : r.length * 5 ^ rest.length ≤ 5 * 5 ^ rest.length := Nat.mul_le_mul_right _ (h r List.mem_cons_self)
    simp only [cntC, List.length_cons, Nat.pow_succ]
    omega

/-- What the map of known numbers says of the rows from r on. -/
def Kn (X : List (List Int)) (r : Nat) (M : List ((Int × Int) × Value)) : Prop := ∀ (i u : Nat) (v : Value), r ≤ i → get ((i : Int), (u : Int)) M = some v → v = .int .i64 (cntC (X.drop i) u : Nat)
/-- Two maps say the same of the rows before r. -/
def SameB (r : Nat) (M M' : List ((Int × Int) × Value)) : Prop := ∀ (i u : Nat), i < r → get ((i : Int), (u : Int)) M' = get ((i : Int), (u : Int)) M
theorem fnd_put {α : Type} [DecidableEq α] (a b : α) (u : Value) : ∀ (l : List (α × Value)) (i : Nat), (fnd b (put a u l) i).map (·.2) = if b = a then some u else (fnd b l i).map (·.2) := by
  intro l
  induction l with
  | nil =>
    intro i
    simp only [put, fnd]
    by_cases h : b = a <;> simp [h]
  | cons p l ih =>
    intro i
    obtain ⟨c, v⟩ := p
    simp only [put]
    by_cases h : a = c
    · subst h
      rw [if_pos rfl]
      simp only [fnd]
      by_cases h2 : b = a <;> simp [h2]
    · rw [if_neg h]
      simp only [fnd]
      by_cases h2 : b = c
      · subst h2
        rw [if_pos rfl, if_pos rfl, if_neg (fun e => h e.symm)]
      · rw [if_neg h2, if_neg h2, ih]
theorem get_put {α : Type} [DecidableEq α] (a b : α) (u : Value) (l : List (α × Value)) : get b (put a u l) = if b = a then some u else get b l := fnd_put a b u l 0
theorem key_ne (i u j v : Nat) (h : i ≠ j ∨ u ≠ v) : ((i : Int), (u : Int)) ≠ ((j : Int), (v : Int)) := by
  intro e
  simp only [Prod.mk.injEq] at e
  omega

end Go.Proofs.YtkmpdcckgibkhaaGreat
