/-
  Walks: a table's permanent.
-/
import Derived.Test.YtkmpdcckgibkhaaGreatG
import Derived.Laws.BitsLemmas
import Derived.Laws.Bits64b
namespace Go.Proofs.YtkmpdcckgibkhaaGreat
open Go.RowKit Go.ChangeMaps

theorem wraps_i64 (n : Int) (h0 : 0 ≤ n) (h1 : n < 2 ^ 63) : IntKind.i64.wrap n = n := by
  rw [IntKind.wrap_i64]; omega
theorem and_i64 (a b : Nat) (ha : a < 2 ^ 62) (hb : b < 2 ^ 62) : bits .and .i64 (a : Int) (b : Int) = ((a &&& b : Nat) : Int) :=
  (bits_nat .i64 63 (by decide) wraps_i64 a b (by omega) (by omega)).1
theorem or_i64 (a b : Nat) (ha : a < 2 ^ 62) (hb : b < 2 ^ 62) : bits .or .i64 (a : Int) (b : Int) = ((a ||| b : Nat) : Int) :=
  (bits_nat .i64 63 (by decide) wraps_i64 a b (by omega) (by omega)).2
theorem pow_cast (k : Nat) : ((2 ^ k : Nat) : Int) = (2 : Int) ^ k := by simp
theorem shr_cast (s k : Nat) : (s : Int) / 2 ^ k = ((s / 2 ^ k : Nat) : Int) := by rw [← pow_cast]; simp
theorem pow_small (x : Nat) (h : x < 9) : 2 ^ x < 512 := by
  have : (2 : Nat) ^ x < 2 ^ 9 := Nat.pow_lt_pow_right (by omega) h
  exact this
theorem pow_wrap (x : Nat) (h : x < 9) : wrap64 ((2 : Int) ^ x) = ((2 ^ x : Nat) : Int) := by
  have h1 := pow_small x h
  rw [← pow_cast]
  generalize 2 ^ x = y at h1
  exact IntWalk.wrap64_in _ (by omega)
/-- Is a state in a set? As the walk asks. -/
theorem bit_yes (s k : Nat) (hs : s < 512) (h : s.testBit k = true) : (bits .and .i64 ((s : Int) / 2 ^ k) 1 == 1) = true := by
  have h1 : s / 2 ^ k ≤ s := Nat.div_le_self _ _
  have := and_i64 (s / 2 ^ k) 1 (by omega) (by omega)
  rw [shr_cast]
  rw [Nat.testBit_eq_decide_div_mod_eq] at h
  rw [show ((1 : Int)) = ((1 : Nat) : Int) from rfl, this, Nat.and_one_is_mod, of_decide_eq_true h]; rfl
theorem bit_no (s k : Nat) (hs : s < 512) (h : s.testBit k = false) : (bits .and .i64 ((s : Int) / 2 ^ k) 1 == 1) = false := by
  have h1 : s / 2 ^ k ≤ s := Nat.div_le_self _ _
  have := and_i64 (s / 2 ^ k) 1 (by omega) (by omega)
  rw [shr_cast]
  rw [Nat.testBit_eq_decide_div_mod_eq] at h
  have h3 : s / 2 ^ k % 2 = 0 := by have := of_decide_eq_false h; omega
  rw [show ((1 : Int)) = ((1 : Nat) : Int) from rfl, this, Nat.and_one_is_mod, h3]; rfl
theorem or_pow (out x : Nat) (ho : out < 512) (hx : x < 9) : bits .or .i64 (out : Int) (wrap64 ((2 : Int) ^ x)) = ((out ||| 2 ^ x : Nat) : Int) := by
  have := pow_small x hx
  rw [pow_wrap x hx, or_i64 _ _ (by omega) (by omega)]
theorem or_small (a b : Nat) (ha : a < 512) (hb : b < 512) : a ||| b < 512 := Nat.or_lt_two_pow (n := 9) ha hb

theorem free_yes (s k : Nat) (hs : s < 512) (h : s.testBit k = false) : (bits .and .i64 ((s : Int) / 2 ^ k) 1 == 0) = true := by
  have h1 : s / 2 ^ k ≤ s := Nat.div_le_self _ _
  have := and_i64 (s / 2 ^ k) 1 (by omega) (by omega)
  rw [shr_cast]
  rw [Nat.testBit_eq_decide_div_mod_eq] at h
  have h3 : s / 2 ^ k % 2 = 0 := by have := of_decide_eq_false h; omega
  rw [show ((1 : Int)) = ((1 : Nat) : Int) from rfl, this, Nat.and_one_is_mod, h3]; rfl
theorem free_no (s k : Nat) (hs : s < 512) (h : s.testBit k = true) : (bits .and .i64 ((s : Int) / 2 ^ k) 1 == 0) = false := by
  have h1 : s / 2 ^ k ≤ s := Nat.div_le_self _ _
  have := and_i64 (s / 2 ^ k) 1 (by omega) (by omega)
  rw [shr_cast]
  rw [Nat.testBit_eq_decide_div_mod_eq] at h
  rw [show ((1 : Int)) = ((1 : Nat) : Int) from rfl, this, Nat.and_one_is_mod, of_decide_eq_true h]; rfl

/-- What a row adds for the columns from c on, with the columns u in use. -/
def rowS (f : Nat → Nat) (u : Nat) : List Int → Nat → Nat
  | [], _ => 0
  | x :: r, c => (if 0 < x ∧ u.testBit c = false then x.toNat * f (u ||| 2 ^ c) else 0) + rowS f u r (c + 1)
/-- The permanent of the rows that are left. -/
def permC (N : Nat) : List (List Int) → Nat → Nat
  | [], u => if u = 2 ^ N - 1 then 1 else 0
  | r :: rest, u => rowS (permC N rest) u r 0

theorem addM_keys (y n : Nat) : ∀ M : List (Nat × Nat), (M.map (·.1)).Nodup → ((addM y n M).map (·.1)).Nodup ∧ ∀ x, x ∈ (addM y n M).map (·.1) → x = y ∨ x ∈ M.map (·.1)
  | [], _ => by simp [addM]
  | (x, c) :: r, h => by
    simp only [List.map_cons, List.nodup_cons] at h
    obtain ⟨h1, h2⟩ := addM_keys y n r h.2
    simp only [addM]
    by_cases e : y = x
    · rw [if_pos e]
      simp only [List.map_cons, List.nodup_cons]
      exact ⟨h, fun z hz => .inr hz⟩
    · rw [if_neg e]
      simp only [List.map_cons, List.nodup_cons, List.mem_cons]
      refine ⟨⟨fun hm => ?_, h1⟩, fun z hz => ?_⟩
      · rcases h2 _ hm with h3 | h3
        · exact e h3.symm
        · exact h.1 h3
      · rcases hz with rfl | hz
        · exact .inr (.inl rfl)
        · rcases h2 z hz with h3 | h3
          · exact .inl h3
          · exact .inr (.inr h3)
theorem cntM_full (y : Nat) : ∀ M : List (Nat × Nat), (M.map (·.1)).Nodup → cntM y M = wsum (fun u => if u = y then 1 else 0) M
  | [], _ => rfl
  | (x, c) :: r, h => by
    simp only [List.map_cons, List.nodup_cons] at h
    have ih := cntM_full y r h.2
    simp only [cntM, wsum]
    by_cases e : y = x
    · subst e
      rw [if_pos rfl, if_pos rfl]
      have : ∀ M : List (Nat × Nat), y ∉ M.map (·.1) → wsum (fun u => if u = y then 1 else 0) M = 0 := by
        intro M
        induction M with
        | nil => intro _; rfl
        | cons p M ih2 =>
          intro hn
          simp only [List.map_cons, List.mem_cons, not_or] at hn
          simp only [wsum]
          rw [ih2 hn.2, if_neg fun e => hn.1 e.symm]; simp
      rw [this r h.1]; omega
    · rw [if_neg e, if_neg fun h => e h.symm, ih]; omega
theorem pow45 (r : Nat) (h : r ≤ 5) : 45 ^ r ≤ 184528125 := by
  have := Nat.pow_le_pow_right (show 0 < 45 by omega) h
  omega
theorem pow2_5 (r : Nat) (h : r ≤ 5) : 2 ^ r ≤ 32 := Nat.pow_le_pow_right (show 0 < 2 by omega) h

end Go.Proofs.YtkmpdcckgibkhaaGreat
