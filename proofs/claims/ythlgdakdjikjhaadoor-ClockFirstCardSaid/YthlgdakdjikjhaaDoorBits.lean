/-
  Bits of small numbers. No program.
-/
import Derived.Test.YthlgdakdjikjhaaDoorPure
import Derived.Laws.BitsLemmas
import Derived.Laws.Bits64b
import Derived.WalkKit
namespace Go.Proofs.YthlgdakdjikjhaaDoor
open Go.RowKit

theorem wraps_i64 (n : Int) (h0 : 0 ≤ n) (h1 : n < 2 ^ 63) : IntKind.i64.wrap n = n := by
  rw [IntKind.wrap_i64]; omega
theorem and_i64 (a b : Nat) (ha : a < 2 ^ 62) (hb : b < 2 ^ 62) : bits .and .i64 (a : Int) (b : Int) = ((a &&& b : Nat) : Int) :=
  (bits_nat .i64 63 (by decide) wraps_i64 a b (by omega) (by omega)).1
theorem or_i64 (a b : Nat) (ha : a < 2 ^ 62) (hb : b < 2 ^ 62) : bits .or .i64 (a : Int) (b : Int) = ((a ||| b : Nat) : Int) :=
  (bits_nat .i64 63 (by decide) wraps_i64 a b (by omega) (by omega)).2
theorem pow_cast (k : Nat) : ((2 ^ k : Nat) : Int) = (2 : Int) ^ k := by simp
theorem shr_cast (s k : Nat) : (s : Int) / 2 ^ k = ((s / 2 ^ k : Nat) : Int) := by rw [← pow_cast]; simp
theorem pow_small (x : Nat) (h : x < 9) : 2 ^ x < 512 := by
  have : (2 : Nat) ^ x < 2 ^ 9 := Nat.pow_lt_pow_right (by omega) h
  exact this
theorem pow_wrap (x : Nat) (h : x < 9) : wrap64 ((2 : Int) ^ x) = ((2 ^ x : Nat) : Int) := by
  have h1 := pow_small x h
  rw [← pow_cast]
  generalize 2 ^ x = y at h1
  exact IntWalk.wrap64_in _ (by omega)
/-- Is a state in a set? As the walk asks. -/
theorem bit_yes (s k : Nat) (hs : s < 512) (h : s.testBit k = true) : (bits .and .i64 ((s : Int) / 2 ^ k) 1 == 1) = true := by
  have h1 : s / 2 ^ k ≤ s := Nat.div_le_self _ _
  have := and_i64 (s / 2 ^ k) 1 (by omega) (by omega)
  rw [shr_cast]
  rw [Nat.testBit_eq_decide_div_mod_eq] at h
  rw [show ((1 : Int)) = ((1 : Nat) : Int) from rfl, this, Nat.and_one_is_mod, of_decide_eq_true h]; rfl
theorem bit_no (s k : Nat) (hs : s < 512) (h : s.testBit k = false) : (bits .and .i64 ((s : Int) / 2 ^ k) 1 == 1) = false := by
  have h1 : s / 2 ^ k ≤ s := Nat.div_le_self _ _
  have := and_i64 (s / 2 ^ k) 1 (by omega) (by omega)
  rw [shr_cast]
  rw [Nat.testBit_eq_decide_div_mod_eq] at h
  have h3 : s / 2 ^ k % 2 = 0 := by have := of_decide_eq_false h; omega
  rw [show ((1 : Int)) = ((1 : Nat) : Int) from rfl, this, Nat.and_one_is_mod, h3]; rfl
theorem or_pow (out x : Nat) (ho : out < 512) (hx : x < 9) : bits .or .i64 (out : Int) (wrap64 ((2 : Int) ^ x)) = ((out ||| 2 ^ x : Nat) : Int) := by
  have := pow_small x hx
  rw [pow_wrap x hx, or_i64 _ _ (by omega) (by omega)]
theorem or_small (a b : Nat) (ha : a < 512) (hb : b < 512) : a ||| b < 512 := Nat.or_lt_two_pow (n := 9) ha hb
/-- The lowest state of a set. -/
def lowN (x : Nat) : Nat := ((List.range 9).find? x.testBit).getD 0
def dbI (k : Nat) : Nat := 2 ^ k * 285870213051353865 % 2 ^ 64 / 2 ^ 58
def tzK (x : Int) : Int := IntKind.u64.wrap (bits .and .u64 x (IntKind.u64.wrap (-x)) * 285870213051353865) / 288230376151711744
theorem tz_key : ∀ x : Nat, x < 512 → x ≠ 0 → tzK (x : Int) = (dbI (lowN x) : Int) ∧ lowN x < 9 ∧ dbI (lowN x) < 64 := by decide +kernel
def o1 (x : Int) : Int := IntKind.u64.wrap (bits .and .u64 (x / 2) 6148914691236517205 + bits .and .u64 x 6148914691236517205)
def o2 (x : Int) : Int := IntKind.u64.wrap (bits .and .u64 (x / 4) 3689348814741910323 + bits .and .u64 x 3689348814741910323)
def o3 (x : Int) : Int := bits .and .u64 (IntKind.u64.wrap (x / 16 + x)) 1085102592571150095
def o4 (x : Int) : Int := IntKind.u64.wrap (x + x / 256)
def o5 (x : Int) : Int := IntKind.u64.wrap (x + x / 65536)
def o6 (x : Int) : Int := IntKind.u64.wrap (x + x / 4294967296)
def o7 (x : Int) : Int := bits .and .i64 (wrap64 x) 127
theorem oc_key : ∀ x : Nat, x < 512 → 0 ≤ o1 (x : Int) ∧ 0 ≤ o2 (o1 (x : Int)) ∧ 0 ≤ o3 (o2 (o1 (x : Int))) ∧ 0 ≤ o4 (o3 (o2 (o1 (x : Int)))) ∧ 0 ≤ o5 (o4 (o3 (o2 (o1 (x : Int))))) ∧ 0 ≤ o6 (o5 (o4 (o3 (o2 (o1 (x : Int)))))) ∧ o7 (o6 (o5 (o4 (o3 (o2 (o1 (x : Int))))))) = (sizeN x : Int) := by decide +kernel
theorem oc_steps (x : Nat) (hx : x < 512) : ∃ a1 a2 a3 a4 a5 a6 : Nat, o1 x = a1 ∧ o2 a1 = a2 ∧ o3 a2 = a3 ∧ o4 a3 = a4 ∧ o5 a4 = a5 ∧ o6 a5 = a6 ∧ o7 a6 = sizeN x := by
  obtain ⟨h1, h2, h3, h4, h5, h6, h7⟩ := oc_key x hx
  obtain ⟨a1, e1⟩ := Int.eq_ofNat_of_zero_le h1
  rw [e1] at h2 h3 h4 h5 h6 h7
  obtain ⟨a2, e2⟩ := Int.eq_ofNat_of_zero_le h2
  rw [e2] at h3 h4 h5 h6 h7
  obtain ⟨a3, e3⟩ := Int.eq_ofNat_of_zero_le h3
  rw [e3] at h4 h5 h6 h7
  obtain ⟨a4, e4⟩ := Int.eq_ofNat_of_zero_le h4
  rw [e4] at h5 h6 h7
  obtain ⟨a5, e5⟩ := Int.eq_ofNat_of_zero_le h5
  rw [e5] at h6 h7
  obtain ⟨a6, e6⟩ := Int.eq_ofNat_of_zero_le h6
  rw [e6] at h7
  exact ⟨a1, a2, a3, a4, a5, a6, e1, e2, e3, e4, e5, e6, h7⟩
/-- A set without its lowest state. -/
theorem list_step : ∀ x : Nat, x < 512 → x ≠ 0 → listN x = lowN x :: listN (x &&& (x - 1)) ∧ x &&& (x - 1) < x := by decide +kernel
theorem list_zero : listN 0 = [] := by decide
theorem clear_low (x : Nat) (hx : x < 512) (h0 : x ≠ 0) : bits .and .i64 (x : Int) ((x : Int) - 1) = ((x &&& (x - 1) : Nat) : Int) := by
  have := and_i64 x (x - 1) (by omega) (by omega)
  rw [← this, show (x : Int) - 1 = ((x - 1 : Nat) : Int) by omega]
/-- The states of a set from state q on. -/
def listF (x q : Nat) : List Nat := (List.range' q (9 - q)).filter x.testBit
theorem listF_zero (x : Nat) : listF x 0 = listN x := by simp [listF, listN, List.range_eq_range']
theorem listF_step (x q : Nat) (h : q < 9) : listF x q = (if x.testBit q then [q] else []) ++ listF x (q + 1) := by
  unfold listF
  rw [show 9 - q = (9 - (q + 1)) + 1 by omega, List.range'_succ, List.filter_cons]
  split <;> simp
theorem listF_end (x q : Nat) (hx : x / 2 ^ q = 0) : listF x q = [] := by
  unfold listF
  rw [List.filter_eq_nil_iff]
  intro a ha
  have h1 := (List.mem_range'_1.1 ha).1
  rw [Nat.testBit_eq_decide_div_mod_eq]
  have h2 : x < 2 ^ q := by
    rcases Nat.lt_or_ge x (2 ^ q) with h | h
    · exact h
    · have := Nat.div_pos h (Nat.two_pow_pos q); omega
  have h3 : x / 2 ^ a = 0 := Nat.div_eq_of_lt (Nat.lt_of_lt_of_le h2 (Nat.pow_le_pow_right (by omega) h1))
  rw [h3]; simp
theorem shr_end (x q : Nat) (hx : x < 512) (hq : 9 ≤ q) : x / 2 ^ q = 0 :=
  Nat.div_eq_of_lt (Nat.lt_of_lt_of_le hx (Nat.pow_le_pow_right (n := 2) (by omega) hq))
theorem listN_len (x : Nat) : (listN x).length ≤ 9 := Nat.le_trans (List.length_filter_le _ _) (by simp)
theorem tmod_yes (s k : Nat) (h : s.testBit k = true) : (Int.tmod ((s : Int) / 2 ^ k) 2 == 1) = true := by
  rw [Nat.testBit_eq_decide_div_mod_eq] at h
  have h3 := of_decide_eq_true h
  rw [shr_cast]
  generalize s / 2 ^ k = y at *
  rw [show Int.tmod (y : Int) 2 = ((y % 2 : Nat) : Int) from rfl, h3]; rfl
theorem tmod_no (s k : Nat) (h : s.testBit k = false) : (Int.tmod ((s : Int) / 2 ^ k) 2 == 1) = false := by
  rw [Nat.testBit_eq_decide_div_mod_eq] at h
  have h3 : s / 2 ^ k % 2 = 0 := by have := of_decide_eq_false h; omega
  rw [shr_cast]
  generalize s / 2 ^ k = y at *
  rw [show Int.tmod (y : Int) 2 = ((y % 2 : Nat) : Int) from rfl, h3]; rfl
end Go.Proofs.YthlgdakdjikjhaaDoor
