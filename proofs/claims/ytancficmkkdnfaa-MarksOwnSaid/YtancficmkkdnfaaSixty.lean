/-
  A square-free word of sixty letters. No program.
-/
import Derived.Test.YtancficmkkdnfaaRot
import Derived.Test.YtancficmkkdnfaaFirsts
namespace Go.Proofs.Ytancficmkkdnfaa

def w60 : List UInt8 := [97, 98, 97, 99, 97, 98, 99, 97, 99, 98, 97, 98, 99, 97, 98, 97, 99, 97, 98, 99, 97, 99, 98, 97, 99, 97, 98, 97, 99, 98, 97, 98, 99, 97, 98, 97, 99, 97, 98, 99, 97, 99, 98, 97, 98, 99, 97, 98, 97, 99, 98, 97, 98, 99, 97, 99, 98, 97, 99, 97]
theorem w60_free : freeB w60 = true := by decide +kernel
theorem w60_over : overB 3 w60 = true := by decide +kernel
theorem some_free (n : Nat) (hn : n ≤ 60) : w60.take n ∈ frW 3 n [] :=
  (mem_frW 3 (by omega) n [] _ rfl rfl).2 ⟨w60.take n, by rw [List.length_take, show w60.length = 60 from rfl]; omega, rfl, overB_take w60_over n, free_take w60_free n⟩
theorem count_three (n : Nat) (h : 1 ≤ n) (hn : n ≤ 60) : 3 ≤ (frW 3 n []).length := by
  have h1 := count_mod n 3 h (by omega) (by omega)
  have h2 := List.length_pos_of_mem (some_free n hn)
  omega
/-- With two letters there is none of four letters. -/
theorem two_none (n : Nat) (h : 4 ≤ n) : frW 2 n [] = [] := by
  cases hc : frW 2 n [] with
  | nil => rfl
  | cons x r =>
    have h1 : x ∈ frW 2 n [] := by rw [hc]; simp
    have h2 := take_mem 2 n 4 (by omega) h x h1
    rw [show frW 2 4 [] = [] by decide +kernel] at h2
    exact absurd h2 (by simp)
end Go.Proofs.Ytancficmkkdnfaa
