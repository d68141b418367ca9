/-
  Walks: a number brought below another one.
-/
import Derived.Test.YthlgdakdjikjhaaDoorA
namespace Go.Proofs.YthlgdakdjikjhaaDoor
open Go.RowKit

theorem mod_eq (a b : Int) (h : 0 < b) (hb : b ≤ 1000) (_ha : -9223372036854775808 ≤ a ∧ a ≤ 9223372036854775807) : wrap64 ((IntKind.u64.wrap a).tmod (IntKind.u64.wrap b)) = (a % 18446744073709551616) % b := by
  have h1 : IntKind.u64.wrap b = b := IntWalk.u64_in _ (by omega)
  have h2 : IntKind.u64.wrap a = a % 18446744073709551616 := by simp [IntKind.wrap, IntKind.bits, IntKind.signed]
  rw [h1, h2, IntWalk.rem_in _ _ (by omega)]
  exact IntWalk.wrap64_in _ (by have := Int.emod_nonneg (a % 18446744073709551616) (show b ≠ 0 by omega); have := Int.emod_lt_of_pos (a % 18446744073709551616) h; omega)
set_option maxHeartbeats 400000 in
theorem mod_any' (a b : Int) (w : World) (h : 0 < b) (hb : b ≤ 1000) (ha : -9223372036854775808 ≤ a ∧ a ≤ 9223372036854775807) :
    Calls Tryd.prog 20 #[.int .i64 a, .int .i64 b] w fun e w' => e = .returned (.int .i64 ((a % 18446744073709551616) % b)) ∧ w = w' := by
  have H := hid (mod_eq a b h hb ha)
  have hz : ¬ IntKind.u64.wrap b = 0 := by rw [IntWalk.u64_in _ (by omega)]; omega
  go_enter Tryd.func20, Tryd.ntmps20
  go_wp2
  go_ret
  exact ⟨ret_int (by have := H.out; rw [show IntKind.u64.wrap b = b from IntWalk.u64_in _ (by omega)] at this; exact this), rfl⟩
/-- A number below n. -/
def modN (a : Int) (n : Nat) : Nat := ((a % 18446744073709551616) % (n : Int)).toNat
theorem modN_lt (a : Int) (n : Nat) (h : 0 < n) : modN a n < n := by
  unfold modN
  have := Int.emod_nonneg (a % 18446744073709551616) (show (n : Int) ≠ 0 by omega)
  have := Int.emod_lt_of_pos (a % 18446744073709551616) (show 0 < (n : Int) by omega)
  omega
theorem mod_any (a : Int) (n : Nat) (w : World) (h : 0 < n) (hb : n ≤ 1000) (ha : -9223372036854775808 ≤ a ∧ a ≤ 9223372036854775807) :
    Calls Tryd.prog 20 #[.int .i64 a, .int .i64 n] w fun e w' => e = .returned (.int .i64 (modN a n)) ∧ w = w' := by
  refine (mod_any' a n w (by omega) (by omega) ha).mono ?_
  rintro e w' ⟨rfl, hw⟩
  refine ⟨ret_int ?_, hw⟩
  unfold modN
  have := Int.emod_nonneg (a % 18446744073709551616) (show (n : Int) ≠ 0 by omega)
  omega

end Go.Proofs.YthlgdakdjikjhaaDoor
