/-
  Walks: powers; parts of a net.
-/
import Derived.Test.YtkmpdcckgibkhaaGreatPc
namespace Go.Proofs.YtkmpdcckgibkhaaGreat
open Go.RowKit

theorem rem_two (n : Int) (h : 0 ≤ n) : n.tmod 2 = n % 2 := by rw [Int.tmod_eq_emod_of_nonneg h]
theorem quo_two (n : Int) (h : 0 ≤ n) : n.tdiv 2 = n / 2 := by rw [Int.tdiv_eq_ediv_of_nonneg h]

/-- A product's remainder. -/
theorem mulmod (x y p : Int) (h1 : 0 ≤ x) (h2 : x < p) (h3 : 0 ≤ y) (h4 : y < p) (hp : p ≤ 2147483647) : 0 ≤ x * y ∧ x * y ≤ 4611686018427387904 ∧ (x * y).tmod p = x * y % p ∧ 0 ≤ x * y % p ∧ x * y % p < p := by
  have a : 0 ≤ x * y := Int.mul_nonneg h1 h3
  have b : x * y ≤ 2147483648 * 2147483648 := Int.mul_le_mul (by omega) (by omega) h3 (by omega)
  exact ⟨a, by omega, Int.tmod_eq_emod_of_nonneg a, Int.emod_nonneg _ (by omega), Int.emod_lt_of_pos _ (by omega)⟩

/-- The number is in the range, and 1 if a is. -/
def PowIs (a p : Int) (u : Value) : Prop := ∃ x, u = .int .i64 x ∧ 0 ≤ x ∧ x < p ∧ (a = 1 → x = 1)

set_option maxHeartbeats 2000000 in
theorem power_any (a n p : Int) (w : World) (hp : 1 < p) (hp2 : p ≤ 2147483647) (ha : 0 ≤ a) (ha2 : a < p) (hn : 0 ≤ n) (hn2 : n ≤ 2147483647) :
    Calls Tryz.prog 94 #[.int .i64 a, .int .i64 n, .int .i64 p] w fun e w' => (∃ u, e = .returned u ∧ PowIs a p u) ∧ w = w' := by
  go_enter Tryz.func94, Tryz.ntmps94
  go_wp2_with fail
  go_loop [0, 1, 7] (fun b m out => ∃ x y k : Int, b = .int .i64 x ∧ m = .int .i64 k ∧ out = .int .i64 y ∧ 0 ≤ k ∧ k ≤ 2147483647 ∧ 0 ≤ x ∧ x < p ∧ 0 ≤ y ∧ y < p ∧ Hid (a = 1 → x = 1 ∧ y = 1)) (fun _ m _ => (intOf m).toNat)
  case atStart => exact ⟨a, 1, n, rfl, rfl, rfl, hn, hn2, ha, ha2, by omega, hp, fun h => ⟨h, rfl⟩⟩
  case round =>
    obtain ⟨x, y, k, rfl, rfl, rfl, hk, hk2, hx, hx2, hy, hy2, H⟩ := hrel
    obtain ⟨e1, e2, e3, e4, e5⟩ := mulmod y x p hy hy2 hx hx2 hp2
    obtain ⟨f1, f2, f3, f4, f5⟩ := mulmod x x p hx hx2 hx hx2 hp2
    have HY := hid (show a = 1 → y * x % p = 1 from fun h => by obtain ⟨rfl, rfl⟩ := H.out h; exact Int.emod_eq_of_lt (by omega) (by omega))
    have HX := hid (show a = 1 → x * x % p = 1 from fun h => by obtain ⟨rfl, rfl⟩ := H.out h; exact Int.emod_eq_of_lt (by omega) (by omega))
    generalize hP : y * x = P at *
    generalize hR : x * x = R at *
    generalize hP' : P % p = P' at *
    generalize hR' : R % p = R' at *
    have g1 : wrap64 (y * x) = P := by unfold wrap64; omega
    have g2 : IntKind.i64.wrap (y * x) = P := by rw [IntKind.wrap_i64]; omega
    have g3 : wrap64 (x * x) = R := by unfold wrap64; omega
    have g4 : IntKind.i64.wrap (x * x) = R := by rw [IntKind.wrap_i64]; omega
    have k1 := rem_two k hk
    have k2 := quo_two k hk
    clear hP hR hP' hR'
    by_cases h0 : 0 < k
    · obtain ⟨d, hd⟩ : ∃ d, d = k / 2 := ⟨_, rfl⟩
      have d1 : 0 ≤ d := by omega
      have d2 : d < k := by omega
      rw [← hd] at k2
      by_cases h1 : k % 2 = 1
      · rw [h1] at k1
        clear hd h1
        go_wp2_with fail
        go_round
        case rel => exact ⟨R', P', d, rfl, rfl, rfl, d1, by omega, f4, f5, e4, e5, fun h => ⟨HX.out h, HY.out h⟩⟩
        case measure => simp [intOf]; omega
      · have h2 : k % 2 = 0 := by omega
        rw [h2] at k1
        clear hd h1 h2
        go_wp2_with fail
        go_round
        case rel => exact ⟨R', y, d, rfl, rfl, rfl, d1, by omega, f4, f5, hy, hy2, fun h => ⟨HX.out h, (H.out h).2⟩⟩
        case measure => simp [intOf]; omega
    · go_wp2_with fail
      go_ret
      exact ⟨⟨_, rfl, y, rfl, hy, hy2, fun h => (H.out h).2⟩, rfl⟩
end Go.Proofs.YtkmpdcckgibkhaaGreat
