/-
  The law MarksGreatest, walked.
-/
import Derived.Test.YtancficmkkdnfaaN
namespace Go.Proofs.Ytancficmkkdnfaa
open Go.RowKit
attribute [local go_sem] Oper.semAt_some

theorem isP_take (l : List UInt8) (n p : Nat) : IsP (l.take n) n p ↔ IsP l n p := by
  unfold IsP
  constructor
  · rintro ⟨h1, h2, h3⟩
    refine ⟨h1, h2, fun i hi => ?_⟩
    have := h3 i hi
    rwa [List.getElem?_take, List.getElem?_take, if_pos hi, if_pos (by omega)] at this
  · rintro ⟨h1, h2, h3⟩
    refine ⟨h1, h2, fun i hi => ?_⟩
    rw [List.getElem?_take, List.getElem?_take, if_pos hi, if_pos (by omega)]
    exact h3 i hi
theorem per_take (l : List UInt8) (n : Nat) (hn : 0 < n) : per (l.take n) n = per l n :=
  Nat.le_antisymm (per_min _ _ _ ((isP_take l n _).2 (per_is l n hn))) (per_min _ _ _ ((isP_take l n _).1 (per_is (l.take n) n hn)))
theorem per_bounds (l : List UInt8) (n : Nat) (hn : 0 < n) : 1 ≤ per l n ∧ per l n ≤ n := ⟨(per_is l n hn).1, (per_is l n hn).2.1⟩
/-- Fractions in lowest terms. -/
theorem frac_le {n p S P : Nat} (hp : 0 < p) (hP : 0 < P) (h : n * P ≤ S * p) : n / Nat.gcd n p * (P / Nat.gcd S P) ≤ S / Nat.gcd S P * (p / Nat.gcd n p) := by
  obtain ⟨a, ha⟩ := Nat.gcd_dvd_left n p
  obtain ⟨b, hb⟩ := Nat.gcd_dvd_right n p
  obtain ⟨c, hc⟩ := Nat.gcd_dvd_left S P
  obtain ⟨d, hd⟩ := Nat.gcd_dvd_right S P
  have hg : 0 < Nat.gcd n p := Nat.gcd_pos_of_pos_right _ hp
  have hk : 0 < Nat.gcd S P := Nat.gcd_pos_of_pos_right _ hP
  generalize Nat.gcd n p = g at *
  generalize Nat.gcd S P = k at *
  rw [ha, hb, hc, hd, Nat.mul_div_cancel_left _ hg, Nat.mul_div_cancel_left _ hg, Nat.mul_div_cancel_left _ hk, Nat.mul_div_cancel_left _ hk]
  rw [ha, hb, hc, hd] at h
  have e1 : g * a * (k * d) = (g * k) * (a * d) := by rw [Nat.mul_assoc, Nat.mul_left_comm a k d, ← Nat.mul_assoc]
  have e2 : k * c * (g * b) = (g * k) * (c * b) := by rw [Nat.mul_assoc, Nat.mul_left_comm c g b, ← Nat.mul_assoc, Nat.mul_comm k g]
  rw [e1, e2] at h
  exact Nat.le_of_mul_le_mul_left h (Nat.mul_pos hg hk)
theorem gfacts (N1 D1 N2 D2 : Nat) (h1 : 1 ≤ D1) (h2 : D1 ≤ 120) (h3 : N1 ≤ 120) (h4 : 1 ≤ D2) (h5 : D2 ≤ 120) (h6 : N2 ≤ 120) (hle : N1 * D2 ≤ N2 * D1) :
    (decide ((D1 : Int) ≥ 1) = true ∧ decide ((D1 : Int) ≤ 120) = true ∧ decide ((D2 : Int) ≥ 1) = true ∧ decide ((D2 : Int) ≤ 120) = true ∧ decide ((N1 : Int) ≤ 120) = true ∧ decide ((N2 : Int) ≤ 120) = true) ∧
    ∃ P1 P2 : Int, wrap64 ((N1 : Int) * (D2 : Int)) = P1 ∧ wrap64 ((N2 : Int) * (D1 : Int)) = P2 ∧ decide (P1 ≤ P2) = true :=
  ⟨⟨decide_eq_true (by omega), decide_eq_true (by omega), decide_eq_true (by omega), decide_eq_true (by omega), decide_eq_true (by omega), decide_eq_true (by omega)⟩,
    _, _, wrap_mul _ _ (by omega) (by omega), wrap_mul _ _ (by omega) (by omega), decide_eq_true (Int.ofNat_le.2 hle)⟩
theorem frac_den {n p : Nat} (hp : 0 < p) : 1 ≤ p / Nat.gcd n p :=
  Nat.div_pos (Nat.gcd_le_right _ hp) (Nat.gcd_pos_of_pos_right _ hp)
theorem exp_at (l : List UInt8) (hf : fullB l = true) (hl : l.length ≤ 120) (w : World) : Hid (Calls Try.prog 20 #[.string (mkS l)] w fun e w' => e = .returned (.tuple #[fracV l.length (per l l.length), .int .i64 0]) ∧ Below w.heap.size w w') := by
  refine (Exponent_any (mkS l) w (by rw [mkS_size]; omega)).mono ?_
  rintro e w' ⟨rfl, hb⟩
  rw [mkS_data, if_pos hf]; exact ⟨rfl, hb⟩
theorem gr_at (l : List UInt8) (hf : fullB l = true) (hl : l.length ≤ 120) (w : World) : Hid (Calls Try.prog 21 #[.string (mkS l)] w fun e w' => e = .returned (.tuple #[fracV (gr l).size (gr l).period, .int .i64 (gr l).at_, .int .i64 (gr l).size, .int .i64 0]) ∧ Below w.heap.size w w') := by
  refine (Greatest_any (mkS l) w (by rw [mkS_size]; omega)).mono ?_
  rintro e w' ⟨rfl, hb⟩
  rw [mkS_data, if_pos hf]; exact ⟨rfl, hb⟩

set_option maxRecDepth 100000 in
set_option maxHeartbeats 4000000 in
theorem greatest_walk (s0 : ByteArray) (x : Nat → Int) (w : World) (hs : s0.size ≤ maxLen) (hx : ∀ c, -9223372036854775808 ≤ x c ∧ x c ≤ 9223372036854775807) :
    Calls Try.prog 4 #[.string s0, .agg #[.int .i64 (x 0), .int .i64 (x 1)]] w fun e w' => e = .returned (.bool true) ∧ Below w.heap.size w w' := by
  have hmx : maxLen ≤ 9223372036854775807 := by decide
  have TA := fun W => hid (tame_any s0 120 4 W (by omega) (by omega) (by omega) (Nat.le_trans hs hmx))
  have hov := tame_over 120 4 s0.data.toList (by omega) (by omega)
  have hln := tame_len 120 4 s0.data.toList
  obtain ⟨l, hl⟩ : ∃ l, l = tameL 120 4 s0.data.toList := ⟨_, rfl⟩
  rw [← hl] at TA hov hln
  have hls := mkS_size l
  have hbl := Blk.new w #[.int .i64 (x 0), .int .i64 (x 1)] 37
  have hbw : Below w.heap.size w (w.alloc (.cells #[.int .i64 (x 0), .int .i64 (x 1)] 37)) := (Below.refl _ w).alloc (Nat.le_refl _) _
  have HBL := hid hbl
  have HBW := hid hbw
  clear hbl hbw hl hs
  by_cases h0 : l = []
  · subst h0
    have hse := empty_yes (mkS []) rfl
    go_enter Try.func4, Try.ntmps4
    go_wp2_with fail
    refine (TA _).out.mono ?_
    rintro e w1 ⟨rfl, hb1⟩
    have hb1 := HBW.out.trans (hb1.mono HBW.out.size)
    go_wp2_with fail
    refine (awake_any _).mono ?_
    rintro e w9 ⟨rfl, hb9⟩
    go_wp2_with fail
    go_ret
    exact ⟨rfl, hb1.trans (hb9.mono hb1.size)⟩
  · have hpos : 0 < l.length := List.length_pos_iff.2 h0
    have hse := empty_no (mkS l) (by omega)
    have MU := hid (fun (v : Int) (hv : -9223372036854775808 ≤ v ∧ v ≤ 9223372036854775807) W => (mod_any v l.length W hpos (by omega) hv).mono (R' := fun e w' => e = .returned (.int .i64 (modN v l.length)) ∧ w' = W) fun e w' h => ⟨h.1, h.2.symm⟩)
    have hx0 := hx 0
    have hx1 := hx 1
    have L0 := fun c => modN_lt (x c) l.length hpos
    have l1 := L0 0
    have l2 := L0 1
    clear L0 h0 hx
    go_enter Try.func4, Try.ntmps4
    go_wp2_with fail
    refine (TA _).out.mono ?_
    rintro e w1 ⟨rfl, hb1⟩
    have hbl1 := HBL.out.below hb1 (by simp)
    obtain ⟨c0, c1, -, -⟩ := hbl1.pair
    have hb1 := HBW.out.trans (hb1.mono HBW.out.size)
    clear hbl1
    go_wp2_with fail
    go_quiet (exact Calls.quiet_of_same (MU.out _ (by assumption) _))
    replace hb1 := below_drewN hb1 nq
    generalize modN (x 0) l.length = p at l1 ⊢
    generalize modN (x 1) l.length = q at l2 ⊢
    obtain ⟨y, hy⟩ : ∃ y, y = (l.drop (min p q)).take (max p q + 1 - min p q) := ⟨_, rfl⟩
    have hyl : y.length = max p q + 1 - min p q := by rw [hy, List.length_take, List.length_drop]; omega
    have hext : (mkS l).extract (min (p : Int) (q : Int)).toNat (max (p : Int) (q : Int) + 1).toNat = mkS y := by
      refine mkS_eq _ _ ?_
      rw [data_extract, mkS_data, hy, show (min (p : Int) (q : Int)).toNat = min p q by omega, show (max (p : Int) (q : Int) + 1).toNat = max p q + 1 by omega]
    have hyo : overB 4 y = true := by rw [hy]; exact overB_take (overB_drop hov _) _
    have hyf : fullB y = true := full_yes y (by omega) (by rw [wordB, hyo]; simp; omega)
    have hlf : fullB l = true := full_yes l (by omega) (by rw [wordB, hov]; simp; omega)
    have E := fun W => exp_at y hyf (by omega) W
    have G := fun W => gr_at l hlf hln W
    have hne : l ≠ [] := List.length_pos_iff.1 hpos
    obtain ⟨g1, g2, g3, g4, g5⟩ := gr_full l hne
    have hgs := (gr_spec l hne).2.1 (min p q) y.length (by omega) (by omega)
    have hper : per y y.length = per (l.drop (min p q)) y.length := by
      have h := per_take (l.drop (min p q)) y.length (by omega)
      rw [← hyl] at hy
      rw [← hy] at h
      exact h
    rw [← hper] at hgs
    have hpb := per_bounds y y.length (by omega)
    have hle := frac_le (by omega) (by omega) hgs
    have hd1 := frac_den (n := y.length) (p := per y y.length) (by omega)
    have hd2 := frac_den (n := (gr l).size) (p := (gr l).period) (by omega)
    have hb1' := Nat.div_le_self (per y y.length) (Nat.gcd y.length (per y y.length))
    have hb2' := Nat.div_le_self (gr l).period (Nat.gcd (gr l).size (gr l).period)
    have hb3' := Nat.div_le_self y.length (Nat.gcd y.length (per y y.length))
    have hb4' := Nat.div_le_self (gr l).size (Nat.gcd (gr l).size (gr l).period)
    simp only [fracV] at E G
    generalize y.length / Nat.gcd y.length (per y y.length) = N1 at E hle hb3'
    generalize per y y.length / Nat.gcd y.length (per y y.length) = D1 at E hle hd1 hb1'
    generalize (gr l).size / Nat.gcd (gr l).size (gr l).period = N2 at G hle hb4'
    generalize (gr l).period / Nat.gcd (gr l).size (gr l).period = D2 at G hle hd2 hb2'
    generalize (gr l).at_ = A at G g3
    generalize (gr l).size = S at G g1 g2 hb4'
    have i1 : D1 ≤ 120 := by omega
    have i2 : N1 ≤ 120 := by omega
    have i3 : D2 ≤ 120 := by omega
    have i4 : N2 ≤ 120 := by omega
    obtain ⟨⟨e1, e2, e3, e4, e5, e6⟩, P1, P2, m1, m2, dd1⟩ := gfacts N1 D1 N2 D2 hd1 i1 i2 hd2 i3 i4 hle
    have HEXT := hid hext
    clear hy hyl hyo hyf hlf hne g1 g2 g3 g4 g5 hgs hper hpb hb1' hb2' hb3' hb4' hext hov i1 i2 i3 i4 hd1 hd2 hle
    go_wp2_with fail
    rw [HEXT.out]
    refine (E _).out.mono ?_
    rintro e w2 ⟨rfl, hb2⟩
    replace hb2 := hb1.trans (hb2.mono hb1.size)
    go_wp2_with fail
    have hk1 : Blk (w2.alloc (.cells #[.int .i64 (N1 : Int), .int .i64 (D1 : Int)] 24)) w2.heap.size #[.int .i64 (N1 : Int), .int .i64 (D1 : Int)] 24 := Blk.new _ _ _
    have hs1 : w2.heap.size < (w2.alloc (.cells #[.int .i64 (N1 : Int), .int .i64 (D1 : Int)] 24)).heap.size := by simp
    have hb2' : Below w.heap.size w (w2.alloc (.cells #[.int .i64 (N1 : Int), .int .i64 (D1 : Int)] 24)) := hb2.alloc hb2.size _
    refine (G _).out.mono ?_
    rintro e w3 ⟨rfl, hb3⟩
    have HK1 := hid (hk1.below hb3 hs1)
    replace hb3 := hb2'.trans (hb3.mono hb2'.size)
    have HK1 := hid (HK1.out.alloc (.cells #[.int .i64 (N2 : Int), .int .i64 (D2 : Int)] 24))
    have hk2 : Blk (w3.alloc (.cells #[.int .i64 (N2 : Int), .int .i64 (D2 : Int)] 24)) w3.heap.size #[.int .i64 (N2 : Int), .int .i64 (D2 : Int)] 24 := Blk.new _ _ _
    obtain ⟨r1, r2, -, -⟩ := HK1.out.pair
    obtain ⟨r3, r4, -, -⟩ := hk2.pair
    have hb4 : Below w.heap.size w (w3.alloc (.cells #[.int .i64 (N2 : Int), .int .i64 (D2 : Int)] 24)) := hb3.alloc hb3.size _
    clear hk1 hs1 hb2' hb2 hb3 hk2
    go_wp2_with fail
    refine (awake_any _).mono ?_
    rintro e w9 ⟨rfl, hb9⟩
    go_wp2_with fail
    go_ret
    exact ⟨rfl, hb4.trans (hb9.mono hb4.size)⟩
end Go.Proofs.Ytancficmkkdnfaa
