/-
  The law MarksPowers, walked.
-/
import Derived.Test.YtancficmkkdnfaaLawImages
import Derived.Test.YtancficmkkdnfaaS
namespace Go.Proofs.Ytancficmkkdnfaa
open Go.RowKit
attribute [local go_sem] Oper.semAt_some

/-- What the law knows of its map. -/
structure PF (W0 : World) (a0 : Option Addr) (len cap : Nat) (M : List (List UInt8)) : Prop where
  mp : ∀ W, W = W0 → Calls Try.prog 30 #[.slice a0 len cap] W (RetS M W)
  ml : M.length ≤ 4
  me : ∀ x ∈ M, x.length ≤ 13


theorem Power_noM (a : Option Addr) (c : Nat) (m : List (List UInt8)) (L t : Int) (w : World) (hm : Strs w a m) (hL : 0 ≤ L ∧ L ≤ 255) (hmap : mapB m = true) (hc : 3 ≤ c) (h : ¬ (o3 m = true ∧ 97 ≤ L ∧ L ≤ 99 ∧ 0 ≤ t ∧ t ≤ 40)) :
    Hid (Calls Try.prog 52 #[.slice a 3 c, .int .u8 L, .int .i64 t] w fun e w' => e = .returned (.tuple #[.string ⟨#[]⟩, .int .i64 2]) ∧ Below w.heap.size w w') := by
  rw [show (3 : Nat) = m.length from (map_len hmap).1.symm]
  cases h3 : o3 m with
  | false => exact Power_no2 a c m L t w hm hL hmap hc h3
  | true =>
    by_cases hl : 97 ≤ L ∧ L ≤ 99
    · exact Power_no4 a c m L t w hm hL hmap hc h3 hl (by
        by_cases h1 : t < 0
        · exact .inl h1
        · by_cases h2 : 40 < t
          · exact .inr h2
          · exact absurd ⟨h3, hl.1, hl.2, by omega, by omega⟩ h)
    · exact Power_no3 a c m L t w hm hL hmap hc h3 (by omega)

set_option maxRecDepth 100000 in
set_option maxHeartbeats 2000000 in
theorem powers1 (a0 : Option Addr) (len cap : Nat) (M : List (List UInt8)) (L t : Int) (w : World) (F : PF w a0 len cap M) (hL : 0 ≤ L ∧ L ≤ 255) (h : mapB M = false) :
    Calls Try.prog 16 #[.slice a0 len cap, .int .u8 L, .int .i64 t] w fun e w' => e = .returned (.bool true) ∧ Below w.heap.size w w' := by
  have MP := hid (F.mp w rfl)
  have PW := fun a c W (hW : Strs W a M) => hid (Power_no1 a c M L t W hW hL (by have := F.ml; omega) (fun x hx => Nat.le_trans (F.me x hx) (by omega)) h)
  have RM := fun a c W (hW : Strs W a M) => hid (refMap_same a c M W hW (by have := F.ml; omega) (fun x hx => Nat.le_trans (F.me x hx) (by omega)))
  rw [h] at RM
  obtain ⟨q, hq⟩ : ∃ q, q = M.length := ⟨_, rfl⟩
  rw [← hq] at PW RM
  have HQ := hid hq
  clear F h hq
  go_enter Try.func16, Try.ntmps16
  go_wp2_with fail
  refine MP.out.mono ?_
  rintro e w1 ⟨a1, c1, rfl, hv1, hn1, hc1, hb1⟩
  rw [← HQ.out] at hc1 ⊢
  have HV1 := hid hv1
  clear hv1 hn1 hc1
  go_wp2_with fail
  refine (PW a1 c1 _ HV1.out).out.mono ?_
  rintro e w2 ⟨rfl, hb2⟩
  have HV2 := hid (HV1.out.below hb2 (Nat.le_refl _))
  replace hb2 := hb1.trans (hb2.mono hb1.size)
  go_wp2_with fail
  have RMd := hid (fun n => ((RM a1 c1 (w2.drewN n) HV2.out).out).mono (R' := fun e w' => e = .returned (.bool false) ∧ w' = w2.drewN n) fun e w' h => ⟨h.1, h.2.symm⟩)
  go_quiet (exact Calls.quiet_of_same (RMd.out _))
  replace hb2 := below_drewN hb2 nq
  go_wp2_with fail
  refine (awake_any _).mono ?_
  rintro e w9 ⟨rfl, hb9⟩
  go_wp2_with fail
  go_ret
  exact ⟨rfl, hb2.trans (hb9.mono hb2.size)⟩

set_option maxRecDepth 100000 in
set_option maxHeartbeats 2000000 in
theorem powers2 (a0 : Option Addr) (len cap : Nat) (M : List (List UInt8)) (L t : Int) (w : World) (F : PF w a0 len cap M) (hL : 0 ≤ L ∧ L ≤ 255) (h : mapB M = true) (hl : L < 97) :
    Calls Try.prog 16 #[.slice a0 len cap, .int .u8 L, .int .i64 t] w fun e w' => e = .returned (.bool true) ∧ Below w.heap.size w w' := by
  have MP := hid (F.mp w rfl)
  have RM := fun a c W (hW : Strs W a M) => hid (refMap_same a c M W hW (by have := F.ml; omega) (fun x hx => Nat.le_trans (F.me x hx) (by omega)))
  rw [h, (map_len h).1] at RM
  have H33 := hid (map_len h).1
  have PW := fun a c W (hc : 3 ≤ c) (hW : Strs W a M) => Power_noM a c M L t W hW hL h hc (by rintro ⟨h1, h2, h3, h4, h5⟩; first | omega | (rw [ho] at h1; exact nomatch h1))
  have d1 : decide (L < 97) = true := decide_eq_true (by omega)
  clear F h
  go_enter Try.func16, Try.ntmps16
  go_wp2_with fail
  refine MP.out.mono ?_
  rintro e w1 ⟨a1, c1, rfl, hv1, hn1, hc1, hb1⟩
  rw [H33.out] at hc1 ⊢
  have HV1 := hid hv1
  have HC1 := hid hc1
  clear hv1 hn1 hc1
  go_wp2_with fail
  refine (PW a1 c1 _ HC1.out HV1.out).out.mono ?_
  rintro e w2 ⟨rfl, hb2⟩
  have HV2 := hid (HV1.out.below hb2 (Nat.le_refl _))
  replace hb2 := hb1.trans (hb2.mono hb1.size)
  go_wp2_with fail
  have RMd := hid (fun n => ((RM a1 c1 (w2.drewN n) HV2.out).out).mono (R' := fun e w' => e = .returned (.bool true) ∧ w' = w2.drewN n) fun e w' h => ⟨h.1, h.2.symm⟩)
  go_quiet (exact Calls.quiet_of_same (RMd.out _))
  replace hb2 := below_drewN hb2 nq
  go_wp2_with fail
  refine (awake_any _).mono ?_
  rintro e w9 ⟨rfl, hb9⟩
  go_wp2_with fail
  go_ret
  exact ⟨rfl, hb2.trans (hb9.mono hb2.size)⟩

set_option maxRecDepth 100000 in
set_option maxHeartbeats 2000000 in
theorem powers3 (a0 : Option Addr) (len cap : Nat) (M : List (List UInt8)) (L t : Int) (w : World) (F : PF w a0 len cap M) (hL : 0 ≤ L ∧ L ≤ 255) (h : mapB M = true) (hl : 99 < L) :
    Calls Try.prog 16 #[.slice a0 len cap, .int .u8 L, .int .i64 t] w fun e w' => e = .returned (.bool true) ∧ Below w.heap.size w w' := by
  have MP := hid (F.mp w rfl)
  have RM := fun a c W (hW : Strs W a M) => hid (refMap_same a c M W hW (by have := F.ml; omega) (fun x hx => Nat.le_trans (F.me x hx) (by omega)))
  rw [h, (map_len h).1] at RM
  have H33 := hid (map_len h).1
  have PW := fun a c W (hc : 3 ≤ c) (hW : Strs W a M) => Power_noM a c M L t W hW hL h hc (by rintro ⟨h1, h2, h3, h4, h5⟩; first | omega | (rw [ho] at h1; exact nomatch h1))
  have d1 : decide (L < 97) = false := decide_eq_false (by omega)
  have d2 : decide (L > 99) = true := decide_eq_true (by omega)
  clear F h
  go_enter Try.func16, Try.ntmps16
  go_wp2_with fail
  refine MP.out.mono ?_
  rintro e w1 ⟨a1, c1, rfl, hv1, hn1, hc1, hb1⟩
  rw [H33.out] at hc1 ⊢
  have HV1 := hid hv1
  have HC1 := hid hc1
  clear hv1 hn1 hc1
  go_wp2_with fail
  refine (PW a1 c1 _ HC1.out HV1.out).out.mono ?_
  rintro e w2 ⟨rfl, hb2⟩
  have HV2 := hid (HV1.out.below hb2 (Nat.le_refl _))
  replace hb2 := hb1.trans (hb2.mono hb1.size)
  go_wp2_with fail
  have RMd := hid (fun n => ((RM a1 c1 (w2.drewN n) HV2.out).out).mono (R' := fun e w' => e = .returned (.bool true) ∧ w' = w2.drewN n) fun e w' h => ⟨h.1, h.2.symm⟩)
  go_quiet (exact Calls.quiet_of_same (RMd.out _))
  replace hb2 := below_drewN hb2 nq
  go_wp2_with fail
  refine (awake_any _).mono ?_
  rintro e w9 ⟨rfl, hb9⟩
  go_wp2_with fail
  go_ret
  exact ⟨rfl, hb2.trans (hb9.mono hb2.size)⟩

set_option maxRecDepth 100000 in
set_option maxHeartbeats 2000000 in
theorem powers4 (a0 : Option Addr) (len cap : Nat) (M : List (List UInt8)) (L t : Int) (w : World) (F : PF w a0 len cap M) (hL : 0 ≤ L ∧ L ≤ 255) (h : mapB M = true) (hl : 97 ≤ L ∧ L ≤ 99) (ho : o3 M = false) :
    Calls Try.prog 16 #[.slice a0 len cap, .int .u8 L, .int .i64 t] w fun e w' => e = .returned (.bool true) ∧ Below w.heap.size w w' := by
  have MP := hid (F.mp w rfl)
  have RM := fun a c W (hW : Strs W a M) => hid (refMap_same a c M W hW (by have := F.ml; omega) (fun x hx => Nat.le_trans (F.me x hx) (by omega)))
  rw [h, (map_len h).1] at RM
  have H33 := hid (map_len h).1
  have PW := fun a c W (hc : 3 ≤ c) (hW : Strs W a M) => Power_noM a c M L t W hW hL h hc (by rintro ⟨h1, h2, h3, h4, h5⟩; first | omega | (rw [ho] at h1; exact nomatch h1))
  obtain ⟨x0, x1, x2, rfl, n0, n1, n2⟩ := three_of h
  have LT := fun W => hid ((Letters_any (mkS (x0 ++ x1 ++ x2)) 3 W (by omega) (by rw [mkS_size]; simp; omega)).mono (R' := fun e w' => e = .returned (.bool false) ∧ w' = W) fun e w' h => ⟨by rw [h.1, mkS_data, over_flat, ← show o3 [x0, x1, x2] = (overB 3 x0 && overB 3 x1 && overB 3 x2) by simp [o3, Bool.and_assoc], ho], h.2.symm⟩)
  have k1 := mkS_append x0 x1
  have k2 := mkS_append (x0 ++ x1) x2
  have z0 := mkS_size x0
  have z1 := mkS_size x1
  have z2 := mkS_size x2
  have z3 := mkS_size (x0 ++ x1)
  rw [List.length_append] at z3
  have u1 : ¬ 9223372036854775807 < (mkS x0).size + (mkS x1).size := by omega
  have u2 : ¬ 9223372036854775807 < (mkS (x0 ++ x1)).size + (mkS x2).size := by omega
  obtain ⟨y1, hy1⟩ : ∃ y1, y1 = mkS (x0 ++ x1) := ⟨_, rfl⟩
  obtain ⟨y2, hy2⟩ : ∃ y2, y2 = mkS (x0 ++ x1 ++ x2) := ⟨_, rfl⟩
  rw [← hy1] at k1 k2 u2
  rw [← hy2] at k2 LT
  clear hy1 hy2 z0 z1 z2 z3
  have d1 : decide (L < 97) = false := decide_eq_false (by omega)
  have d2 : decide (L > 99) = false := decide_eq_false (by omega)
  clear F h
  go_enter Try.func16, Try.ntmps16
  go_wp2_with fail
  refine MP.out.mono ?_
  rintro e w1 ⟨a1, c1, rfl, hv1, hn1, hc1, hb1⟩
  rw [H33.out] at hc1 ⊢
  have HV1 := hid hv1
  have HC1 := hid hc1
  clear hv1 hn1 hc1
  go_wp2_with fail
  refine (PW a1 c1 _ HC1.out HV1.out).out.mono ?_
  rintro e w2 ⟨rfl, hb2⟩
  have HV2 := hid (HV1.out.below hb2 (Nat.le_refl _))
  replace hb2 := hb1.trans (hb2.mono hb1.size)
  go_wp2_with fail
  have RMd := hid (fun n => ((RM a1 c1 (w2.drewN n) HV2.out).out).mono (R' := fun e w' => e = .returned (.bool true) ∧ w' = w2.drewN n) fun e w' h => ⟨h.1, h.2.symm⟩)
  obtain ⟨g, o, rfl, hg, hcell⟩ := HV2.out.at (by simp)
  have q0 : w2.cell? ⟨g, o, none⟩ = some (.string (mkS x0)) := hcell 0 x0 rfl
  have q1 : w2.cell? ⟨g, o + 1, none⟩ = some (.string (mkS x1)) := hcell 1 x1 rfl
  have q2 : w2.cell? ⟨g, o + 2, none⟩ = some (.string (mkS x2)) := hcell 2 x2 rfl
  clear hcell
  have LTd := hid (fun n => (LT (w2.drewN n)).out)
  go_quiet (first | exact Calls.quiet_of_same (RMd.out _) | exact Calls.quiet_of_same (LTd.out _))
  replace hb2 := below_drewN hb2 nq
  go_wp2_with fail
  refine (awake_any _).mono ?_
  rintro e w9 ⟨rfl, hb9⟩
  go_wp2_with fail
  go_ret
  exact ⟨rfl, hb2.trans (hb9.mono hb2.size)⟩

set_option maxRecDepth 100000 in
set_option maxHeartbeats 2000000 in
theorem powers5 (a0 : Option Addr) (len cap : Nat) (M : List (List UInt8)) (L t : Int) (w : World) (F : PF w a0 len cap M) (hL : 0 ≤ L ∧ L ≤ 255) (h : mapB M = true) (hl : 97 ≤ L ∧ L ≤ 99) (ho : o3 M = true) (ht : t < 0) :
    Calls Try.prog 16 #[.slice a0 len cap, .int .u8 L, .int .i64 t] w fun e w' => e = .returned (.bool true) ∧ Below w.heap.size w w' := by
  have MP := hid (F.mp w rfl)
  have RM := fun a c W (hW : Strs W a M) => hid (refMap_same a c M W hW (by have := F.ml; omega) (fun x hx => Nat.le_trans (F.me x hx) (by omega)))
  rw [h, (map_len h).1] at RM
  have H33 := hid (map_len h).1
  have PW := fun a c W (hc : 3 ≤ c) (hW : Strs W a M) => Power_noM a c M L t W hW hL h hc (by rintro ⟨h1, h2, h3, h4, h5⟩; first | omega | (rw [ho] at h1; exact nomatch h1))
  obtain ⟨x0, x1, x2, rfl, n0, n1, n2⟩ := three_of h
  have LT := fun W => hid ((Letters_any (mkS (x0 ++ x1 ++ x2)) 3 W (by omega) (by rw [mkS_size]; simp; omega)).mono (R' := fun e w' => e = .returned (.bool true) ∧ w' = W) fun e w' h => ⟨by rw [h.1, mkS_data, over_flat, ← show o3 [x0, x1, x2] = (overB 3 x0 && overB 3 x1 && overB 3 x2) by simp [o3, Bool.and_assoc], ho], h.2.symm⟩)
  have k1 := mkS_append x0 x1
  have k2 := mkS_append (x0 ++ x1) x2
  have z0 := mkS_size x0
  have z1 := mkS_size x1
  have z2 := mkS_size x2
  have z3 := mkS_size (x0 ++ x1)
  rw [List.length_append] at z3
  have u1 : ¬ 9223372036854775807 < (mkS x0).size + (mkS x1).size := by omega
  have u2 : ¬ 9223372036854775807 < (mkS (x0 ++ x1)).size + (mkS x2).size := by omega
  obtain ⟨y1, hy1⟩ : ∃ y1, y1 = mkS (x0 ++ x1) := ⟨_, rfl⟩
  obtain ⟨y2, hy2⟩ : ∃ y2, y2 = mkS (x0 ++ x1 ++ x2) := ⟨_, rfl⟩
  rw [← hy1] at k1 k2 u2
  rw [← hy2] at k2 LT
  clear hy1 hy2 z0 z1 z2 z3
  have d1 : decide (L < 97) = false := decide_eq_false (by omega)
  have d2 : decide (L > 99) = false := decide_eq_false (by omega)
  have d3 : decide (t < 0) = true := decide_eq_true (by omega)
  clear F h
  go_enter Try.func16, Try.ntmps16
  go_wp2_with fail
  refine MP.out.mono ?_
  rintro e w1 ⟨a1, c1, rfl, hv1, hn1, hc1, hb1⟩
  rw [H33.out] at hc1 ⊢
  have HV1 := hid hv1
  have HC1 := hid hc1
  clear hv1 hn1 hc1
  go_wp2_with fail
  refine (PW a1 c1 _ HC1.out HV1.out).out.mono ?_
  rintro e w2 ⟨rfl, hb2⟩
  have HV2 := hid (HV1.out.below hb2 (Nat.le_refl _))
  replace hb2 := hb1.trans (hb2.mono hb1.size)
  go_wp2_with fail
  have RMd := hid (fun n => ((RM a1 c1 (w2.drewN n) HV2.out).out).mono (R' := fun e w' => e = .returned (.bool true) ∧ w' = w2.drewN n) fun e w' h => ⟨h.1, h.2.symm⟩)
  obtain ⟨g, o, rfl, hg, hcell⟩ := HV2.out.at (by simp)
  have q0 : w2.cell? ⟨g, o, none⟩ = some (.string (mkS x0)) := hcell 0 x0 rfl
  have q1 : w2.cell? ⟨g, o + 1, none⟩ = some (.string (mkS x1)) := hcell 1 x1 rfl
  have q2 : w2.cell? ⟨g, o + 2, none⟩ = some (.string (mkS x2)) := hcell 2 x2 rfl
  clear hcell
  have LTd := hid (fun n => (LT (w2.drewN n)).out)
  go_quiet (first | exact Calls.quiet_of_same (RMd.out _) | exact Calls.quiet_of_same (LTd.out _))
  replace hb2 := below_drewN hb2 nq
  go_wp2_with fail
  refine (awake_any _).mono ?_
  rintro e w9 ⟨rfl, hb9⟩
  go_wp2_with fail
  go_ret
  exact ⟨rfl, hb2.trans (hb9.mono hb2.size)⟩

set_option maxRecDepth 100000 in
set_option maxHeartbeats 2000000 in
theorem powers6 (a0 : Option Addr) (len cap : Nat) (M : List (List UInt8)) (L t : Int) (w : World) (F : PF w a0 len cap M) (hL : 0 ≤ L ∧ L ≤ 255) (h : mapB M = true) (hl : 97 ≤ L ∧ L ≤ 99) (ho : o3 M = true) (ht : 40 < t) :
    Calls Try.prog 16 #[.slice a0 len cap, .int .u8 L, .int .i64 t] w fun e w' => e = .returned (.bool true) ∧ Below w.heap.size w w' := by
  have MP := hid (F.mp w rfl)
  have RM := fun a c W (hW : Strs W a M) => hid (refMap_same a c M W hW (by have := F.ml; omega) (fun x hx => Nat.le_trans (F.me x hx) (by omega)))
  rw [h, (map_len h).1] at RM
  have H33 := hid (map_len h).1
  have PW := fun a c W (hc : 3 ≤ c) (hW : Strs W a M) => Power_noM a c M L t W hW hL h hc (by rintro ⟨h1, h2, h3, h4, h5⟩; first | omega | (rw [ho] at h1; exact nomatch h1))
  obtain ⟨x0, x1, x2, rfl, n0, n1, n2⟩ := three_of h
  have LT := fun W => hid ((Letters_any (mkS (x0 ++ x1 ++ x2)) 3 W (by omega) (by rw [mkS_size]; simp; omega)).mono (R' := fun e w' => e = .returned (.bool true) ∧ w' = W) fun e w' h => ⟨by rw [h.1, mkS_data, over_flat, ← show o3 [x0, x1, x2] = (overB 3 x0 && overB 3 x1 && overB 3 x2) by simp [o3, Bool.and_assoc], ho], h.2.symm⟩)
  have k1 := mkS_append x0 x1
  have k2 := mkS_append (x0 ++ x1) x2
  have z0 := mkS_size x0
  have z1 := mkS_size x1
  have z2 := mkS_size x2
  have z3 := mkS_size (x0 ++ x1)
  rw [List.length_append] at z3
  have u1 : ¬ 9223372036854775807 < (mkS x0).size + (mkS x1).size := by omega
  have u2 : ¬ 9223372036854775807 < (mkS (x0 ++ x1)).size + (mkS x2).size := by omega
  obtain ⟨y1, hy1⟩ : ∃ y1, y1 = mkS (x0 ++ x1) := ⟨_, rfl⟩
  obtain ⟨y2, hy2⟩ : ∃ y2, y2 = mkS (x0 ++ x1 ++ x2) := ⟨_, rfl⟩
  rw [← hy1] at k1 k2 u2
  rw [← hy2] at k2 LT
  clear hy1 hy2 z0 z1 z2 z3
  have d1 : decide (L < 97) = false := decide_eq_false (by omega)
  have d2 : decide (L > 99) = false := decide_eq_false (by omega)
  have d3 : decide (t < 0) = false := decide_eq_false (by omega)
  have d4 : decide (t > 40) = true := decide_eq_true (by omega)
  clear F h
  go_enter Try.func16, Try.ntmps16
  go_wp2_with fail
  refine MP.out.mono ?_
  rintro e w1 ⟨a1, c1, rfl, hv1, hn1, hc1, hb1⟩
  rw [H33.out] at hc1 ⊢
  have HV1 := hid hv1
  have HC1 := hid hc1
  clear hv1 hn1 hc1
  go_wp2_with fail
  refine (PW a1 c1 _ HC1.out HV1.out).out.mono ?_
  rintro e w2 ⟨rfl, hb2⟩
  have HV2 := hid (HV1.out.below hb2 (Nat.le_refl _))
  replace hb2 := hb1.trans (hb2.mono hb1.size)
  go_wp2_with fail
  have RMd := hid (fun n => ((RM a1 c1 (w2.drewN n) HV2.out).out).mono (R' := fun e w' => e = .returned (.bool true) ∧ w' = w2.drewN n) fun e w' h => ⟨h.1, h.2.symm⟩)
  obtain ⟨g, o, rfl, hg, hcell⟩ := HV2.out.at (by simp)
  have q0 : w2.cell? ⟨g, o, none⟩ = some (.string (mkS x0)) := hcell 0 x0 rfl
  have q1 : w2.cell? ⟨g, o + 1, none⟩ = some (.string (mkS x1)) := hcell 1 x1 rfl
  have q2 : w2.cell? ⟨g, o + 2, none⟩ = some (.string (mkS x2)) := hcell 2 x2 rfl
  clear hcell
  have LTd := hid (fun n => (LT (w2.drewN n)).out)
  go_quiet (first | exact Calls.quiet_of_same (RMd.out _) | exact Calls.quiet_of_same (LTd.out _))
  replace hb2 := below_drewN hb2 nq
  go_wp2_with fail
  refine (awake_any _).mono ?_
  rintro e w9 ⟨rfl, hb9⟩
  go_wp2_with fail
  go_ret
  exact ⟨rfl, hb2.trans (hb9.mono hb2.size)⟩

set_option maxRecDepth 100000 in
set_option maxHeartbeats 2000000 in
theorem powers7 (a0 : Option Addr) (len cap : Nat) (M : List (List UInt8)) (L t : Int) (w : World) (F : PF w a0 len cap M) (hL : 0 ≤ L ∧ L ≤ 255) (h : mapB M = true) (k n : Nat) (hk : k < 3) (hkL : L = 97 + (k : Int)) (hn : n ≤ 40) (hnt : t = n) (ho : o3 M = true) :
    Calls Try.prog 16 #[.slice a0 len cap, .int .u8 L, .int .i64 t] w fun e w' => e = .returned (.bool true) ∧ Below w.heap.size w w' := by
  have MP := hid (F.mp w rfl)
  have RM := fun a c W (hW : Strs W a M) => hid (refMap_same a c M W hW (by have := F.ml; omega) (fun x hx => Nat.le_trans (F.me x hx) (by omega)))
  rw [h, (map_len h).1] at RM
  have H33 := hid (map_len h).1
  subst hkL hnt
  have PW := fun a c W (hc : 3 ≤ c) (hW : Strs W a M) => hid (Power_yes a c M k n W hW h hc ho hk hn)
  have RP := fun a c W (hW : Strs W a M) => hid (refPower_any a c M k n W hW h ho hk hn)
  obtain ⟨o, hoo⟩ : ∃ o, o = pw M n [UInt8.ofNat (97 + k)] := ⟨_, rfl⟩
  rw [← hoo] at PW RP
  have HOO := hid hoo
  clear hoo
  obtain ⟨x0, x1, x2, rfl, n0, n1, n2⟩ := three_of h
  have LT := fun W => hid ((Letters_any (mkS (x0 ++ x1 ++ x2)) 3 W (by omega) (by rw [mkS_size]; simp; omega)).mono (R' := fun e w' => e = .returned (.bool true) ∧ w' = W) fun e w' h => ⟨by rw [h.1, mkS_data, over_flat, ← show o3 [x0, x1, x2] = (overB 3 x0 && overB 3 x1 && overB 3 x2) by simp [o3, Bool.and_assoc], ho], h.2.symm⟩)
  have k1 := mkS_append x0 x1
  have k2 := mkS_append (x0 ++ x1) x2
  have z0 := mkS_size x0
  have z1 := mkS_size x1
  have z2 := mkS_size x2
  have z3 := mkS_size (x0 ++ x1)
  rw [List.length_append] at z3
  have u1 : ¬ 9223372036854775807 < (mkS x0).size + (mkS x1).size := by omega
  have u2 : ¬ 9223372036854775807 < (mkS (x0 ++ x1)).size + (mkS x2).size := by omega
  obtain ⟨y1, hy1⟩ : ∃ y1, y1 = mkS (x0 ++ x1) := ⟨_, rfl⟩
  obtain ⟨y2, hy2⟩ : ∃ y2, y2 = mkS (x0 ++ x1 ++ x2) := ⟨_, rfl⟩
  rw [← hy1] at k1 k2 u2
  rw [← hy2] at k2 LT
  clear hy1 hy2 z0 z1 z2 z3
  have d1 : decide (97 + (k : Int) < 97) = false := decide_eq_false (by omega)
  have d2 : decide (97 + (k : Int) > 99) = false := decide_eq_false (by omega)
  have d3 : decide ((n : Int) < 0) = false := decide_eq_false (by omega)
  have d4 : decide ((n : Int) > 40) = false := decide_eq_false (by omega)
  clear F h
  go_enter Try.func16, Try.ntmps16
  go_wp2_with fail
  refine MP.out.mono ?_
  rintro e w1 ⟨a1, c1, rfl, hv1, hn1, hc1, hb1⟩
  rw [H33.out] at hc1 ⊢
  have HV1 := hid hv1
  have HC1 := hid hc1
  clear hv1 hn1 hc1
  go_wp2_with fail
  refine (PW a1 c1 _ HC1.out HV1.out).out.mono ?_
  rintro e w2 ⟨rfl, hb2⟩
  have HV2 := hid (HV1.out.below hb2 (Nat.le_refl _))
  replace hb2 := hb1.trans (hb2.mono hb1.size)
  have RMd := hid (fun n => ((RM a1 c1 (w2.drewN n) HV2.out).out).mono (R' := fun e w' => e = .returned (.bool true) ∧ w' = w2.drewN n) fun e w' h => ⟨h.1, h.2.symm⟩)
  have LTd := hid (fun n => (LT (w2.drewN n)).out)
  cases o with
  | none =>
    simp only [valP, valPR] at RP ⊢
    go_wp2_with fail
    obtain ⟨g, o, rfl, hg, hcell⟩ := HV2.out.at (by simp)
    have q0 : w2.cell? ⟨g, o, none⟩ = some (.string (mkS x0)) := hcell 0 x0 rfl
    have q1 : w2.cell? ⟨g, o + 1, none⟩ = some (.string (mkS x1)) := hcell 1 x1 rfl
    have q2 : w2.cell? ⟨g, o + 2, none⟩ = some (.string (mkS x2)) := hcell 2 x2 rfl
    clear hcell
    go_quiet (first | exact Calls.quiet_of_same (RMd.out _) | exact Calls.quiet_of_same (LTd.out _))
    replace hb2 := below_drewN hb2 nq
    go_wp2_with fail
    refine (RP _ c1 (w2.drewN nq) HV2.out).out.mono ?_
    rintro e w3 ⟨rfl, hb3⟩
    replace hb3 := hb2.trans (hb3.mono hb2.size)
    go_wp2_with fail
    refine (awake_any _).mono ?_
    rintro e w9 ⟨rfl, hb9⟩
    go_wp2_with fail
    go_ret
    exact ⟨rfl, hb3.trans (hb9.mono hb3.size)⟩
  | some x =>
    simp only [valP, valPR] at RP ⊢
    have hxx := bytes_self x
    go_wp2_with fail
    obtain ⟨g, o, rfl, hg, hcell⟩ := HV2.out.at (by simp)
    have q0 : w2.cell? ⟨g, o, none⟩ = some (.string (mkS x0)) := hcell 0 x0 rfl
    have q1 : w2.cell? ⟨g, o + 1, none⟩ = some (.string (mkS x1)) := hcell 1 x1 rfl
    have q2 : w2.cell? ⟨g, o + 2, none⟩ = some (.string (mkS x2)) := hcell 2 x2 rfl
    clear hcell
    go_quiet (first | exact Calls.quiet_of_same (RMd.out _) | exact Calls.quiet_of_same (LTd.out _))
    replace hb2 := below_drewN hb2 nq
    go_wp2_with fail
    refine (RP _ c1 (w2.drewN nq) HV2.out).out.mono ?_
    rintro e w3 ⟨rfl, hb3⟩
    replace hb3 := hb2.trans (hb3.mono hb2.size)
    go_wp2_with fail
    refine (awake_any _).mono ?_
    rintro e w9 ⟨rfl, hb9⟩
    go_wp2_with fail
    go_ret
    exact ⟨rfl, hb3.trans (hb9.mono hb3.size)⟩

theorem powers_walk (a0 : Option Addr) (len cap : Nat) (ss : List ByteArray) (L t : Int) (w : World) (h0 : IsStrs w a0 len cap ss) (hL : 0 ≤ L ∧ L ≤ 255) (_ht : -9223372036854775808 ≤ t ∧ t ≤ 9223372036854775807) :
    Calls Try.prog 16 #[.slice a0 len cap, .int .u8 L, .int .i64 t] w fun e w' => e = .returned (.bool true) ∧ Below w.heap.size w w' := by
  have hmx : maxLen ≤ 9223372036854775807 := by decide
  obtain ⟨hst, hlen, -, hle, hcap, hel⟩ := h0.strs
  have F : PF w a0 len cap (imagesL ((ss.take len).map (·.data.toList))) := {
    mp := fun W hW => by
      subst hW
      have := images_any a0 cap _ W hst (by omega) (fun x hx => Nat.le_trans (hel x hx) hmx)
      rwa [hlen] at this
    ml := imagesL_len _
    me := imagesL_each _ }
  generalize imagesL ((ss.take len).map (·.data.toList)) = M at F
  cases h : mapB M with
  | false => exact powers1 a0 len cap M L t w F hL h
  | true =>
    by_cases l1 : L < 97
    · exact powers2 a0 len cap M L t w F hL h l1
    · by_cases l2 : 99 < L
      · exact powers3 a0 len cap M L t w F hL h l2
      · cases ho : o3 M with
        | false => exact powers4 a0 len cap M L t w F hL h ⟨by omega, by omega⟩ ho
        | true =>
          by_cases t1 : t < 0
          · exact powers5 a0 len cap M L t w F hL h ⟨by omega, by omega⟩ ho t1
          · by_cases t2 : 40 < t
            · exact powers6 a0 len cap M L t w F hL h ⟨by omega, by omega⟩ ho t2
            · exact powers7 a0 len cap M L t w F hL h (L.toNat - 97) t.toNat (by omega) (by omega) (by omega) (by omega) ho
end Go.Proofs.Ytancficmkkdnfaa
