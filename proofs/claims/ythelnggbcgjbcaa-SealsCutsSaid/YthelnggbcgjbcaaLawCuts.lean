/-
  The walk of the law SealsCuts.
-/
import Derived.Test.YthelnggbcgjbcaaLawChecks
import Derived.Test.YthelnggbcgjbcaaFacts
namespace Go.Proofs.Ythelnggbcgjbcaa
open Go.RowKit

set_option maxHeartbeats 4000000 in
theorem cuts_walk (a0 : ByteArray) (w : World) (w0 : a0.size ≤ maxLen) :
    Calls Try.prog 8 #[.string a0] w fun e w' => e = .returned (.bool true) ∧ Below w.heap.size w w' := by
  have hmx : maxLen ≤ 9223372036854775807 := by decide
  go_enter Try.func8, Try.ntmps8
  go_wp2_with fail
  refine (short_any a0 w (by omega)).mono ?_
  rintro e w2 ⟨rfl, rfl⟩
  obtain ⟨s, hs⟩ : ∃ s, s = a0.extract 0 (min a0.size 25) := ⟨_, rfl⟩
  have hs25 : s.size ≤ 25 := by rw [hs]; simp; omega
  rw [← hs]
  clear hs
  obtain ⟨R, hR⟩ : ∃ R, R = leastC s.data.toList := ⟨_, rfl⟩
  obtain ⟨E, hE⟩ : ∃ E, E = leastE s.data.toList := ⟨_, rfl⟩
  have HR := hid hR
  have HE := hid hE
  go_wp2_with fail
  refine (fair_any s w (by omega)).mono ?_
  rintro e w1 ⟨ar, cr, rfl, hir, hnr, hcr, hb⟩
  rw [← hR] at hir hcr ⊢
  rw [← hE]
  have HIR := hid hir
  clear hir
  go_wp2_with fail
  refine (least_any s w1 (by omega)).mono ?_
  rintro e w2 ⟨aq, cq, rfl, hiq, hnq, hcq, hb2⟩
  rw [← hR] at hiq hcq ⊢
  rw [← hE]
  have HIQ := hid hiq
  have HIR := hid (HIR.out.below hb2 (Nat.le_refl _))
  have hb2 := hb.trans (hb2.mono hb.size)
  clear hiq hR hE hb
  obtain ⟨b1, h1⟩ : ∃ b, b = chainB s.data.toList := ⟨_, rfl⟩
  obtain ⟨b2, h2⟩ : ∃ b, b = evenB s.data.toList := ⟨_, rfl⟩
  have H1 := hid h1
  have H2 := hid h2
  have hec : evenChainB s.data.toList = (b1 && b2) := by rw [chain_facts, ← h1, ← h2]
  have HEC := hid hec
  clear h1 h2 hec
  cases b1
  · obtain rfl : E = 2 := by rw [HE.out, leastE, HEC.out]; rfl
    obtain rfl : R = [] := by rw [HR.out, leastC, HEC.out]; rfl
    go_wp2_with fail
    refine (refChain_any s w2 (by omega)).mono ?_
    rintro e w4 ⟨rfl, rfl⟩
    rw [← H1.out]
    go_wp2_with fail
    refine (check_any s ar cr [] w2 (by omega) HIR.out hnr hcr (by simp)).mono ?_
    rintro e w3 ⟨rfl, hb3⟩
    rw [show checkE s.data.toList [] = 2 by rw [checkE, HEC.out]; rfl]
    have hb3 := hb2.trans (hb3.mono hb2.size)
    go_wp2_with fail
    refine (awake_any w3).mono ?_
    rintro e w4 ⟨rfl, hb4⟩
    go_wp2
    go_ret
    exact ⟨rfl, hb3.trans (hb4.mono hb3.size)⟩
  have HOK := hid (chain_ok H1.out.symm)
  cases b2
  · obtain rfl : E = 2 := by rw [HE.out, leastE, HEC.out]; rfl
    obtain rfl : R = [] := by rw [HR.out, leastC, HEC.out]; rfl
    go_wp2_with fail
    refine (refChain_any s w2 (by omega)).mono ?_
    rintro e w4 ⟨rfl, rfl⟩
    rw [← H1.out]
    go_wp2_with fail
    refine (refEven_any s w2 (by omega) HOK.out).mono ?_
    rintro e w4 ⟨rfl, hb4⟩
    rw [← H2.out]
    have HIR := hid (HIR.out.below hb4 (Nat.le_refl _))
    have hb4 := hb2.trans (hb4.mono hb2.size)
    go_wp2_with fail
    refine (check_any s ar cr [] w4 (by omega) HIR.out hnr hcr (by simp)).mono ?_
    rintro e w3 ⟨rfl, hb3⟩
    rw [show checkE s.data.toList [] = 2 by rw [checkE, HEC.out]; rfl]
    have hb3 := hb4.trans (hb3.mono hb4.size)
    go_wp2_with fail
    refine (awake_any w3).mono ?_
    rintro e w5 ⟨rfl, hb5⟩
    go_wp2
    go_ret
    exact ⟨rfl, hb3.trans (hb5.mono hb3.size)⟩
  obtain rfl : E = 0 := by rw [HE.out, leastE, HEC.out]; rfl
  have hspec := least_spec s.data.toList HEC.out
  rw [← HR.out] at hspec
  obtain ⟨r1, r2, r3, -, r5⟩ := hspec
  have hk := kindsN_le s.data.toList
  have R1 := hid r1
  have R2 := hid r2
  have R5 := hid r5
  have hR4 : R.length ≤ 4 := by omega
  have R1' := hid (cutsB_one r1)
  have R3 := hid r3
  have hz : checkE s.data.toList R = 0 := by rw [checkE, HEC.out, R1.out, R2.out]; rfl
  have HZ := hid hz
  clear r1 r2 r5 hk hz
  go_wp2_with fail
  refine (refChain_any s w2 (by omega)).mono ?_
  rintro e w4 ⟨rfl, rfl⟩
  rw [← H1.out]
  go_wp2_with fail
  refine (refEven_any s w2 (by omega) HOK.out).mono ?_
  rintro e w4 ⟨rfl, hb4⟩
  rw [← H2.out]
  have HIR := hid (HIR.out.below hb4 (Nat.le_refl _))
  have HIQ := hid (HIQ.out.below hb4 (Nat.le_refl _))
  have hb4 := hb2.trans (hb4.mono hb2.size)
  clear hb2
  go_wp2_with fail
  refine (refCuts_any s ar cr R 1 w4 (by omega) HIR.out (by omega)).mono ?_
  rintro e w5 ⟨rfl, hb5⟩
  rw [cutsLoop_none, ← bytes_len, R1.out]
  have HIR := hid (HIR.out.below hb5 (Nat.le_refl _))
  have HIQ := hid (HIQ.out.below hb5 (Nat.le_refl _))
  have hb5 := hb4.trans (hb5.mono hb4.size)
  clear hb4
  go_wp2_with fail
  refine (refFair_any s ar cr R w5 (by omega) HIR.out (by omega) R1'.out HOK.out).mono ?_
  rintro e w6 ⟨rfl, hb6⟩
  rw [R2.out]
  have HIR := hid (HIR.out.below hb6 (Nat.le_refl _))
  have HIQ := hid (HIQ.out.below hb6 (Nat.le_refl _))
  have hb6 := hb5.trans (hb6.mono hb5.size)
  clear hb5
  go_wp2_with fail
  refine (refKinds_any s w6 (by omega) HOK.out).mono ?_
  rintro e w7 ⟨rfl, hb7⟩
  have HIR := hid (HIR.out.below hb7 (Nat.le_refl _))
  have HIQ := hid (HIQ.out.below hb7 (Nat.le_refl _))
  have hb7 := hb6.trans (hb7.mono hb6.size)
  clear hb6
  go_wp2_with fail
  refine (check_any s ar cr R w7 (by omega) HIR.out hnr hcr (by omega)).mono ?_
  rintro e w8 ⟨rfl, hb8⟩
  rw [HZ.out]
  have HIQ := hid (HIQ.out.below hb8 (Nat.le_refl _))
  have hb8 := hb7.trans (hb8.mono hb7.size)
  clear hb7
  go_wp2_with fail
  refine (refLeast_any s w8 (by omega) HOK.out).mono ?_
  rintro e w9 ⟨ap, cp, rfl, hip, hb9⟩
  rw [R5.out] at hip ⊢
  have HIP := hid hip
  have HIQ := hid (HIQ.out.below hb9 (Nat.le_refl _))
  have hb9 := hb8.trans (hb9.mono hb8.size)
  clear hb8 hip
  go_wp2_with fail
  refine (ints_any aq ap cq cp R R w9 HIQ.out HIP.out (by omega) (by omega)).mono ?_
  rintro e w10 ⟨rfl, hb10⟩
  rw [show (R == R) = true by simp]
  have HIQ := hid (HIQ.out.below hb10 (Nat.le_refl _))
  have hb10 := hb9.trans (hb10.mono hb9.size)
  clear hb9
  go_wp2_with fail
  refine (check_any s aq cq R w10 (by omega) HIQ.out hnq hcq (by omega)).mono ?_
  rintro e w11 ⟨rfl, hb11⟩
  rw [HZ.out]
  have hb11 := hb10.trans (hb11.mono hb10.size)
  clear hb10
  go_wp2_with fail
  refine (awake_any w11).mono ?_
  rintro e w12 ⟨rfl, hb12⟩
  go_wp2
  go_ret
  exact ⟨rfl, hb11.trans (hb12.mono hb11.size)⟩
end Go.Proofs.Ythelnggbcgjbcaa
