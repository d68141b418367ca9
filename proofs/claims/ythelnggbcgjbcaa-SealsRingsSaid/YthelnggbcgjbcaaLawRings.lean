/-
  The walk of the law SealsRings.
-/
import Derived.Test.YthelnggbcgjbcaaLawChecks
import Derived.Test.YthelnggbcgjbcaaFacts
namespace Go.Proofs.Ythelnggbcgjbcaa
open Go.RowKit

theorem modtwo (n : Nat) : Int.tmod (n : Int) 2 = ((n % 2 : Nat) : Int) := by
  rw [Int.tmod_eq_emod_of_nonneg (by omega)]; omega

set_option maxHeartbeats 4000000 in
theorem rings_walk (a0 : ByteArray) (a1 : Option Addr) (len1 cap1 : Nat) (z1 : List Int) (w : World) (w0 : a0.size ≤ maxLen) (w1 : IsRow .i64 w a1 len1 cap1 z1) :
    Calls Try.prog 5 #[.string a0, .slice a1 len1 cap1] w fun e w' => e = .returned (.bool true) ∧ Below w.heap.size w w' := by
  obtain ⟨hi, hlen, hn, hc, hm⟩ := w1.ints
  have hmx : maxLen ≤ 9223372036854775807 := by decide
  have HL := hid (list_full a1 cap1 (z1.take len1) w hi (by omega) hn (by omega))
  rw [hlen] at HL
  clear w1 hi hlen hn hc
  go_enter Try.func5, Try.ntmps5
  go_wp2_with fail
  refine (short_any a0 w (by omega)).mono ?_
  rintro e w2 ⟨rfl, rfl⟩
  obtain ⟨s, hs⟩ : ∃ s, s = a0.extract 0 (min a0.size 25) := ⟨_, rfl⟩
  have hs25 : s.size ≤ 25 := by rw [hs]; simp; omega
  rw [← hs]
  clear hs
  go_wp2_with fail
  refine HL.out.mono ?_
  rintro e w1 ⟨a, c, rfl, hi1, hn, hc, hb⟩
  obtain ⟨l, hl⟩ : ∃ l, l = (z1.take len1).take 30 := ⟨_, rfl⟩
  have hl30 : l.length ≤ 30 := by rw [hl, List.length_take]; omega
  rw [← hl] at hi1 hc ⊢
  have HI := hid hi1
  clear hl hi1 HL
  go_wp2_with fail
  refine (ring_any s w1 (by omega)).mono ?_
  rintro e w2 ⟨ar, cr, rfl, hir, hnr, hcr, hb2⟩
  obtain ⟨R, hR⟩ : ∃ R, R = ringC s.data.toList := ⟨_, rfl⟩
  rw [← hR] at hir hcr ⊢
  have HIR := hid hir
  have HR := hid hR
  have HI2 := hid (HI.out.below hb2 (Nat.le_refl _))
  have hb2 := hb.trans (hb2.mono hb.size)
  obtain ⟨E, hE⟩ : ∃ E, E = leastE s.data.toList := ⟨_, rfl⟩
  rw [← hE]
  have HE := hid hE
  clear hE hb hR hir HI
  go_wp2_with fail
  refine (checkRing_any s a c l w2 (by omega) HI2.out hn hc (by omega)).mono ?_
  rintro e w3 ⟨rfl, hb3⟩
  have HI3 := hid (HI2.out.below hb3 (Nat.le_refl _))
  have HIR3 := hid (HIR.out.below hb3 (Nat.le_refl _))
  have hb3 := hb2.trans (hb3.mono hb2.size)
  obtain ⟨F, hF⟩ : ∃ F, F = checkRE s.data.toList l := ⟨_, rfl⟩
  rw [← hF]
  have HF := hid hF
  clear hF hb2 HI2 HIR
  obtain ⟨b1, h1⟩ : ∃ b, b = chainB s.data.toList := ⟨_, rfl⟩
  obtain ⟨b2, h2⟩ : ∃ b, b = evenB s.data.toList := ⟨_, rfl⟩
  have H1 := hid h1
  have H2 := hid h2
  have hec : evenChainB s.data.toList = (b1 && b2) := by rw [chain_facts, ← h1, ← h2]
  have HEC := hid hec
  clear h1 h2 hec
  cases b1
  · obtain rfl : E = 2 := by rw [HE.out, leastE, HEC.out]; rfl
    obtain rfl : F = 2 := by rw [HF.out, checkRE, HEC.out]; rfl
    obtain rfl : R = [] := by rw [HR.out, ringC, HEC.out]; rfl
    go_wp2_with fail
    refine (refChain_any s w3 (by omega)).mono ?_
    rintro e w4 ⟨rfl, rfl⟩
    rw [← H1.out]
    go_wp2_with fail
    refine (awake_any w3).mono ?_
    rintro e w4 ⟨rfl, hb4⟩
    go_wp2
    go_ret
    exact ⟨rfl, hb3.trans (hb4.mono hb3.size)⟩
  have HOK := hid (chain_ok H1.out.symm)
  cases b2
  · obtain rfl : E = 2 := by rw [HE.out, leastE, HEC.out]; rfl
    obtain rfl : F = 2 := by rw [HF.out, checkRE, HEC.out]; rfl
    obtain rfl : R = [] := by rw [HR.out, ringC, HEC.out]; rfl
    go_wp2_with fail
    refine (refChain_any s w3 (by omega)).mono ?_
    rintro e w4 ⟨rfl, rfl⟩
    rw [← H1.out]
    go_wp2_with fail
    refine (refEven_any s w3 (by omega) HOK.out).mono ?_
    rintro e w4 ⟨rfl, hb4⟩
    rw [← H2.out]
    have hb4 := hb3.trans (hb4.mono hb3.size)
    go_wp2_with fail
    refine (awake_any w4).mono ?_
    rintro e w5 ⟨rfl, hb5⟩
    go_wp2
    go_ret
    exact ⟨rfl, hb4.trans (hb5.mono hb4.size)⟩
  obtain rfl : E = 0 := by rw [HE.out, leastE, HEC.out]; rfl
  have hspec := ring_spec s.data.toList HEC.out
  rw [← HR.out] at hspec
  obtain ⟨r1, r2, r3, r4, -, -⟩ := hspec
  have R1 := hid r1
  have R2 := hid r2
  have R3 := hid r3
  clear r1 r2 r3
  go_wp2_with fail
  refine (refChain_any s w3 (by omega)).mono ?_
  rintro e w4 ⟨rfl, rfl⟩
  rw [← H1.out]
  go_wp2_with fail
  refine (refEven_any s w3 (by omega) HOK.out).mono ?_
  rintro e w4 ⟨rfl, hb4⟩
  rw [← H2.out]
  have HI4 := hid (HI3.out.below hb4 (Nat.le_refl _))
  have HIR4 := hid (HIR3.out.below hb4 (Nat.le_refl _))
  have hb4 := hb3.trans (hb4.mono hb3.size)
  clear hb3 HI3 HIR3
  go_wp2_with fail
  refine (refRing_any s w4 (by omega) HOK.out).mono ?_
  rintro e w5 ⟨aq, cq, rfl, hiq, hb5⟩
  have hq : (tryN (fun n => srch true s.data.toList [] n 0) [0, 2, 4]).getD [] = R := by rw [HR.out, ringC, HEC.out]; rfl
  rw [hq] at hiq ⊢
  clear hq
  have HIQ := hid hiq
  have HI5 := hid (HI4.out.below hb5 (Nat.le_refl _))
  have HIR5 := hid (HIR4.out.below hb5 (Nat.le_refl _))
  have hb5 := hb4.trans (hb5.mono hb4.size)
  clear hb4 HI4 HIR4 hiq
  go_wp2_with fail
  refine (ints_any ar aq cr cq R R w5 HIR5.out HIQ.out (by omega) (by omega)).mono ?_
  rintro e w6 ⟨rfl, hb6⟩
  rw [show (R == R) = true by simp]
  have HI6 := hid (HI5.out.below hb6 (Nat.le_refl _))
  have HIR6 := hid (HIR5.out.below hb6 (Nat.le_refl _))
  have hb6 := hb5.trans (hb6.mono hb5.size)
  clear hb5 HI5 HIR5 HIQ
  go_wp2_with fail
  refine (checkRing_any s ar cr R w6 (by omega) HIR6.out hnr hcr (by omega)).mono ?_
  rintro e w7 ⟨rfl, hb7⟩
  have hz : checkRE s.data.toList R = 0 := by
    rw [checkRE, HEC.out, R1.out, R2.out, R3.out]; rfl
  rw [hz]
  clear hz
  have HI7 := hid (HI6.out.below hb7 (Nat.le_refl _))
  have hb7 := hb6.trans (hb7.mono hb6.size)
  clear hb6 HI6 HIR6
  have hsm := modtwo l.length
  by_cases hodd : l.length % 2 = 1
  · have t1 : ((l.length : Int).tmod 2 == 1) = true := by rw [hsm, hodd]; rfl
    obtain rfl : F = 2 := by rw [HF.out, checkRE, hodd]; simp
    go_wp2_with fail
    refine (awake_any w7).mono ?_
    rintro e w8 ⟨rfl, hb8⟩
    go_wp2
    go_ret
    exact ⟨rfl, hb7.trans (hb8.mono hb7.size)⟩
  have hev : l.length % 2 = 0 := by omega
  have t1 : ((l.length : Int).tmod 2 == 1) = false := by rw [hsm, hev]; rfl
  have HEV := hid hev
  clear hodd
  obtain ⟨b3, h3⟩ : ∃ b, b = cutsB s.data.toList.length 0 l := ⟨_, rfl⟩
  have H3 := hid h3
  clear h3
  go_wp2_with fail
  refine (refCuts_any s a c l 0 w7 (by omega) HI7.out (by omega)).mono ?_
  rintro e w8 ⟨rfl, hb8⟩
  rw [cutsLoop_none, ← bytes_len, ← H3.out]
  have HI8 := hid (HI7.out.below hb8 (Nat.le_refl _))
  have hb8 := hb7.trans (hb8.mono hb7.size)
  clear hb7 HI7
  cases b3
  · obtain rfl : F = 2 := by rw [HF.out, checkRE, ← H3.out]; simp
    go_wp2_with fail
    refine (awake_any w8).mono ?_
    rintro e w9 ⟨rfl, hb9⟩
    go_wp2
    go_ret
    exact ⟨rfl, hb8.trans (hb9.mono hb8.size)⟩
  go_wp2_with fail
  refine (refFairRing_any s a c l w8 (by omega) HI8.out (by omega) H3.out.symm HOK.out).mono ?_
  rintro e w9 ⟨rfl, hb9⟩
  have hb9 := hb8.trans (hb9.mono hb8.size)
  clear hb8
  obtain ⟨b4, h4⟩ : ∃ b, b = fairRingB s.data.toList l := ⟨_, rfl⟩
  rw [← h4]
  have hF : F = if b4 then 0 else 10 := by rw [HF.out, checkRE, HEC.out, ← H3.out, HEV.out, h4]; rfl
  subst hF
  have H4 := hid h4
  clear h4
  cases b4
  · go_wp2_with fail
    refine (awake_any w9).mono ?_
    rintro e w8 ⟨rfl, hb8⟩
    go_wp2
    go_ret
    exact ⟨rfl, hb9.trans (hb8.mono hb9.size)⟩
  · go_wp2_with fail
    refine (awake_any w9).mono ?_
    rintro e w8 ⟨rfl, hb8⟩
    go_wp2
    go_ret
    exact ⟨rfl, hb9.trans (hb8.mono hb9.size)⟩
end Go.Proofs.Ythelnggbcgjbcaa
