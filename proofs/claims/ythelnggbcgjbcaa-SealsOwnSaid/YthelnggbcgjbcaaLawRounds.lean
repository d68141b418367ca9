/-
  The walk of the law SealsRounds.
-/
import Derived.Test.YthelnggbcgjbcaaLawChecks
import Derived.Test.YthelnggbcgjbcaaFacts
import Derived.Test.YthelnggbcgjbcaaEven
namespace Go.Proofs.Ythelnggbcgjbcaa
open Go.RowKit

theorem evenL_chain (l : List UInt8) (m : Nat) (h4 : 4 ≤ m) (hm : m ≤ 24) : evenChainB (evenL l m) = true := by
  have h1 := evenL_ok l m
  have h2 := evenL_even l m
  have h3 := evenL_len l m h4
  rw [evenChainB, chainB, h1, h2, decide_eq_true (by omega)]; rfl
theorem evenChain_turn (a b : List UInt8) (h : evenChainB (a ++ b) = true) : evenChainB (b ++ a) = true := by
  simp only [evenChainB, chainB, evenB, List.all_append, List.length_append, cn_append, Bool.and_eq_true, decide_eq_true_eq, beq_iff_eq] at h ⊢
  refine ⟨⟨⟨h.1.1.2, h.1.1.1⟩, by omega⟩, ?_⟩
  omega
theorem modK (y : Int) (n : Nat) (h : 0 < n) (hn : n ≤ 24) : ∃ k : Nat, k < n ∧ (y % 18446744073709551616) % (n : Int) = k := by
  have h1 := Int.emod_nonneg (y % 18446744073709551616) (show (n : Int) ≠ 0 by omega)
  have h2 := Int.emod_lt_of_pos (y % 18446744073709551616) (show (0 : Int) < n by omega)
  exact ⟨((y % 18446744073709551616) % (n : Int)).toNat, by omega, by omega⟩

set_option maxHeartbeats 4000000 in
theorem rounds_walk (a0 : ByteArray) (a1 : Int) (w : World) (w0 : a0.size ≤ maxLen) (hb1 : -9223372036854775808 ≤ a1 ∧ a1 ≤ 9223372036854775807) :
    Calls Try.prog 7 #[.string a0, .int .i64 a1] w fun e w' => e = .returned (.bool true) ∧ Below w.heap.size w w' := by
  have hmx : maxLen ≤ 9223372036854775807 := by decide
  go_enter Try.func7, Try.ntmps7
  go_wp2_with fail
  refine (even_any a0 24 w (by omega) (by omega) (by omega)).mono ?_
  rintro e w2 ⟨rfl, hb⟩
  obtain ⟨s, hs⟩ : ∃ s, s = mkS (evenL a0.data.toList 24) := ⟨_, rfl⟩
  have hch : evenChainB s.data.toList = true := by rw [hs]; exact evenL_chain _ _ (by omega) (by omega)
  have hsz : s.size ≤ 24 := by rw [hs, mkS_size]; exact evenL_len _ _ (by omega)
  rw [← hs]
  have HC := hid hch
  have HOK := hid (even_facts hch).1
  have hle : leastE s.data.toList = 0 := by rw [leastE, hch]; rfl
  have HLE := hid hle
  clear hs hch hle
  obtain ⟨R, hR⟩ : ∃ R, R = ringC s.data.toList := ⟨_, rfl⟩
  obtain ⟨L, hL⟩ : ∃ L, L = leastC s.data.toList := ⟨_, rfl⟩
  have HR := hid hR
  have HL := hid hL
  clear hR hL
  go_wp2_with fail
  refine (ring_any s w2 (by omega)).mono ?_
  rintro e w3 ⟨ar, cr, rfl, hir, hnr, hcr, hb2⟩
  rw [← HR.out] at hir hcr ⊢
  rw [HLE.out]
  have HIR := hid hir
  have hb2 := hb.trans (hb2.mono hb.size)
  clear hir hb
  go_wp2_with fail
  refine (least_any s w3 (by omega)).mono ?_
  rintro e w4 ⟨al, cl, rfl, -, -, hcl, hb3⟩
  rw [← HL.out] at hcl ⊢
  rw [HLE.out]
  have HIR := hid (HIR.out.below hb3 (Nat.le_refl _))
  have hb3 := hb2.trans (hb3.mono hb2.size)
  clear hb2
  have hspec := ring_spec s.data.toList HC.out
  have hlsp := least_spec s.data.toList HC.out
  rw [← HR.out] at hspec
  rw [← HL.out] at hlsp
  obtain ⟨r1, r2, r3, r4, -, -⟩ := hspec
  obtain ⟨l1, l2, l3, -, -⟩ := hlsp
  have hRL : R.length ≤ L.length + L.length % 2 := by rw [HR.out]; exact ring_le _ HC.out _ ⟨L, rfl, l1, l2⟩
  have hk4 := kindsN_le s.data.toList
  have hz : checkRE s.data.toList R = 0 := by
    rw [checkRE, HC.out, r1, r2, r3]; rfl
  have HZ := hid hz
  have R3 := hid r3
  have hK : R.length ≤ (kindsN s.data.toList + 1) / 2 * 2 := by omega
  clear r1 r2 l1 l2 hz
  obtain ⟨K, hKe⟩ : ∃ K, K = kindsN s.data.toList := ⟨_, rfl⟩
  rw [← hKe] at hK hk4 l3
  have HK := hid hKe
  clear hKe
  have key : ∀ (k : Nat), k ≤ s.size → ∃ t : ByteArray, t = s.extract k s.size ++ s.extract 0 k ∧ t.size = s.size ∧ leastE t.data.toList = 0 ∧ (ringC t.data.toList).length = R.length := by
    intro k hk
    have e : (s.extract k s.size ++ s.extract 0 k).data.toList = s.data.toList.drop k ++ s.data.toList.take k := by
      rw [data_append, data_extract, data_extract, List.drop_zero, Nat.sub_zero, List.take_of_length_le (l := s.data.toList.drop k) (by rw [List.length_drop, bytes_len]; omega)]
    have hc := HC.out
    rw [← List.take_append_drop k s.data.toList] at hc
    refine ⟨_, rfl, by simp; omega, ?_, ?_⟩
    · rw [e, leastE, evenChain_turn _ _ hc]; rfl
    · rw [e, ring_same _ _ hc (evenChain_turn _ _ hc), List.take_append_drop, HR.out]
  have KEY := hid key
  clear key
  have hsmR := modtwo R.length
  have hsmL := modtwo L.length
  by_cases hpos : 0 < s.size
  · obtain ⟨k, hk, hke⟩ := modK a1 s.size hpos hsz
    obtain ⟨t, ht, hts, hte, htr⟩ := KEY.out k (by omega)
    have HKE := hid hke
    have HT := hid ht
    have HTE := hid hte
    have HTR := hid htr
    have htz : t.size ≤ 24 := by omega
    clear hke ht hte htr hts
    go_wp2_with fail
    refine (mod_any a1 s.size w4 (by omega) (by omega) hb1).mono ?_
    rintro e w5 ⟨rfl, rfl⟩
    rw [HKE.out]
    go_wp2_with fail
    go_region_with (go_at_call 28; rw [← HT.out]; refine (ring_any t _ (by omega)).mono ?_; rintro e w6 ⟨a6, c6, rfl, -, -, -, hb6⟩; rw [HTR.out, HTE.out])
    all_goals
      have hbq : Below w4.heap.size w4 w6 := (Below.refl _ w4).drew.trans hb6
      have hb6 := hb3.drew.trans (hb6.mono hb3.size)
      have HIR6 := hid (HIR.out.below hbq (Nat.le_refl _))
      go_wp2_with fail
      refine (refKinds_any s w6 (by omega) HOK.out).mono ?_
      rintro e w7 ⟨rfl, hb7⟩
      rw [← HK.out]
      have HIR7 := hid (HIR6.out.below hb7 (Nat.le_refl _))
      have hb7 := hb6.trans (hb7.mono hb6.size)
      go_wp2_with fail
      refine (checkRing_any s ar cr R w7 (by omega) HIR7.out hnr hcr (by omega)).mono ?_
      rintro e w8 ⟨rfl, hb8⟩
      rw [HZ.out]
      have hb8 := hb7.trans (hb8.mono hb7.size)
      go_wp2_with fail
      refine (awake_any w8).mono ?_
      rintro e w9 ⟨rfl, hb9⟩
      go_wp2
      go_ret
      exact ⟨rfl, hb8.trans (hb9.mono hb8.size)⟩
  · skip
    go_wp2_with fail
    go_region_with (go_at_call 28; refine (ring_any s _ (by omega)).mono ?_; rintro e w6 ⟨a6, c6, rfl, -, -, -, hb6⟩; rw [← HR.out, HLE.out])
    all_goals
      have hbq : Below w4.heap.size w4 w6 := (Below.refl _ w4).drew.trans hb6
      have hb6 := hb3.drew.trans (hb6.mono hb3.size)
      have HIR6 := hid (HIR.out.below hbq (Nat.le_refl _))
      go_wp2_with fail
      refine (refKinds_any s w6 (by omega) HOK.out).mono ?_
      rintro e w7 ⟨rfl, hb7⟩
      rw [← HK.out]
      have HIR7 := hid (HIR6.out.below hb7 (Nat.le_refl _))
      have hb7 := hb6.trans (hb7.mono hb6.size)
      go_wp2_with fail
      refine (checkRing_any s ar cr R w7 (by omega) HIR7.out hnr hcr (by omega)).mono ?_
      rintro e w8 ⟨rfl, hb8⟩
      rw [HZ.out]
      have hb8 := hb7.trans (hb8.mono hb7.size)
      go_wp2_with fail
      refine (awake_any w8).mono ?_
      rintro e w9 ⟨rfl, hb9⟩
      go_wp2
      go_ret
      exact ⟨rfl, hb8.trans (hb9.mono hb8.size)⟩
end Go.Proofs.Ythelnggbcgjbcaa
