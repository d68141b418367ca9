/-
  The walk of the law SealsWays.
-/
import Derived.Test.YthelnggbcgjbcaaWaysE
import Derived.Test.YthelnggbcgjbcaaHalvesR
import Derived.Test.YthelnggbcgjbcaaLawRounds
namespace Go.Proofs.Ythelnggbcgjbcaa
open Go.RowKit

theorem halves_list (l : List UInt8) : (List.range (l.length + 1)).map (fun i => (halfN l i : Int)) = halvesL l (l.length + 1) := rfl

set_option maxHeartbeats 4000000 in
theorem wlaw_walk (a0 : ByteArray) (a1 : Int) (w : World) (w0 : a0.size ≤ maxLen) (_hb1 : -9223372036854775808 ≤ a1 ∧ a1 ≤ 9223372036854775807) :
    Calls Try.prog 12 #[.string a0, .int .i64 a1] w fun e w' => e = .returned (.bool true) ∧ Below w.heap.size w w' := by
  have hmx : maxLen ≤ 9223372036854775807 := by decide
  go_enter Try.func12, Try.ntmps12
  go_wp2_with fail
  refine (short_any a0 w (by omega)).mono ?_
  rintro e w2 ⟨rfl, rfl⟩
  obtain ⟨s, hs⟩ : ∃ s, s = a0.extract 0 (min a0.size 25) := ⟨_, rfl⟩
  have hs25 : s.size ≤ 25 := by rw [hs]; simp; omega
  rw [← hs]
  clear hs
  obtain ⟨b1, h1⟩ : ∃ b, b = chainB s.data.toList := ⟨_, rfl⟩
  obtain ⟨b2, h2⟩ : ∃ b, b = evenB s.data.toList := ⟨_, rfl⟩
  have H1 := hid h1
  have H2 := hid h2
  have hec : evenChainB s.data.toList = (b1 && b2) := by rw [chain_facts, ← h1, ← h2]
  have HEC := hid hec
  clear h1 h2 hec
  cases b1
  · have hwv : waysE s.data.toList a1 = .tuple #[.int .i64 0, .int .i64 2] := by rw [waysE, HEC.out]; rfl
    have HWV := hid hwv
    clear hwv
    go_wp2_with fail
    refine (ways_any s a1 w (by omega)).mono ?_
    rintro e w1 ⟨rfl, hb⟩
    rw [HWV.out]
    go_wp2_with fail
    refine (halves_no s w1 (by omega) H1.out.symm).mono ?_
    rintro e w3 ⟨rfl, hb3⟩
    have hb3 := hb.trans (hb3.mono hb.size)
    go_wp2_with fail
    refine (refChain_any s w3 (by omega)).mono ?_
    rintro e w4 ⟨rfl, rfl⟩
    rw [← H1.out]
    go_wp2_with fail
    refine (awake_any w3).mono ?_
    rintro e w4 ⟨rfl, hb4⟩
    go_wp2
    go_ret
    exact ⟨rfl, hb3.trans (hb4.mono hb3.size)⟩
  have HOK := hid (chain_ok H1.out.symm)
  have hs24 : s.size ≤ 24 := by have := H1.out; simp [chainB] at this; have := this.2; rw [← bytes_len]; simpa using this
  have hbl := bytes_len s
  obtain ⟨N, E, hwv, hNE⟩ : ∃ N E : Int, waysE s.data.toList a1 = .tuple #[.int .i64 N, .int .i64 E] ∧ ((b2 = false ∨ a1 < 0 ∨ 4 < a1) → N = 0 ∧ E = 2) ∧ ((b2 = true ∧ 0 ≤ a1 ∧ a1 ≤ 4) → N = waysN s.data.toList [] a1.toNat 1 ∧ E = 0) := by
    rw [waysE, HEC.out, Bool.true_and]
    by_cases hc : b2 = true ∧ 0 ≤ a1 ∧ a1 ≤ 4
    · rw [hc.1, if_pos (by simp; omega)]
      exact ⟨_, _, rfl, fun h => by rcases h with h | h | h; (· cases h); (· omega); (· omega), fun _ => ⟨rfl, rfl⟩⟩
    · rw [if_neg (fun h => hc (by simpa [and_assoc] using h))]
      exact ⟨_, _, rfl, fun _ => ⟨rfl, rfl⟩, fun h => absurd h hc⟩
  have HWV := hid hwv
  have HNE := hid hNE
  have HBL := hid hbl
  have hm1 : s.data.toList.length + 1 ≤ 100 := by omega
  clear hwv hNE hbl
  go_wp2_with fail
  refine (ways_any s a1 w (by omega)).mono ?_
  rintro e w1 ⟨rfl, hb⟩
  rw [HWV.out]
  go_wp2_with fail
  refine (halves_any s w1 hs24 H1.out.symm).mono ?_
  rintro e w3 ⟨bo, rfl, -, hbo, hb3⟩
  have HIO := hid hbo.rowInts
  have hb3 := hb.trans (hb3.mono hb.size)
  clear hbo
  go_wp2_with fail
  refine (refChain_any s w3 (by omega)).mono ?_
  rintro e w4 ⟨rfl, rfl⟩
  rw [← H1.out]
  go_wp2_with fail
  refine (refHalves_any s w3 hs24 HOK.out).mono ?_
  rintro e w4 ⟨ah, ch, rfl, hih, hb4⟩
  have HIH := hid hih
  have HIO := hid (HIO.out.below hb4 (Nat.le_refl _))
  have hb4 := hb3.trans (hb4.mono hb3.size)
  clear hih
  have hll : (halvesL s.data.toList (s.data.toList.length + 1)).length = s.size + 1 := by simp only [halvesL, List.length_map, List.length_range]; rfl
  rw [hll]
  have HLL := hid hll
  clear hll
  go_wp2_with fail
  refine (awI (some ⟨bo, 0, none⟩) ah (s.size + 1) ch (s.size + 1) (halvesL s.data.toList (s.data.toList.length + 1)) w4 HIO.out HIH.out HLL.out (by omega)).mono ?_
  rintro e w5 ⟨rfl, hb5⟩
  have hb5 := hb4.trans (hb5.mono hb4.size)
  go_wp2_with fail
  refine (refEven_any s w5 (by omega) HOK.out).mono ?_
  rintro e w6 ⟨rfl, hb6⟩
  rw [← H2.out]
  have hb6 := hb5.trans (hb6.mono hb5.size)
  cases b2
  · obtain ⟨rfl, rfl⟩ := HNE.out.1 (.inl rfl)
    go_wp2_with fail
    refine (awake_any w6).mono ?_
    rintro e w7 ⟨rfl, hb7⟩
    go_wp2
    go_ret
    exact ⟨rfl, hb6.trans (hb7.mono hb6.size)⟩
  by_cases hneg : a1 < 0
  · obtain ⟨rfl, rfl⟩ := HNE.out.1 (.inr (.inl hneg))
    go_wp2_with fail
    refine (awake_any w6).mono ?_
    rintro e w7 ⟨rfl, hb7⟩
    go_wp2
    go_ret
    exact ⟨rfl, hb6.trans (hb7.mono hb6.size)⟩
  by_cases hbig : 4 < a1
  · have hd1 : decide (a1 < 0) = false := by simpa using hneg
    obtain ⟨rfl, rfl⟩ := HNE.out.1 (.inr (.inr hbig))
    go_wp2_with fail
    refine (awake_any w6).mono ?_
    rintro e w7 ⟨rfl, hb7⟩
    go_wp2
    go_ret
    exact ⟨rfl, hb6.trans (hb7.mono hb6.size)⟩
  · have hd1 : decide (a1 < 0) = false := by simpa using hneg
    have hd2 : decide (4 < a1) = false := by simpa using hbig
    obtain ⟨m, rfl⟩ := Int.eq_ofNat_of_zero_le (show 0 ≤ a1 by omega)
    obtain ⟨hN, rfl⟩ := HNE.out.2 ⟨rfl, by omega, by omega⟩
    rw [Int.toNat_natCast] at hN
    subst hN
    have RW := hid (refWays_any s hs25 HOK.out m none 0 [] 1 w6 (Ints.nil _ _) (fun _ => rfl) (by simp; omega) (by simp) rfl rfl (by omega))
    obtain ⟨K, hK⟩ : ∃ K, K = waysN s.data.toList [] m 1 := ⟨_, rfl⟩
    rw [← hK] at RW ⊢
    clear hK
    go_wp2_with fail
    refine RW.out.mono ?_
    rintro e w7 ⟨rfl, hb7⟩
    have hb7 := hb6.trans (hb7.mono hb6.size)
    go_wp2_with fail
    refine (awake_any w7).mono ?_
    rintro e w8 ⟨rfl, hb8⟩
    go_wp2
    go_ret
    exact ⟨rfl, hb7.trans (hb8.mono hb7.size)⟩
end Go.Proofs.Ythelnggbcgjbcaa
