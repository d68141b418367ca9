/-
  The walk of the law SealsHalves.
-/
import Derived.Test.YthelnggbcgjbcaaLawWays
import Derived.Test.YthelnggbcgjbcaaHalvesM
namespace Go.Proofs.Ythelnggbcgjbcaa
open Go.RowKit

set_option maxHeartbeats 4000000 in
theorem halvesl_walk (a0 : ByteArray) (w : World) (w0 : a0.size ≤ maxLen) :
    Calls Try.prog 13 #[.string a0] w fun e w' => e = .returned (.bool true) ∧ Below w.heap.size w w' := by
  have hmx : maxLen ≤ 9223372036854775807 := by decide
  go_enter Try.func13, Try.ntmps13
  go_wp2_with fail
  refine (even_any a0 24 w (by omega) (by omega) (by omega)).mono ?_
  rintro e w2 ⟨rfl, hb⟩
  obtain ⟨s, hs⟩ : ∃ s, s = mkS (evenL a0.data.toList 24) := ⟨_, rfl⟩
  have hch : evenChainB s.data.toList = true := by rw [hs]; exact evenL_chain _ _ (by omega) (by omega)
  have hsz : s.size ≤ 24 := by rw [hs, mkS_size]; exact evenL_len _ _ (by omega)
  rw [← hs]
  have HC := hid hch
  have hcc : chainB s.data.toList = true := by rw [chain_facts] at hch; simp only [Bool.and_eq_true] at hch; exact hch.1
  have HOK := hid (even_facts hch).1
  have HEV := hid (even_facts hch).2.1
  have HBL := hid (bytes_len s)
  clear hs hch
  go_wp2_with fail
  refine (halves_any s w2 hsz hcc).mono ?_
  rintro e w3 ⟨bo, rfl, -, hbo, hb3⟩
  have HBO := hid hbo
  have hb3 := hb.trans (hb3.mono hb.size)
  clear hbo hcc
  by_cases hz : s.size = 0
  · have q0 := HBO.out.rowAt 0 (by omega)
    have hone : halfN s.data.toList 0 = 1 := by
      have : s.data.toList = [] := List.eq_nil_of_length_eq_zero (by rw [HBL.out, hz])
      rw [this]; decide
    rw [hone] at q0
    have hz2 : ((s.size : Int) == 0) = true := by rw [hz]; rfl
    have hpos : 0 < s.size + 1 := by omega
    clear hone hz
    go_wp2_with fail
    refine (awake_any w3).mono ?_
    rintro e w4 ⟨rfl, hb4⟩
    go_wp2
    go_ret
    exact ⟨rfl, hb3.trans (hb4.mono hb3.size)⟩
  · have hz2 : ((s.size : Int) == 0) = false := by rw [beq_eq_false_iff_ne]; omega
    have hw1 : waysE s.data.toList 1 = .tuple #[.int .i64 (waysN s.data.toList [] 1 1), .int .i64 0] := by
      rw [waysE, HC.out, if_pos (by simp)]; rfl
    have hw2 : waysE s.data.toList 2 = .tuple #[.int .i64 (waysN s.data.toList [] 2 1), .int .i64 0] := by
      rw [waysE, HC.out, if_pos (by simp)]; rfl
    have hcut := halves_cuts s.data.toList HOK.out HEV.out (by rw [HBL.out]; omega)
    have hall := halves_sum s.data.toList HOK.out HEV.out
    have h12 := waysN_le s.data.toList [] 1 1 (by rw [HBL.out]; omega) (by omega)
    have h22 := waysN_le s.data.toList [] 2 1 (by rw [HBL.out]; omega) (by omega)
    obtain ⟨A, hA⟩ : ∃ A, A = waysN s.data.toList [] 1 1 := ⟨_, rfl⟩
    obtain ⟨B, hB⟩ : ∃ B, B = waysN s.data.toList [] 2 1 := ⟨_, rfl⟩
    rw [← hA] at hw1 hcut h12
    rw [← hB] at hw2 hcut h22
    rw [HBL.out] at hcut hall
    have HW1 := hid hw1
    have HW2 := hid hw2
    have HCUT := hid hcut
    have HALL := hid hall
    clear hw1 hw2 hcut hall hA hB hz
    go_wp2_with fail
    refine (ways_any s 1 w3 (by omega)).mono ?_
    rintro e w4 ⟨rfl, hb4⟩
    rw [HW1.out]
    have HBO := hid (HBO.out.below hb4 HBO.out.lt)
    have hb4 := hb3.trans (hb4.mono hb3.size)
    go_wp2_with fail
    refine (ways_any s 2 w4 (by omega)).mono ?_
    rintro e w5 ⟨rfl, hb5⟩
    rw [HW2.out]
    have HBO := hid (HBO.out.below hb5 HBO.out.lt)
    have hb5 := hb4.trans (hb5.mono hb4.size)
    go_wp2_with fail
    go_loop [10, 11] (fun sv iv => ∃ k n : Nat, k ≤ s.size + 1 ∧ n ≤ 25 * k ∧ iv = .int .i64 k ∧ sv = .int .i64 n ∧ Hid (n = sumTo (fun i => halfN s.data.toList i) 0 k)) (fun _ i => s.size + 1 - (intOf i).toNat)
    case atStart => exact ⟨0, 0, by omega, by omega, rfl, rfl, rfl⟩
    case round =>
      obtain ⟨k, n, hk, hn, rfl, rfl, HN⟩ := hrel
      by_cases hlt : k < s.size + 1
      · have q := HBO.out.rowAt k (by rw [HBL.out]; exact hlt)
        have hle := halfN_le s.data.toList k
        have hle2 : halfN s.data.toList k ≤ 25 := by have := HBL.out; omega
        obtain ⟨y, hy⟩ : ∃ y, y = halfN s.data.toList k := ⟨_, rfl⟩
        have hnew : n + y = sumTo (fun i => halfN s.data.toList i) 0 (k + 1) := by rw [sumTo, ← HN.out, hy, Nat.zero_add]
        rw [← hy] at q hle2
        have HNEW := hid hnew
        clear hle hy hnew
        go_wp2
        go_round
        case rel => exact ⟨k + 1, n + y, by omega, by omega, by go_num, by go_num, HNEW⟩
        case measure => simp [intOf]; omega
      · have hfin : n = halfN s.data.toList (s.size / 2) := by
          have := HALL.out k (by omega)
          rw [if_pos (by omega)] at this
          rw [HN.out, this]
        have q := HBO.out.rowAt (s.size / 2) (by rw [HBL.out]; omega)
        rw [← hfin] at q
        have hsum : n = B + 2 * A := by rw [hfin]; exact HCUT.out
        have hsumI : (n : Int) = (B : Int) + 2 * (A : Int) := by omega
        have e1 : ((n : Int) == (B : Int) + 2 * (A : Int)) = true := by rw [hsumI]; simp
        have hdiv : ((s.size : Int)).tdiv 2 = ((s.size / 2 : Nat) : Int) := by rw [Int.tdiv_eq_ediv_of_nonneg (by omega)]; omega
        have hh : s.size / 2 < s.size + 1 := by omega
        have hn2 : n ≤ 2000000 := by omega
        clear hfin hsum hsumI
        go_wp2_with fail
        refine (awake_any w5).mono ?_
        rintro e w8 ⟨rfl, hb8⟩
        go_wp2
        go_ret
        exact ⟨rfl, hb5.trans (hb8.mono hb5.size)⟩
end Go.Proofs.Ythelnggbcgjbcaa
