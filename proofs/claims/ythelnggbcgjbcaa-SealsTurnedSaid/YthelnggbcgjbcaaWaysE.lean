/-
  Walks: the program's Ways, whatever comes in.
-/
import Derived.Test.YthelnggbcgjbcaaWaysQ
namespace Go.Proofs.Ythelnggbcgjbcaa
open Go.RowKit

set_option maxHeartbeats 1000000 in
theorem ways_any (s : ByteArray) (many : Int) (w : World) (hs : s.size ≤ 900) :
    Calls Try.prog 39 #[.string s, .int .i64 many] w fun e w' => e = .returned (waysE s.data.toList many) ∧ Below w.heap.size w w' := by
  by_cases h : evenChainB s.data.toList = true
  · by_cases hm : 0 ≤ many ∧ many ≤ 4
    · obtain ⟨m, rfl⟩ := Int.eq_ofNat_of_zero_le hm.1
      refine (ways_ok s m w h (by omega)).mono ?_
      rintro e w' ⟨he, hb⟩
      refine ⟨?_, hb⟩
      rw [waysE, h, if_pos (by simp; omega), he, Int.toNat_natCast]
    · have hd : (decide ((0 : Int) ≤ many) && decide (many ≤ 4)) = false := by
        rw [Bool.eq_false_iff]; intro hh; simp at hh; exact hm hh
      have hR : waysE s.data.toList many = .tuple #[.int .i64 0, .int .i64 2] := by
        rw [waysE, Bool.and_assoc, hd, Bool.and_false]; rfl
      rw [hR]
      have H := hid h
      have HD := hid hd
      clear h hm hd hR
      go_enter Try.func39, Try.ntmps39
      go_wp2_with fail
      refine (isEven_any s _ (by omega)).mono ?_
      rintro e w1 ⟨rfl, hb⟩
      rw [H.out]
      go_wp2_with fail
      refine (within_any _ _ _ _).mono ?_
      rintro e w2 ⟨rfl, rfl⟩
      rw [HD.out]
      go_wp2
      go_ret2
      exact ⟨rfl, hb⟩
  · have h' : evenChainB s.data.toList = false := by simpa using h
    have hR : waysE s.data.toList many = .tuple #[.int .i64 0, .int .i64 2] := by
      rw [waysE, h']; rfl
    rw [hR]
    have H := hid h'
    clear h h' hR
    go_enter Try.func39, Try.ntmps39
    go_wp2_with fail
    refine (isEven_any s _ (by omega)).mono ?_
    rintro e w1 ⟨rfl, hb⟩
    rw [H.out]
    go_wp2
    go_ret2
    exact ⟨rfl, hb⟩
end Go.Proofs.Ythelnggbcgjbcaa
