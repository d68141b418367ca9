/-
  Walks: the reference finds the first fair cuts.
-/
import Derived.Test.YthelnggbcgjbcaaRefD
namespace Go.Proofs.Ythelnggbcgjbcaa
open Go.RowKit

/-- The first list that is found at all. -/
def tryN (f : Nat → Option (List Int)) : List Nat → Option (List Int)
  | [] => none
  | n :: r => (f n).or (tryN f r)

set_option maxHeartbeats 400000 in
theorem refLeast_any (s : ByteArray) (w : World) (hs : s.size ≤ 1000) (hok : s.data.toList.all okb = true) :
    Calls Try.prog 35 #[.string s] w (RetInts ((tryN (fun n => srch false s.data.toList [] n 1) [0, 1, 2, 3, 4]).getD []) w) := by
  go_enter Try.func35, Try.ntmps35
  go_wp2_with fail
  go_loopw [3] (fun n wr => ∃ k : Nat, n = .int .i64 (k : Nat) ∧ k ≤ 5 ∧ Below w.heap.size w wr ∧ Hid (tryN (fun n => srch false s.data.toList [] n 1) [0, 1, 2, 3, 4] = tryN (fun n => srch false s.data.toList [] n 1) ([0, 1, 2, 3, 4].drop k))) (fun n _ => 6 - (intOf n).toNat)
  case atStart => exact ⟨0, rfl, by omega, Below.refl _ _, rfl⟩
  case round =>
    obtain ⟨k, rfl, hk, hB, HK⟩ := hrel
    by_cases hlt : k < 5
    · have C1 := hid (search_any s hs hok false (k) none 0 [] 1 wr (Ints.nil _ _) (fun _ => rfl) (by simp; omega) (by simp) rfl rfl)
      have HT := hid (show tryN (fun n => srch false s.data.toList [] n 1) ([0, 1, 2, 3, 4].drop k) = (srch false s.data.toList [] (k) 1).or (tryN (fun n => srch false s.data.toList [] n 1) ([0, 1, 2, 3, 4].drop (k + 1))) by
        match k, hlt with
        | 0, _ => rfl
        | 1, _ => rfl
        | 2, _ => rfl
        | 3, _ => rfl
        | 4, _ => rfl)
      go_wp2_with fail
      refine C1.out.mono ?_
      rintro e w3 ⟨a3, c3, L3, ok, rfl, hok3, hr3, hn3, hl3, hL3, hb3⟩
      have hb4 : Below w.heap.size w w3 := hB.trans (hb3.mono hB.size)
      have H5 := hid hL3
      have H3 := hid hr3
      have H6 := hid hok3
      clear hL3 hr3 hn3 hok3
      cases ok
      · have hfin : tryN (fun n => srch false s.data.toList [] n 1) [0, 1, 2, 3, 4] = tryN (fun n => srch false s.data.toList [] n 1) ([0, 1, 2, 3, 4].drop (k + 1)) := by
          rw [HK.out, HT.out, Option.isNone_iff_eq_none.1 (Option.isSome_eq_false_iff.1 H6.out.symm), Option.none_or]
        have HF2 := hid hfin
        clear hfin
        go_wp2
        go_roundw
        case rel => exact ⟨k + 1, by go_num, by omega, hb4, HF2⟩
        case measure => simp [intOf]; omega
      · obtain ⟨r, hr⟩ := Option.isSome_iff_exists.1 H6.out.symm
        have hfin : L3 = (tryN (fun n => srch false s.data.toList [] n 1) [0, 1, 2, 3, 4]).getD [] := by
          rw [HK.out, HT.out, hr, Option.some_or]; exact H5.out r hr
        have HF2 := hid hfin
        clear hfin hr
        go_wp2
        go_ret
        refine ⟨a3, c3, ?_, by rw [← HF2.out]; exact H3.out, hb4⟩
        rw [← HF2.out]; rfl
    · have hfin : tryN (fun n => srch false s.data.toList [] n 1) [0, 1, 2, 3, 4] = none := by
        rw [HK.out, List.drop_eq_nil_of_le (by simp; omega)]; rfl
      have HF2 := hid hfin
      clear hfin
      go_wp2
      go_ret
      exact ⟨none, 0, by rw [HF2.out]; rfl, by rw [HF2.out]; exact Ints.nil _ _, hB⟩

set_option maxHeartbeats 400000 in
theorem refRing_any (s : ByteArray) (w : World) (hs : s.size ≤ 1000) (hok : s.data.toList.all okb = true) :
    Calls Try.prog 30 #[.string s] w (RetInts ((tryN (fun n => srch true s.data.toList [] n 0) [0, 2, 4]).getD []) w) := by
  go_enter Try.func30, Try.ntmps30
  go_wp2_with fail
  go_loopw [3] (fun n wr => ∃ k : Nat, n = .int .i64 (2 * k : Nat) ∧ k ≤ 3 ∧ Below w.heap.size w wr ∧ Hid (tryN (fun n => srch true s.data.toList [] n 0) [0, 2, 4] = tryN (fun n => srch true s.data.toList [] n 0) ([0, 2, 4].drop k))) (fun n _ => 6 - (intOf n).toNat)
  case atStart => exact ⟨0, rfl, by omega, Below.refl _ _, rfl⟩
  case round =>
    obtain ⟨k, rfl, hk, hB, HK⟩ := hrel
    by_cases hlt : k < 3
    · have C1 := hid (search_any s hs hok true (2 * k) none 0 [] 0 wr (Ints.nil _ _) (fun _ => rfl) (by simp; omega) (by simp) rfl rfl)
      have HT := hid (show tryN (fun n => srch true s.data.toList [] n 0) ([0, 2, 4].drop k) = (srch true s.data.toList [] (2 * k) 0).or (tryN (fun n => srch true s.data.toList [] n 0) ([0, 2, 4].drop (k + 1))) by
        match k, hlt with
        | 0, _ => rfl
        | 1, _ => rfl
        | 2, _ => rfl)
      go_wp2_with fail
      refine C1.out.mono ?_
      rintro e w3 ⟨a3, c3, L3, ok, rfl, hok3, hr3, hn3, hl3, hL3, hb3⟩
      have hb4 : Below w.heap.size w w3 := hB.trans (hb3.mono hB.size)
      have H5 := hid hL3
      have H3 := hid hr3
      have H6 := hid hok3
      clear hL3 hr3 hn3 hok3
      cases ok
      · have hfin : tryN (fun n => srch true s.data.toList [] n 0) [0, 2, 4] = tryN (fun n => srch true s.data.toList [] n 0) ([0, 2, 4].drop (k + 1)) := by
          rw [HK.out, HT.out, Option.isNone_iff_eq_none.1 (Option.isSome_eq_false_iff.1 H6.out.symm), Option.none_or]
        have HF2 := hid hfin
        clear hfin
        go_wp2
        go_roundw
        case rel => exact ⟨k + 1, by go_num, by omega, hb4, HF2⟩
        case measure => simp [intOf]; omega
      · obtain ⟨r, hr⟩ := Option.isSome_iff_exists.1 H6.out.symm
        have hfin : L3 = (tryN (fun n => srch true s.data.toList [] n 0) [0, 2, 4]).getD [] := by
          rw [HK.out, HT.out, hr, Option.some_or]; exact H5.out r hr
        have HF2 := hid hfin
        clear hfin hr
        go_wp2
        go_ret
        refine ⟨a3, c3, ?_, by rw [← HF2.out]; exact H3.out, hb4⟩
        rw [← HF2.out]; rfl
    · have hfin : tryN (fun n => srch true s.data.toList [] n 0) [0, 2, 4] = none := by
        rw [HK.out, List.drop_eq_nil_of_le (by simp; omega)]; rfl
      have HF2 := hid hfin
      clear hfin
      go_wp2
      go_ret
      exact ⟨none, 0, by rw [HF2.out]; rfl, by rw [HF2.out]; exact Ints.nil _ _, hB⟩

end Go.Proofs.Ythelnggbcgjbcaa
