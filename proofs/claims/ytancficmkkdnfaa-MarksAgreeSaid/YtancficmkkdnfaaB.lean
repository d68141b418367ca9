/-
  Walks: squares.
-/
import Derived.Test.YtancficmkkdnfaaA
namespace Go.Proofs.Ytancficmkkdnfaa
open Go.RowKit

theorem ext_eq (s : ByteArray) (a b c d : Nat) (h : (s.data.toList.drop a).take (b - a) = (s.data.toList.drop c).take (d - c)) : s.extract a b = s.extract c d := by
  rw [mkS_eq (s.extract a b) _ (data_extract s a b), mkS_eq (s.extract c d) _ (data_extract s c d), h]
theorem ext_ne (s : ByteArray) (a b c d : Nat) (h : (s.data.toList.drop a).take (b - a) ≠ (s.data.toList.drop c).take (d - c)) : ((s.extract a b).toList == (s.extract c d).toList) = false := by
  rw [Lib.extract_toList, Lib.extract_toList]
  exact beq_eq_false_iff_ne.2 h

theorem sqI_yes (d : List UInt8) (p : Nat) (h : 2 * p ≤ d.length) (he : d.take p = (d.drop p).take p) : sqI d p = some p := by
  rw [sqI, if_pos h, if_pos he]
theorem sqI_no (d : List UInt8) (p : Nat) (h : 2 * p ≤ d.length) (he : d.take p ≠ (d.drop p).take p) : sqI d p = sqI d (p + 1) := by
  rw [sqI, if_pos h, if_neg he]
theorem sqI_end (d : List UInt8) (p : Nat) (h : d.length < 2 * p) : sqI d p = none := by
  rw [sqI, if_neg (by omega)]
theorem sqO_nil (i : Nat) : sqO [] i = none := rfl
theorem sqO_some (d : List UInt8) (i p : Nat) (h : sqI d 1 = some p) : sqO d i = some (i, p) := by
  cases d with
  | nil => rw [sqI_end _ _ (by simp)] at h; cases h
  | cons c d => rw [sqO, h]
theorem sqO_none (l : List UInt8) (i : Nat) (hi : i < l.length) (h : sqI (l.drop i) 1 = none) : sqO (l.drop i) i = sqO (l.drop (i + 1)) (i + 1) := by
  rw [List.drop_eq_getElem_cons hi] at h ⊢
  rw [sqO, h]

/-- What 'square' returns. -/
def at0 (o : Option (Nat × Nat)) : Int := (o.map fun x => (x.1 : Int)).getD 0
def at1 (o : Option (Nat × Nat)) : Int := (o.map fun x => (x.2 : Int)).getD 0

set_option maxHeartbeats 1000000 in
theorem square_any (s : ByteArray) (w : World) (hs : s.size ≤ 1000000) :
    Calls Try.prog 62 #[.string s] w fun e w' => e = .returned (.tuple #[.int .i64 (at0 (sq s.data.toList)), .int .i64 (at1 (sq s.data.toList))]) ∧ Below w.heap.size w w' := by
  go_enter Try.func62, Try.ntmps62
  go_wp2
  go_loopw [8] (fun i wr => ∃ k : Nat, k ≤ s.size ∧ i = .int .i64 k ∧ Below w.heap.size w wr ∧ Hid (sq s.data.toList = sqO (s.data.toList.drop k) k)) (fun i _ => s.size - (intOf i).toNat)
  case atStart => exact ⟨0, Nat.zero_le _, rfl, Below.refl _ _, rfl⟩
  case round =>
    obtain ⟨k, hk, rfl, hb, H⟩ := hrel
    by_cases hlt : k < s.size
    · go_wp2_with fail
      go_loopw [5] (fun i wx => ∃ p : Nat, p ≤ s.size + 1 ∧ 1 ≤ p ∧ i = .int .i64 p ∧ Below w.heap.size w wx ∧ Hid (sqI (s.data.toList.drop k) 1 = sqI (s.data.toList.drop k) p)) (fun i _ => s.size + 1 - (intOf i).toNat)
      case atStart => exact ⟨1, by omega, by omega, rfl, hb, rfl⟩
      case round =>
        obtain ⟨p, hp, hp1, rfl, hb2, H2⟩ := hrel
        by_cases hle : k + 2 * p ≤ s.size
        · by_cases he : (s.data.toList.drop k).take p = ((s.data.toList.drop k).drop p).take p
          · have hfin : sq s.data.toList = some (k, p) := by
              rw [H.out, sqO_some _ _ p]; rw [H2.out, sqI_yes _ _ (by rw [List.length_drop, bytes_len]; omega) he]
            have HF := hid hfin
            have hx : s.extract k (k + p) = s.extract (k + p) (k + 2 * p) := ext_eq _ _ _ _ _ (by rw [List.drop_drop] at he; rw [show k + p - k = p by omega, show k + 2 * p - (k + p) = p by omega]; exact he)
            clear hfin he
            go_wp2
            go_quiet (fail)
            go_wp2
            go_ret2
            exact ⟨by rw [HF.out]; rfl, below_drewN hb2 _⟩
          · have hfin : sqI (s.data.toList.drop k) 1 = sqI (s.data.toList.drop k) (p + 1) := by
              rw [H2.out, sqI_no _ _ (by rw [List.length_drop, bytes_len]; omega) he]
            have HF := hid hfin
            have hx : ((s.extract k (k + p)).toList == (s.extract (k + p) (k + 2 * p)).toList) = false := ext_ne _ _ _ _ _ (by rw [List.drop_drop] at he; rw [show k + p - k = p by omega, show k + 2 * p - (k + p) = p by omega]; exact he)
            clear hfin he
            go_wp2
            go_quiet (fail)
            go_wp2
            exact ⟨⟨p + 1, by omega, by omega, by go_num, below_drewN hb2 _, HF⟩, by simp [intOf]; omega⟩
        · have hfin : sq s.data.toList = sqO (s.data.toList.drop (k + 1)) (k + 1) := by
            rw [H.out, sqO_none _ _ (by rw [bytes_len]; exact hlt)]
            rw [H2.out, sqI_end _ _ (by rw [List.length_drop, bytes_len]; omega)]
          have HF := hid hfin
          clear hfin
          go_wp2
          exact ⟨⟨k + 1, by omega, by go_num, hb2, HF⟩, by simp [intOf]; omega⟩
    · have hfin : sq s.data.toList = none := by rw [H.out, List.drop_eq_nil_of_le (by rw [bytes_len]; omega)]; rfl
      have HF := hid hfin
      clear hfin
      go_wp2
      go_ret2
      exact ⟨by rw [HF.out]; rfl, hb⟩

set_option maxHeartbeats 1000000 in
theorem refSquare_any (s : ByteArray) (w : World) (hs : s.size ≤ 1000000) :
    Calls Try.prog 50 #[.string s] w fun e w' => e = .returned (.tuple #[.int .i64 (at0 (sq s.data.toList)), .int .i64 (at1 (sq s.data.toList)), .bool (sq s.data.toList).isSome]) ∧ Below w.heap.size w w' := by
  go_enter Try.func50, Try.ntmps50
  go_wp2
  go_loopw [5] (fun i wr => ∃ k : Nat, k ≤ s.size ∧ i = .int .i64 k ∧ Below w.heap.size w wr ∧ Hid (sq s.data.toList = sqO (s.data.toList.drop k) k)) (fun i _ => s.size - (intOf i).toNat)
  case atStart => exact ⟨0, Nat.zero_le _, rfl, Below.refl _ _, rfl⟩
  case round =>
    obtain ⟨k, hk, rfl, hb, H⟩ := hrel
    by_cases hlt : k < s.size
    · go_wp2_with fail
      go_loopw [6] (fun i wx => ∃ p : Nat, p ≤ s.size + 1 ∧ 1 ≤ p ∧ i = .int .i64 p ∧ Below w.heap.size w wx ∧ Hid (sqI (s.data.toList.drop k) 1 = sqI (s.data.toList.drop k) p)) (fun i _ => s.size + 1 - (intOf i).toNat)
      case atStart => exact ⟨1, by omega, by omega, rfl, hb, rfl⟩
      case round =>
        obtain ⟨p, hp, hp1, rfl, hb2, H2⟩ := hrel
        by_cases hle : k + 2 * p ≤ s.size
        · by_cases he : (s.data.toList.drop k).take p = ((s.data.toList.drop k).drop p).take p
          · have hfin : sq s.data.toList = some (k, p) := by
              rw [H.out, sqO_some _ _ p]; rw [H2.out, sqI_yes _ _ (by rw [List.length_drop, bytes_len]; omega) he]
            have HF := hid hfin
            have hx : s.extract k (k + p) = s.extract (k + p) (k + 2 * p) := ext_eq _ _ _ _ _ (by rw [List.drop_drop] at he; rw [show k + p - k = p by omega, show k + 2 * p - (k + p) = p by omega]; exact he)
            clear hfin he
            go_wp2
            go_quiet (fail)
            go_wp2
            refine bodyPost_ret (results_tmp3 rfl _ _ _) rfl ?_
            exact ⟨by rw [HF.out]; rfl, below_drewN hb2 _⟩
          · have hfin : sqI (s.data.toList.drop k) 1 = sqI (s.data.toList.drop k) (p + 1) := by
              rw [H2.out, sqI_no _ _ (by rw [List.length_drop, bytes_len]; omega) he]
            have HF := hid hfin
            have hx : ((s.extract k (k + p)).toList == (s.extract (k + p) (k + 2 * p)).toList) = false := ext_ne _ _ _ _ _ (by rw [List.drop_drop] at he; rw [show k + p - k = p by omega, show k + 2 * p - (k + p) = p by omega]; exact he)
            clear hfin he
            go_wp2
            go_quiet (fail)
            go_wp2
            exact ⟨⟨p + 1, by omega, by omega, by go_num, below_drewN hb2 _, HF⟩, by simp [intOf]; omega⟩
        · have hfin : sq s.data.toList = sqO (s.data.toList.drop (k + 1)) (k + 1) := by
            rw [H.out, sqO_none _ _ (by rw [bytes_len]; exact hlt)]
            rw [H2.out, sqI_end _ _ (by rw [List.length_drop, bytes_len]; omega)]
          have HF := hid hfin
          clear hfin
          go_wp2
          exact ⟨⟨k + 1, by omega, by go_num, hb2, HF⟩, by simp [intOf]; omega⟩
    · have hfin : sq s.data.toList = none := by rw [H.out, List.drop_eq_nil_of_le (by rw [bytes_len]; omega)]; rfl
      have HF := hid hfin
      clear hfin
      go_wp2
      refine bodyPost_ret (results_tmp3 rfl _ _ _) rfl ?_
      exact ⟨by rw [HF.out]; rfl, hb⟩
end Go.Proofs.Ytancficmkkdnfaa
