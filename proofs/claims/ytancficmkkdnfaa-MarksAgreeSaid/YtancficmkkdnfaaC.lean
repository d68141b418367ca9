/-
  Walks: free words, ends with squares, maps.
-/
import Derived.Test.YtancficmkkdnfaaB
namespace Go.Proofs.Ytancficmkkdnfaa
open Go.RowKit

set_option maxHeartbeats 400000 in
theorem refFree_any (s : ByteArray) (w : World) (hs : s.size ≤ 1000000) :
    Calls Try.prog 39 #[.string s] w fun e w' => e = .returned (.bool (freeB s.data.toList)) ∧ Below w.heap.size w w' := by
  have HC := hid (refSquare_any s w hs)
  have hfin : freeB s.data.toList = !(sq s.data.toList).isSome := by rw [freeB]; cases sq s.data.toList <;> rfl
  have HF := hid hfin
  clear hfin
  go_enter Try.func39, Try.ntmps39
  go_wp2_with (go_at_call 50; refine HC.out.mono ?_; rintro e w1 ⟨rfl, hb⟩)
  go_ret
  exact ⟨ret_bool rfl, hb⟩

def RetSq (l : List UInt8) (w : World) (e : Ending) (w' : World) : Prop :=
  e = .returned (if wordB l then (if freeB l then .tuple #[.int .i64 0, .int .i64 0, .int .i64 6] else .tuple #[.int .i64 (at0 (sq l)), .int .i64 (at1 (sq l)), .int .i64 0]) else .tuple #[.int .i64 0, .int .i64 0, .int .i64 2]) ∧ Below w.heap.size w w'

theorem sqI_pos (d : List UInt8) (p q : Nat) (hp : 1 ≤ p) (h : sqI d p = some q) : p ≤ q ∧ 2 * q ≤ d.length ∧ d.take q = (d.drop q).take q := by
  generalize hn : d.length + 1 - p = n
  induction n generalizing p with
  | zero => rw [sqI_end _ _ (by omega)] at h; cases h
  | succ n ih =>
    by_cases h2 : 2 * p ≤ d.length
    · by_cases he : d.take p = (d.drop p).take p
      · rw [sqI_yes _ _ h2 he] at h; cases h; exact ⟨Nat.le_refl _, h2, he⟩
      · rw [sqI_no _ _ h2 he] at h
        have := ih (p + 1) (by omega) h (by omega)
        exact ⟨by omega, this.2⟩
    · rw [sqI_end _ _ (by omega)] at h; cases h
theorem sqO_pos (l : List UInt8) (i : Nat) (x : Nat × Nat) (h : sqO l i = some x) : 1 ≤ x.2 := by
  induction l generalizing i with
  | nil => cases h
  | cons c d ih =>
    rw [sqO] at h
    cases hq : sqI (c :: d) 1 with
    | none => rw [hq] at h; exact ih _ h
    | some p => rw [hq] at h; cases h; exact (sqI_pos _ _ _ (by omega) hq).1
theorem at1_free (l : List UInt8) : (at1 (sq l) = 0) ↔ freeB l = true := by
  unfold freeB at1
  cases h : sq l with
  | none => simp
  | some x => have := sqO_pos _ _ _ h; simp; omega

set_option maxHeartbeats 400000 in
theorem Square_any (s : ByteArray) (w : World) (hs : s.size ≤ 1000000) :
    Calls Try.prog 43 #[.string s] w (RetSq s.data.toList w) := by
  have HW := hid (isWord_any s w)
  have HS := hid (fun W => square_any s W hs)
  have H1 := hid (at1_free s.data.toList)
  by_cases hw : wordB s.data.toList = true
  · rw [hw] at HW
    by_cases hf : freeB s.data.toList = true
    · have hfin : RetSq s.data.toList w = fun e w' => e = .returned (.tuple #[.int .i64 0, .int .i64 0, .int .i64 6]) ∧ Below w.heap.size w w' := by unfold RetSq; rw [if_pos hw, if_pos hf]
      rw [hfin]
      have h0 := H1.out.2 hf
      clear hfin hf hw H1
      go_enter Try.func43, Try.ntmps43
      go_wp2_with fail
      refine HW.out.mono ?_
      rintro e w1 ⟨rfl, hb⟩
      go_wp2_with fail
      refine (HS.out w1).mono ?_
      rintro e w2 ⟨rfl, hb2⟩
      go_wp2_with fail
      refine bodyPost_ret (results_tmp3 rfl _ _ _) rfl ?_
      exact ⟨rfl, hb.trans (hb2.mono hb.size)⟩
    · have hfin : RetSq s.data.toList w = fun e w' => e = .returned (.tuple #[.int .i64 (at0 (sq s.data.toList)), .int .i64 (at1 (sq s.data.toList)), .int .i64 0]) ∧ Below w.heap.size w w' := by unfold RetSq; rw [if_pos hw, if_neg hf]
      rw [hfin]
      have h0 : ¬ at1 (sq s.data.toList) = 0 := fun h => hf (H1.out.1 h)
      have h0' : (at1 (sq s.data.toList) == 0) = false := beq_eq_false_iff_ne.2 h0
      clear hfin hf hw H1
      go_enter Try.func43, Try.ntmps43
      go_wp2_with fail
      refine HW.out.mono ?_
      rintro e w1 ⟨rfl, hb⟩
      go_wp2_with fail
      refine (HS.out w1).mono ?_
      rintro e w2 ⟨rfl, hb2⟩
      go_wp2_with fail
      refine bodyPost_ret (results_tmp3 rfl _ _ _) rfl ?_
      exact ⟨rfl, hb.trans (hb2.mono hb.size)⟩
  · have hw' : wordB s.data.toList = false := by simpa using hw
    rw [hw'] at HW
    have hfin : RetSq s.data.toList w = fun e w' => e = .returned (.tuple #[.int .i64 0, .int .i64 0, .int .i64 2]) ∧ Below w.heap.size w w' := by unfold RetSq; rw [if_neg hw]
    rw [hfin]
    clear hfin hw hw' H1
    go_enter Try.func43, Try.ntmps43
    go_wp2_with fail
    refine HW.out.mono ?_
    rintro e w1 ⟨rfl, hb⟩
    go_wp2_with fail
    refine bodyPost_ret (results_tmp3 rfl _ _ _) rfl ?_
    exact ⟨rfl, hb⟩

theorem endsI_yes (l : List UInt8) (p : Nat) (h : 2 * p ≤ l.length) (he : l.drop (l.length - p) = (l.drop (l.length - 2 * p)).take p) : endsI l p = true := by
  rw [endsI, if_pos h, if_pos he]
theorem endsI_no (l : List UInt8) (p : Nat) (h : 2 * p ≤ l.length) (he : l.drop (l.length - p) ≠ (l.drop (l.length - 2 * p)).take p) : endsI l p = endsI l (p + 1) := by
  rw [endsI, if_pos h, if_neg he]
theorem endsI_end (l : List UInt8) (p : Nat) (h : l.length < 2 * p) : endsI l p = false := by
  rw [endsI, if_neg (by omega)]

set_option maxHeartbeats 1000000 in
theorem ends_any (s : ByteArray) (w : World) (hs : s.size ≤ 1000000) :
    Calls Try.prog 69 #[.string s] w fun e w' => e = .returned (.bool (endsB s.data.toList)) ∧ Below w.heap.size w w' := by
  go_enter Try.func69, Try.ntmps69
  go_wp2
  go_loopw [3] (fun i wx => ∃ p : Nat, p ≤ s.size + 1 ∧ 1 ≤ p ∧ i = .int .i64 p ∧ Below w.heap.size w wx ∧ Hid (endsB s.data.toList = endsI s.data.toList p)) (fun i _ => s.size + 1 - (intOf i).toNat)
  case atStart => exact ⟨1, by omega, by omega, rfl, Below.refl _ _, rfl⟩
  case round =>
    obtain ⟨p, hp, hp1, rfl, hb2, H2⟩ := hrel
    by_cases hle : 2 * p ≤ s.size
    · have hlen : ((s.data.toList.drop (s.size - p)).take (s.size - (s.size - p))) = s.data.toList.drop (s.size - p) := List.take_of_length_le (by rw [List.length_drop, bytes_len]; omega)
      by_cases he : s.data.toList.drop (s.data.toList.length - p) = (s.data.toList.drop (s.data.toList.length - 2 * p)).take p
      · have hfin : endsB s.data.toList = true := by
          rw [H2.out, endsI_yes _ _ (by rw [bytes_len]; omega) he]
        have HF := hid hfin
        have hx : s.extract (s.size - p) s.size = s.extract (s.size - 2 * p) (s.size - p) := ext_eq _ _ _ _ _ (by rw [hlen, show s.size - p - (s.size - 2 * p) = p by omega]; exact he)
        clear hfin he hlen
        go_wp2
        go_quiet (fail)
        go_wp2
        go_ret
        exact ⟨ret_bool HF.out.symm, below_drewN hb2 _⟩
      · have hfin : endsB s.data.toList = endsI s.data.toList (p + 1) := by
          rw [H2.out, endsI_no _ _ (by rw [bytes_len]; omega) he]
        have HF := hid hfin
        have hx : ((s.extract (s.size - p) s.size).toList == (s.extract (s.size - 2 * p) (s.size - p)).toList) = false := ext_ne _ _ _ _ _ (by rw [hlen, show s.size - p - (s.size - 2 * p) = p by omega]; exact he)
        clear hfin he hlen
        go_wp2
        go_quiet (fail)
        go_wp2
        exact ⟨⟨p + 1, by omega, by omega, by go_num, below_drewN hb2 _, HF⟩, by simp [intOf]; omega⟩
    · have hfin : endsB s.data.toList = false := by
        rw [H2.out, endsI_end _ _ (by rw [bytes_len]; omega)]
      have HF := hid hfin
      clear hfin
      go_wp2
      go_ret
      exact ⟨ret_bool HF.out.symm, hb2⟩

set_option maxHeartbeats 1000000 in
theorem refEnds_any (s : ByteArray) (w : World) (hs : s.size ≤ 1000000) :
    Calls Try.prog 63 #[.string s] w fun e w' => e = .returned (.bool (endsB s.data.toList)) ∧ Below w.heap.size w w' := by
  go_enter Try.func63, Try.ntmps63
  go_wp2
  go_loopw [4] (fun i wx => ∃ p : Nat, p ≤ s.size + 1 ∧ 1 ≤ p ∧ i = .int .i64 p ∧ Below w.heap.size w wx ∧ Hid (endsB s.data.toList = endsI s.data.toList p)) (fun i _ => s.size + 1 - (intOf i).toNat)
  case atStart => exact ⟨1, by omega, by omega, rfl, Below.refl _ _, rfl⟩
  case round =>
    obtain ⟨p, hp, hp1, rfl, hb2, H2⟩ := hrel
    by_cases hle : 2 * p ≤ s.size
    · have hlen : ((s.data.toList.drop (s.size - p)).take (s.size - (s.size - p))) = s.data.toList.drop (s.size - p) := List.take_of_length_le (by rw [List.length_drop, bytes_len]; omega)
      by_cases he : s.data.toList.drop (s.data.toList.length - p) = (s.data.toList.drop (s.data.toList.length - 2 * p)).take p
      · have hfin : endsB s.data.toList = true := by
          rw [H2.out, endsI_yes _ _ (by rw [bytes_len]; omega) he]
        have HF := hid hfin
        have hx : s.extract (s.size - p) s.size = s.extract (s.size - 2 * p) (s.size - p) := ext_eq _ _ _ _ _ (by rw [hlen, show s.size - p - (s.size - 2 * p) = p by omega]; exact he)
        clear hfin he hlen
        go_wp2
        go_quiet (fail)
        go_wp2
        go_ret
        exact ⟨ret_bool HF.out.symm, below_drewN hb2 _⟩
      · have hfin : endsB s.data.toList = endsI s.data.toList (p + 1) := by
          rw [H2.out, endsI_no _ _ (by rw [bytes_len]; omega) he]
        have HF := hid hfin
        have hx : ((s.extract (s.size - p) s.size).toList == (s.extract (s.size - 2 * p) (s.size - p)).toList) = false := ext_ne _ _ _ _ _ (by rw [hlen, show s.size - p - (s.size - 2 * p) = p by omega]; exact he)
        clear hfin he hlen
        go_wp2
        go_quiet (fail)
        go_wp2
        exact ⟨⟨p + 1, by omega, by omega, by go_num, below_drewN hb2 _, HF⟩, by simp [intOf]; omega⟩
    · have hfin : endsB s.data.toList = false := by
        rw [H2.out, endsI_end _ _ (by rw [bytes_len]; omega)]
      have HF := hid hfin
      clear hfin
      go_wp2
      go_ret
      exact ⟨ret_bool HF.out.symm, hb2⟩
end Go.Proofs.Ytancficmkkdnfaa
