/-
  Walks: Count, First.
-/
import Derived.Test.YtancficmkkdnfaaI
namespace Go.Proofs.Ytancficmkkdnfaa
open Go.RowKit
attribute [local go_sem] Oper.semAt_some

set_option maxHeartbeats 1000000 in
theorem count_no (n k : Int) (w : World) (h : ¬ (0 ≤ n ∧ n ≤ 16 ∧ 1 ≤ k ∧ k ≤ 3)) :
    Calls Try.prog 29 #[.int .i64 n, .int .i64 k] w fun e w' => e = .returned (.tuple #[.int .i64 0, .int .i64 2]) ∧ Below w.heap.size w w' := by
  have H := hid h
  clear h
  by_cases h1 : 0 ≤ n ∧ n ≤ 16
  · have hd1 : (decide (0 ≤ n) && decide (n ≤ 16)) = true := by simp; exact h1
    have hd2 : (decide (1 ≤ k) && decide (k ≤ 3)) = false := by
      have := H.out
      simp only [Bool.and_eq_false_iff, decide_eq_false_iff_not]; omega
    clear h1
    go_enter Try.func29, Try.ntmps29
    go_wp2_with fail
    refine (within_any _ _ _ _).mono ?_
    rintro e w1 ⟨rfl, rfl⟩
    rw [hd1]
    go_wp2_with fail
    refine (within_any _ _ _ _).mono ?_
    rintro e w1 ⟨rfl, rfl⟩
    rw [hd2]
    go_wp2_with fail
    go_ret2
    exact ⟨rfl, Below.refl _ _⟩
  · have hd1 : (decide (0 ≤ n) && decide (n ≤ 16)) = false := by
      simp only [Bool.and_eq_false_iff, decide_eq_false_iff_not]; omega
    clear h1
    go_enter Try.func29, Try.ntmps29
    go_wp2_with fail
    refine (within_any _ _ _ _).mono ?_
    rintro e w1 ⟨rfl, rfl⟩
    rw [hd1]
    go_wp2_with fail
    go_ret2
    exact ⟨rfl, Below.refl _ _⟩

theorem frW_len_le (k : Nat) : ∀ (m : Nat) (l : List UInt8), (frW k m l).length ≤ k ^ m := by
  intro m
  induction m with
  | zero => intro l; simp [frW]
  | succ m ih =>
    intro l
    have : ∀ (L : List Nat), (L.flatMap fun c => if endsB (addL l c) then [] else frW k m (addL l c)).length ≤ L.length * k ^ m := by
      intro L
      induction L with
      | nil => simp
      | cons c L ihL =>
        rw [List.flatMap_cons, List.length_append, List.length_cons, Nat.add_mul, Nat.one_mul, Nat.add_comm]
        refine Nat.add_le_add ihL ?_
        split
        · exact Nat.zero_le _
        · exact ih _
    have := this (List.range k)
    rw [List.length_range] at this
    rw [frW, Nat.pow_succ, Nat.mul_comm]
    exact this

set_option maxHeartbeats 4000000 in
theorem count_yes (n k : Nat) (w : World) (hn : n ≤ 16) (hk : 1 ≤ k) (hk2 : k ≤ 3) :
    Calls Try.prog 29 #[.int .i64 n, .int .i64 k] w fun e w' => e = .returned (.tuple #[.int .i64 (frW k n []).length, .int .i64 0]) ∧ Below w.heap.size w w' := by
  have hd1 : (decide (0 ≤ (n : Int)) && decide ((n : Int) ≤ 16)) = true := by simp; omega
  have hd2 : (decide (1 ≤ (k : Int)) && decide ((k : Int) ≤ 3)) = true := by simp; omega
  obtain ⟨T, hT⟩ : ∃ T, T = frW k n [] := ⟨_, rfl⟩
  rw [← hT]
  have hTl : T.length ≤ 100000000 := by
    rw [hT]
    refine Nat.le_trans (frW_len_le k n []) (Nat.le_trans (Nat.pow_le_pow_left hk2 n) (Nat.le_trans (Nat.pow_le_pow_right (by omega) hn) ?_))
    decide
  have HTL := hid hTl
  have HT := hid hT
  clear hT hTl
  refine (callsIn_wide (n := 0)).1 (callsIn_of_wp_marks Try.func29 rfl trivial ?_ rfl)
  simp only [Try.ntmps29, List.size_toArray, List.length_cons, List.length_nil, Nat.reduceAdd, Nat.reduceSub, Array.replicate_succ, Array.replicate_zero, List.push_toArray, List.append_toArray, List.nil_append, List.cons_append]
  gi_wp2_with fail
  refine ⟨trivial, rfl, (callsIn_wide.2 (within_any _ _ _ _)).mono ?_⟩
  rintro e w1 ⟨rfl, rfl⟩
  rw [hd1]
  gi_wp2_with fail
  refine ⟨trivial, rfl, (callsIn_wide.2 (within_any _ _ _ _)).mono ?_⟩
  rintro e w1 ⟨rfl, rfl⟩
  rw [hd2]
  gi_wp2_with fail
  refine ⟨trivial, rfl, (callsIn_wide.2 (free_any _ _ _)).mono ?_⟩
  rintro e W1 ⟨rfl, hW1⟩
  have hB0 : Blk W1 w.heap.size #[.int .i64 0] 3 := by rw [← hW1]; exact ((Blk.new w _ _).alloc _).alloc _
  have hB1 : Blk W1 (w.heap.size + 1) #[.int .i64 n] 3 := by rw [← hW1]; exact (Blk.mk' (by simp) rfl : Blk _ _ _ _).alloc _
  have hB2 : Blk W1 (w.heap.size + 1 + 1) #[.int .i64 k] 3 := by rw [← hW1]; exact Blk.mk' (by simp) rfl
  have hsz : W1.heap.size = w.heap.size + 3 := by rw [← hW1]; simp
  have hb1 : Below w.heap.size w W1 := by rw [← hW1]; exact (((Below.refl _ w).alloc (Nat.le_refl _) _).alloc (by simp) _).alloc (by simp; omega) _
  rw [show (w.alloc (.cells #[.int .i64 0] 3)).heap.size = w.heap.size + 1 by simp]
  have HB0 := hid hB0
  have HB1 := hid hB1
  have HB2 := hid hB2
  have HSZ := hid hsz
  have HBW := hid hb1
  clear hW1 hB0 hB1 hB2 hsz hb1
  gi_wp2_with fail
  refine wp_range (gf := 67) (lb := #[.pointer (some ⟨w.heap.size + 1, 0, none⟩), .pointer (some ⟨w.heap.size + 1 + 1, 0, none⟩)]) rfl Try.call67 ArgS T (fun b => b = w.heap.size) ?_ argS_put ?_
    (fun pre C W => Blk W w.heap.size #[.int .i64 (pre.length : Nat)] 3 ∧ C w.heap.size ∧ Below w.heap.size w W) (fun _ _ _ _ => False) ?_ ?_ ?_
    (fun v => { tmps := #[.int .i64 n, .int .i64 k, undef, undef, .int .i64 0, .int .i64 0, .pointer (some { block := w.heap.size, off := 0 }), .int .i64 n, .bool true, .bool false, .bool false, .int .i64 k, .bool true, .bool false, .bool false, .int .i64 n, .int .i64 k, .func (.func 67) #[] #[.pointer (some { block := w.heap.size + 1, off := 0 }), .pointer (some { block := w.heap.size + 1 + 1, off := 0 })], v, undef, undef, undef], defers := [] }) ?_ ?_ ?_ ?_
  · rintro b rfl; rw [HSZ.out]; omega
  · intro W2 hW2 hb2
    rw [HT.out]
    refine free_iter n k _ _ _ W2 (by omega) (by omega) ⟨HB1.out.below hb2 (by rw [HSZ.out]; omega), ?_⟩ ⟨HB2.out.below hb2 (by rw [HSZ.out]; omega), ?_⟩
    · rw [HSZ.out]; omega
    · rw [HSZ.out]; omega
  · have hs := HSZ.out
    exact FirmX.and (FirmX.blk (fun pre : List (List UInt8) => #[Value.int .i64 (pre.length : Nat)]) (by omega)) (FirmX.and (FirmX.pure _) (FirmX.below (Nat.le_refl _) (by omega)))
  · intro c; exact FirmX.false
  · intro W2 hb2
    exact ⟨HB0.out.below hb2 (by rw [HSZ.out]; omega), rfl, HBW.out.trans (hb2.mono (by rw [HSZ.out]; omega))⟩
  · intro v W2 K3 hK
    gi_wp2
    exact hK
  · rintro pre x post v C W2 hx ⟨h1, h2, h3⟩ hv hsz2 hC ⟨r, hr⟩
    have hpl : pre.length ≤ 100000000 := by
      have := HTL.out
      rw [hx] at this
      simp at this; omega
    have q1 := h1.cell 0
    simp only [List.getElem?_toArray, List.getElem?_cons_zero] at q1
    have f1 := h1.free 0
    have H1 := hid h1
    have H3 := hid h3
    have HC := hid hC
    clear h1 h3 hC hx hr
    gi_wp2_with fail
    refine ⟨C, Grew.refl (KeepsX.setCell _ h2) (fun k hk => (HC.out k hk).1), ?_, h2, H3.out.setCell (Nat.le_refl _) _⟩
    have := H1.out.set 0 (.int .i64 ((pre.length : Int) + 1))
    simpa using this
  · rintro C W2 hsz2 ⟨h1, h2, h3⟩ hD
    have q1 := h1.cell 0
    simp only [List.getElem?_toArray, List.getElem?_cons_zero] at q1
    have H1 := hid h1
    have H3 := hid h3
    have HD := hid hD
    clear h1 h3 hD
    gi_wp2_with fail
    have hm : MarksOk w.heap.size [{ target := .collected W1.heap.size, args := #[] }] W2 := (MarksOk.nil _ _).cons (by rw [HSZ.out]; omega) HD.out (fun k hk => by simp at hk)
    refine leaves_marks (v := .tuple #[.int .i64 T.length, .int .i64 0]) _ W2 hm (by have := HSZ.out; omega) (fun w' hs => ?_) (fun w' hs => ?_)
    · simp [results, Try.results29, go_sem]
    · exact ⟨rfl, H3.out.trans (hs.below.mono (Nat.le_refl _))⟩
  · rintro c pre x post C W2 hsz2 hx hf hD
    exact hf.elim
end Go.Proofs.Ytancficmkkdnfaa
