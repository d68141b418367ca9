/-
  The law MarksFirst, walked.
-/
import Derived.Test.YtancficmkkdnfaaLawCounts
namespace Go.Proofs.Ytancficmkkdnfaa
open Go.RowKit
attribute [local go_sem] Oper.semAt_some

theorem head_of (n : Nat) (h : n ≤ 60) : ∃ x, (frW 3 n []).head? = some x ∧ x ∈ frW 3 n [] := by
  have := some_free n h
  cases hc : frW 3 n [] with
  | nil => rw [hc] at this; exact absurd this (by simp)
  | cons y r => exact ⟨y, rfl, by simp⟩

theorem first_at (p q : Int) (n : Nat) (x : List UInt8) (hp : p = n) (hq : q = 3) (hn : n ≤ 60) (hx : (frW 3 n []).head? = some x) (w : World) :
    Hid (Calls Try.prog 40 #[.int .i64 p, .int .i64 q] w fun e w' => e = .returned (.tuple #[.string (mkS x), .int .i64 0]) ∧ Below w.heap.size w w') := by
  subst hp hq
  refine (first_yes n 3 w hn (by omega) (by omega)).mono ?_
  rintro e w' ⟨rfl, hb⟩
  rw [hx]; exact ⟨rfl, hb⟩
theorem first_two (p q : Int) (n : Nat) (hp : p = n) (hq : q = 2) (hn : n ≤ 60) (h4 : 4 ≤ n) (w : World) :
    Hid (Calls Try.prog 40 #[.int .i64 p, .int .i64 q] w fun e w' => e = .returned (.tuple #[.string ⟨#[]⟩, .int .i64 6]) ∧ Below w.heap.size w w') := by
  subst hp hq
  refine (first_yes n 2 w hn (by omega) (by omega)).mono ?_
  rintro e w' ⟨rfl, hb⟩
  rw [two_none n h4]; exact ⟨rfl, hb⟩
theorem square_free (l : List UInt8) (hw : wordB l = true) (hf : freeB l = true) (w : World) :
    Hid (Calls Try.prog 43 #[.string (mkS l)] w fun e w' => e = .returned (.tuple #[.int .i64 0, .int .i64 0, .int .i64 6]) ∧ Below w.heap.size w w') := by
  refine (Square_any (mkS l) w (by have := (word_len hw).1; rw [mkS_size]; omega)).mono ?_
  rintro e w' ⟨rfl, hb⟩
  rw [mkS_data, if_pos hw, if_pos hf]; exact ⟨rfl, hb⟩
theorem square_has (l : List UInt8) (hw : wordB l = true) (hf : freeB l = false) (w : World) :
    Hid (Calls Try.prog 43 #[.string (mkS l)] w fun e w' => e = .returned (.tuple #[.int .i64 (at0 (sq l)), .int .i64 (at1 (sq l)), .int .i64 0]) ∧ Below w.heap.size w w') := by
  refine (Square_any (mkS l) w (by have := (word_len hw).1; rw [mkS_size]; omega)).mono ?_
  rintro e w' ⟨rfl, hb⟩
  rw [mkS_data, if_pos hw, if_neg (by rw [hf]; simp)]; exact ⟨rfl, hb⟩
theorem word_of {k : Nat} {l : List UInt8} (hk : k ≤ 4) (h : overB k l = true) (hl : l.length ≤ 120) : wordB l = true := by
  rw [wordB, overB_mono hk h]; simp [hl]

set_option maxHeartbeats 400000 in
theorem first_walk (x y : Int) (w : World) (hx : -9223372036854775808 ≤ x ∧ x ≤ 9223372036854775807) (hy : -9223372036854775808 ≤ y ∧ y ≤ 9223372036854775807) :
    Calls Try.prog 9 #[.int .i64 x, .int .i64 y] w fun e w' => e = .returned (.bool true) ∧ Below w.heap.size w w' := by
  have m1 := mod_any x 61 w (by omega) (by omega) hx
  have m2 := mod_any y 61 w (by omega) (by omega) hy
  have l1 := modN_lt x 61 (by omega)
  have l2 := modN_lt y 61 (by omega)
  obtain ⟨n, hn⟩ : ∃ n, n = modN x 61 := ⟨_, rfl⟩
  obtain ⟨m, hm⟩ : ∃ m, m = modN y 61 := ⟨_, rfl⟩
  rw [← hn] at m1 l1
  rw [← hm] at m2 l2
  have m3 := fun W => mod_any (n : Int) 50 W (by omega) (by omega) (by omega)
  have l3 := modN_lt (n : Int) 50 (by omega)
  obtain ⟨r, hr⟩ : ∃ r, r = modN (n : Int) 50 := ⟨_, rfl⟩
  rw [← hr] at m3 l3
  clear hn hm hr
  obtain ⟨A, hA⟩ : ∃ A, A = max n m := ⟨_, rfl⟩
  obtain ⟨B, hB⟩ : ∃ B, B = min n m := ⟨_, rfl⟩
  have hA60 : A ≤ 60 := by omega
  have hBA : B ≤ A := by omega
  obtain ⟨s, hs1, hs2⟩ := head_of A hA60
  obtain ⟨t, ht1, ht2⟩ := head_of B (by omega)
  have F1 := fun W => first_at (max (n : Int) (m : Int)) 3 A s (by omega) rfl hA60 hs1 W
  have F2 := fun W => first_at (min (n : Int) (m : Int)) 3 B t (by omega) rfl (by omega) ht1 W
  have F3 := fun W => first_two (4 + (r : Int)) 2 (4 + r) (by omega) rfl (by omega) (by omega) W
  obtain ⟨s', e1, e2, e3, e4⟩ := (mem_frW 3 (by omega) A [] s rfl rfl).1 hs2
  rw [List.nil_append] at e2
  subst e2
  obtain ⟨t', g1, g2, g3, g4⟩ := (mem_frW 3 (by omega) B [] t rfl rfl).1 ht2
  rw [List.nil_append] at g2
  subst g2
  have SQ := fun W => square_free s (word_of (by omega) e3 (by omega)) e4 W
  have hle := head_min 3 (by omega) B [] t (s.take B) ht1 (take_mem 3 A B (by omega) hBA s hs2)
  obtain ⟨pre, hpre⟩ : ∃ pre, pre = (mkS s).extract 0 B := ⟨_, rfl⟩
  have hpd : pre.toList = s.take B := by rw [hpre, Lib.extract_toList]; simp [mkS_data]
  have hpre2 := hpre.symm
  have htl : (mkS t).toList = t := Lib.toList_data _
  have hss : (mkS s).size = A := by rw [mkS_size, e1]
  have hts : (mkS t).size = B := by rw [mkS_size, g1]
  have hq1 : ((A : Int) == max (n : Int) (m : Int)) = true := beq_iff_eq.2 (by omega)
  have hq2 : ((B : Int) == min (n : Int) (m : Int)) = true := beq_iff_eq.2 (by omega)
  have hple : Op.bytesLess (mkS t).toList pre.toList = true ∨ ((mkS t).toList == pre.toList) = true := by
    rw [htl, hpd]
    rcases hle with h | h
    · exact .inr (beq_iff_eq.2 h)
    · exact .inl h
  have hpb : (Op.bytesLess (mkS t).toList pre.toList || ((mkS t).toList == pre.toList)) = true := by rcases hple with h | h <;> rw [h] <;> simp
  have hpo : (Op.bytesLess (mkS t).toList pre.toList = true ∨ (mkS t).toList = pre.toList) := hple.imp id beq_iff_eq.1
  clear hs1 hs2 ht1 ht2 e3 e4 g3 g4 hpre hle hpd htl hple e1 g1 hA hB
  go_enter Try.func9, Try.ntmps9
  go_wp2_with fail
  refine m1.mono ?_
  rintro e w1 ⟨rfl, rfl⟩
  go_wp2_with fail
  refine m2.mono ?_
  rintro e w1 ⟨rfl, rfl⟩
  go_wp2_with fail
  refine ((F1 _).out).mono ?_
  rintro e w1 ⟨rfl, hb1⟩
  go_wp2_with fail
  refine ((F2 _).out).mono ?_
  rintro e w2 ⟨rfl, hb2⟩
  have hb2 := hb1.trans (hb2.mono hb1.size)
  go_wp2_with fail
  refine (m3 _).mono ?_
  rintro e w3 ⟨rfl, rfl⟩
  go_wp2_with fail
  refine ((F3 _).out).mono ?_
  rintro e w3 ⟨rfl, hb3⟩
  have hb3 := hb2.trans (hb3.mono hb2.size)
  go_wp2_with fail
  refine ((SQ _).out).mono ?_
  rintro e w4 ⟨rfl, hb4⟩
  have hb4 := hb3.trans (hb4.mono hb3.size)
  go_wp2_with fail
  refine (awake_any _).mono ?_
  rintro e w9 ⟨rfl, hb9⟩
  go_wp2_with fail
  go_ret
  exact ⟨rfl, hb4.trans (hb9.mono hb4.size)⟩
end Go.Proofs.Ytancficmkkdnfaa
