/-
  The law MarksExtends, walked.
-/
import Derived.Test.YtancficmkkdnfaaLawCounts
namespace Go.Proofs.Ytancficmkkdnfaa
open Go.RowKit
attribute [local go_sem] Oper.semAt_some

theorem ext_no (s : ByteArray) (k : Int) (h : ¬ (wordB s.data.toList = true ∧ 1 ≤ k ∧ k ≤ 4 ∧ s.size ≠ 120)) (w : World) : Hid (Calls Try.prog 44 #[.string s, .int .i64 k] w fun e w' => e = .returned (.tuple #[.string ⟨#[]⟩, .int .i64 2]) ∧ Below w.heap.size w w') := Extend_no s k w h
theorem ext_yes (s : ByteArray) (k : Int) (hw : wordB s.data.toList = true) (h1 : 1 ≤ k) (h4 : k ≤ 4) (h : s.size ≠ 120) (o : Option (List UInt8)) (ho : o = extO k.toNat s.data.toList) (w : World) : Hid (Calls Try.prog 44 #[.string s, .int .i64 k] w fun e w' => e = .returned (valX o) ∧ Below w.heap.size w w') := by
  have := Extend_yes s.data.toList k.toNat hw (by omega) (by omega) (by rw [bytes_len]; exact h) w
  rw [mkS_of, show ((k.toNat : Nat) : Int) = k by omega] at this
  rw [ho]; exact this
theorem ext_ref (s : ByteArray) (k : Int) (hw : wordB s.data.toList = true) (h1 : 1 ≤ k) (h4 : k ≤ 4) (o : Option (List UInt8)) (ho : o = extO k.toNat s.data.toList) (w : World) : Hid (Calls Try.prog 45 #[.string s, .int .i64 k] w fun e w' => e = .returned (valF o) ∧ Below w.heap.size w w') := by
  have := refExtend_any s.data.toList k.toNat (by have := (word_len hw).1; omega) (by omega) w
  rw [mkS_of, show ((k.toNat : Nat) : Int) = k by omega] at this
  rw [ho]; exact this

set_option maxHeartbeats 4000000 in
theorem extends_walk (s0 : ByteArray) (k : Int) (w : World) (hs : s0.size ≤ 9223372036854775807) (_hk : -9223372036854775808 ≤ k ∧ k ≤ 9223372036854775807) :
    Calls Try.prog 10 #[.string s0, .int .i64 k] w fun e w' => e = .returned (.bool true) ∧ Below w.heap.size w w' := by
  have hsz := short_size s0
  have SH := hid (short_any s0 w hs)
  obtain ⟨s, hse⟩ : ∃ s, s = s0.extract 0 (min s0.size 121) := ⟨_, rfl⟩
  rw [← hse] at SH hsz
  clear hse
  have RW := hid (fun W => refWord_any s W (by omega))
  by_cases hw : wordB s.data.toList = true
  · rw [hw] at RW
    have hl := (word_len hw).1
    rw [bytes_len] at hl
    by_cases hk : 1 ≤ k ∧ k ≤ 4
    · have d1 : decide (k < 1) = false := decide_eq_false (by omega)
      have d2 : decide (k > 4) = false := decide_eq_false (by omega)
      by_cases h120 : s.size = 120
      · have hb : ((s.size : Int) == 120) = true := beq_iff_eq.2 (by omega)
        have E := fun W => ext_no s k (fun h => h.2.2.2 h120) W
        clear hw hk h120
        go_enter Try.func10, Try.ntmps10
        go_wp2_with fail
        refine SH.out.mono ?_
        rintro e w1 ⟨rfl, rfl⟩
        go_wp2_with fail
        refine ((E _).out).mono ?_
        rintro e w1 ⟨rfl, hb1⟩
        go_wp2_with fail
        refine (RW.out _).mono ?_
        rintro e w2 ⟨rfl, hb2⟩
        first | subst hb2 | skip
        go_wp2_with fail
        refine (awake_any _).mono ?_
        rintro e w9 ⟨rfl, hb9⟩
        go_wp2_with fail
        go_ret
        exact ⟨rfl, hb1.trans (hb9.mono hb1.size)⟩
      · have hb : ((s.size : Int) == 120) = false := beq_eq_false_iff_ne.2 (by omega)
        obtain ⟨o, ho⟩ : ∃ o, o = extO k.toNat s.data.toList := ⟨_, rfl⟩
        have E := fun W => ext_yes s k hw hk.1 hk.2 h120 o ho W
        have R := fun W => ext_ref s k hw hk.1 hk.2 o ho W
        clear hw hk h120 ho
        go_enter Try.func10, Try.ntmps10
        go_wp2_with fail
        refine SH.out.mono ?_
        rintro e w1 ⟨rfl, rfl⟩
        go_wp2_with fail
        refine ((E _).out).mono ?_
        rintro e w1 ⟨rfl, hb1⟩
        cases o with
        | none =>
          simp only [valX, valF] at R ⊢
          go_wp2_with fail
          refine (RW.out _).mono ?_
          rintro e w2 ⟨rfl, hb2⟩
          first | subst hb2 | skip
          go_wp2_with fail
          refine ((R _).out).mono ?_
          rintro e w3 ⟨rfl, hb3⟩
          have hb3 := hb1.trans (hb3.mono hb1.size)
          go_wp2_with fail
          refine (awake_any _).mono ?_
          rintro e w9 ⟨rfl, hb9⟩
          go_wp2_with fail
          go_ret
          exact ⟨rfl, hb3.trans (hb9.mono hb3.size)⟩
        | some x =>
          simp only [valX, valF] at R ⊢
          have hxx := bytes_self x
          go_wp2_with fail
          refine (RW.out _).mono ?_
          rintro e w2 ⟨rfl, hb2⟩
          first | subst hb2 | skip
          go_wp2_with fail
          refine ((R _).out).mono ?_
          rintro e w3 ⟨rfl, hb3⟩
          have hb3 := hb1.trans (hb3.mono hb1.size)
          go_wp2_with fail
          refine (awake_any _).mono ?_
          rintro e w9 ⟨rfl, hb9⟩
          go_wp2_with fail
          go_ret
          exact ⟨rfl, hb3.trans (hb9.mono hb3.size)⟩
    · have E := fun W => ext_no s k (fun h => hk ⟨h.2.1, h.2.2.1⟩) W
      have hc : decide (k < 1) = true ∨ (decide (k < 1) = false ∧ decide (k > 4) = true) := by simp; omega
      clear hw hk
      go_enter Try.func10, Try.ntmps10
      go_wp2_with fail
      refine SH.out.mono ?_
      rintro e w1 ⟨rfl, rfl⟩
      go_wp2_with fail
      refine ((E _).out).mono ?_
      rintro e w1 ⟨rfl, hb1⟩
      go_wp2_with fail
      refine (RW.out _).mono ?_
      rintro e w2 ⟨rfl, hb2⟩
      first | subst hb2 | skip
      rcases hc with d1 | ⟨d1, d2⟩
      all_goals
        go_wp2_with fail
        refine (awake_any _).mono ?_
        rintro e w9 ⟨rfl, hb9⟩
        go_wp2_with fail
        go_ret
        exact ⟨rfl, hb1.trans (hb9.mono hb1.size)⟩
  · have hw' : wordB s.data.toList = false := by simpa using hw
    rw [hw'] at RW
    have E := fun W => ext_no s k (fun h => hw h.1) W
    clear hw hw'
    go_enter Try.func10, Try.ntmps10
    go_wp2_with fail
    refine SH.out.mono ?_
    rintro e w1 ⟨rfl, rfl⟩
    go_wp2_with fail
    refine ((E _).out).mono ?_
    rintro e w1 ⟨rfl, hb1⟩
    go_wp2_with fail
    refine (RW.out _).mono ?_
    rintro e w2 ⟨rfl, hb2⟩
    first | subst hb2 | skip
    go_wp2_with fail
    refine (awake_any _).mono ?_
    rintro e w9 ⟨rfl, hb9⟩
    go_wp2_with fail
    go_ret
    exact ⟨rfl, hb1.trans (hb9.mono hb1.size)⟩
end Go.Proofs.Ytancficmkkdnfaa
