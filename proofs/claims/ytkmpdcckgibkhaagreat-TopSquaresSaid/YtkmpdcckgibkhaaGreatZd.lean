/-
  Walks: the law TopSquares.
-/
import Derived.Test.YtkmpdcckgibkhaaGreatZc
namespace Go.Proofs.YtkmpdcckgibkhaaGreat
open Go.RowKit Mk

theorem frac_facts (n P num den : Nat) (hn : n ≤ 24) (hP : 1 ≤ P) (h : 2 * P ≤ n) (h1 : num = n / Nat.gcd n P) (h2 : den = P / Nat.gcd n P) : 1 ≤ den ∧ 2 * den ≤ num ∧ num ≤ 24 := by
  subst h1 h2
  refine ⟨Nat.div_pos (Nat.gcd_le_right _ hP) (Nat.gcd_pos_of_pos_right _ hP), half_frac n P hP h, Nat.le_trans (Nat.div_le_self _ _) hn⟩
theorem word_twice (v : List UInt8) (h : wordB v = true) (hl : v.length ≤ 12) : wordB (v ++ v) = true := by
  rw [wordB, Bool.and_eq_true] at h ⊢
  refine ⟨by simp; omega, ?_⟩
  rw [overB, List.all_append]
  have := h.2
  rw [overB] at this
  rw [this]; rfl

set_option maxRecDepth 100000 in
set_option maxHeartbeats 8000000 in
theorem squares_walk (s0 : ByteArray) (w : World) (hs : s0.size ≤ maxLen) : Calls Tryz.prog 6 #[.string s0] w (RetB (.bool true) w) := by
  have CW := hid (word15 s0 12 w (by omega) (by unfold maxLen at hs; omega))
  clear hs
  go_enter Tryz.func6, Tryz.ntmps6
  go_wp2_with fail
  refine CW.out.mono ?_
  rintro e w1 ⟨S, rfl, hb1, HS, hl⟩
  have H1 := hid hb1
  clear hb1 CW
  by_cases h0 : S.size = 0
  · have he : S.toList = [] := by rw [Lib.toList_data]; exact List.eq_nil_of_length_eq_zero h0
    have he2 : S.toList.isEmpty = true := by rw [he]; rfl
    go_wp2_with fail
    refine (eleven18 w1).mono ?_
    rintro e w4 ⟨rfl, hb4⟩
    have H4 := hid (H1.out.trans (hb4.mono H1.out.size))
    clear hb4
    go_wp2_with fail
    go_ret
    exact ⟨rfl, H4.out⟩
  · have he : ¬ S.toList = [] := fun e => h0 (by rw [Lib.toList_data] at e; have := congrArg List.length e; simpa using this)
    have he2 : S.toList.isEmpty = false := by
      cases h : S.toList with
      | nil => exact absurd h he
      | cons c r => rfl
    have hsz : ¬ 9223372036854775807 < S.size + S.size := by omega
    have hD : (S ++ S).data.toList = S.data.toList ++ S.data.toList := data_append S S
    have hT : (S ++ S).size = 2 * S.size := by
      have := congrArg List.length hD
      rw [bytes_len, List.length_append, bytes_len] at this
      omega
    have hv : 0 < S.data.toList.length := by rw [bytes_len]; omega
    have hvl : S.data.toList.length ≤ 12 := by rw [bytes_len]; exact hl
    have hwT := word_twice _ HS.out.1 hvl
    obtain ⟨l1, l2⟩ := least_sq _ HS.out.2 hv hvl
    obtain ⟨p, s1, s2, s3⟩ := sq_sq _ hv
    obtain ⟨P, hPe⟩ : ∃ P, P = per (S.data.toList ++ S.data.toList) (S.data.toList ++ S.data.toList).length := ⟨_, rfl⟩
    obtain ⟨r1, r2⟩ := per_sq _ hv
    rw [← hPe] at r1 r2
    rw [bytes_len] at s3 r2 l1
    have CL := hid (fun W => least_any (S ++ S) W (by rw [hT]; omega))
    have CX := hid (fun W => Exponent_any (S ++ S) W (by rw [hT]; omega))
    have CS := hid (fun W => Square_word (S ++ S) W (by rw [hT]; omega) (by rw [hD]; exact hwT))
    obtain ⟨num, hnum⟩ : ∃ num, num = (2 * S.size) / Nat.gcd (2 * S.size) P := ⟨_, rfl⟩
    obtain ⟨den, hden⟩ : ∃ den, den = P / Nat.gcd (2 * S.size) P := ⟨_, rfl⟩
    obtain ⟨f1, f2, f3⟩ := frac_facts (2 * S.size) P num den (by omega) r1 (by omega) hnum hden
    have HX := hid (show (if fullB (S ++ S).data.toList then Value.tuple #[fracV (S ++ S).data.toList.length (per (S ++ S).data.toList (S ++ S).data.toList.length), .int .i64 0] else .tuple #[zfrac, .int .i64 2]) = .tuple #[.agg #[.int .i64 num, .int .i64 den], .int .i64 0] by
      have hfb : fullB (S ++ S).data.toList = true := by
        rw [fullB, hD, hwT]
        cases hh : S.data.toList with
        | nil => rw [hh] at hv; simp at hv
        | cons c r => rfl
      rw [if_pos hfb, hD, ← hPe, List.length_append, bytes_len, show S.size + S.size = 2 * S.size by omega, fracV, ← hnum, ← hden])
    rw [hD, l1, l2] at CL
    rw [hD, s1] at CS
    clear hD hwT l1 l2 s1 hPe hnum hden hv hvl r1 r2
    go_wp2_with fail
    refine (CL.out w1).mono ?_
    rintro e w2 ⟨a, c, rfl, hi2, -, -, hb2⟩
    have H2 := hid (And.intro hi2 (H1.out.trans (hb2.mono H1.out.size)))
    clear hi2 hb2 CL
    go_wp2_with fail
    refine (CX.out w2).mono ?_
    rintro e w3 ⟨rfl, hb3⟩
    rw [HX.out]
    clear CX HX
    have hb4 := hb3.alloc hb3.size (.cells #[.int .i64 num, .int .i64 den] 44)
    have B4 := Blk.new w3 #[.int .i64 (num : Int), .int .i64 (den : Int)] 44
    have H4 := hid (And.intro (H2.out.1.below hb4 (Nat.le_refl _)) (And.intro (H2.out.2.trans (hb4.mono H2.out.2.size)) B4))
    clear hb3 hb4 B4 H2
    go_wp2_with fail
    refine (CS.out _).mono ?_
    rintro e w5 ⟨rfl, hb5⟩
    rw [show abV (some (0, p)) = .tuple #[.int .i64 0, .int .i64 p, .int .i64 0] from rfl]
    have B5 := H4.out.2.2.below hb5 H4.out.2.2.lt
    have hi5 := H4.out.1.below hb5 (Nat.le_refl _)
    have hb15 := H4.out.2.1.trans (hb5.mono H4.out.2.1.size)
    have hb6 : Below w5.heap.size w5 (w5.alloc (.cells #[.int .i64 S.size] 3)) := (Below.refl _ w5).alloc (Nat.le_refl _) _
    have I6 := ints10 a (some ⟨w5.heap.size, 0, none⟩) c 1 [(S.size : Int)] [(S.size : Int)] (w5.alloc (.cells #[.int .i64 S.size] 3)) (hi5.below hb6 (Nat.le_refl _)) (vals_new w5 #[.int .i64 S.size] 3 [.int .i64 (S.size : Int)] rfl) (by simp) (by simp)
    rw [show ([(S.size : Int)] == [(S.size : Int)]) = true by simp] at I6
    have HI := hid I6
    have HB6 := hid (And.intro (hb15.trans (hb6.mono hb15.size)) (B5.below hb6 B5.lt))
    have b0 := B5.cell 0
    have b1 := B5.cell 1
    have d1 : decide ((1 : Int) ≤ (den : Int)) = true := by simp; omega
    have d2 : decide (1 ≤ den) = true := by simp; omega
    have d3 : wrap64 (2 * (den : Int)) = 2 * (den : Int) := by unfold wrap64; omega
    have d4 : IntKind.i64.wrap (2 * (den : Int)) = 2 * (den : Int) := by rw [IntKind.wrap_i64]; omega
    have d5 : decide (2 * (den : Int) ≤ (num : Int)) = true := by simp; omega
    have d6 : decide ((1 : Int) ≤ (p : Int)) = true := by simp; omega
    have d7 : decide (1 ≤ p) = true := by simp; omega
    have d8 : decide ((p : Int) ≤ (S.size : Int)) = true := by simp; omega
    have d9 : decide (p ≤ S.size) = true := by simp; omega
    clear hb5 hi5 hb15 hb6 I6 B5 CS
    go_wp2_with fail
    refine HI.out.mono ?_
    rintro e w7 ⟨rfl, hb7⟩
    have H7 := hid (HB6.out.1.trans (hb7.mono HB6.out.1.size))
    have B7 := HB6.out.2.below hb7 HB6.out.2.lt
    have e0 := B7.cell 0
    have e1 := B7.cell 1
    clear b0 b1 hb7 B7 HI
    go_wp2_with fail
    refine (eleven18 w7).mono ?_
    rintro e w8 ⟨rfl, hb8⟩
    have H8 := hid (H7.out.trans (hb8.mono H7.out.size))
    clear hb8
    go_wp2_with fail
    go_ret
    exact ⟨rfl, H8.out⟩

end Go.Proofs.YtkmpdcckgibkhaaGreat
