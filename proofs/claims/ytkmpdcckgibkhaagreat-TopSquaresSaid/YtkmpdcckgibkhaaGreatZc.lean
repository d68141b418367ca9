/-
  Walks: the law TopHalved.
-/
import Derived.Test.YtkmpdcckgibkhaaGreatZb
import Derived.Test.YtkmpdcckgibkhaaGreatXp
namespace Go.Proofs.YtkmpdcckgibkhaaGreat
open Go.RowKit Mk

theorem word15 (s : ByteArray) (most : Nat) (w : World) (hm : most ≤ 24) (hs : s.size ≤ 9223372036854775807) : Calls Tryz.prog 15 #[.string s, .int .i64 most, .int .i64 4] w fun e w' => ∃ S : ByteArray, e = .returned (.string S) ∧ Below w.heap.size w w' ∧ Hid (wordB S.data.toList = true ∧ S.data.toList.all okb = true) ∧ S.size ≤ most := by
  refine (tame_any s most 4 w (by omega) (by omega) (by omega) hs).mono ?_
  rintro e w' ⟨rfl, hb⟩
  have ho := tame_over most 4 s.data.toList (by omega) (by omega)
  have hl := tame_len most 4 s.data.toList
  refine ⟨_, rfl, hb, ⟨?_, ?_⟩, hl⟩
  · rw [mkS_data, wordB, ho]; simp; omega
  · rw [mkS_data]; exact over_ok _ ho

set_option maxRecDepth 100000 in
set_option maxHeartbeats 8000000 in
theorem halved_walk (s0 : ByteArray) (w : World) (hs : s0.size ≤ maxLen) : Calls Tryz.prog 5 #[.string s0] w (RetB (.bool true) w) := by
  have CW := hid (word15 s0 24 w (by omega) (by unfold maxLen at hs; omega))
  clear hs
  go_enter Tryz.func5, Tryz.ntmps5
  go_wp2_with fail
  refine CW.out.mono ?_
  rintro e w1 ⟨S, rfl, hb1, HS, hl⟩
  have H1 := hid hb1
  clear hb1 CW
  have CA := Abelian_yes S w1 HS.out.1
  cases hab : ab S.data.toList with
  | some x =>
    obtain ⟨i, p⟩ := x
    obtain ⟨h1, h2, h3⟩ := ab_check S.data.toList i p HS.out.2 hl hab
    rw [hab] at CA
    have CH := hid CA
    have HAB := hid hab
    rw [bytes_len] at h2
    have HC := hid h3
    clear CA hab h3
    go_wp2_with fail
    refine CH.out.mono ?_
    rintro e w2 ⟨rfl, hb2⟩
    have H2 := hid (H1.out.trans (hb2.mono H1.out.size))
    rw [show abV (some (i, p)) = .tuple #[.int .i64 i, .int .i64 p, .int .i64 0] from rfl]
    clear hb2 CH
    have a1 : decide ((i : Int) < 0) = false := by simp
    have a2 : decide ((p : Int) < 1) = false := by simp; omega
    have a3 : decide (p < 1) = false := by simp; omega
    have a4 : decide (p = 0) = false := by simp; omega
    have w1' : wrap64 (2 * (p : Int)) = 2 * (p : Int) := by unfold wrap64; omega
    have w2' : wrap64 ((i : Int) + 2 * (p : Int)) = (i : Int) + 2 * (p : Int) := by unfold wrap64; omega
    have w3' : IntKind.i64.wrap (2 * (p : Int)) = 2 * (p : Int) := by rw [IntKind.wrap_i64]; omega
    have w4' : IntKind.i64.wrap ((i : Int) + 2 * (p : Int)) = (i : Int) + 2 * (p : Int) := by rw [IntKind.wrap_i64]; omega
    have a5 : decide ((S.size : Int) < (i : Int) + 2 * (p : Int)) = false := by simp; omega
    have a6 : ((i : Int) + 2 * (p : Int)).toNat = i + 2 * p := by omega
    have a7 : (i : Int) ≤ (i : Int) + 2 * (p : Int) := by omega
    have a8 : (i : Int) + 2 * (p : Int) ≤ (S.size : Int) := by omega
    have hsz : (S.extract i (i + 2 * p)).size ≤ 900 := by
      have := data_extract S i (i + 2 * p)
      have h9 := congrArg List.length this
      rw [bytes_len, List.length_take, List.length_drop, bytes_len] at h9
      omega
    have CE := hid (check_any (S.extract i (i + 2 * p)) (some ⟨w2.heap.size, 0, none⟩) 1 [(p : Int)] (w2.alloc (.cells #[.int .i64 p] 3)) hsz (vals_new w2 #[.int .i64 p] 3 [.int .i64 (p : Int)] rfl) (fun h => by cases h) (by simp) (by simp))
    rw [data_extract, show i + 2 * p - i = 2 * p by omega, HC.out] at CE
    have hbl := hid (H2.out.alloc H2.out.size (.cells #[.int .i64 p] 3))
    clear hsz
    go_wp2_with fail
    refine CE.out.mono ?_
    rintro e w3 ⟨rfl, hb3⟩
    have H3 := hid (hbl.out.trans (hb3.mono hbl.out.size))
    clear hb3 CE hbl a1 a2 a3 a4 a5 a6 a7 a8 w1' w2' w3' w4'
    by_cases hlt : S.size < 2
    · have b1 : decide ((S.size : Int) < 2) = true := by simp; omega
      have b2 : decide (S.size < 2) = true := by simp; omega
      go_wp2_with fail
      refine (eleven18 w3).mono ?_
      rintro e w4 ⟨rfl, hb4⟩
      have H4 := hid (H3.out.trans (hb4.mono H3.out.size))
      clear hb4
      go_wp2_with fail
      go_ret
      exact ⟨rfl, H4.out⟩
    · have b1 : decide ((S.size : Int) < 2) = false := by simp; omega
      have b2 : decide (S.size < 2) = false := by simp; omega
      have b3 := modtwo S.size
      by_cases hodd : S.size % 2 = 1
      · rw [hodd] at b3
        have b4 : ((((1 : Nat) : Int)) == 1) = true := by rfl
        go_wp2_with fail
        refine (eleven18 w3).mono ?_
        rintro e w4 ⟨rfl, hb4⟩
        have H4 := hid (H3.out.trans (hb4.mono H3.out.size))
        clear hb4
        go_wp2_with fail
        go_ret
        exact ⟨rfl, H4.out⟩
      · obtain ⟨m, hm⟩ : ∃ m, S.size = 2 * m := ⟨S.size / 2, by omega⟩
        have hm1 : 1 ≤ m := by omega
        rw [show S.size % 2 = 0 by omega] at b3
        have b4 : ((((0 : Nat) : Int)) == 1) = false := by rfl
        have b5 : Int.tdiv (S.size : Int) 2 = (m : Int) := by rw [Int.tdiv_eq_ediv_of_nonneg (by omega)]; omega
        have b6 : wrap64 (m : Int) = (m : Int) := by unfold wrap64; omega
        have b7 : IntKind.i64.wrap (m : Int) = (m : Int) := by rw [IntKind.wrap_i64]; omega
        have HM := hid hm
        have CE := hid (check_any S (some ⟨w3.heap.size, 0, none⟩) 1 [(m : Int)] (w3.alloc (.cells #[.int .i64 m] 3)) (by omega) (vals_new w3 #[.int .i64 m] 3 [.int .i64 (m : Int)] rfl) (fun h => by cases h) (by simp) (by simp))
        have hE := check_ab S.data.toList m (by rw [bytes_len]; exact hm) hm1
        obtain ⟨E, hEE⟩ : ∃ E, E = checkE S.data.toList [(m : Int)] := ⟨_, rfl⟩
        rw [← hEE] at CE hE
        have HE := hid hE
        have hbl := hid (H3.out.alloc H3.out.size (.cells #[.int .i64 m] 3))
        clear hE hEE hm
        go_wp2_with fail
        refine CE.out.mono ?_
        rintro e w4 ⟨rfl, hb4⟩
        have H4 := hid (hbl.out.trans (hb4.mono hbl.out.size))
        clear hb4 CE
        by_cases hz : E = 0
        · subst hz
          obtain ⟨p', hp', hpm⟩ := HE.out rfl
          have hx : i = 0 ∧ p = p' := by
            have := HAB.out
            rw [hp'] at this
            simp at this
            exact ⟨this.1.symm, this.2.symm⟩
          obtain ⟨rfl, rfl⟩ := hx
          have c1 : decide ((p : Int) ≤ (m : Int)) = true := by simpa using hpm
          have c2 : decide (p ≤ m) = true := by simpa using hpm
          clear hp' hpm
          go_wp2_with fail
          refine (eleven18 w4).mono ?_
          rintro e w5 ⟨rfl, hb5⟩
          have H5 := hid (H4.out.trans (hb5.mono H4.out.size))
          clear hb5
          go_wp2_with fail
          go_ret
          exact ⟨rfl, H5.out⟩
        · have c1 : (E != 0) = true := by simpa using hz
          go_wp2_with fail
          refine (eleven18 w4).mono ?_
          rintro e w5 ⟨rfl, hb5⟩
          have H5 := hid (H4.out.trans (hb5.mono H4.out.size))
          clear hb5
          go_wp2_with fail
          go_ret
          exact ⟨rfl, H5.out⟩
  | none =>
    rw [hab] at CA
    have CH := hid CA
    have HAB := hid hab
    clear CA hab
    go_wp2_with fail
    refine CH.out.mono ?_
    rintro e w3 ⟨rfl, hb3⟩
    have H3 := hid (H1.out.trans (hb3.mono H1.out.size))
    rw [show abV none = .tuple #[.int .i64 0, .int .i64 0, .int .i64 6] from rfl]
    clear hb3 CH
    by_cases hlt : S.size < 2
    · have b1 : decide ((S.size : Int) < 2) = true := by simp; omega
      have b2 : decide (S.size < 2) = true := by simp; omega
      go_wp2_with fail
      refine (eleven18 w3).mono ?_
      rintro e w4 ⟨rfl, hb4⟩
      have H4 := hid (H3.out.trans (hb4.mono H3.out.size))
      clear hb4
      go_wp2_with fail
      go_ret
      exact ⟨rfl, H4.out⟩
    · have b1 : decide ((S.size : Int) < 2) = false := by simp; omega
      have b2 : decide (S.size < 2) = false := by simp; omega
      have b3 := modtwo S.size
      by_cases hodd : S.size % 2 = 1
      · rw [hodd] at b3
        have b4 : ((((1 : Nat) : Int)) == 1) = true := by rfl
        go_wp2_with fail
        refine (eleven18 w3).mono ?_
        rintro e w4 ⟨rfl, hb4⟩
        have H4 := hid (H3.out.trans (hb4.mono H3.out.size))
        clear hb4
        go_wp2_with fail
        go_ret
        exact ⟨rfl, H4.out⟩
      · obtain ⟨m, hm⟩ : ∃ m, S.size = 2 * m := ⟨S.size / 2, by omega⟩
        have hm1 : 1 ≤ m := by omega
        rw [show S.size % 2 = 0 by omega] at b3
        have b4 : ((((0 : Nat) : Int)) == 1) = false := by rfl
        have b5 : Int.tdiv (S.size : Int) 2 = (m : Int) := by rw [Int.tdiv_eq_ediv_of_nonneg (by omega)]; omega
        have b6 : wrap64 (m : Int) = (m : Int) := by unfold wrap64; omega
        have b7 : IntKind.i64.wrap (m : Int) = (m : Int) := by rw [IntKind.wrap_i64]; omega
        have HM := hid hm
        have CE := hid (check_any S (some ⟨w3.heap.size, 0, none⟩) 1 [(m : Int)] (w3.alloc (.cells #[.int .i64 m] 3)) (by omega) (vals_new w3 #[.int .i64 m] 3 [.int .i64 (m : Int)] rfl) (fun h => by cases h) (by simp) (by simp))
        have hE := check_ab S.data.toList m (by rw [bytes_len]; exact hm) hm1
        obtain ⟨E, hEE⟩ : ∃ E, E = checkE S.data.toList [(m : Int)] := ⟨_, rfl⟩
        rw [← hEE] at CE hE
        have HE := hid hE
        have hbl := hid (H3.out.alloc H3.out.size (.cells #[.int .i64 m] 3))
        clear hE hEE hm
        go_wp2_with fail
        refine CE.out.mono ?_
        rintro e w4 ⟨rfl, hb4⟩
        have H4 := hid (hbl.out.trans (hb4.mono hbl.out.size))
        clear hb4 CE
        by_cases hz : E = 0
        · subst hz
          obtain ⟨p', hp', hpm⟩ := HE.out rfl
          exfalso
          have := HAB.out
          rw [hp'] at this
          cases this
        · have c1 : (E != 0) = true := by simpa using hz
          go_wp2_with fail
          refine (eleven18 w4).mono ?_
          rintro e w5 ⟨rfl, hb5⟩
          have H5 := hid (H4.out.trans (hb5.mono H4.out.size))
          clear hb5
          go_wp2_with fail
          go_ret
          exact ⟨rfl, H5.out⟩

end Go.Proofs.YtkmpdcckgibkhaaGreat
