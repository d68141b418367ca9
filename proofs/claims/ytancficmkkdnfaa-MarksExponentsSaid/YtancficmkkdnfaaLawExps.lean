/-
  The law MarksExponents, walked.
-/
import Derived.Test.YtancficmkkdnfaaT
import Derived.Test.YtancficmkkdnfaaLawGreatest
import Derived.Deep.RegionHeld3
import Derived.Deep.RegionLaw
namespace Go.Proofs.Ytancficmkkdnfaa
open Go.RowKit
attribute [local go_sem] Oper.semAt_some

theorem perF_head (l : List UInt8) (q : Nat) (hq : l.drop q = l.take (l.length - q)) : ∀ (k p : Nat), p ≤ q → q < p + k → (∀ r, p ≤ r → r < q → l.drop r ≠ l.take (l.length - r)) → ∃ t, perF l p k = q :: t := by
  intro k
  induction k with
  | zero => intro p h1 h2; omega
  | succ k ih =>
    intro p h1 h2 h3
    rw [perF_step]
    rcases Nat.lt_or_ge p q with h | h
    · rw [if_neg (h3 p (Nat.le_refl _) h), List.nil_append]
      exact ih (p + 1) h (by omega) fun r a b => h3 r (by omega) b
    · have : p = q := by omega
      subst this
      rw [if_pos hq]; exact ⟨_, rfl⟩
theorem isP_whole (l : List UInt8) (p : Nat) (h1 : 1 ≤ p) (h2 : p ≤ l.length) : IsP l l.length p ↔ l.drop p = l.take (l.length - p) := by
  rw [isP_parts l l.length p h1 h2, List.take_of_length_le (by rw [List.length_drop]; omega)]
theorem perL_head (l : List UInt8) (h : 0 < l.length) : ∃ t, perL l = per l l.length :: t := by
  have hb := per_bounds l l.length h
  refine perF_head l _ ((isP_whole l _ hb.1 hb.2).1 (per_is l _ h)) l.length 1 hb.1 (by omega) fun r a b hr => ?_
  have := per_min l l.length r ((isP_whole l r a (by omega)).2 hr)
  omega

theorem cell_lt {w : World} {b o : Nat} {v : Value} (h : w.cell? ⟨b, o, none⟩ = some v) : b < w.heap.size := by
  rcases Nat.lt_or_ge b w.heap.size with h1 | h1
  · exact h1
  · simp [World.cell?, Array.getElem?_eq_none h1] at h
/-- The reference's periods of a word that is not empty: the first is the smallest. -/
theorem refPer_first (s : ByteArray) (w : World) (hs : s.size ≤ 1000) (h0 : 0 < s.size) : Calls Try.prog 25 #[.string s] w fun e w' => ∃ g o n c, e = .returned (.slice (some ⟨g, o, none⟩) n c) ∧ 0 < n ∧ w'.cell? ⟨g, o, none⟩ = some (.int .i64 (per s.data.toList s.data.toList.length : Int)) ∧ Below w.heap.size w w' := by
  refine (refPeriods_any s w hs).mono ?_
  rintro e w' ⟨a, c, rfl, ho, hb⟩
  obtain ⟨t, ht⟩ := perL_head s.data.toList (by rw [bytes_len]; exact h0)
  obtain ⟨hv, hn, hc⟩ := own_vals ho.out
  rcases hv with h | ⟨g, o, rfl, hg, hcell⟩
  · rw [ht] at h; simp at h
  · exact ⟨g, o, _, c, rfl, by rw [ht]; simp, hcell 0 _ (by rw [ht]; rfl), hb⟩

set_option maxRecDepth 100000 in
set_option maxHeartbeats 8000000 in
theorem exps_yes (s0 s : ByteArray) (w : World) (hs : s.size ≤ 121) (SH : ∀ W, Hid (Calls Try.prog 19 #[.string s0] W fun e w' => e = .returned (.string s) ∧ W = w')) (hf : fullB s.data.toList = true) (hne : 0 < s.size) :
    Calls Try.prog 3 #[.string s0] w fun e w' => e = .returned (.bool true) ∧ Below w.heap.size w w' := by
  have hw : wordB s.data.toList = true := by rw [fullB, Bool.and_eq_true] at hf; exact hf.1
  have hl := (word_len hw).1
  have hlen := bytes_len s
  have hnn : s.data.toList ≠ [] := List.length_pos_iff.1 (by omega)
  have E := fun W => exp_at s.data.toList hf hl W
  have G := fun W => gr_at s.data.toList hf hl W
  rw [mkS_of] at E G
  have RW := fun W => hid (refWord_any s W (by omega))
  rw [hw] at RW
  have RP := fun W => hid (refPer_first s W (by omega) hne)
  have RG := fun W => hid (refGreatest_any s W (by omega) hnn)
  obtain ⟨g1, g2, g3, g4, g5⟩ := gr_full s.data.toList hnn
  have hpb := per_bounds s.data.toList s.data.toList.length (by omega)
  have R1 := fun W => hid (Reduced_any s.data.toList.length (per s.data.toList s.data.toList.length) W (by omega) (by omega) (by omega))
  have R2 := fun W => hid (Reduced_any (gr s.data.toList).size (gr s.data.toList).period W (by omega) (by omega) (by omega))
  rw [hlen] at E R1
  simp only [fracV] at E G R1 R2
  simp only [ret3] at RG
  rw [hlen] at RP hpb
  generalize per s.data.toList s.size = P at E RP R1 hpb
  generalize (gr s.data.toList).size = S at G RG R2 g1 g2
  generalize (gr s.data.toList).period = Q at G RG R2 g4 g5
  generalize (gr s.data.toList).at_ = A at G RG g3
  generalize ((s.size / s.size.gcd P : Nat) : Int) = N1 at E R1
  generalize ((P / s.size.gcd P : Nat) : Int) = D1 at E R1
  generalize ((S / S.gcd Q : Nat) : Int) = N2 at G R2
  generalize ((Q / S.gcd Q : Nat) : Int) = D2 at G R2
  have hse := empty_no s (by omega)
  clear hf hw hl hnn hlen g1 g2 g3 g4 g5 hpb
  go_enter Try.func3, Try.ntmps3
  go_wp2_with fail
  refine (SH _).out.mono ?_
  rintro e w1 ⟨rfl, rfl⟩
  go_wp2_with fail
  refine (E _).out.mono ?_
  rintro e w1 ⟨rfl, hb1⟩
  go_wp2_with fail
  have hk1 : Blk (w1.alloc (.cells #[.int .i64 N1, .int .i64 D1] 24)) w1.heap.size #[.int .i64 N1, .int .i64 D1] 24 := Blk.new _ _ _
  have hs1 : w1.heap.size < (w1.alloc (.cells #[.int .i64 N1, .int .i64 D1] 24)).heap.size := by simp
  have hb1' : Below w.heap.size w (w1.alloc (.cells #[.int .i64 N1, .int .i64 D1] 24)) := hb1.alloc hb1.size _
  refine (G _).out.mono ?_
  rintro e w2 ⟨rfl, hb2⟩
  have HK1 := hid ((hk1.below hb2 hs1).alloc (.cells #[.int .i64 N2, .int .i64 D2] 24))
  replace hb2 := hb1'.trans (hb2.mono hb1'.size)
  have hk2 : Blk (w2.alloc (.cells #[.int .i64 N2, .int .i64 D2] 24)) w2.heap.size #[.int .i64 N2, .int .i64 D2] 24 := Blk.new _ _ _
  obtain ⟨r1, r2, -, -⟩ := HK1.out.pair
  obtain ⟨r3, r4, -, -⟩ := hk2.pair
  have hb3 : Below w.heap.size w (w2.alloc (.cells #[.int .i64 N2, .int .i64 D2] 24)) := hb2.alloc hb2.size _
  have HK2 := hid hk2
  obtain ⟨w3, hw3⟩ : ∃ w3, w3 = w2.alloc (.cells #[.int .i64 N2, .int .i64 D2] 24) := ⟨_, rfl⟩
  have HW3 := hid hw3
  clear hk1 hs1 hb1' hb1 hk2
  go_wp2_with fail
  rw [← hw3] at HK1 HK2 hb3 r1 r2 r3 r4 ⊢
  clear hw3
  refine (RW _).out.mono ?_
  rintro e w4 ⟨rfl, rfl⟩
  go_wp2_with fail
  have C25 := fun (W : World) (h0 : W.cell? ⟨w1.heap.size, 0, none⟩ = some (.int .i64 N1)) (h1 : W.cell? ⟨w1.heap.size, 1, none⟩ = some (.int .i64 D1)) => hid (((RP W).out).mono (R' := fun e w' => ∃ g o n c, e = .returned (.slice (some ⟨g, o, none⟩) n c) ∧ 0 < n ∧ w'.cell? ⟨g, o, none⟩ = some (.int .i64 (P : Int)) ∧ Below W.heap.size W w' ∧ w'.cell? ⟨w1.heap.size, 0, none⟩ = some (.int .i64 N1) ∧ w'.cell? ⟨w1.heap.size, 1, none⟩ = some (.int .i64 D1)) fun e w' ⟨g, o, n, c, a1, a2, a3, a4⟩ => ⟨g, o, n, c, a1, a2, a3, a4, (a4.cell (cell_lt h0)).trans h0, (a4.cell (cell_lt h1)).trans h1⟩)
  have C24 := fun (W : World) (h0 : W.cell? ⟨w1.heap.size, 0, none⟩ = some (.int .i64 N1)) (h1 : W.cell? ⟨w1.heap.size, 1, none⟩ = some (.int .i64 D1)) => hid (((R1 W).out).mono (R' := fun e w' => e = .returned (.agg #[.int .i64 N1, .int .i64 D1]) ∧ Below W.heap.size W w' ∧ w'.cell? ⟨w1.heap.size, 0, none⟩ = some (.int .i64 N1) ∧ w'.cell? ⟨w1.heap.size, 1, none⟩ = some (.int .i64 D1)) fun e w' ⟨a1, a4⟩ => ⟨a1, a4, (a4.cell (cell_lt h0)).trans h0, (a4.cell (cell_lt h1)).trans h1⟩)
  have C25 := hid C25
  have C24 := hid C24
  have HB3 := hid hb3
  have HR := hid (And.intro r3 r4)
  have HSH := hid SH
  replace E := hid E
  replace G := hid G
  replace RW := hid RW
  replace RP := hid RP
  replace RG := hid RG
  replace R1 := hid R1
  replace R2 := hid R2
  clear hb3 r3 r4 SH hb2
  have R12 := hid (And.intro (show w3.drew.cell? ⟨w1.heap.size, 0, none⟩ = some (.int .i64 N1) from r1) (show w3.drew.cell? ⟨w1.heap.size, 1, none⟩ = some (.int .i64 D1) from r2))
  go_region_law (first | (go_simp; go_at_call 25; refine ((C25.out _ ?_ ?_).out).mono ?_; (first | assumption | exact R12.out.1); (first | assumption | exact R12.out.2); rintro e w5 ⟨g, o, n, c, rfl, hn5, hc5, hb5, k0, k1⟩) | (go_simp; go_at_call 24; refine ((C24.out _ ?_ ?_).out).mono ?_; assumption; assumption; rintro e w6 ⟨rfl, hb6, k2, k3⟩))
  all_goals
    have h6 : Below w3.heap.size w3 w6 := (Below.refl _ w3).drew.trans (hb5.trans (hb6.mono hb5.size))
    have HK6 := hid (HK2.out.below h6 HK2.out.lt)
    have h6w := HB3.out.trans (h6.mono HB3.out.size)
    have H6 := hid h6w
    clear h6 h6w hb5 hb6 k0 k1 k2 k3 hc5 hn5 r1 r2 R12
    go_wp2_with fail
    refine (RG.out _).out.mono ?_
    rintro e w7 ⟨rfl, hb7⟩
    have hk7 := HK6.out.below hb7 HK6.out.lt
    obtain ⟨r3, r4, -, -⟩ := hk7.pair
    have H7 := hid (H6.out.trans (hb7.mono H6.out.size))
    have D24 := fun (W : World) (h0 : W.cell? ⟨w2.heap.size, 0, none⟩ = some (.int .i64 N2)) (h1 : W.cell? ⟨w2.heap.size, 1, none⟩ = some (.int .i64 D2)) => hid (((R2.out W).out).mono (R' := fun e w' => e = .returned (.agg #[.int .i64 N2, .int .i64 D2]) ∧ Below W.heap.size W w' ∧ w'.cell? ⟨w2.heap.size, 0, none⟩ = some (.int .i64 N2) ∧ w'.cell? ⟨w2.heap.size, 1, none⟩ = some (.int .i64 D2)) fun e w' ⟨a1, a4⟩ => ⟨a1, a4, (a4.cell (cell_lt h0)).trans h0, (a4.cell (cell_lt h1)).trans h1⟩)
    have D23 := fun (W : World) (h0 : W.cell? ⟨w2.heap.size, 0, none⟩ = some (.int .i64 N2)) (h1 : W.cell? ⟨w2.heap.size, 1, none⟩ = some (.int .i64 D2)) => hid ((awake_any W).mono (R' := fun e w' => e = .returned (.bool true) ∧ Below W.heap.size W w' ∧ w'.cell? ⟨w2.heap.size, 0, none⟩ = some (.int .i64 N2) ∧ w'.cell? ⟨w2.heap.size, 1, none⟩ = some (.int .i64 D2)) fun e w' ⟨a1, a4⟩ => ⟨a1, a4, (a4.cell (cell_lt h0)).trans h0, (a4.cell (cell_lt h1)).trans h1⟩)
    replace D24 := hid D24
    replace D23 := hid D23
    clear hk7 hb7 C25 C24
    go_wp2_with fail
    go_region_held3 (fun W' => W'.cell? ⟨w2.heap.size, 0, none⟩ = some (.int .i64 N2) ∧ W'.cell? ⟨w2.heap.size, 1, none⟩ = some (.int .i64 D2)) (go_keep)
      (first | (go_at_call 24; refine ((D24.out _ ?_ ?_).out).mono ?_; assumption; assumption; rintro e w8 ⟨rfl, hb8, k0, k1⟩) | (go_at_call 23; refine ((D23.out _ ?_ ?_).out).mono ?_; assumption; assumption; rintro e w9 ⟨rfl, hb9, k0, k1⟩))
    have h9 := (Below.refl _ w7).drew.trans (hb8.trans (hb9.mono hb8.size))
    have h9w := H7.out.trans (h9.mono H7.out.size)
    clear h9 hb8 hb9 k0 k1 r3 r4
    go_wp2_with fail
    go_ret
    exact ⟨rfl, h9w⟩

theorem exp_no (s : ByteArray) (hs : s.size ≤ 121) (hf : fullB s.data.toList = false) (w : World) : Hid (Calls Try.prog 20 #[.string s] w fun e w' => e = .returned (.tuple #[.agg #[.int .i64 0, .int .i64 0], .int .i64 2]) ∧ Below w.heap.size w w') := by
  refine (Exponent_any s w (by omega)).mono ?_
  rintro e w' ⟨rfl, hb⟩
  rw [if_neg (by rw [hf]; simp)]; exact ⟨rfl, hb⟩
theorem gr_no (s : ByteArray) (hs : s.size ≤ 121) (hf : fullB s.data.toList = false) (w : World) : Hid (Calls Try.prog 21 #[.string s] w fun e w' => e = .returned (.tuple #[.agg #[.int .i64 0, .int .i64 0], .int .i64 0, .int .i64 0, .int .i64 2]) ∧ Below w.heap.size w w') := by
  refine (Greatest_any s w (by omega)).mono ?_
  rintro e w' ⟨rfl, hb⟩
  rw [if_neg (by rw [hf]; simp)]; exact ⟨rfl, hb⟩

set_option maxRecDepth 100000 in
set_option maxHeartbeats 2000000 in
theorem exps_no (s0 s : ByteArray) (w : World) (hs : s.size ≤ 121) (SH : ∀ W, Hid (Calls Try.prog 19 #[.string s0] W fun e w' => e = .returned (.string s) ∧ W = w')) (hf : fullB s.data.toList = false) :
    Calls Try.prog 3 #[.string s0] w fun e w' => e = .returned (.bool true) ∧ Below w.heap.size w w' := by
  have E := fun W => exp_no s hs hf W
  have G := fun W => gr_no s hs hf W
  have RW := fun W => hid (refWord_any s W (by omega))
  have hcase : wordB s.data.toList = false ∨ (wordB s.data.toList = true ∧ s.size = 0) := by
    cases hw : wordB s.data.toList with
    | false => exact .inl rfl
    | true =>
      refine .inr ⟨rfl, ?_⟩
      by_cases h : s.size = 0
      · exact h
      · rw [full_yes _ (by rw [bytes_len]; exact h) hw] at hf; exact nomatch hf
  have HC := hid hcase
  clear hf hcase
  go_enter Try.func3, Try.ntmps3
  go_wp2_with fail
  refine (SH _).out.mono ?_
  rintro e w1 ⟨rfl, rfl⟩
  go_wp2_with fail
  refine (E _).out.mono ?_
  rintro e w1 ⟨rfl, hb1⟩
  go_wp2_with fail
  have hk1 : Blk (w1.alloc (.cells #[.int .i64 0, .int .i64 0] 24)) w1.heap.size #[.int .i64 0, .int .i64 0] 24 := Blk.new _ _ _
  have hs1 : w1.heap.size < (w1.alloc (.cells #[.int .i64 0, .int .i64 0] 24)).heap.size := by simp
  have hb1' : Below w.heap.size w (w1.alloc (.cells #[.int .i64 0, .int .i64 0] 24)) := hb1.alloc hb1.size _
  refine (G _).out.mono ?_
  rintro e w2 ⟨rfl, hb2⟩
  have HK1 := hid ((hk1.below hb2 hs1).alloc (.cells #[.int .i64 0, .int .i64 0] 24))
  replace hb2 := hb1'.trans (hb2.mono hb1'.size)
  have hk2 : Blk (w2.alloc (.cells #[.int .i64 0, .int .i64 0] 24)) w2.heap.size #[.int .i64 0, .int .i64 0] 24 := Blk.new _ _ _
  obtain ⟨r1, r2, -, -⟩ := HK1.out.pair
  obtain ⟨r3, r4, -, -⟩ := hk2.pair
  have hb3 : Below w.heap.size w (w2.alloc (.cells #[.int .i64 0, .int .i64 0] 24)) := hb2.alloc hb2.size _
  clear hk1 hs1 hb1' hb1 hk2 hb2
  go_wp2_with fail
  refine (RW _).out.mono ?_
  rintro e w4 ⟨rfl, rfl⟩
  rcases HC.out with hw | ⟨hw, h0⟩
  · rw [hw]
    go_wp2_with fail
    refine (awake_any _).mono ?_
    rintro e w9 ⟨rfl, hb9⟩
    go_wp2_with fail
    go_ret
    exact ⟨rfl, hb3.trans (hb9.mono hb3.size)⟩
  · rw [hw]
    have hse := empty_yes s h0
    clear h0
    go_wp2_with fail
    refine (awake_any _).mono ?_
    rintro e w9 ⟨rfl, hb9⟩
    go_wp2_with fail
    go_ret
    exact ⟨rfl, hb3.trans (hb9.mono hb3.size)⟩

theorem exps_walk (s0 : ByteArray) (w : World) (hs : s0.size ≤ maxLen) : Calls Try.prog 3 #[.string s0] w fun e w' => e = .returned (.bool true) ∧ Below w.heap.size w w' := by
  have hmx : maxLen ≤ 9223372036854775807 := by decide
  cases hf : fullB (s0.extract 0 (min s0.size 121)).data.toList with
  | false => exact exps_no s0 _ w (short_size s0) (fun W => short_any s0 W (by omega)) hf
  | true =>
    refine exps_yes s0 _ w (short_size s0) (fun W => short_any s0 W (by omega)) hf ?_
    rcases Nat.eq_zero_or_pos (s0.extract 0 (min s0.size 121)).size with h | h
    · rw [full_no _ (by rw [bytes_len]; exact h)] at hf; exact nomatch hf
    · exact h
end Go.Proofs.Ytancficmkkdnfaa
