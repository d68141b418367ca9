/-
  The law MarksAgree, walked.
-/
import Derived.Test.YtancficmkkdnfaaAgreeP
import Derived.Test.YtancficmkkdnfaaLawSquares
import Derived.Test.YtancficmkkdnfaaN
namespace Go.Proofs.Ytancficmkkdnfaa
open Go.RowKit
attribute [local go_sem] Oper.semAt_some

/-- What a call returns: three numbers. -/
def Ret3 (x y z : Int) (W : World) (e : Ending) (w' : World) : Prop := e = .returned (.tuple #[.int .i64 x, .int .i64 y, .int .i64 z]) ∧ Below W.heap.size W w'

set_option maxRecDepth 100000 in
set_option maxHeartbeats 8000000 in
theorem agree_in (s0 : ByteArray) (x : Nat → Int) (l lb y z : List UInt8) (N1 D1 A S : Nat) (a0 a1 ee b0 b1 hh c0 c1 ii d0 d1 kk : Int) (w : World) (hln : l.length ≤ 60) (h0 : 0 < l.length)
    (hx : ∀ c, -9223372036854775808 ≤ x c ∧ x c ≤ 9223372036854775807)
    (TA : ∀ W, Hid (Calls Try.prog 27 #[.string s0, .int .i64 60, .int .i64 4] W fun e w' => e = .returned (.string (mkS l)) ∧ Below W.heap.size W w'))
    (SQ : ∀ W, Hid (Calls Try.prog 43 #[.string (mkS l)] W (Ret3 a0 a1 ee W)))
    (G : ∀ W, Hid (Calls Try.prog 21 #[.string (mkS l)] W fun e w' => e = .returned (.tuple #[.agg #[.int .i64 (N1 : Int), .int .i64 (D1 : Int)], .int .i64 (A : Int), .int .i64 (S : Int), .int .i64 0]) ∧ Below W.heap.size W w'))
    (AB : ∀ W, Hid (Calls Try.prog 48 #[.string (mkS l)] W (Ret3 b0 b1 hh W)))
    (BK : ∀ W, Hid (Calls Try.prog 49 #[.string (mkS l)] W fun e w' => e = .returned (.string (mkS lb)) ∧ W = w'))
    (SB : ∀ W, Hid (Calls Try.prog 43 #[.string (mkS lb)] W (Ret3 c0 c1 ii W)))
    (EX : ∀ W, Hid (Calls Try.prog 20 #[.string (mkS y)] W fun e w' => e = .returned (.tuple #[.agg #[.int .i64 (N1 : Int), .int .i64 (D1 : Int)], .int .i64 0]) ∧ Below W.heap.size W w'))
    (SP : ∀ W, Hid (Calls Try.prog 43 #[.string (mkS z)] W (Ret3 d0 d1 kk W)))
    (_hN : N1 ≤ 1000) (hD : 1 ≤ D1) (hD2 : D1 ≤ 1000) (hS : 1 ≤ S) (hAS : A + S ≤ l.length)
    (hy : (mkS l).extract A (A + S) = mkS y)
    (hz : (mkS l).extract (min (modN (x 0) l.length) (modN (x 1) l.length)) (max (modN (x 0) l.length) (modN (x 1) l.length)) = mkS z)
    (hc : (ee = 0 ∧ ii = 0 ∧ hh = 0 ∧ b0 ≤ a0 ∧ 2 * D1 ≤ N1) ∨ (ee = 6 ∧ ii = 6 ∧ kk = 6 ∧ N1 < 2 * D1)) :
    Calls Try.prog 14 #[.string s0, .agg #[.int .i64 (x 0), .int .i64 (x 1)]] w fun e w' => e = .returned (.bool true) ∧ Below w.heap.size w w' := by
  have hls := mkS_size l
  have hbl := Blk.new w #[.int .i64 (x 0), .int .i64 (x 1)] 37
  have hbw : Below w.heap.size w (w.alloc (.cells #[.int .i64 (x 0), .int .i64 (x 1)] 37)) := (Below.refl _ w).alloc (Nat.le_refl _) _
  have HBL := hid hbl
  have HBW := hid hbw
  have hse := empty_no (mkS l) (by omega)
  have MU := hid (fun (v : Int) (hv : -9223372036854775808 ≤ v ∧ v ≤ 9223372036854775807) W => (mod_any v l.length W h0 (by omega) hv).mono (R' := fun e w' => e = .returned (.int .i64 (modN v l.length)) ∧ w' = W) fun e w' h => ⟨h.1, h.2.symm⟩)
  have hx0 := hx 0
  have hx1 := hx 1
  have L0 := fun c => modN_lt (x c) l.length h0
  have l1 := L0 0
  have l2 := L0 1
  have t1 : decide ((D1 : Int) < 1) = false := decide_eq_false (by omega)
  have t2 : decide ((S : Int) < 1) = false := decide_eq_false (by omega)
  have t3 : decide ((A : Int) < 0) = false := decide_eq_false (by omega)
  have t4 : decide ((A : Int) + (S : Int) > (l.length : Int)) = false := decide_eq_false (by omega)
  have t1' : decide (D1 < 1) = false := decide_eq_false (by omega)
  have t2' : decide (S < 1) = false := decide_eq_false (by omega)
  have t4' : decide (l.length < A + S) = false := decide_eq_false (by omega)
  have HY := hid hy
  have HZ := hid hz
  clear L0 hx hbl hbw hy hz
  unfold Ret3 at SQ AB SB SP
  have hcase : (ee = 0 ∧ ii = 0 ∧ hh = 0 ∧ decide ((N1 : Int) ≥ 2 * (D1 : Int)) = true ∧ decide (2 * D1 ≤ N1) = true ∧ decide (b0 > a0) = false ∧ decide (a0 < b0) = false) ∨ (ee = 6 ∧ ii = 6 ∧ kk = 6 ∧ decide ((N1 : Int) ≥ 2 * (D1 : Int)) = false ∧ decide (2 * D1 ≤ N1) = false ∧ True ∧ True) := by
    rcases hc with ⟨h1, h2, h3, h4, h5⟩ | ⟨h1, h2, h3, h4⟩
    · exact .inl ⟨h1, h2, h3, decide_eq_true (by omega), decide_eq_true (by omega), decide_eq_false (by omega), decide_eq_false (by omega)⟩
    · exact .inr ⟨h1, h2, h3, decide_eq_false (by omega), decide_eq_false (by omega), trivial, trivial⟩
  clear hc
  rcases hcase with ⟨rfl, rfl, rfl, t5, t5', t6, t6'⟩ | ⟨rfl, rfl, rfl, t5, t5', t6, t6'⟩
  all_goals
    go_enter Try.func14, Try.ntmps14
    go_wp2_with fail
    refine (TA _).out.mono ?_
    rintro e w1 ⟨rfl, hb1⟩
    have HBL1 := hid (HBL.out.below hb1 (by simp))
    replace hb1 := HBW.out.trans (hb1.mono HBW.out.size)
    go_wp2_with fail
    refine (SQ _).out.mono ?_
    rintro e w2 ⟨rfl, hb2⟩
    have HBL2 := hid (HBL1.out.below hb2 HBL1.out.lt)
    replace hb2 := hb1.trans (hb2.mono hb1.size)
    clear hb1 HBL1
    go_wp2_with fail
    refine (G _).out.mono ?_
    rintro e w3 ⟨rfl, hb3⟩
    have HBL3 := hid (HBL2.out.below hb3 HBL2.out.lt)
    replace hb3 := hb2.trans (hb3.mono hb2.size)
    clear hb2 HBL2
    have hk3 : Blk (w3.alloc (.cells #[.int .i64 (N1 : Int), .int .i64 (D1 : Int)] 24)) w3.heap.size #[.int .i64 (N1 : Int), .int .i64 (D1 : Int)] 24 := Blk.new _ _ _
    have HBL3' := hid (HBL3.out.alloc (.cells #[.int .i64 (N1 : Int), .int .i64 (D1 : Int)] 24))
    have hb3' : Below w.heap.size w (w3.alloc (.cells #[.int .i64 (N1 : Int), .int .i64 (D1 : Int)] 24)) := hb3.alloc hb3.size _
    go_wp2_with fail
    obtain ⟨B3, hB3⟩ : ∃ B3, B3 = w3.heap.size := ⟨_, rfl⟩
    obtain ⟨w4, hw4⟩ : ∃ w4, w4 = w3.alloc (.cells #[.int .i64 (N1 : Int), .int .i64 (D1 : Int)] 24) := ⟨_, rfl⟩
    rw [← hw4] at hk3 HBL3' hb3' ⊢
    rw [← hB3] at hk3 ⊢
    clear hw4 hB3 hb3 HBL3
    refine (AB _).out.mono ?_
    rintro e w5 ⟨rfl, hb5⟩
    have HK5 := hid (hk3.below hb5 hk3.lt)
    have HBL5 := hid (HBL3'.out.below hb5 HBL3'.out.lt)
    replace hb5 := hb3'.trans (hb5.mono hb3'.size)
    clear hk3 hb3' HBL3'
    go_wp2_with fail
    refine (BK _).out.mono ?_
    rintro e w6 ⟨rfl, rfl⟩
    go_wp2_with fail
    refine (SB _).out.mono ?_
    rintro e w7 ⟨rfl, hb7⟩
    have HK7 := hid (HK5.out.below hb7 HK5.out.lt)
    have HBL7 := hid (HBL5.out.below hb7 HBL5.out.lt)
    obtain ⟨r0, r1, -, -⟩ := HK7.out.pair
    replace hb7 := hb5.trans (hb7.mono hb5.size)
    clear hb5 HK5 HBL5
    go_wp2_with fail
    rw [HY.out]
    refine (EX _).out.mono ?_
    rintro e w8 ⟨rfl, hb8⟩
    have HK8 := hid (HK7.out.below hb8 HK7.out.lt)
    have HBL8 := hid (HBL7.out.below hb8 HBL7.out.lt)
    replace hb8 := hb7.trans (hb8.mono hb7.size)
    obtain ⟨r4, r5, -, -⟩ := HK8.out.pair
    have hB3l := HK8.out.lt
    clear hb7 HK7 HBL7 r0 r1
    go_wp2_with fail
    have HK9 := hid ((Blk.new w8 #[.int .i64 (N1 : Int), .int .i64 (D1 : Int)] 24))
    have HBL9 := hid (HBL8.out.alloc (.cells #[.int .i64 (N1 : Int), .int .i64 (D1 : Int)] 24))
    have hb9 := hb8.alloc hb8.size (.cells #[.int .i64 (N1 : Int), .int .i64 (D1 : Int)] 24)
    obtain ⟨w9, hw9⟩ : ∃ w9, w9 = w8.alloc (.cells #[.int .i64 (N1 : Int), .int .i64 (D1 : Int)] 24) := ⟨_, rfl⟩
    rw [← hw9] at HBL9 hb9 ⊢
    obtain ⟨y0, y1, -, -⟩ := HBL9.out.pair
    clear hw9 HK9 HBL9 HBL8 HK8 hb8 r4 r5 hB3l
    go_quiet (exact Calls.quiet_of_same (MU.out _ (by assumption) _))
    replace hb9 := below_drewN hb9 nq
    generalize modN (x 0) l.length = p at l1 HZ ⊢
    generalize modN (x 1) l.length = q at l2 HZ ⊢
    have HZ2 := hid (show (mkS l).extract (min (p : Int) (q : Int)).toNat (max (p : Int) (q : Int)).toNat = mkS z by rw [← HZ.out, show (min (p : Int) (q : Int)).toNat = min p q by omega, show (max (p : Int) (q : Int)).toNat = max p q by omega])
    clear HZ y0 y1
    go_wp2_with fail
    rw [HZ2.out]
    refine (SP _).out.mono ?_
    rintro e w10 ⟨rfl, hb10⟩
    replace hb10 := hb9.trans (hb10.mono hb9.size)
    clear hb9
    go_wp2_with fail
    refine (awake_any _).mono ?_
    rintro e w11 ⟨rfl, hb11⟩
    go_wp2_with fail
    go_ret
    exact ⟨rfl, hb10.trans (hb11.mono hb10.size)⟩

set_option maxRecDepth 100000 in
set_option maxHeartbeats 1000000 in
theorem agree_none (s0 : ByteArray) (x : Nat → Int) (w : World) (TA : ∀ W, Hid (Calls Try.prog 27 #[.string s0, .int .i64 60, .int .i64 4] W fun e w' => e = .returned (.string (mkS [])) ∧ Below W.heap.size W w')) :
    Calls Try.prog 14 #[.string s0, .agg #[.int .i64 (x 0), .int .i64 (x 1)]] w fun e w' => e = .returned (.bool true) ∧ Below w.heap.size w w' := by
  have hbw : Below w.heap.size w (w.alloc (.cells #[.int .i64 (x 0), .int .i64 (x 1)] 37)) := (Below.refl _ w).alloc (Nat.le_refl _) _
  have HBW := hid hbw
  clear hbw
  have hse := empty_yes (mkS []) rfl
  go_enter Try.func14, Try.ntmps14
  go_wp2_with fail
  refine (TA _).out.mono ?_
  rintro e w1 ⟨rfl, hb1⟩
  have hb1 := HBW.out.trans (hb1.mono HBW.out.size)
  go_wp2_with fail
  refine (awake_any _).mono ?_
  rintro e w9 ⟨rfl, hb9⟩
  go_wp2_with fail
  go_ret
  exact ⟨rfl, hb1.trans (hb9.mono hb1.size)⟩
/-- The three numbers that Square and Abelian return for a word. -/
def v0 : Option (Nat × Nat) → Int | some x => x.1 | none => 0
def v1 : Option (Nat × Nat) → Int | some x => x.2 | none => 0
def v2 : Option (Nat × Nat) → Int | some _ => 0 | none => 6
theorem abV_eq (q : Option (Nat × Nat)) : abV q = .tuple #[.int .i64 (v0 q), .int .i64 (v1 q), .int .i64 (v2 q)] := by
  cases q <;> rfl
theorem sq_word3 (l : List UInt8) (h : wordB l = true) (W : World) : Hid (Calls Try.prog 43 #[.string (mkS l)] W (Ret3 (v0 (sq l)) (v1 (sq l)) (v2 (sq l)) W)) := by
  refine (Square_word (mkS l) W (by rw [mkS_size]; have := (word_len h).1; omega) h).mono ?_
  rintro e w' ⟨rfl, hb⟩
  exact ⟨by rw [mkS_data, abV_eq], hb⟩
theorem ab_word3 (l : List UInt8) (h : wordB l = true) (W : World) : Hid (Calls Try.prog 48 #[.string (mkS l)] W (Ret3 (v0 (ab l)) (v1 (ab l)) (v2 (ab l)) W)) := by
  refine (Abelian_yes (mkS l) W h).mono ?_
  rintro e w' ⟨rfl, hb⟩
  exact ⟨by rw [mkS_data, abV_eq], hb⟩
theorem v2_free (l : List UInt8) : (freeB l = true → v2 (sq l) = 6) ∧ (freeB l = false → v2 (sq l) = 0) := by
  unfold freeB
  cases sq l with
  | none => exact ⟨fun _ => rfl, fun h => by simp at h⟩
  | some x => exact ⟨fun h => by simp at h, fun _ => rfl⟩

theorem agree_walk (s0 : ByteArray) (x : Nat → Int) (w : World) (hs : s0.size ≤ maxLen) (hx : ∀ c, -9223372036854775808 ≤ x c ∧ x c ≤ 9223372036854775807) :
    Calls Try.prog 14 #[.string s0, .agg #[.int .i64 (x 0), .int .i64 (x 1)]] w fun e w' => e = .returned (.bool true) ∧ Below w.heap.size w w' := by
  have hmx : maxLen ≤ 9223372036854775807 := by decide
  have TA := fun W => hid (tame_any s0 60 4 W (by omega) (by omega) (by omega) (Nat.le_trans hs hmx))
  have hov := tame_over 60 4 s0.data.toList (by omega) (by omega)
  have hln := tame_len 60 4 s0.data.toList
  generalize tameL 60 4 s0.data.toList = l at TA hov hln
  by_cases h0 : l = []
  · subst h0; exact agree_none s0 x w TA
  · have hpos : 0 < l.length := List.length_pos_iff.2 h0
    have hw : ∀ y : List UInt8, overB 4 y = true → y.length ≤ 120 → wordB y = true := fun y h1 h2 => by rw [wordB, h1]; simp; omega
    have hwl := hw l hov (by omega)
    have hlf := full_yes l (by omega) hwl
    obtain ⟨g1, g2, g3⟩ := (gr_spec l h0)
    obtain ⟨p1, p2, p3⟩ := g3
    obtain ⟨f1, f2, f3, f4, f5⟩ := gr_full l h0
    have hrev : overB 4 l.reverse = true := by rw [overB, List.all_reverse]; exact hov
    obtain ⟨y, hy⟩ : ∃ y, y = (l.drop (gr l).at_).take (gr l).size := ⟨_, rfl⟩
    have hyl : y.length = (gr l).size := by rw [hy, List.length_take, List.length_drop]; omega
    have hyo : overB 4 y = true := by rw [hy]; exact overB_take (overB_drop hov _) _
    have hyw := hw y hyo (by omega)
    have hper : per y y.length = (gr l).period := by
      rw [p3, ← per_take (l.drop (gr l).at_) (gr l).size (by omega), ← hy, hyl]
    obtain ⟨p, hp⟩ : ∃ p, p = modN (x 0) l.length := ⟨_, rfl⟩
    obtain ⟨q, hq⟩ : ∃ q, q = modN (x 1) l.length := ⟨_, rfl⟩
    obtain ⟨z, hz⟩ : ∃ z, z = (l.drop (min p q)).take (max p q - min p q) := ⟨_, rfl⟩
    have hzo : overB 4 z = true := by rw [hz]; exact overB_take (overB_drop hov _) _
    have hzl : z.length ≤ 60 := by rw [hz, List.length_take, List.length_drop]; omega
    have hfr := half_frac (gr l).size (gr l).period (by omega)
    have hd := frac_den (n := (gr l).size) (p := (gr l).period) (by omega)
    have hn1 := Nat.div_le_self (gr l).size (Nat.gcd (gr l).size (gr l).period)
    have hd1 := Nat.div_le_self (gr l).period (Nat.gcd (gr l).size (gr l).period)
    have hfg := free_gr l h0
    refine agree_in s0 x l l.reverse y z ((gr l).size / Nat.gcd (gr l).size (gr l).period) ((gr l).period / Nat.gcd (gr l).size (gr l).period) (gr l).at_ (gr l).size
      (v0 (sq l)) (v1 (sq l)) (v2 (sq l)) (v0 (ab l)) (v1 (ab l)) (v2 (ab l)) (v0 (sq l.reverse)) (v1 (sq l.reverse)) (v2 (sq l.reverse)) (v0 (sq z)) (v1 (sq z)) (v2 (sq z)) w (by omega) hpos hx TA (sq_word3 l hwl)
      ?_ (ab_word3 l hwl) ?_ (sq_word3 _ (hw _ hrev (by rw [List.length_reverse]; omega))) ?_ (sq_word3 z (hw z hzo (by omega))) (by omega) hd (by omega) p1 p2 ?_ ?_ ?_
    · intro W; have := gr_at l hlf (by omega) W; simpa only [fracV] using this
    · intro W; have := hid (back_any (mkS l) W (by rw [mkS_size]; omega)); simpa only [mkS_data] using this
    · intro W
      have := exp_at y (full_yes y (by omega) hyw) (by omega) W
      rw [hper, hyl] at this
      simpa only [fracV] using this
    · refine mkS_eq _ _ ?_
      rw [data_extract, mkS_data, hy, show (gr l).at_ + (gr l).size - (gr l).at_ = (gr l).size by omega]
    · rw [← hp, ← hq]
      exact mkS_eq _ _ (by rw [data_extract, mkS_data, hz])
    · cases hfl : freeB l with
      | false =>
        obtain ⟨e, he⟩ : ∃ e, sq l = some e := by
          unfold freeB at hfl
          cases hsq : sq l with
          | none => rw [hsq] at hfl; simp at hfl
          | some e => exact ⟨e, rfl⟩
        obtain ⟨r, hr, hle⟩ := ab_of_sq l e he
        refine .inl ⟨(v2_free l).2 hfl, (v2_free _).2 (by rw [free_back]; exact hfl), by rw [hr]; rfl, by rw [hr, he]; exact Int.ofNat_le.2 hle, hfr.2 (hfg.1 hfl)⟩
      | true =>
        refine .inr ⟨(v2_free l).1 hfl, (v2_free _).1 (by rw [free_back]; exact hfl), (v2_free z).1 (by rw [hz]; exact free_part hfl _ _), ?_⟩
        have h1 : ¬ 2 * (gr l).period ≤ (gr l).size := fun h => by rw [hfg.2 h] at hfl; cases hfl
        have h2 := fun h => h1 (hfr.1 h)
        omega
end Go.Proofs.Ytancficmkkdnfaa
