/-
  The law MarksGrows, walked.
-/
import Derived.Test.YtancficmkkdnfaaLawFirst
import Derived.Test.YtancficmkkdnfaaLawExtends
namespace Go.Proofs.Ytancficmkkdnfaa
open Go.RowKit
attribute [local go_sem] Oper.semAt_some

theorem extC_is (k : Nat) (l : List UInt8) : ∀ (n c : Nat), k - c ≤ n → (match extC k l c with
    | some x => ∃ d, c ≤ d ∧ d < k ∧ x = addL l d ∧ freeB x = true ∧ ∀ c', c ≤ c' → c' < d → freeB (addL l c') = false
    | none => ∀ c', c ≤ c' → c' < k → freeB (addL l c') = false) := by
  intro n
  induction n with
  | zero => intro c h; rw [extC_end k l c (by omega)]; intro c' h1 h2; omega
  | succ n ih =>
    intro c h
    rcases Nat.lt_or_ge c k with hc | hc
    · cases hf : freeB (addL l c) with
      | true =>
        rw [extC_yes k l c hc hf]
        exact ⟨c, Nat.le_refl _, hc, rfl, hf, fun c' h1 h2 => by omega⟩
      | false =>
        rw [extC_no k l c hc hf]
        have := ih (c + 1) (by omega)
        cases he : extC k l (c + 1) with
        | some x =>
          rw [he] at this
          obtain ⟨d, h1, h2, h3, h4, h5⟩ := this
          refine ⟨d, by omega, h2, h3, h4, fun c' g1 g2 => ?_⟩
          rcases Nat.lt_or_ge c c' with g3 | g3
          · exact h5 c' g3 g2
          · rw [show c' = c by omega]; exact hf
        | none =>
          rw [he] at this
          intro c' g1 g2
          rcases Nat.lt_or_ge c c' with g3 | g3
          · exact this c' g3 g2
          · rw [show c' = c by omega]; exact hf
    · rw [extC_end k l c hc]; intro c' h1 h2; omega
theorem extO_bad (k : Nat) (l : List UInt8) (h : freeB l = false) : extO k l = none := by
  have := extC_is k l k 0 (by omega)
  rw [extO]
  cases he : extC k l 0 with
  | none => rfl
  | some x =>
    rw [he] at this
    obtain ⟨d, _, _, rfl, h4, _⟩ := this
    have := free_take h4 l.length
    rw [addL, List.take_left' rfl, h] at this
    exact nomatch this

/-- What the law looks at when it has the last letter. -/
def GrowsEnd (s : List UInt8) (L : Nat) : Prop := ∀ c, c < L → freeB (addL s c) = false

theorem addL_over {k c : Nat} {l : List UInt8} (hk : k ≤ 20) (h : overB k l = true) (hc : c < k) : overB k (addL l c) = true := by
  rw [addL, overB_append, h, overB, List.all_cons, okk_letter hk hc]; rfl
theorem ext_at (s : ByteArray) (l : List UInt8) (hs : s = mkS l) (k : Int) (k' : Nat) (hk : k = k') (hw : wordB l = true) (h1 : 1 ≤ k') (h4 : k' ≤ 4) (h : l.length ≠ 120) (o : Option (List UInt8)) (ho : o = extO k' l) (w : World) : Hid (Calls Try.prog 44 #[.string s, .int .i64 k] w fun e w' => e = .returned (valX o) ∧ Below w.heap.size w w') := by
  subst hs hk ho
  exact Extend_yes l k' hw h1 h4 h w

set_option maxRecDepth 100000 in
set_option maxHeartbeats 4000000 in
theorem grows_walk (s0 : ByteArray) (y : Int) (w : World) (hs : s0.size ≤ 9223372036854775807) (hy : -9223372036854775808 ≤ y ∧ y ≤ 9223372036854775807) :
    Calls Try.prog 12 #[.string s0, .int .i64 y] w fun e w' => e = .returned (.bool true) ∧ Below w.heap.size w w' := by
  have m1 := mod_any y 4 w (by omega) (by omega) hy
  have l1 := modN_lt y 4 (by omega)
  obtain ⟨n, hn⟩ : ∃ n, n = modN y 4 := ⟨_, rfl⟩
  rw [← hn] at m1 l1
  clear hn
  have TA := fun W => tame_any s0 80 (n + 1) W (by omega) (by omega) (by omega) hs
  rw [show ((n + 1 : Nat) : Int) = 1 + (n : Int) by omega] at TA
  have hov := tame_over 80 (n + 1) s0.data.toList (by omega) (by omega)
  have hln := tame_len 80 (n + 1) s0.data.toList
  obtain ⟨l, hl⟩ : ∃ l, l = tameL 80 (n + 1) s0.data.toList := ⟨_, rfl⟩
  rw [← hl] at TA hov hln
  clear hl
  have FR := fun W => free_fn (mkS l) W (by rw [mkS_size]; omega)
  rw [mkS_data] at FR
  obtain ⟨j, hj1, hj2, hj3⟩ := freeL_take l
  have hff := freeL_free l
  obtain ⟨s, hse⟩ : ∃ s, s = freeL l := ⟨_, rfl⟩
  rw [← hse] at FR hj2 hff
  have hso : overB (n + 1) s = true := by rw [hj2]; exact overB_take hov j
  have hsl : s.length = j := by rw [hj2, List.length_take]; omega
  have hsz : (mkS s).size = j := by rw [mkS_size, hsl]
  have hlz : (mkS l).size = l.length := mkS_size l
  clear hse
  obtain ⟨o, ho⟩ : ∃ o, o = extO (n + 1) s := ⟨_, rfl⟩
  have E1 := fun W => ext_at (mkS s) s rfl (1 + (n : Int)) (n + 1) (by omega) (word_of (by omega) hso (by omega)) (by omega) (by omega) (by omega) o ho W
  have E2 := fun (h : j < l.length) W => ext_at (mkS l) l rfl (1 + (n : Int)) (n + 1) (by omega) (word_of (by omega) hov (by omega)) (by omega) (by omega) (by omega) none (by
    rw [extO_bad]
    cases hfl : freeB l with
    | false => rfl
    | true => have := free_take hfl (j + 1); rw [hj3 h] at this; exact nomatch this) W
  have hco := extC_is (n + 1) s (n + 1) 0 (by omega)
  rw [← extO, ← ho] at hco
  have HSO := hid hso
  have HCO := hid hco
  have HJ := hid hj2
  have hj80 : j ≤ 80 := by omega
  have HSL := hid hsl
  clear hj3 hff hso hco ho hj2 hov hsl
  go_enter Try.func12, Try.ntmps12
  go_wp2_with fail
  refine m1.mono ?_
  rintro e w1 ⟨rfl, rfl⟩
  go_wp2_with fail
  refine (TA _).mono ?_
  rintro e w1 ⟨rfl, hb1⟩
  go_wp2_with fail
  refine (FR _).mono ?_
  rintro e w2 ⟨rfl, hb2⟩
  have hb2 := hb1.trans (hb2.mono hb1.size)
  go_wp2_with fail
  refine ((E1 _).out).mono ?_
  rintro e w3 ⟨rfl, hb3⟩
  have hb3 := hb2.trans (hb3.mono hb2.size)
  clear hb1 hb2 FR TA E1 m1
  cases o with
  | none =>
    simp only [valX]
    have HG := hid (show GrowsEnd s (n + 1) from fun c h => HCO.out c (Nat.zero_le _) h)
    by_cases hlt : j < l.length
    · have hd : decide ((l.length : Int) > (j : Int)) = true := decide_eq_true (by omega)
      have E3 := E2 hlt
      simp only [valX] at E3
      go_wp2_with fail
      refine ((E3 _).out).mono ?_
      rintro e w4 ⟨rfl, hb4⟩
      have hb3 := hb3.trans (hb4.mono hb3.size)
      clear E3 E2 hlt
      go_wp2_with fail
      go_loopw [15] (fun i wr => ∃ c : Nat, i = .int .i64 c ∧ c ≤ (n + 1) ∧ Below w.heap.size w wr) (fun i _ => (n + 1) - (intOf i).toNat)
      case atStart => exact ⟨0, rfl, Nat.zero_le _, hb3⟩
      case round =>
        obtain ⟨c, rfl, hc, hB⟩ := hrel
        by_cases hlt : c < (n + 1)
        · have hcv := run_letB c wr (by omega)
          have hw8 : IntKind.u8.wrap (97 + (c : Int)) = 97 + (c : Int) := IntWalk.u8_in _ (by omega)
          have hsz2 : ¬ 9223372036854775807 < (mkS s).size + (letS c).size := by rw [mkS_size, letS_size]; have := HSL.out; omega
          have hadd := letS_add s c
          have SQ := square_has (addL s c) (word_of (k := n + 1) (by omega) (addL_over (by omega) HSO.out (by omega)) (by rw [addL_len]; have := HSL.out; omega)) (HG.out c hlt) (wr.alloc (.cells #[.int .u8 (97 + (c : Int))] 5))
          obtain ⟨t, ht⟩ : ∃ t, t = addL s c := ⟨_, rfl⟩
          rw [← ht] at hadd SQ
          obtain ⟨y0, hy0⟩ : ∃ y0, y0 = at0 (sq t) := ⟨_, rfl⟩
          obtain ⟨y1, hy1⟩ : ∃ y1, y1 = at1 (sq t) := ⟨_, rfl⟩
          rw [← hy0, ← hy1] at SQ
          clear ht hy0 hy1
          go_wp2_with fail
          refine SQ.out.mono ?_
          rintro e w7 ⟨rfl, hb7⟩
          have hB7 := hB.trans ((((Below.refl _ _).alloc (Nat.le_refl _) _).trans (hb7.mono (by simp))).mono hB.size)
          go_wp2_with fail
          exact ⟨⟨c + 1, by go_num, by omega, hB7⟩, by simp [intOf]; omega⟩
        · go_wp2_with fail
          refine (awake_any _).mono ?_
          rintro e w9 ⟨rfl, hb9⟩
          go_wp2_with fail
          go_ret
          exact ⟨rfl, hB.trans (hb9.mono hB.size)⟩
    · have hd : decide ((l.length : Int) > (j : Int)) = false := decide_eq_false (by omega)
      clear E2
      go_wp2_with fail
      go_loopw [15] (fun i wr => ∃ c : Nat, i = .int .i64 c ∧ c ≤ (n + 1) ∧ Below w.heap.size w wr) (fun i _ => (n + 1) - (intOf i).toNat)
      case atStart => exact ⟨0, rfl, Nat.zero_le _, hb3⟩
      case round =>
        obtain ⟨c, rfl, hc, hB⟩ := hrel
        by_cases hlt : c < (n + 1)
        · have hcv := run_letB c wr (by omega)
          have hw8 : IntKind.u8.wrap (97 + (c : Int)) = 97 + (c : Int) := IntWalk.u8_in _ (by omega)
          have hsz2 : ¬ 9223372036854775807 < (mkS s).size + (letS c).size := by rw [mkS_size, letS_size]; have := HSL.out; omega
          have hadd := letS_add s c
          have SQ := square_has (addL s c) (word_of (k := n + 1) (by omega) (addL_over (by omega) HSO.out (by omega)) (by rw [addL_len]; have := HSL.out; omega)) (HG.out c hlt) (wr.alloc (.cells #[.int .u8 (97 + (c : Int))] 5))
          obtain ⟨t, ht⟩ : ∃ t, t = addL s c := ⟨_, rfl⟩
          rw [← ht] at hadd SQ
          obtain ⟨y0, hy0⟩ : ∃ y0, y0 = at0 (sq t) := ⟨_, rfl⟩
          obtain ⟨y1, hy1⟩ : ∃ y1, y1 = at1 (sq t) := ⟨_, rfl⟩
          rw [← hy0, ← hy1] at SQ
          clear ht hy0 hy1
          go_wp2_with fail
          refine SQ.out.mono ?_
          rintro e w7 ⟨rfl, hb7⟩
          have hB7 := hB.trans ((((Below.refl _ _).alloc (Nat.le_refl _) _).trans (hb7.mono (by simp))).mono hB.size)
          go_wp2_with fail
          exact ⟨⟨c + 1, by go_num, by omega, hB7⟩, by simp [intOf]; omega⟩
        · go_wp2_with fail
          refine (awake_any _).mono ?_
          rintro e w9 ⟨rfl, hb9⟩
          go_wp2_with fail
          go_ret
          exact ⟨rfl, hB.trans (hb9.mono hB.size)⟩
  | some x =>
    simp only [valX]
    obtain ⟨d, -, hd2, rfl, hfx, hsm⟩ := HCO.out
    have HG := hid (show GrowsEnd s d from fun c h => hsm c (Nat.zero_le _) h)
    have hxo := addL_over (by omega) HSO.out hd2
    have hxl : (addL s d).length = j + 1 := by rw [addL_len, HSL.out]
    have LT := fun W => hid (Letters_any (mkS (addL s d)) (n + 1) W (by omega) (by rw [mkS_size]; omega))
    rw [mkS_data, hxo, show ((n + 1 : Nat) : Int) = 1 + (n : Int) by omega] at LT
    have SX := fun W => square_free (addL s d) (word_of (by omega) hxo (by omega)) hfx W
    have hxs : (mkS (addL s d)).size = j + 1 := by rw [mkS_size, hxl]
    have hpre : (mkS (addL s d)).extract 0 j = mkS s := by
      refine mkS_eq _ _ ?_
      rw [data_extract, mkS_data, addL, List.drop_zero, Nat.sub_zero, List.take_left' HSL.out]
    have hself := bytes_self s
    have hgx : ∀ (u : ByteArray) (hu : u = mkS (addL s d)) (h : j < u.size), (u[j].toNat : Int) = 97 + (d : Int) := fun u hu h => by
      subst hu
      have : (mkS (addL s d))[j] = UInt8.ofNat (97 + d) := by
        have h2 := List.getElem?_eq_getElem (l := addL s d) (i := j) (by omega)
        have h3 : (addL s d)[j]? = some (UInt8.ofNat (97 + d)) := by rw [addL, List.getElem?_append_right (by have := HSL.out; omega), HSL.out, Nat.sub_self]; rfl
        rw [h2] at h3
        exact Option.some.inj h3
      rw [this, letter_nat d (by omega)]
    have hw9 : IntKind.u8.wrap (97 + (d : Int) - 97) = (d : Int) := by rw [IntWalk.u8_in _ (by omega)]; omega
    obtain ⟨t, ht⟩ : ∃ t, t = addL s d := ⟨_, rfl⟩
    simp only [← ht] at LT SX hxs hpre ⊢
    have hjt : j < (mkS t).size := by omega
    have hgj := hgx (mkS t) (by rw [ht]) hjt
    clear HCO hgx ht hxl hfx hsm hxo
    by_cases hlt : j < l.length
    · have hd : decide ((l.length : Int) > (j : Int)) = true := decide_eq_true (by omega)
      have E3 := E2 hlt
      simp only [valX] at E3
      go_wp2_with fail
      refine ((E3 _).out).mono ?_
      rintro e w4 ⟨rfl, hb4⟩
      have hb3 := hb3.trans (hb4.mono hb3.size)
      clear E3 E2 hlt
      go_wp2_with fail
      refine (LT _).out.mono ?_
      rintro e w5 ⟨rfl, rfl⟩
      go_wp2_with fail
      refine (SX _).out.mono ?_
      rintro e w6 ⟨rfl, hb6⟩
      have hb3 := hb3.trans (hb6.mono hb3.size)
      go_wp2_with fail
      go_loopw [15] (fun i wr => ∃ c : Nat, i = .int .i64 c ∧ c ≤ d ∧ Below w.heap.size w wr) (fun i _ => d - (intOf i).toNat)
      case atStart => exact ⟨0, rfl, Nat.zero_le _, hb3⟩
      case round =>
        obtain ⟨c, rfl, hc, hB⟩ := hrel
        by_cases hlt : c < d
        · have hcv := run_letB c wr (by omega)
          have hw8 : IntKind.u8.wrap (97 + (c : Int)) = 97 + (c : Int) := IntWalk.u8_in _ (by omega)
          have hsz2 : ¬ 9223372036854775807 < (mkS s).size + (letS c).size := by rw [mkS_size, letS_size]; have := HSL.out; omega
          have hadd := letS_add s c
          have SQ := square_has (addL s c) (word_of (k := n + 1) (by omega) (addL_over (by omega) HSO.out (by omega)) (by rw [addL_len]; have := HSL.out; omega)) (HG.out c hlt) (wr.alloc (.cells #[.int .u8 (97 + (c : Int))] 5))
          obtain ⟨t, ht⟩ : ∃ t, t = addL s c := ⟨_, rfl⟩
          rw [← ht] at hadd SQ
          obtain ⟨y0, hy0⟩ : ∃ y0, y0 = at0 (sq t) := ⟨_, rfl⟩
          obtain ⟨y1, hy1⟩ : ∃ y1, y1 = at1 (sq t) := ⟨_, rfl⟩
          rw [← hy0, ← hy1] at SQ
          clear ht hy0 hy1
          go_wp2_with fail
          refine SQ.out.mono ?_
          rintro e w7 ⟨rfl, hb7⟩
          have hB7 := hB.trans ((((Below.refl _ _).alloc (Nat.le_refl _) _).trans (hb7.mono (by simp))).mono hB.size)
          go_wp2_with fail
          exact ⟨⟨c + 1, by go_num, by omega, hB7⟩, by simp [intOf]; omega⟩
        · go_wp2_with fail
          refine (awake_any _).mono ?_
          rintro e w9 ⟨rfl, hb9⟩
          go_wp2_with fail
          go_ret
          exact ⟨rfl, hB.trans (hb9.mono hB.size)⟩
    · have hd : decide ((l.length : Int) > (j : Int)) = false := decide_eq_false (by omega)
      clear E2
      go_wp2_with fail
      refine (LT _).out.mono ?_
      rintro e w5 ⟨rfl, rfl⟩
      go_wp2_with fail
      refine (SX _).out.mono ?_
      rintro e w6 ⟨rfl, hb6⟩
      have hb3 := hb3.trans (hb6.mono hb3.size)
      go_wp2_with fail
      go_loopw [15] (fun i wr => ∃ c : Nat, i = .int .i64 c ∧ c ≤ d ∧ Below w.heap.size w wr) (fun i _ => d - (intOf i).toNat)
      case atStart => exact ⟨0, rfl, Nat.zero_le _, hb3⟩
      case round =>
        obtain ⟨c, rfl, hc, hB⟩ := hrel
        by_cases hlt : c < d
        · have hcv := run_letB c wr (by omega)
          have hw8 : IntKind.u8.wrap (97 + (c : Int)) = 97 + (c : Int) := IntWalk.u8_in _ (by omega)
          have hsz2 : ¬ 9223372036854775807 < (mkS s).size + (letS c).size := by rw [mkS_size, letS_size]; have := HSL.out; omega
          have hadd := letS_add s c
          have SQ := square_has (addL s c) (word_of (k := n + 1) (by omega) (addL_over (by omega) HSO.out (by omega)) (by rw [addL_len]; have := HSL.out; omega)) (HG.out c hlt) (wr.alloc (.cells #[.int .u8 (97 + (c : Int))] 5))
          obtain ⟨t, ht⟩ : ∃ t, t = addL s c := ⟨_, rfl⟩
          rw [← ht] at hadd SQ
          obtain ⟨y0, hy0⟩ : ∃ y0, y0 = at0 (sq t) := ⟨_, rfl⟩
          obtain ⟨y1, hy1⟩ : ∃ y1, y1 = at1 (sq t) := ⟨_, rfl⟩
          rw [← hy0, ← hy1] at SQ
          clear ht hy0 hy1
          go_wp2_with fail
          refine SQ.out.mono ?_
          rintro e w7 ⟨rfl, hb7⟩
          have hB7 := hB.trans ((((Below.refl _ _).alloc (Nat.le_refl _) _).trans (hb7.mono (by simp))).mono hB.size)
          go_wp2_with fail
          exact ⟨⟨c + 1, by go_num, by omega, hB7⟩, by simp [intOf]; omega⟩
        · go_wp2_with fail
          refine (awake_any _).mono ?_
          rintro e w9 ⟨rfl, hb9⟩
          go_wp2_with fail
          go_ret
          exact ⟨rfl, hB.trans (hb9.mono hB.size)⟩
end Go.Proofs.Ytancficmkkdnfaa
