/-
  The law MarksKept, walked.
-/
import Derived.Test.YtancficmkkdnfaaP
import Derived.Test.YtancficmkkdnfaaLawFirst
namespace Go.Proofs.Ytancficmkkdnfaa
open Go.RowKit
attribute [local go_sem] Oper.semAt_some

theorem LL_sorted (N : Nat) : (LL N).Pairwise (fun x y => x.length ≤ y.length) := by
  induction N with
  | zero => simp [LL, lv, frW]
  | succ N ih =>
    rw [LL_succ, List.pairwise_append]
    refine ⟨ih, ?_, fun x hx y hy => ?_⟩
    · rw [List.pairwise_iff_forall_sublist]
      intro x y h
      have hx := ((mem_lv _ _).1 (h.subset (by simp : x ∈ [x, y]))).1
      have hy := ((mem_lv _ _).1 (h.subset (by simp : y ∈ [x, y]))).1
      omega
    · have h1 := ((mem_LL _ _).1 hx).1
      have h2 := ((mem_lv _ _).1 hy).1
      omega
/-- The word found is a shortest one. -/
theorem keeps_short {m : List (List UInt8)} {N : Nat} {x y : List UInt8} (h : keepsO m N = some x) (hy : overB 3 y = true) (hf : freeB y = true) (hb : freeB (imgW m y) = false) : x.length ≤ y.length := by
  rcases Nat.lt_or_ge y.length x.length with hlt | hge
  · exfalso
    obtain ⟨hbx, A, B, hl, hA⟩ := List.find?_eq_some_iff_append.1 h
    have hxN := (keeps_some h).1
    have hmem : y ∈ LL N := (mem_LL _ _).2 ⟨by omega, hy, hf⟩
    have hs := LL_sorted N
    rw [hl] at hmem hs
    rw [List.pairwise_append] at hs
    rcases List.mem_append.1 hmem with h1 | h1
    · have := hA y h1
      simp [badB, hb] at this
    · rcases List.mem_cons.1 h1 with rfl | h1
      · omega
      · have := (List.pairwise_cons.1 hs.2.1).1 y h1
        omega
  · exact hge

theorem image_ok (a : Option Addr) (c : Nat) (m : List (List UInt8)) (l : List UInt8) (hmap : mapB m = true) (hl : overB 3 l = true) (hn : l.length ≤ 120) (w : World) (hm : Strs w a m) :
    Hid (Calls Try.prog 31 #[.slice a 3 c, .string (mkS l)] w fun e w' => e = .returned (.tuple #[.string (mkS (imgW m l)), .int .i64 0]) ∧ Below w.heap.size w w') := by
  have h3 := (map_len hmap).1
  have hel : ∀ x ∈ m, x.length ≤ 1000000 := fun x hx => by
    have h4 := List.all_eq_true.1 (by rw [mapB, Bool.and_eq_true] at hmap; exact hmap.1) x hx
    rw [imgB, Bool.and_eq_true, Bool.and_eq_true] at h4
    have : x.length ≤ 12 := by simpa using h4.1.2
    omega
  have := Image_any a c m (mkS l) w hm (by omega) hel (by rw [mkS_size]; omega)
  rw [h3, mkS_data] at this
  refine this.mono ?_
  rintro e w' ⟨rfl, hb⟩
  rw [if_pos (by rw [imageOk, hmap, word_of (by omega) hl hn, hl]; rfl)]
  exact ⟨rfl, hb⟩

set_option maxRecDepth 100000 in
set_option maxHeartbeats 4000000 in
theorem kept_walk (a0 : Option Addr) (len cap : Nat) (ss : List ByteArray) (s0 : ByteArray) (w : World) (h0 : IsStrs w a0 len cap ss) (hs : s0.size ≤ maxLen) :
    Calls Try.prog 7 #[.slice a0 len cap, .string s0] w fun e w' => e = .returned (.bool true) ∧ Below w.heap.size w w' := by
  have hmx : maxLen ≤ 9223372036854775807 := by decide
  obtain ⟨hst, hlen, -, hle, hcap, hel⟩ := h0.strs
  obtain ⟨m0, hm0⟩ : ∃ m0, m0 = (ss.take len).map (·.data.toList) := ⟨_, rfl⟩
  rw [← hm0] at hst hlen hel
  have MP := hid (maps_any a0 cap 4 m0 w hst (by omega) (by omega) (by omega) (fun x hx => Nat.le_trans (hel x hx) hmx))
  rw [hlen] at MP
  have hmap := mapsL_ok 4 m0 (by omega) (by omega)
  have hml := mapsL_len 4 m0
  obtain ⟨M, hM⟩ : ∃ M, M = mapsL 4 m0 := ⟨_, rfl⟩
  rw [← hM] at MP hmap hml
  have TA := fun W => hid (tame_any s0 30 3 W (by omega) (by omega) (by omega) (by omega))
  have hov := tame_over 30 3 s0.data.toList (by omega) (by omega)
  have hln := tame_len 30 3 s0.data.toList
  obtain ⟨l, hl⟩ : ∃ l, l = tameL 30 3 s0.data.toList := ⟨_, rfl⟩
  rw [← hl] at TA hov hln
  have FR := fun W => hid (free_fn (mkS l) W (by rw [mkS_size]; omega))
  rw [mkS_data] at FR
  obtain ⟨j, hj1, hj2, -⟩ := freeL_take l
  have hff := freeL_free l
  obtain ⟨x, hx⟩ : ∃ x, x = freeL l := ⟨_, rfl⟩
  rw [← hx] at FR hj2 hff
  have hxo : overB 3 x = true := by rw [hj2]; exact overB_take hov j
  have hxl : x.length ≤ 30 := by rw [hj2, List.length_take]; omega
  clear hst hlen hle hcap hel hm0 hM hl hj1 hj2 hx h0 hs hln hov
  have KE := fun a c W (hW : Strs W a M) => hid (keeps_yes a c M W hW hmap)
  have IM := fun a c W (hW : Strs W a M) => image_ok a c M x hmap hxo (by omega) W hW
  have hil := imgW_len hmap hxo
  have FI := fun W => hid (refFree_any (mkS (imgW M x)) W (by rw [mkS_size]; omega))
  rw [mkS_data] at FI
  obtain ⟨fx, hfx⟩ : ∃ fx, fx = freeB (imgW M x) := ⟨_, rfl⟩
  rw [← hfx] at FI
  obtain ⟨o, ho⟩ : ∃ o, o = keepsO M (mostN M) := ⟨_, rfl⟩
  rw [← ho] at KE
  have HNONE := hid (show o = none → fx = true from fun h => by rw [hfx]; exact keeps_none hmap (ho.symm.trans h) x hxo hff)
  have HSOME := hid (show ∀ y, o = some y → y.length ≤ 10 ∧ overB 3 y = true ∧ freeB y = true ∧ freeB (imgW M y) = false ∧ (fx = true ∨ y.length ≤ x.length) from fun y h => by
    have h1 := keeps_some (ho.symm.trans h)
    refine ⟨Nat.le_trans h1.1 (most_le hmap).2, h1.2.1, h1.2.2.1, h1.2.2.2, ?_⟩
    cases hc : fx with
    | true => exact .inl rfl
    | false => exact .inr (keeps_short (ho.symm.trans h) hxo hff (by rw [← hfx]; exact hc)))
  have his : (mkS (imgW M x)).size ≤ 360 := by rw [mkS_size]; omega
  obtain ⟨im, him⟩ : ∃ im, im = mkS (imgW M x) := ⟨_, rfl⟩
  rw [← him] at his FI IM
  have hxs := mkS_size x
  have HMAP := hid hmap
  clear him hfx ho hff hxo hmap hil
  go_enter Try.func7, Try.ntmps7
  go_wp2_with fail
  refine MP.out.mono ?_
  rintro e w1 ⟨a1, c1, rfl, hv1, hn1, hc1, hb1⟩
  rw [hml]
  have HV1 := hid hv1
  clear hv1 hn1 hc1
  go_wp2_with fail
  refine (KE a1 c1 w1 HV1.out).out.mono ?_
  rintro e w2 ⟨rfl, hb2⟩
  have HV2 := hid (HV1.out.below hb2 (Nat.le_refl _))
  have hb2 := hb1.trans (hb2.mono hb1.size)
  cases o with
  | none =>
    simp only [valK]
    have hfxt := HNONE.out rfl
    go_wp2_with fail
    refine (TA _).out.mono ?_
    rintro e w3 ⟨rfl, hb3⟩
    go_wp2_with fail
    refine (FR _).out.mono ?_
    rintro e w4 ⟨rfl, hb4⟩
    have HV4 := hid ((HV2.out.below hb3 (Nat.le_refl _)).below hb4 (Nat.le_refl _))
    have hb4 := hb2.trans ((hb3.trans (hb4.mono hb3.size)).mono hb2.size)
    go_wp2_with fail
    refine (IM a1 c1 w4 HV4.out).out.mono ?_
    rintro e w5 ⟨rfl, hb5⟩
    have hb5 := hb4.trans (hb5.mono hb4.size)
    subst hfxt
    go_wp2_with fail
    refine (FI _).out.mono ?_
    rintro e w6 ⟨rfl, hb6⟩
    have hb6 := hb5.trans (hb6.mono hb5.size)
    go_wp2_with fail
    refine (awake_any _).mono ?_
    rintro e w9 ⟨rfl, hb9⟩
    go_wp2_with fail
    go_ret
    exact ⟨rfl, hb6.trans (hb9.mono hb6.size)⟩
  | some y =>
    simp only [valK]
    obtain ⟨hy1, hy2, hy3, hy4, hy5⟩ := HSOME.out y rfl
    have LT := fun W => hid (Letters_any (mkS y) 3 W (by omega) (by rw [mkS_size]; omega))
    rw [mkS_data, hy2] at LT
    have FY := fun W => hid (refFree_any (mkS y) W (by rw [mkS_size]; omega))
    rw [mkS_data, hy3] at FY
    have IY := fun a c W (hW : Strs W a M) => image_ok a c M y HMAP.out hy2 (by omega) W hW
    have hil := imgW_len HMAP.out hy2
    have FT := fun W => hid (refFree_any (mkS (imgW M y)) W (by rw [mkS_size]; omega))
    rw [mkS_data, hy4] at FT
    obtain ⟨iy, hiy⟩ : ∃ iy, iy = mkS (imgW M y) := ⟨_, rfl⟩
    rw [← hiy] at IY FT
    have hys := mkS_size y
    clear hy2 hy3 hy4 hil hiy HNONE HSOME
    go_wp2_with fail
    refine (TA _).out.mono ?_
    rintro e w3 ⟨rfl, hb3⟩
    go_wp2_with fail
    refine (FR _).out.mono ?_
    rintro e w4 ⟨rfl, hb4⟩
    have HV4 := hid ((HV2.out.below hb3 (Nat.le_refl _)).below hb4 (Nat.le_refl _))
    have hb4 := hb2.trans ((hb3.trans (hb4.mono hb3.size)).mono hb2.size)
    go_wp2_with fail
    refine (IM a1 c1 w4 HV4.out).out.mono ?_
    rintro e w5 ⟨rfl, hb5⟩
    have HV5 := hid (HV4.out.below hb5 (Nat.le_refl _))
    have hb5 := hb4.trans (hb5.mono hb4.size)
    go_wp2_with fail
    refine (LT _).out.mono ?_
    rintro e w6 ⟨rfl, rfl⟩
    go_wp2_with fail
    refine (FY _).out.mono ?_
    rintro e w6 ⟨rfl, hb6⟩
    have HV6 := hid (HV5.out.below hb6 (Nat.le_refl _))
    have hb6 := hb5.trans (hb6.mono hb5.size)
    go_wp2_with fail
    refine (IY a1 c1 w6 HV6.out).out.mono ?_
    rintro e w7 ⟨rfl, hb7⟩
    have hb7 := hb6.trans (hb7.mono hb6.size)
    go_wp2_with fail
    refine (FT _).out.mono ?_
    rintro e w8 ⟨rfl, hb8⟩
    have hb8 := hb7.trans (hb8.mono hb7.size)
    clear hb1 hb2 hb3 hb4 hb5 hb6 hb7
    cases fx with
    | true =>
      go_wp2_with fail
      refine (FI _).out.mono ?_
      rintro e w9 ⟨rfl, hb9⟩
      have hb9 := hb8.trans (hb9.mono hb8.size)
      go_wp2_with fail
      refine (awake_any _).mono ?_
      rintro e w10 ⟨rfl, hb10⟩
      go_wp2_with fail
      go_ret
      exact ⟨rfl, hb9.trans (hb10.mono hb9.size)⟩
    | false =>
      have hge : decide ((x.length : Int) ≥ (y.length : Int)) = true := by
        rcases hy5 with h | h
        · exact nomatch h
        · exact decide_eq_true (by omega)
      have hge2 : y.length ≤ x.length := by
        rcases hy5 with h | h
        · exact nomatch h
        · exact h
      have hge3 : decide (y.length ≤ x.length) = true := decide_eq_true hge2
      go_wp2_with fail
      refine (FI _).out.mono ?_
      rintro e w9 ⟨rfl, hb9⟩
      have hb9 := hb8.trans (hb9.mono hb8.size)
      go_wp2_with fail
      refine (awake_any _).mono ?_
      rintro e w10 ⟨rfl, hb10⟩
      go_wp2_with fail
      go_ret
      exact ⟨rfl, hb9.trans (hb10.mono hb9.size)⟩
end Go.Proofs.Ytancficmkkdnfaa
