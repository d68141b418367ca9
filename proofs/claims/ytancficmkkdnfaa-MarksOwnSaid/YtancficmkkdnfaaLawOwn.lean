/-
  The law MarksOwn, walked.
-/
import Derived.Test.YtancficmkkdnfaaT
import Derived.Test.YtancficmkkdnfaaLawKept
import Derived.Test.YtancficmkkdnfaaR
namespace Go.Proofs.Ytancficmkkdnfaa
open Go.RowKit
attribute [local go_sem] Oper.semAt_some

theorem imagesL_same {m : List (List UInt8)} (h : mapB m = true) : imagesL m = m := by
  obtain ⟨x0, x1, x2, rfl, h0, h1, h2⟩ := three_of h
  show [x0.take 13, x1.take 13, x2.take 13] = _
  rw [List.take_of_length_le (by omega), List.take_of_length_le (by omega), List.take_of_length_le (by omega)]

theorem bytes_self' (l : List UInt8) : (((mkS l).toList == (mkS l).toList)) = true := by simp
/-- A row that is a call's own: nil, or a block behind the base. -/
theorem own_block {w : World} {base : Nat} {a : Option Addr} {n c : Nat} {xs : List Value} (h : w.ownsRow base 3 1 (.slice a n c) n xs) : (a = none ∧ n = 0) ∨ ∃ g cur, a = some ⟨g, 0, none⟩ ∧ base ≤ g ∧ Blk w g cur 3 ∧ n ≤ cur.size := by
  rcases h.2 with ⟨h1, h2⟩ | ⟨g, cap, cur, h1, h2, h3, h4, h5, h6, h7⟩
  · cases h1; exact .inl ⟨rfl, rfl⟩
  · cases h1; exact .inr ⟨g, cur, rfl, h2, h3, by omega⟩

set_option maxRecDepth 100000 in
set_option maxHeartbeats 4000000 in
theorem own_walk (a0 : Option Addr) (len cap : Nat) (ss : List ByteArray) (s0 : ByteArray) (w : World) (h0 : IsStrs w a0 len cap ss) (hs : s0.size ≤ maxLen) :
    Calls Try.prog 13 #[.slice a0 len cap, .string s0] w fun e w' => e = .returned (.bool true) ∧ Below w.heap.size w w' := by
  have hmx : maxLen ≤ 9223372036854775807 := by decide
  obtain ⟨hst, hlen, -, hle, hcap, hel⟩ := h0.strs
  obtain ⟨m0, hm0⟩ : ∃ m0, m0 = (ss.take len).map (·.data.toList) := ⟨_, rfl⟩
  rw [← hm0] at hst hlen hel
  have HST := hid hst
  have MP := fun W (hW : Strs W a0 m0) => hid (maps_any a0 cap 3 m0 W hW (by omega) (by omega) (by omega) (fun x hx => Nat.le_trans (hel x hx) hmx))
  rw [hlen] at MP
  have hmap := mapsL_ok 3 m0 (by omega) (by omega)
  have hml := mapsL_len 3 m0
  obtain ⟨M, hM⟩ : ∃ M, M = mapsL 3 m0 := ⟨_, rfl⟩
  rw [← hM] at MP hmap hml
  have CP := fun a c W (hW : Strs W a M) => hid (images_any a c M W hW (by omega) (fun x hx => Nat.le_trans (map_small hmap x hx) (by omega)))
  rw [imagesL_same hmap] at CP
  have TA := fun W => hid (tame_any s0 120 3 W (by omega) (by omega) (by omega) (by omega))
  have hov := tame_over 120 3 s0.data.toList (by omega) (by omega)
  have hln := tame_len 120 3 s0.data.toList
  obtain ⟨l, hl⟩ : ∃ l, l = tameL 120 3 s0.data.toList := ⟨_, rfl⟩
  rw [← hl] at TA hov hln
  have PE := fun W => hid (Periods_yes (mkS l) W (word_of (k := 3) (l := l) (by omega) hov hln))
  have RP := fun W => hid (refPeriods_any (mkS l) W (by rw [mkS_size]; omega))
  rw [mkS_data] at PE RP
  have IM := fun a c W (hW : Strs W a M) => image_ok a c M l hmap hov hln W hW
  have hpl := perL_len l
  obtain ⟨L, hL⟩ : ∃ L, L = perL l := ⟨_, rfl⟩
  rw [← hL] at PE RP hpl
  have IE := fun a b ca cb W (ha : Vals W a (L.map natV)) (hb : Vals W b (L.map natV)) => hid (ints_eq a b ca cb L W ha hb (by omega))
  have hl120 : L.length ≤ 120 := by omega
  rw [hml] at CP
  obtain ⟨nL, hnL⟩ : ∃ nL, nL = L.length := ⟨_, rfl⟩
  have hn120 : nL ≤ 120 := by omega
  have HNL := hid hnL
  have HMAP := hid hmap
  clear hst hlen hle hcap hel hm0 hM hl hL hpl hov hln hmap h0 hs hnL
  go_enter Try.func13, Try.ntmps13
  go_wp2_with fail
  refine (TA _).out.mono ?_
  rintro e w1 ⟨rfl, hb1⟩
  go_wp2_with fail
  refine (MP _ (HST.out.below hb1 (Nat.le_refl _))).out.mono ?_
  rintro e w2 ⟨a1, c1, rfl, hv1, -, -, hb2⟩
  rw [hml]
  have HV2 := hid hv1
  replace hb2 := hb1.trans (hb2.mono hb1.size)
  clear hv1 hb1
  go_wp2_with fail
  refine (CP a1 c1 _ HV2.out).out.mono ?_
  rintro e w3 ⟨a2, c2, rfl, hv2, -, -, hb3⟩
  rw [hml]
  have HV3 := hid (HV2.out.below hb3 (Nat.le_refl _))
  have HU3 := hid hv2
  replace hb3 := hb2.trans (hb3.mono hb2.size)
  clear hv2 hb2
  go_wp2_with fail
  refine (PE w3).out.mono ?_
  rintro e w4 ⟨a3, c3, rfl, ho4, hb4⟩
  have HB4 := hid hb4
  have HO4 := hid ho4.out
  clear ho4 hb4
  rw [← HNL.out]
  rw [← HNL.out] at HO4
  go_wp2_with fail
  refine (IM a1 c1 w4 (HV3.out.below HB4.out (Nat.le_refl _))).out.mono ?_
  rintro e w5 ⟨rfl, hb5⟩
  have HB5 := hid (HB4.out.trans (hb5.mono HB4.out.size))
  have hblk := own_block (ownsRow_low HO4.out hb5 (Nat.le_refl _))
  have HBLK := hid hblk
  clear hblk hb5
  go_wp2_with fail
  go_loopw [12] (fun i wr => ∃ k : Nat, k ≤ nL ∧ i = .int .i64 k ∧ Below w3.heap.size w3 wr ∧ Hid ((a3 = none ∧ nL = 0) ∨ ∃ g cur, a3 = some ⟨g, 0, none⟩ ∧ w3.heap.size ≤ g ∧ Blk wr g cur 3 ∧ nL ≤ cur.size)) (fun i _ => nL - (intOf i).toNat)
  case atStart => exact ⟨0, by omega, rfl, HB5.out, HBLK⟩
  case round =>
    obtain ⟨k, hk, rfl, hB, HK⟩ := hrel
    by_cases hlt : k < nL
    · obtain ⟨g, cur, rfl, hg, hblk, hcs⟩ : ∃ g cur, a3 = some ⟨g, 0, none⟩ ∧ w3.heap.size ≤ g ∧ Blk wr g cur 3 ∧ nL ≤ cur.size := by
        rcases HK.out with ⟨_, h⟩ | h
        · omega
        · exact h
      have q1 := hblk.cell k
      rw [Array.getElem?_eq_getElem (by omega)] at q1
      have q2 := hblk.free k
      generalize cur[k] = vv at q1
      have HBLK2 := hid hblk
      clear hblk HK
      go_wp2_with fail
      refine ⟨⟨k + 1, by omega, by go_num, hB.setCell hg _, .inr ⟨g, _, rfl, hg, HBLK2.out.set k _, by simpa using hcs⟩⟩, by simp [intOf]; omega⟩
    · have HV6 := hid (HV3.out.below hB (Nat.le_refl _))
      have HU6 := hid (HU3.out.below hB (Nat.le_refl _))
      have H6 := hid (hb3.trans (hB.mono hb3.size))
      clear hb3 hB HK HBLK
      go_wp2_with fail
      refine (PE _).out.mono ?_
      rintro e w7 ⟨a7, c7, rfl, ho7, hb7⟩
      have HV7 := hid (HV6.out.below hb7 (Nat.le_refl _))
      have HU7 := hid (HU6.out.below hb7 (Nat.le_refl _))
      have HO7 := hid (own_vals ho7.out)
      have H7 := hid (H6.out.trans (hb7.mono H6.out.size))
      rw [← HNL.out]
      clear ho7 hb7
      go_wp2_with fail
      go_loopw [15] (fun i wr => ∃ k : Nat, k ≤ 3 ∧ i = .int .i64 k ∧ Below w7.heap.size w7 wr) (fun i _ => 3 - (intOf i).toNat)
      case atStart => exact ⟨0, by omega, rfl, Below.refl _ _⟩
      case round =>
        obtain ⟨j, hj, rfl, hBx⟩ := hrel
        by_cases hj3 : j < 3
        · obtain ⟨x, hx, -⟩ := (map_len HMAP.out).2 j hj3
          obtain ⟨g1, o1, rfl, hg1, hc1⟩ := HV7.out.at (by have := (map_len HMAP.out).1; omega)
          obtain ⟨g2, o2, rfl, hg2, hc2⟩ := HU7.out.at (by have := (map_len HMAP.out).1; omega)
          have q1 := (hBx.cell (p := ⟨g1, o1 + j, none⟩) hg1).trans (hc1 j x hx)
          have q2 := (hBx.cell (p := ⟨g2, o2 + j, none⟩) hg2).trans (hc2 j x hx)
          have hse := bytes_self' x
          clear hx hc1 hc2
          go_wp2_with fail
          go_quiet (fail)
          go_wp2_with fail
          exact ⟨⟨j + 1, by omega, by go_num, below_drewN hBx nq⟩, by simp [intOf]; omega⟩
        · have hj3' : j = 3 := by omega
          subst hj3'
          have V7 := HO7.out.1.below hBx (Nat.le_refl _)
          have H8 := hid (H7.out.trans (hBx.mono H7.out.size))
          have HV8 := hid V7
          clear V7 hBx
          go_wp2_with fail
          refine (RP _).out.mono ?_
          rintro e w8 ⟨a8, c8, rfl, ho8, hb8⟩
          have HV9 := hid (HV8.out.below hb8 (Nat.le_refl _))
          have HO8 := hid (own_vals ho8.out)
          have H9 := hid (H8.out.trans (hb8.mono H8.out.size))
          rw [← HNL.out]
          clear ho8 hb8
          go_wp2_with fail
          have IE2 := (IE a7 a8 c7 c8 w8 HV9.out HO8.out.1).out
          rw [← HNL.out] at IE2
          refine IE2.mono ?_
          rintro e w9 ⟨rfl, hb9⟩
          have H10 := H9.out.trans (hb9.mono H9.out.size)
          go_wp2_with fail
          refine (awake_any _).mono ?_
          rintro e w10 ⟨rfl, hb10⟩
          go_wp2_with fail
          go_ret
          exact ⟨rfl, H10.trans (hb10.mono H10.size)⟩
end Go.Proofs.Ytancficmkkdnfaa
