/-
  The law MarksWhole, walked.
-/
import Derived.Test.YtancficmkkdnfaaR
import Derived.Test.YtancficmkkdnfaaLawKept
namespace Go.Proofs.Ytancficmkkdnfaa
open Go.RowKit
attribute [local go_sem] Oper.semAt_some

/-- The map of the example. -/
def mEx : List (List UInt8) := [[97, 98, 99, 97, 98], [97, 99, 97, 98, 99, 98], [97, 99, 98, 99, 97, 99, 98]]
theorem mEx_map : mapB mEx = true := by decide +kernel
theorem mEx_o3 : o3 mEx = true := by decide +kernel
theorem mEx_keeps : keepsO mEx (mostN mEx) = none := by decide +kernel
theorem mEx_pw : ∀ k : Fin 3, (pw mEx 3 [UInt8.ofNat (97 + k.1)]).isSome = true := by decide +kernel
theorem pw_free {m : List (List UInt8)} (hm : mapB m = true) (h3 : Over3 m) (hk : keepsO m (mostN m) = none) : ∀ (t : Nat) (s x : List UInt8), overB 3 s = true → freeB s = true → pw m t s = some x → overB 3 x = true ∧ freeB x = true := by
  intro t
  induction t with
  | zero => intro s x h1 h2 h; cases h; exact ⟨h1, h2⟩
  | succ t ih =>
    intro s x h1 h2 h
    rw [pw] at h
    split at h
    · exact nomatch h
    · exact ih _ x (imgW_over hm h3 h1) (keeps_none hm hk s h1 h2) h
theorem pw_len (m : List (List UInt8)) : ∀ (t : Nat) (s x : List UInt8), s.length ≤ 2000 → pw m t s = some x → x.length ≤ 2000 := by
  intro t
  induction t with
  | zero => intro s x hs h; cases h; exact hs
  | succ t ih =>
    intro s x hs h
    rw [pw] at h
    split at h
    · exact nomatch h
    · exact ih _ x (by omega) h
theorem pw_two {m : List (List UInt8)} (hm : mapB m = true) (h3 : Over3 m) (c : UInt8) (hc : okk 3 c = true) : ∃ x, pw m 2 [c] = some x ∧ x.length ≤ 144 := by
  have h1 : overB 3 [c] = true := by rw [overB, List.all_cons, hc]; rfl
  have l1 := imgW_len hm h1
  have h2 := imgW_over hm h3 h1
  have l2 := imgW_len hm h2
  simp at l1
  refine ⟨imgW m (imgW m [c]), ?_, by omega⟩
  rw [pw, if_neg (by omega), pw, if_neg (by omega)]; rfl

set_option maxRecDepth 100000 in
set_option maxHeartbeats 4000000 in
theorem whole_walk (a0 : Option Addr) (len cap : Nat) (ss : List ByteArray) (L : Int) (w : World) (h0 : IsStrs w a0 len cap ss) (hL : 0 ≤ L ∧ L ≤ 255) :
    Calls Try.prog 17 #[.slice a0 len cap, .int .u8 L] w fun e w' => e = .returned (.bool true) ∧ Below w.heap.size w w' := by
  have hmx : maxLen ≤ 9223372036854775807 := by decide
  obtain ⟨n, hn⟩ : ∃ n : Nat, L = n := ⟨L.toNat, by omega⟩
  subst hn
  obtain ⟨hst, hlen, -, hle, hcap, hel⟩ := h0.strs
  obtain ⟨m0, hm0⟩ : ∃ m0, m0 = (ss.take len).map (·.data.toList) := ⟨_, rfl⟩
  rw [← hm0] at hst hlen hel
  have HST := hid hst
  have MP := fun W (hW : Strs W a0 m0) => hid (maps_any a0 cap 3 m0 W hW (by omega) (by omega) (by omega) (fun x hx => Nat.le_trans (hel x hx) hmx))
  rw [hlen] at MP
  have hmap := mapsL_ok 3 m0 (by omega) (by omega)
  have hov : Over3 (mapsL 3 m0) := mapsL_over 3 m0 (by omega) (by omega)
  have hml := mapsL_len 3 m0
  obtain ⟨M, hM⟩ : ∃ M, M = mapsL 3 m0 := ⟨_, rfl⟩
  rw [← hM] at MP hmap hml hov
  have hk3 : n % 3 < 3 := Nat.mod_lt _ (by omega)
  have hmod : Int.tmod (n : Int) 3 = ((n % 3 : Nat) : Int) := tmod_nat n 3
  obtain ⟨k, hk⟩ : ∃ k, k = n % 3 := ⟨_, rfl⟩
  rw [← hk] at hmod hk3
  have hmod2 : (n : Int) % 3 = (k : Int) := by omega
  have hw1 : IntKind.u8.wrap (97 + (k : Int)) = 97 + (k : Int) := IntWalk.u8_in _ (by omega)
  obtain ⟨x, hx⟩ := Option.isSome_iff_exists.1 (mEx_pw ⟨k, hk3⟩)
  have hc : okk 3 (UInt8.ofNat (97 + k)) = true := okk_letter (by omega) hk3
  have hone : overB 3 [UInt8.ofNat (97 + k)] = true := by rw [overB, List.all_cons, hc]; rfl
  have hxf := pw_free mEx_map ((o3_iff _).1 mEx_o3) mEx_keeps 3 _ x hone (free_one _) hx
  have hxl := pw_len mEx 3 _ x (by simp) hx
  have P1 := fun a W (hW : Strs W a mEx) => hid (Power_yes a 3 mEx k 3 W hW mEx_map (by omega) mEx_o3 hk3 (by omega))
  rw [hx] at P1
  have K1 := fun a W (hW : Strs W a mEx) => hid (keeps_yes a 3 mEx W hW mEx_map)
  rw [mEx_keeps] at K1
  have FX := fun W => hid (refFree_any (mkS x) W (by rw [mkS_size]; omega))
  rw [mkS_data, hxf.2] at FX
  have K2 := fun a c W (hW : Strs W a M) => hid (keeps_yes a c M W hW hmap)
  obtain ⟨y, hy1, hy2⟩ := pw_two hmap hov (UInt8.ofNat (97 + k)) hc
  have P2 := fun a c W (hc : 3 ≤ c) (hW : Strs W a M) => hid (Power_yes a c M k 2 W hW hmap hc ((o3_iff _).2 hov) hk3 (by omega))
  rw [hy1] at P2
  have FY := fun W => hid (refFree_any (mkS y) W (by rw [mkS_size]; omega))
  rw [mkS_data] at FY
  obtain ⟨o, ho⟩ : ∃ o, o = keepsO M (mostN M) := ⟨_, rfl⟩
  rw [← ho] at K2
  have HFY := hid (show o = none → freeB y = true from fun h => (pw_free hmap hov (ho.symm.trans h) 2 _ y hone (free_one _) hy1).2)
  obtain ⟨fy, hfy⟩ : ∃ fy, fy = freeB y := ⟨_, rfl⟩
  rw [← hfy] at FY HFY
  have hxs := mkS_size x
  have hys := mkS_size y
  have HC := hid hc
  have HEX := hid (fun (W : World) => (show Strs (W.alloc (.cells #[.string ⟨#[97, 98, 99, 97, 98]⟩, .string ⟨#[97, 99, 97, 98, 99, 98]⟩, .string ⟨#[97, 99, 98, 99, 97, 99, 98]⟩] 9)) (some ⟨W.heap.size, 0, none⟩) mEx from vals_new W #[strV [97, 98, 99, 97, 98], strV [97, 99, 97, 98, 99, 98], strV [97, 99, 98, 99, 97, 99, 98]] 9 [strV [97, 98, 99, 97, 98], strV [97, 99, 97, 98, 99, 98], strV [97, 99, 98, 99, 97, 99, 98]] rfl))
  have HWB := hid ((Below.refl _ w).alloc (Nat.le_refl _) (.cells #[.string ⟨#[97, 98, 99, 97, 98]⟩, .string ⟨#[97, 99, 97, 98, 99, 98]⟩, .string ⟨#[97, 99, 98, 99, 97, 99, 98]⟩] 9))
  clear hst hlen hle hcap hel hm0 hM hmap hov hx hc hone hxf hy1 ho hfy hk
  go_enter Try.func17, Try.ntmps17
  go_wp2_with fail
  refine (P1 _ _ (HEX.out w)).out.mono ?_
  rintro e w1 ⟨rfl, hb1⟩
  have HV1 := hid ((HEX.out w).below hb1 (Nat.le_refl _))
  have hb1 := HWB.out.trans (hb1.mono HWB.out.size)
  simp only [valP]
  go_wp2_with fail
  refine (K1 _ _ HV1.out).out.mono ?_
  rintro e w2 ⟨rfl, hb2⟩
  have hb2 := hb1.trans (hb2.mono hb1.size)
  simp only [valK]
  go_wp2_with fail
  refine (FX _).out.mono ?_
  rintro e w3 ⟨rfl, hb3⟩
  have hb3 := hb2.trans (hb3.mono hb2.size)
  go_wp2_with fail
  refine (MP _ (HST.out.below hb3 (Nat.le_refl _))).out.mono ?_
  rintro e w4 ⟨a1, c1, rfl, hv1, hn1, hc1, hb4⟩
  have hb4 := hb3.trans (hb4.mono hb3.size)
  rw [hml] at hc1 ⊢
  have HV4 := hid hv1
  have HC1 := hid hc1
  clear hv1 hn1 hc1 hb1 hb2 hb3
  go_wp2_with fail
  refine (K2 a1 c1 _ HV4.out).out.mono ?_
  rintro e w5 ⟨rfl, hb5⟩
  have HV5 := hid (HV4.out.below hb5 (Nat.le_refl _))
  have hb5 := hb4.trans (hb5.mono hb4.size)
  cases o with
  | some z =>
    simp only [valK]
    go_wp2_with fail
    refine (awake_any _).mono ?_
    rintro e w9 ⟨rfl, hb9⟩
    go_wp2_with fail
    go_ret
    exact ⟨rfl, hb5.trans (hb9.mono hb5.size)⟩
  | none =>
    simp only [valK]
    have hfyt := HFY.out rfl
    subst hfyt
    go_wp2_with fail
    refine (P2 a1 c1 _ HC1.out HV5.out).out.mono ?_
    rintro e w6 ⟨rfl, hb6⟩
    have hb6 := hb5.trans (hb6.mono hb5.size)
    simp only [valP]
    go_wp2_with fail
    refine (FY _).out.mono ?_
    rintro e w7 ⟨rfl, hb7⟩
    have hb7 := hb6.trans (hb7.mono hb6.size)
    go_wp2_with fail
    refine (awake_any _).mono ?_
    rintro e w9 ⟨rfl, hb9⟩
    go_wp2_with fail
    go_ret
    exact ⟨rfl, hb7.trans (hb9.mono hb7.size)⟩
end Go.Proofs.Ytancficmkkdnfaa
