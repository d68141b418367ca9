/-
  The law MarksImages, walked.
-/
import Derived.Test.YtancficmkkdnfaaQ
import Derived.Test.YtancficmkkdnfaaLawKept
namespace Go.Proofs.Ytancficmkkdnfaa
open Go.RowKit
attribute [local go_sem] Oper.semAt_some

def valI (b : Bool) (m : List (List UInt8)) (l : List UInt8) : Value := if b then .tuple #[.string (mkS (imgW m l)), .int .i64 0] else .tuple #[.string ⟨#[]⟩, .int .i64 2]

set_option maxRecDepth 100000 in
set_option maxHeartbeats 4000000 in
theorem images_walk (a0 : Option Addr) (len cap : Nat) (ss : List ByteArray) (s0 : ByteArray) (w : World) (h0 : IsStrs w a0 len cap ss) (hs : s0.size ≤ maxLen) :
    Calls Try.prog 6 #[.slice a0 len cap, .string s0] w fun e w' => e = .returned (.bool true) ∧ Below w.heap.size w w' := by
  have hmx : maxLen ≤ 9223372036854775807 := by decide
  obtain ⟨hst, hlen, -, hle, hcap, hel⟩ := h0.strs
  obtain ⟨m0, hm0⟩ : ∃ m0, m0 = (ss.take len).map (·.data.toList) := ⟨_, rfl⟩
  rw [← hm0] at hst hlen hel
  have MP := hid (images_any a0 cap m0 w hst (by omega) (fun x hx => Nat.le_trans (hel x hx) hmx))
  rw [hlen] at MP
  have hMl := imagesL_len m0
  have hMe := imagesL_each m0
  obtain ⟨M, hM⟩ : ∃ M, M = imagesL m0 := ⟨_, rfl⟩
  rw [← hM] at MP hMl hMe
  have hsz := short_size s0
  have SH := fun W => hid (short_any s0 W (by omega))
  obtain ⟨s, hse⟩ : ∃ s, s = s0.extract 0 (min s0.size 121) := ⟨_, rfl⟩
  rw [← hse] at SH hsz
  have IM := fun a c W (hW : Strs W a M) => hid (Image_any a c M s W hW (by omega) (fun x hx => Nat.le_trans (hMe x hx) (by omega)) (by omega))
  have KE := fun a c W (hW : Strs W a M) => hid (Keeps_any a c M W hW (by omega) (fun x hx => Nat.le_trans (hMe x hx) (by omega)))
  have RM := fun a c W (hW : Strs W a M) => hid (refMap_any a c M W hW (by omega) (fun x hx => Nat.le_trans (hMe x hx) (by omega)))
  have RW := fun W => hid (refWord_any s W (by omega))
  have LT := fun W => hid (Letters_any s 3 W (by omega) (by omega))
  clear hst hlen hle hcap hel hm0 hM hse h0 hs hMe
  cases hmap : mapB M with
  | false =>
    have hio : imageOk M s.data.toList = false := by rw [imageOk, hmap]; rfl
    unfold RetImage at IM
    unfold RetKeeps at KE
    rw [hio] at IM
    rw [hmap] at KE RM
    simp only [Bool.false_eq_true, if_false] at IM KE
    obtain ⟨q, hq⟩ : ∃ q, q = M.length := ⟨_, rfl⟩
    rw [← hq] at IM KE RM
    have HQ := hid hq
    clear hmap hio hq hMl
    go_enter Try.func6, Try.ntmps6
    go_wp2_with fail
    refine MP.out.mono ?_
    rintro e w1 ⟨a1, c1, rfl, hv1, hn1, hc1, hb1⟩
    rw [← HQ.out]
    have HV1 := hid hv1
    clear hv1 hn1 hc1
    go_wp2_with fail
    refine (SH _).out.mono ?_
    rintro e w2 ⟨rfl, rfl⟩
    go_wp2_with fail
    refine (IM a1 c1 _ HV1.out).out.mono ?_
    rintro e w3 ⟨rfl, hb3⟩
    have HV3 := hid (HV1.out.below hb3 (Nat.le_refl _))
    have hb3 := hb1.trans (hb3.mono hb1.size)
    go_wp2_with fail
    refine (KE a1 c1 _ HV3.out).out.mono ?_
    rintro e w4 ⟨rfl, hb4⟩
    have HV4 := hid (HV3.out.below hb4 (Nat.le_refl _))
    have hb4 := hb3.trans (hb4.mono hb3.size)
    go_wp2_with fail
    refine (RM a1 c1 _ HV4.out).out.mono ?_
    rintro e w5 ⟨rfl, hb5⟩
    have hb5 := hb4.trans (hb5.mono hb4.size)
    go_wp2_with fail
    refine (awake_any _).mono ?_
    rintro e w9 ⟨rfl, hb9⟩
    go_wp2_with fail
    go_ret
    exact ⟨rfl, hb5.trans (hb9.mono hb5.size)⟩
  | true =>
    have h3 := (map_len hmap).1
    have RK := fun a c W (hW : Strs W a M) => hid (refKeeps_any a c M W hW hmap)
    rw [keeps_same hmap] at RK
    have hio : imageOk M s.data.toList = (wordB s.data.toList && overB 3 s.data.toList) := by rw [imageOk, hmap]; rfl
    unfold RetImage at IM
    unfold RetKeeps at KE
    rw [hio] at IM
    rw [hmap] at KE RM
    simp only [if_true] at KE
    rw [h3] at IM KE RM
    have HMAP := hid hmap
    have RI := fun (hw : wordB s.data.toList = true) (ho : overB 3 s.data.toList = true) a c W (hW : Strs W a M) => hid (refImage_any a c M s W hW HMAP.out (by omega) ho)
    obtain ⟨im, him⟩ : ∃ im, im = imgW M s.data.toList := ⟨_, rfl⟩
    rw [← him] at IM RI
    obtain ⟨b1, hb1'⟩ : ∃ b1, b1 = wordB s.data.toList := ⟨_, rfl⟩
    obtain ⟨b2, hb2'⟩ : ∃ b2, b2 = overB 3 s.data.toList := ⟨_, rfl⟩
    rw [← hb1', ← hb2'] at IM RI
    rw [← hb1'] at RW
    rw [← hb2'] at LT
    obtain ⟨o, ho⟩ : ∃ o, o = keepsO M (mostN M) := ⟨_, rfl⟩
    rw [← ho] at KE RK
    have H3 := hid h3
    have hself : ∀ l : List UInt8, ((mkS l).toList == (mkS l).toList) = true := bytes_self
    have hsi := hself im
    have hso := fun x => hself x
    clear hmap hio h3 him hb1' hb2' ho hMl hself
    go_enter Try.func6, Try.ntmps6
    go_wp2_with fail
    refine MP.out.mono ?_
    rintro e w1 ⟨a1, c1, rfl, hv1, hn1, hc1, hb1⟩
    rw [H3.out]
    have HV1 := hid hv1
    clear hv1 hn1 hc1
    go_wp2_with fail
    refine (SH _).out.mono ?_
    rintro e w2 ⟨rfl, rfl⟩
    go_wp2_with fail
    cases hbb : (b1 && b2) with
    | true =>
      have h1 : b1 = true := by cases b1 <;> simp_all
      have h2 : b2 = true := by cases b2 <;> simp_all
      subst h1 h2
      simp only [Bool.and_self, if_true] at IM
      refine (IM a1 c1 _ HV1.out).out.mono ?_
      rintro e w3 ⟨rfl, hb3⟩
      have HV3 := hid (HV1.out.below hb3 (Nat.le_refl _))
      have hb3 := hb1.trans (hb3.mono hb1.size)
      go_wp2_with fail
      refine (KE a1 c1 _ HV3.out).out.mono ?_
      rintro e w4 ⟨rfl, hb4⟩
      have HV4 := hid (HV3.out.below hb4 (Nat.le_refl _))
      have hb4 := hb3.trans (hb4.mono hb3.size)
      have RI := RI (by first | rfl | trivial) (by first | rfl | trivial)
      clear hbb hb1 hb3
      cases o with
      | none =>
        simp only [valK, valKR] at RK ⊢
        go_wp2_with fail
        refine (RM a1 c1 _ HV4.out).out.mono ?_
        rintro e w5 ⟨rfl, hb5⟩
        have HV5 := hid (HV4.out.below hb5 (Nat.le_refl _))
        have hb5 := hb4.trans (hb5.mono hb4.size)
        go_wp2_with fail
        refine (RK a1 c1 _ HV5.out).out.mono ?_
        rintro e w6 ⟨rfl, hb6⟩
        have HV6 := hid (HV5.out.below hb6 (Nat.le_refl _))
        have hb6 := hb5.trans (hb6.mono hb5.size)
        go_wp2_with fail
        refine (RW _).out.mono ?_
        rintro e w7 ⟨rfl, rfl⟩
        go_wp2_with fail
        refine (LT _).out.mono ?_
        rintro e w7 ⟨rfl, rfl⟩
        go_wp2_with fail
        refine (RI a1 c1 _ HV6.out).out.mono ?_
        rintro e w7 ⟨rfl, hb7⟩
        have hb7 := hb6.trans (hb7.mono hb6.size)
        go_wp2_with fail
        refine (awake_any _).mono ?_
        rintro e w9 ⟨rfl, hb9⟩
        go_wp2_with fail
        go_ret
        exact ⟨rfl, hb7.trans (hb9.mono hb7.size)⟩
      | some x =>
        simp only [valK, valKR] at RK ⊢
        have hsx := hso x
        go_wp2_with fail
        refine (RM a1 c1 _ HV4.out).out.mono ?_
        rintro e w5 ⟨rfl, hb5⟩
        have HV5 := hid (HV4.out.below hb5 (Nat.le_refl _))
        have hb5 := hb4.trans (hb5.mono hb4.size)
        go_wp2_with fail
        refine (RK a1 c1 _ HV5.out).out.mono ?_
        rintro e w6 ⟨rfl, hb6⟩
        have HV6 := hid (HV5.out.below hb6 (Nat.le_refl _))
        have hb6 := hb5.trans (hb6.mono hb5.size)
        go_wp2_with fail
        refine (RW _).out.mono ?_
        rintro e w7 ⟨rfl, rfl⟩
        go_wp2_with fail
        refine (LT _).out.mono ?_
        rintro e w7 ⟨rfl, rfl⟩
        go_wp2_with fail
        refine (RI a1 c1 _ HV6.out).out.mono ?_
        rintro e w7 ⟨rfl, hb7⟩
        have hb7 := hb6.trans (hb7.mono hb6.size)
        go_wp2_with fail
        refine (awake_any _).mono ?_
        rintro e w9 ⟨rfl, hb9⟩
        go_wp2_with fail
        go_ret
        exact ⟨rfl, hb7.trans (hb9.mono hb7.size)⟩
    | false =>
      rw [hbb] at IM
      simp only [Bool.false_eq_true, if_false] at IM
      have hcase : b1 = false ∨ (b1 = true ∧ b2 = false) := by cases b1 <;> simp_all
      refine (IM a1 c1 _ HV1.out).out.mono ?_
      rintro e w3 ⟨rfl, hb3⟩
      have HV3 := hid (HV1.out.below hb3 (Nat.le_refl _))
      have hb3 := hb1.trans (hb3.mono hb1.size)
      go_wp2_with fail
      refine (KE a1 c1 _ HV3.out).out.mono ?_
      rintro e w4 ⟨rfl, hb4⟩
      have HV4 := hid (HV3.out.below hb4 (Nat.le_refl _))
      have hb4 := hb3.trans (hb4.mono hb3.size)
      clear hbb hb1 hb3 RI
      cases o with
      | none =>
        simp only [valK, valKR] at RK ⊢
        go_wp2_with fail
        refine (RM a1 c1 _ HV4.out).out.mono ?_
        rintro e w5 ⟨rfl, hb5⟩
        have HV5 := hid (HV4.out.below hb5 (Nat.le_refl _))
        have hb5 := hb4.trans (hb5.mono hb4.size)
        go_wp2_with fail
        refine (RK a1 c1 _ HV5.out).out.mono ?_
        rintro e w6 ⟨rfl, hb6⟩
        have hb6 := hb5.trans (hb6.mono hb5.size)
        go_wp2_with fail
        refine (RW _).out.mono ?_
        rintro e w7 ⟨rfl, rfl⟩
        rcases hcase with rfl | ⟨rfl, rfl⟩
        · go_wp2_with fail
          refine (awake_any _).mono ?_
          rintro e w9 ⟨rfl, hb9⟩
          go_wp2_with fail
          go_ret
          exact ⟨rfl, hb6.trans (hb9.mono hb6.size)⟩
        · go_wp2_with fail
          refine (LT _).out.mono ?_
          rintro e w7 ⟨rfl, rfl⟩
          go_wp2_with fail
          refine (awake_any _).mono ?_
          rintro e w9 ⟨rfl, hb9⟩
          go_wp2_with fail
          go_ret
          exact ⟨rfl, hb6.trans (hb9.mono hb6.size)⟩
      | some x =>
        simp only [valK, valKR] at RK ⊢
        have hsx := hso x
        go_wp2_with fail
        refine (RM a1 c1 _ HV4.out).out.mono ?_
        rintro e w5 ⟨rfl, hb5⟩
        have HV5 := hid (HV4.out.below hb5 (Nat.le_refl _))
        have hb5 := hb4.trans (hb5.mono hb4.size)
        go_wp2_with fail
        refine (RK a1 c1 _ HV5.out).out.mono ?_
        rintro e w6 ⟨rfl, hb6⟩
        have hb6 := hb5.trans (hb6.mono hb5.size)
        go_wp2_with fail
        refine (RW _).out.mono ?_
        rintro e w7 ⟨rfl, rfl⟩
        rcases hcase with rfl | ⟨rfl, rfl⟩
        · go_wp2_with fail
          refine (awake_any _).mono ?_
          rintro e w9 ⟨rfl, hb9⟩
          go_wp2_with fail
          go_ret
          exact ⟨rfl, hb6.trans (hb9.mono hb6.size)⟩
        · go_wp2_with fail
          refine (LT _).out.mono ?_
          rintro e w7 ⟨rfl, rfl⟩
          go_wp2_with fail
          refine (awake_any _).mono ?_
          rintro e w9 ⟨rfl, hb9⟩
          go_wp2_with fail
          go_ret
          exact ⟨rfl, hb6.trans (hb9.mono hb6.size)⟩
end Go.Proofs.Ytancficmkkdnfaa
