/-
  The law MarksSteps, walked.
-/
import Derived.Test.YtancficmkkdnfaaLawWhole
import Derived.Deep.RegionHeld3
namespace Go.Proofs.Ytancficmkkdnfaa
open Go.RowKit
attribute [local go_sem] Oper.semAt_some

theorem pw_next (m : List (List UInt8)) : ∀ (t : Nat) (s : List UInt8), pw m (t + 1) s = (pw m t s).bind fun x => if 2000 < (imgW m x).length then none else some (imgW m x) := by
  intro t
  induction t with
  | zero => intro s; rfl
  | succ t ih =>
    intro s
    rw [pw]
    split
    · rename_i h; rw [pw, if_pos h]; rfl
    · rename_i h; rw [ih, pw, if_neg h]

theorem cell_lt {w : World} {b o : Nat} {v : Value} (h : w.cell? ⟨b, o, none⟩ = some v) : b < w.heap.size := by
  rcases Nat.lt_or_ge b w.heap.size with h1 | h1
  · exact h1
  · simp [World.cell?, Array.getElem?_eq_none h1] at h

set_option maxRecDepth 100000 in
set_option maxHeartbeats 1000000 in
theorem steps_walk (a0 : Option Addr) (len cap : Nat) (ss : List ByteArray) (f : Nat → ByteArray) (t0 : Int) (w : World) (h0 : IsStrs w a0 len cap ss) (hf : ∀ c, (f c).size ≤ maxLen) (ht : -9223372036854775808 ≤ t0 ∧ t0 ≤ 9223372036854775807) :
    Calls Try.prog 18 #[.slice a0 len cap, .agg #[.string (f 0), .string (f 1)], .int .i64 t0] w fun e w' => e = .returned (.bool true) ∧ Below w.heap.size w w' := by
  have hmx : maxLen ≤ 9223372036854775807 := by decide
  obtain ⟨hst, hlen, -, hle, hcap, hel⟩ := h0.strs
  obtain ⟨m0, hm0⟩ : ∃ m0, m0 = (ss.take len).map (·.data.toList) := ⟨_, rfl⟩
  rw [← hm0] at hst hlen hel
  have HST := hid hst
  have MP := fun W (hW : Strs W a0 m0) => hid (maps_any a0 cap 3 m0 W hW (by omega) (by omega) (by omega) (fun x hx => Nat.le_trans (hel x hx) hmx))
  rw [hlen] at MP
  have hmap := mapsL_ok 3 m0 (by omega) (by omega)
  have hov : Over3 (mapsL 3 m0) := mapsL_over 3 m0 (by omega) (by omega)
  have hml := mapsL_len 3 m0
  obtain ⟨M, hM⟩ : ∃ M, M = mapsL 3 m0 := ⟨_, rfl⟩
  rw [← hM] at MP hmap hml hov
  have p0 := tame_over 40 3 (f 0).data.toList (by omega) (by omega)
  have p1 := tame_over 40 3 (f 1).data.toList (by omega) (by omega)
  have n0 := tame_len 40 3 (f 0).data.toList
  have n1 := tame_len 40 3 (f 1).data.toList
  obtain ⟨A, hA⟩ : ∃ A, A = tameL 40 3 (f 0).data.toList := ⟨_, rfl⟩
  obtain ⟨B, hB⟩ : ∃ B, B = tameL 40 3 (f 1).data.toList := ⟨_, rfl⟩
  rw [← hA] at p0 n0
  rw [← hB] at p1 n1
  have hf0 := hf 0
  have hf1 := hf 1
  have HA := hid hA
  have HBB := hid hB
  have p2 : overB 3 (A ++ B) = true := by rw [overB_append, p0, p1]; rfl
  have IA := fun a c W (hW : Strs W a M) => image_ok a c M A hmap p0 (by omega) W hW
  have IB := fun a c W (hW : Strs W a M) => image_ok a c M B hmap p1 (by omega) W hW
  have IAB := fun a c W (hW : Strs W a M) => image_ok a c M (A ++ B) hmap p2 (by rw [List.length_append]; omega) W hW
  rw [imgW_append, ← mkS_append (imgW M A), ← mkS_append A] at IAB
  have m1 := fun W => hid (mod_any t0 3 W (by omega) (by omega) ht)
  have l1 := modN_lt t0 3 (by omega)
  obtain ⟨n, hn⟩ : ∃ n, n = modN t0 3 := ⟨_, rfl⟩
  rw [← hn] at m1 l1
  have H3 := (o3_iff _).2 hov
  have PW := fun (t : Nat) (ht : t ≤ 40) a c W (hc : 3 ≤ c) (hW : Strs W a M) => hid (Power_yes a c M 1 t W hW hmap hc H3 (by omega) ht)
  have hone : overB 3 [UInt8.ofNat (97 + 1)] = true := by decide
  have hnx := pw_next M n [UInt8.ofNat (97 + 1)]
  have hwx := fun x (hx : pw M n [UInt8.ofNat (97 + 1)] = some x) => pw_len M n _ x (by simp) hx
  have hox : ∀ t s x, overB 3 s = true → pw M t s = some x → overB 3 x = true := by
    intro t
    induction t with
    | zero => intro s x h1 h; cases h; exact h1
    | succ t ih =>
      intro s x h1 h
      rw [pw] at h
      split at h
      · exact nomatch h
      · exact ih _ x (imgW_over hmap hov h1) h
  replace hox := hox n [UInt8.ofNat (97 + 1)]
  have IX := fun x (hx : overB 3 x = true) (hl : x.length ≤ 120) a c W (hW : Strs W a M) => image_ok a c M x hmap hx hl W hW
  have hil := fun x (hx : overB 3 x = true) => imgW_len hmap hx
  have sA := imgW_len hmap p0
  have sB := imgW_len hmap p1
  have P1 := PW n (by omega)
  have P2 := PW (n + 1) (by omega)
  rw [hnx] at P2
  rw [show (97 + ((1 : Nat) : Int)) = 98 from rfl] at P1 P2
  rw [show ((n + 1 : Nat) : Int) = (n : Int) + 1 by omega] at P2
  obtain ⟨o, ho⟩ : ∃ o, o = pw M n [UInt8.ofNat (97 + 1)] := ⟨_, rfl⟩
  rw [← ho] at P1 P2
  have HOX := hid (fun x (h : o = some x) => And.intro (hox x hone (ho.symm.trans h)) (hwx x (ho.symm.trans h)))
  have HIL := hid hil
  have HMAP := hid hmap
  obtain ⟨iA, hiA⟩ : ∃ iA, iA = imgW M A := ⟨_, rfl⟩
  obtain ⟨iB, hiB⟩ : ∃ iB, iB = imgW M B := ⟨_, rfl⟩
  rw [← hiA] at IA IAB sA
  rw [← hiB] at IB IAB sB
  have zA := mkS_size A
  have zB := mkS_size B
  have yA := mkS_size iA
  have yB := mkS_size iB
  have hself := hid (fun (u : ByteArray) => (by simp : (u.toList == u.toList) = true))
  clear hst hlen hle hcap hel hm0 hM hA hB hn hnx hwx hox hil ho hiA hiB PW H3 p0 p1 p2 hov hmap hf
  have hbl := Blk.new w #[.string (f 0), .string (f 1)] 74
  have hbw : Below w.heap.size w (w.alloc (.cells #[.string (f 0), .string (f 1)] 74)) := (Below.refl _ w).alloc (Nat.le_refl _) _
  have HBL := hid hbl
  have HBW := hid hbw
  clear hbl hbw
  go_enter Try.func18, Try.ntmps18
  go_wp2_with fail
  refine (MP _ (HST.out.below HBW.out (Nat.le_refl _))).out.mono ?_
  rintro e w1 ⟨a1, cc, rfl, hv1, hn1, hc1, hb1⟩
  rw [hml] at hc1 ⊢
  have hbl1 := HBL.out.below hb1 (by simp)
  have c0 := hbl1.cell 0
  have c1 := hbl1.cell 1
  simp only [List.getElem?_toArray, List.getElem?_cons_zero, List.getElem?_cons_succ] at c0 c1
  replace hb1 := HBW.out.trans (hb1.mono HBW.out.size)
  have HV1 := hid hv1
  have HC1 := hid hc1
  clear hv1 hn1 hc1 hbl1
  go_wp2_with fail
  have TT := fun (s : ByteArray) (W : World) (hs : s.size ≤ maxLen) (h0 : W.cell? ⟨w.heap.size, 0, none⟩ = some (.string (f 0))) (h1 : W.cell? ⟨w.heap.size, 1, none⟩ = some (.string (f 1))) => hid ((tame_any s 40 3 W (by omega) (by omega) (by omega) (Nat.le_trans hs hmx)).mono (R' := fun e w' => e = .returned (.string (mkS (tameL 40 3 s.data.toList))) ∧ Below W.heap.size W w' ∧ w'.cell? ⟨w.heap.size, 0, none⟩ = some (.string (f 0)) ∧ w'.cell? ⟨w.heap.size, 1, none⟩ = some (.string (f 1))) fun e w' h => ⟨h.1, h.2, (h.2.cell (cell_lt h0)).trans h0, (h.2.cell (cell_lt h1)).trans h1⟩)
  have TH := hid TT
  replace IA := hid IA
  replace IB := hid IB
  replace IAB := hid IAB
  replace m1 := hid m1
  replace P1 := hid P1
  replace P2 := hid P2
  replace IX := hid IX
  have HN := hid (And.intro (And.intro n0 n1) (And.intro (And.intro sA sB) (And.intro (And.intro zA zB) (And.intro yA yB))))
  have HB1 := hid hb1
  have HL1 := hid l1
  have HS0 := hid h0
  have HMX := hid hmx
  clear TT n0 n1 sA sB zA zB yA yB hb1 l1 h0 hmx MP hml hone HBL HBW ht HST
  go_region_held3 (fun W' => W'.cell? ⟨w.heap.size, 0, none⟩ = some (.string (f 0)) ∧ W'.cell? ⟨w.heap.size, 1, none⟩ = some (.string (f 1))) (go_keep)
    (first | (go_at_call 27; refine ((TH.out _ _ ?_ ?_ ?_).out).mono ?_; assumption; assumption; assumption; rintro e w5 ⟨rfl, hb5, s0, s1⟩))
  have h5a := ‹Below w1.drew.heap.size w1.drew _›
  have h5 : Below w1.heap.size w1 w5 := (Below.refl _ w1).drew.trans (h5a.trans (hb5.mono h5a.size))
  have HV5 := hid (HV1.out.below h5 (Nat.le_refl _))
  have H5 := hid (HB1.out.trans (h5.mono HB1.out.size))
  have hn3 := HL1.out
  obtain ⟨⟨n0, n1⟩, ⟨sA, sB⟩, ⟨zA, zB⟩, yA, yB⟩ := HN.out
  have hc1 : ¬ 9223372036854775807 < (mkS A).size + (mkS B).size := by omega
  have hc2 : ¬ 9223372036854775807 < (mkS iA).size + (mkS iB).size := by omega
  have hse := hself.out (mkS iA ++ mkS iB)
  rw [← HA.out, ← HBB.out]
  clear h5 h5a hb5 s0 s1 c0 c1 HN n0 n1 sA sB zA zB yA yB
  go_wp2_with fail
  refine (IA.out a1 cc _ HV5.out).out.mono ?_
  rintro e w6 ⟨rfl, hb6⟩
  have HV6 := hid (HV5.out.below hb6 (Nat.le_refl _))
  replace hb6 := H5.out.trans (hb6.mono H5.out.size)
  go_wp2_with fail
  refine (IB.out a1 cc _ HV6.out).out.mono ?_
  rintro e w7 ⟨rfl, hb7⟩
  have HV7 := hid (HV6.out.below hb7 (Nat.le_refl _))
  replace hb7 := hb6.trans (hb7.mono hb6.size)
  go_wp2_with fail
  refine (IAB.out a1 cc _ HV7.out).out.mono ?_
  rintro e w8 ⟨rfl, hb8⟩
  have HV8 := hid (HV7.out.below hb8 (Nat.le_refl _))
  replace hb8 := hb7.trans (hb8.mono hb7.size)
  go_wp2_with fail
  refine (m1.out _).out.mono ?_
  rintro e w9 ⟨rfl, rfl⟩
  go_wp2_with fail
  refine (P1.out a1 cc _ HC1.out HV8.out).out.mono ?_
  rintro e w10 ⟨rfl, hb10⟩
  have HV10 := hid (HV8.out.below hb10 (Nat.le_refl _))
  replace hb10 := hb8.trans (hb10.mono hb8.size)
  clear hb6 hb7 hb8
  cases o with
  | none =>
    simp only [valP, Option.bind_none] at P2 ⊢
    go_wp2_with fail
    refine (P2.out a1 cc _ HC1.out HV10.out).out.mono ?_
    rintro e w11 ⟨rfl, hb11⟩
    replace hb11 := hb10.trans (hb11.mono hb10.size)
    go_wp2_with fail
    refine (awake_any _).mono ?_
    rintro e w12 ⟨rfl, hb12⟩
    go_wp2_with fail
    go_ret
    exact ⟨rfl, hb11.trans (hb12.mono hb11.size)⟩
  | some x =>
    simp only [valP, Option.bind_some] at P2 ⊢
    obtain ⟨hx1, hx2⟩ := HOX.out x rfl
    have hxs := mkS_size x
    have hil := HIL.out x hx1
    have I3 := fun h => hid (IX.out x hx1 h)
    obtain ⟨u, hu⟩ : ∃ u, u = imgW M x := ⟨_, rfl⟩
    rw [← hu] at P2 I3 hil
    have hus := mkS_size u
    have hsu := hself.out (mkS u)
    clear hu
    by_cases h120 : 120 < x.length
    · have hd : decide ((x.length : Int) > 120) = true := decide_eq_true (by omega)
      clear I3
      by_cases hlong : 2000 < u.length
      · rw [if_pos hlong] at P2
        simp only [] at P2
        go_wp2_with fail
        refine (P2.out a1 cc _ HC1.out HV10.out).out.mono ?_
        rintro e w11 ⟨rfl, hb11⟩
        replace hb11 := hb10.trans (hb11.mono hb10.size)
        go_wp2_with fail
        refine (awake_any _).mono ?_
        rintro e w12 ⟨rfl, hb12⟩
        go_wp2_with fail
        go_ret
        exact ⟨rfl, hb11.trans (hb12.mono hb11.size)⟩
      · rw [if_neg hlong] at P2
        simp only [] at P2
        go_wp2_with fail
        refine (P2.out a1 cc _ HC1.out HV10.out).out.mono ?_
        rintro e w11 ⟨rfl, hb11⟩
        replace hb11 := hb10.trans (hb11.mono hb10.size)
        go_wp2_with fail
        refine (awake_any _).mono ?_
        rintro e w12 ⟨rfl, hb12⟩
        go_wp2_with fail
        go_ret
        exact ⟨rfl, hb11.trans (hb12.mono hb11.size)⟩
    · have hd : decide ((x.length : Int) > 120) = false := decide_eq_false (by omega)
      have I4 := I3 (by omega)
      clear I3
      by_cases hlong : 2000 < u.length
      · rw [if_pos hlong] at P2
        simp only [] at P2
        have hd2 : decide ((u.length : Int) > 2000) = true := decide_eq_true (by omega)
        go_wp2_with fail
        refine (P2.out a1 cc _ HC1.out HV10.out).out.mono ?_
        rintro e w11 ⟨rfl, hb11⟩
        have HV11 := hid (HV10.out.below hb11 (Nat.le_refl _))
        replace hb11 := hb10.trans (hb11.mono hb10.size)
        go_wp2_with fail
        refine (I4.out a1 cc _ HV11.out).out.mono ?_
        rintro e w12 ⟨rfl, hb12⟩
        replace hb12 := hb11.trans (hb12.mono hb11.size)
        go_wp2_with fail
        refine (awake_any _).mono ?_
        rintro e w13 ⟨rfl, hb13⟩
        go_wp2_with fail
        go_ret
        exact ⟨rfl, hb12.trans (hb13.mono hb12.size)⟩
      · rw [if_neg hlong] at P2
        simp only [] at P2
        go_wp2_with fail
        refine (P2.out a1 cc _ HC1.out HV10.out).out.mono ?_
        rintro e w11 ⟨rfl, hb11⟩
        have HV11 := hid (HV10.out.below hb11 (Nat.le_refl _))
        replace hb11 := hb10.trans (hb11.mono hb10.size)
        go_wp2_with fail
        refine (I4.out a1 cc _ HV11.out).out.mono ?_
        rintro e w12 ⟨rfl, hb12⟩
        replace hb12 := hb11.trans (hb12.mono hb11.size)
        go_wp2_with fail
        refine (awake_any _).mono ?_
        rintro e w13 ⟨rfl, hb13⟩
        go_wp2_with fail
        go_ret
        exact ⟨rfl, hb12.trans (hb13.mono hb12.size)⟩
end Go.Proofs.Ytancficmkkdnfaa
