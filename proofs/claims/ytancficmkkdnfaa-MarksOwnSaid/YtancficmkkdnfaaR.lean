/-
  Walks: Power, the reference's Power.
-/
import Derived.Test.YtancficmkkdnfaaQ
namespace Go.Proofs.Ytancficmkkdnfaa
open Go.RowKit
attribute [local go_sem] Oper.semAt_some

/-- The image of the image of .. of a word, while it is not too long. -/
def pw (m : List (List UInt8)) : Nat → List UInt8 → Option (List UInt8)
  | 0, s => some s
  | t + 1, s => if 2000 < (imgW m s).length then none else pw m t (imgW m s)
def valP (o : Option (List UInt8)) : Value := match o with | some x => .tuple #[.string (mkS x), .int .i64 0] | none => .tuple #[.string ⟨#[]⟩, .int .i64 2]
theorem valP_eq {a b : Option (List UInt8)} (h : a = b) : Ending.returned (valP a) = .returned (valP b) := by rw [h]
def Over3 (m : List (List UInt8)) : Prop := ∀ x ∈ m, overB 3 x = true
theorem imgW_over {m : List (List UInt8)} (hm : mapB m = true) (h : Over3 m) {l : List UInt8} (hl : overB 3 l = true) : overB 3 (imgW m l) = true := by
  induction l with
  | nil => rfl
  | cons c l ih =>
    rw [imgW_cons, overB_append]
    have h1 := overB_mem hl (List.mem_cons_self ..)
    obtain ⟨x, hx1, hx2, -⟩ := (map_len hm).2 (c.toNat - 97) (by omega)
    have h2 : overB 3 (imgL m c) = true := by unfold imgL; rw [hx2]; exact h x (List.mem_of_getElem? hx1)
    rw [h2, ih (by rw [overB_cons, Bool.and_eq_true] at hl; exact hl.2)]; rfl
theorem join3 (x0 x1 x2 : List UInt8) : Lib.join [x0, x1, x2] [] = x0 ++ x1 ++ x2 := by simp [Lib.join]
theorem over_flat (x0 x1 x2 : List UInt8) : overB 3 (x0 ++ x1 ++ x2) = (overB 3 x0 && overB 3 x1 && overB 3 x2) := by rw [overB_append, overB_append]
theorem three_of {m : List (List UInt8)} (hm : mapB m = true) : ∃ x0 x1 x2, m = [x0, x1, x2] ∧ (x0.length ≤ 12 ∧ x1.length ≤ 12 ∧ x2.length ≤ 12) := by
  obtain ⟨h1, h2⟩ := map_len hm
  obtain ⟨x0, a0, -, -, b0, -⟩ := h2 0 (by omega)
  obtain ⟨x1, a1, -, -, b1, -⟩ := h2 1 (by omega)
  obtain ⟨x2, a2, -, -, b2, -⟩ := h2 2 (by omega)
  refine ⟨x0, x1, x2, ?_, b0, b1, b2⟩
  match m, h1 with
  | [a, b, c], _ => simp at a0 a1 a2; rw [a0, a1, a2]
/-- Are all images of the first three letters? -/
def o3 (m : List (List UInt8)) : Bool := m.all (overB 3)
theorem o3_iff (m : List (List UInt8)) : o3 m = true ↔ Over3 m := by rw [o3, List.all_eq_true]; rfl

theorem join_any (a : Option Addr) (c : Nat) (m : List (List UInt8)) (w : World) (hm : Strs w a m) (hmap : mapB m = true) (hc : 3 ≤ c) :
    ∃ J, J.data.toList.length ≤ 36 ∧ overB 3 J.data.toList = o3 m ∧ Calls Try.prog 66 #[.slice a 3 c, .string ⟨#[]⟩] w fun e w' => e = .returned (.string J) ∧ Below w.heap.size w w' := by
  obtain ⟨x0, x1, x2, rfl, h0, h1, h2⟩ := three_of hmap
  obtain ⟨g, o, rfl, hg, hcell⟩ := hm.at (by simp)
  have := Try.strings_Join g o c [mkS x0, mkS x1, mkS x2] ⟨#[]⟩ w (fun j x hx => by
    match j with
    | 0 => simp at hx; rw [← hx]; exact hcell 0 x0 rfl
    | 1 => simp at hx; rw [← hx]; exact hcell 1 x1 rfl
    | 2 => simp at hx; rw [← hx]; exact hcell 2 x2 rfl
    | j + 3 => simp at hx) hg (by simp) (by simpa using hc) (by
      show (Lib.join [x0, x1, x2] []).length ≤ _
      rw [join3]; simp; omega)
  refine ⟨⟨(Lib.join [x0, x1, x2] []).toArray⟩, ?_, ?_, this⟩
  · rw [join3]; simp; omega
  · rw [join3]; show overB 3 (x0 ++ x1 ++ x2) = _
    rw [over_flat, o3]; simp [Bool.and_assoc]

theorem pw_step (m : List (List UInt8)) (t j : Nat) (x : List UInt8) (h : j < t) : pw m (t - j) x = if 2000 < (imgW m x).length then none else pw m (t - (j + 1)) (imgW m x) := by
  rw [show t - j = (t - (j + 1)) + 1 by omega]; rfl
theorem pw_end (m : List (List UInt8)) (t j : Nat) (x : List UInt8) (h : ¬ j < t) : pw m (t - j) x = some x := by
  rw [show t - j = 0 by omega]; rfl
theorem map_small {m : List (List UInt8)} (hmap : mapB m = true) : ∀ x ∈ m, x.length ≤ 1000000 := fun x hx => by
  have h4 := List.all_eq_true.1 (by rw [mapB, Bool.and_eq_true] at hmap; exact hmap.1) x hx
  rw [imgB, Bool.and_eq_true, Bool.and_eq_true] at h4
  have : x.length ≤ 12 := by simpa using h4.1.2
  omega
theorem letS_mk (k : Nat) : letS k = mkS [UInt8.ofNat (97 + k)] := rfl

set_option maxHeartbeats 4000000 in
theorem Power_yes (a : Option Addr) (c : Nat) (m : List (List UInt8)) (k t : Nat) (w : World) (hm : Strs w a m) (hmap : mapB m = true) (hc : 3 ≤ c) (h3 : o3 m = true) (hk : k < 3) (ht : t ≤ 40) :
    Calls Try.prog 52 #[.slice a 3 c, .int .u8 (97 + (k : Int)), .int .i64 t] w fun e w' => e = .returned (valP (pw m t [UInt8.ofNat (97 + k)])) ∧ Below w.heap.size w w' := by
  have IM := hid (isMap_any a c m w hm (by have := (map_len hmap).1; omega) (map_small hmap))
  rw [(map_len hmap).1, hmap] at IM
  have JO := fun W (hW : Strs W a m) => hid (join_any a c m W hW hmap hc)
  have IG := fun x W (hW : Strs W a m) (hx : overB 3 x = true) (hl : x.length ≤ 2000) => hid (image_any a c m (mkS x) W hW hmap (by rw [mkS_size]; omega) (by rw [mkS_data]; exact hx))
  have HO := hid ((o3_iff m).1 h3)
  have H3 := hid h3
  have HMAP := hid hmap
  have HM := hid hm
  have hd1 : (decide ((0 : Int) ≤ 97 + (k : Int) - 97) && decide (97 + (k : Int) - 97 ≤ 2)) = true := by simp; omega
  have hd2 : (decide ((0 : Int) ≤ (t : Int)) && decide ((t : Int) ≤ 40)) = true := by simp; omega
  have hcv := fun W => run_letter k W (by omega)
  obtain ⟨R, hR⟩ : ∃ R, R = pw m t [UInt8.ofNat (97 + k)] := ⟨_, rfl⟩
  rw [← hR]
  have HR := hid hR
  clear hR hm hmap h3
  go_enter Try.func52, Try.ntmps52
  go_wp2_with fail
  refine IM.out.mono ?_
  rintro e w1 ⟨rfl, hb1⟩
  have HM1 := hid (HM.out.below hb1 (Nat.le_refl _))
  obtain ⟨J, hJ1, hJ2, hJ3⟩ := (JO w1 HM1.out).out
  have HJ := hid hJ3
  rw [H3.out] at hJ2
  have IO := fun W => hid (isOver_any J 3 W (by omega))
  rw [hJ2] at IO
  clear hJ2 hJ3
  go_wp2_with fail
  refine HJ.out.mono ?_
  rintro e w2 ⟨rfl, hb2⟩
  have hb2 := hb1.trans (hb2.mono hb1.size)
  go_wp2_with fail
  refine (IO _).out.mono ?_
  rintro e w3 ⟨rfl, hb3⟩
  have hb3 := hb2.trans (hb3.mono hb2.size)
  go_wp2_with fail
  refine (within_any _ _ _ _).mono ?_
  rintro e w4 ⟨rfl, rfl⟩
  rw [hd1]
  go_wp2_with fail
  refine (within_any _ _ _ _).mono ?_
  rintro e w4 ⟨rfl, rfl⟩
  rw [hd2]
  clear hb1 hb2 hd1 hd2 IM JO HJ hJ1 IO
  go_wp2_with fail
  go_loopw [8, 34] (fun v i wr => ∃ (j : Nat) (x : List UInt8), j ≤ t ∧ i = .int .i64 j ∧ v = .string (mkS x) ∧ x.length ≤ 2000 ∧ overB 3 x = true ∧ Below w.heap.size w wr ∧ Hid (R = pw m (t - j) x)) (fun _ i _ => t - (intOf i).toNat)
  case atStart => exact ⟨0, [UInt8.ofNat (97 + k)], by omega, rfl, by rw [letS_mk], by simp, by rw [overB, List.all_cons, okk_letter (by omega) hk]; rfl, hb3, HR⟩
  case round =>
    obtain ⟨j, x, hj, rfl, rfl, hxl, hxo, hB, HK⟩ := hrel
    by_cases hlt : j < t
    · have CALL := IG x wr (HM.out.below hB (Nat.le_refl _)) hxo hxl
      rw [mkS_data] at CALL
      have hno := imgW_over HMAP.out HO.out hxo
      have hil := imgW_len HMAP.out hxo
      have hst := HK.out.trans (pw_step m t j x hlt)
      obtain ⟨y, hy⟩ : ∃ y, y = imgW m x := ⟨_, rfl⟩
      rw [← hy] at CALL hno hil hst
      have hys := mkS_size y
      have HST := hid hst
      clear hst hy
      by_cases hlong : 2000 < y.length
      · have hfin : R = none := by rw [HST.out, if_pos hlong]
        have HF := hid hfin
        have hd : decide ((y.length : Int) > 2000) = true := decide_eq_true (by omega)
        clear hfin HST
        go_wp2_with fail
        refine CALL.out.mono ?_
        rintro e w5 ⟨rfl, hb5⟩
        have hB5 := hB.trans (hb5.mono hB.size)
        go_wp2_with fail
        go_ret2
        exact ⟨valP_eq HF.out.symm, hB5⟩
      · have hfin : R = pw m (t - (j + 1)) y := by rw [HST.out, if_neg hlong]
        have HF := hid hfin
        have hd : decide ((y.length : Int) > 2000) = false := decide_eq_false (by omega)
        clear hfin HST
        go_wp2_with fail
        refine CALL.out.mono ?_
        rintro e w5 ⟨rfl, hb5⟩
        have hB5 := hB.trans (hb5.mono hB.size)
        go_wp2_with fail
        exact ⟨⟨j + 1, y, by omega, by go_num, rfl, by omega, hno, hB5, HF⟩, by simp [intOf]; omega⟩
    · have hfin : R = some x := HK.out.trans (pw_end m t j x hlt)
      have HF := hid hfin
      clear hfin
      go_wp2_with fail
      go_ret2
      exact ⟨valP_eq HF.out.symm, hB⟩

set_option maxHeartbeats 1000000 in
theorem Power_no1 (a : Option Addr) (c : Nat) (m : List (List UInt8)) (L t : Int) (w : World) (hm : Strs w a m) (hL : 0 ≤ L ∧ L ≤ 255) (hs : m.length ≤ 1000000) (hs2 : ∀ x ∈ m, x.length ≤ 1000000) (h : mapB m = false) :
    Calls Try.prog 52 #[.slice a m.length c, .int .u8 L, .int .i64 t] w fun e w' => e = .returned (.tuple #[.string ⟨#[]⟩, .int .i64 2]) ∧ Below w.heap.size w w' := by
  have IM := hid (isMap_any a c m w hm hs hs2)
  rw [h] at IM
  go_enter Try.func52, Try.ntmps52
  go_wp2_with fail
  refine IM.out.mono ?_
  rintro e w1 ⟨rfl, hb1⟩
  go_wp2_with fail
  go_ret2
  exact ⟨rfl, hb1⟩

set_option maxHeartbeats 1000000 in
theorem Power_no2 (a : Option Addr) (c : Nat) (m : List (List UInt8)) (L t : Int) (w : World) (hm : Strs w a m) (hL : 0 ≤ L ∧ L ≤ 255) (hmap : mapB m = true) (hc : 3 ≤ c) (h3 : o3 m = false) :
    Calls Try.prog 52 #[.slice a m.length c, .int .u8 L, .int .i64 t] w fun e w' => e = .returned (.tuple #[.string ⟨#[]⟩, .int .i64 2]) ∧ Below w.heap.size w w' := by
  have IM := hid (isMap_any a c m w hm (by have := (map_len hmap).1; omega) (map_small hmap))
  rw [(map_len hmap).1, hmap] at IM
  have JO := fun W (hW : Strs W a m) => hid (join_any a c m W hW hmap hc)
  have HM := hid hm
  have H3 := hid h3
  have h33 := (map_len hmap).1
  rw [h33]
  clear hm hmap h3 h33
  go_enter Try.func52, Try.ntmps52
  go_wp2_with fail
  refine IM.out.mono ?_
  rintro e w1 ⟨rfl, hb1⟩
  have HM1 := hid (HM.out.below hb1 (Nat.le_refl _))
  obtain ⟨J, hJ1, hJ2, hJ3⟩ := (JO w1 HM1.out).out
  have HJ := hid hJ3
  rw [H3.out] at hJ2
  have IO := fun W => hid (isOver_any J 3 W (by omega))
  rw [hJ2] at IO
  clear hJ2 hJ3
  go_wp2_with fail
  refine HJ.out.mono ?_
  rintro e w2 ⟨rfl, hb2⟩
  have hb2 := hb1.trans (hb2.mono hb1.size)
  go_wp2_with fail
  refine (IO _).out.mono ?_
  rintro e w3 ⟨rfl, hb3⟩
  have hb3 := hb2.trans (hb3.mono hb2.size)
  go_wp2_with fail
  go_ret2
  exact ⟨rfl, hb3⟩

set_option maxHeartbeats 1000000 in
theorem Power_no3 (a : Option Addr) (c : Nat) (m : List (List UInt8)) (L t : Int) (w : World) (hm : Strs w a m) (hL : 0 ≤ L ∧ L ≤ 255) (hmap : mapB m = true) (hc : 3 ≤ c) (h3 : o3 m = true) (hno : L < 97 ∨ 99 < L) :
    Calls Try.prog 52 #[.slice a m.length c, .int .u8 L, .int .i64 t] w fun e w' => e = .returned (.tuple #[.string ⟨#[]⟩, .int .i64 2]) ∧ Below w.heap.size w w' := by
  have IM := hid (isMap_any a c m w hm (by have := (map_len hmap).1; omega) (map_small hmap))
  rw [(map_len hmap).1, hmap] at IM
  have JO := fun W (hW : Strs W a m) => hid (join_any a c m W hW hmap hc)
  have HM := hid hm
  have H3 := hid h3
  have h33 := (map_len hmap).1
  rw [h33]
  have hd1 : (decide ((0 : Int) ≤ L - 97) && decide (L - 97 ≤ 2)) = false := by
    simp only [Bool.and_eq_false_iff, decide_eq_false_iff_not]; omega
  clear hno
  clear hm hmap h3 h33
  go_enter Try.func52, Try.ntmps52
  go_wp2_with fail
  refine IM.out.mono ?_
  rintro e w1 ⟨rfl, hb1⟩
  have HM1 := hid (HM.out.below hb1 (Nat.le_refl _))
  obtain ⟨J, hJ1, hJ2, hJ3⟩ := (JO w1 HM1.out).out
  have HJ := hid hJ3
  rw [H3.out] at hJ2
  have IO := fun W => hid (isOver_any J 3 W (by omega))
  rw [hJ2] at IO
  clear hJ2 hJ3
  go_wp2_with fail
  refine HJ.out.mono ?_
  rintro e w2 ⟨rfl, hb2⟩
  have hb2 := hb1.trans (hb2.mono hb1.size)
  go_wp2_with fail
  refine (IO _).out.mono ?_
  rintro e w3 ⟨rfl, hb3⟩
  have hb3 := hb2.trans (hb3.mono hb2.size)
  go_wp2_with fail
  refine (within_any _ _ _ _).mono ?_
  rintro e w4 ⟨rfl, rfl⟩
  rw [hd1]
  go_wp2_with fail
  go_ret2
  exact ⟨rfl, hb3⟩

set_option maxHeartbeats 1000000 in
theorem Power_no4 (a : Option Addr) (c : Nat) (m : List (List UInt8)) (L t : Int) (w : World) (hm : Strs w a m) (hL : 0 ≤ L ∧ L ≤ 255) (hmap : mapB m = true) (hc : 3 ≤ c) (h3 : o3 m = true) (hyes : 97 ≤ L ∧ L ≤ 99) (hno : t < 0 ∨ 40 < t) :
    Calls Try.prog 52 #[.slice a m.length c, .int .u8 L, .int .i64 t] w fun e w' => e = .returned (.tuple #[.string ⟨#[]⟩, .int .i64 2]) ∧ Below w.heap.size w w' := by
  have IM := hid (isMap_any a c m w hm (by have := (map_len hmap).1; omega) (map_small hmap))
  rw [(map_len hmap).1, hmap] at IM
  have JO := fun W (hW : Strs W a m) => hid (join_any a c m W hW hmap hc)
  have HM := hid hm
  have H3 := hid h3
  have h33 := (map_len hmap).1
  rw [h33]
  have hd1 : (decide ((0 : Int) ≤ L - 97) && decide (L - 97 ≤ 2)) = true := by simp; omega
  have hd2 : (decide ((0 : Int) ≤ t) && decide (t ≤ 40)) = false := by
    simp only [Bool.and_eq_false_iff, decide_eq_false_iff_not]; omega
  clear hno hyes
  clear hm hmap h3 h33
  go_enter Try.func52, Try.ntmps52
  go_wp2_with fail
  refine IM.out.mono ?_
  rintro e w1 ⟨rfl, hb1⟩
  have HM1 := hid (HM.out.below hb1 (Nat.le_refl _))
  obtain ⟨J, hJ1, hJ2, hJ3⟩ := (JO w1 HM1.out).out
  have HJ := hid hJ3
  rw [H3.out] at hJ2
  have IO := fun W => hid (isOver_any J 3 W (by omega))
  rw [hJ2] at IO
  clear hJ2 hJ3
  go_wp2_with fail
  refine HJ.out.mono ?_
  rintro e w2 ⟨rfl, hb2⟩
  have hb2 := hb1.trans (hb2.mono hb1.size)
  go_wp2_with fail
  refine (IO _).out.mono ?_
  rintro e w3 ⟨rfl, hb3⟩
  have hb3 := hb2.trans (hb3.mono hb2.size)
  go_wp2_with fail
  refine (within_any _ _ _ _).mono ?_
  rintro e w4 ⟨rfl, rfl⟩
  rw [hd1]
  go_wp2_with fail
  refine (within_any _ _ _ _).mono ?_
  rintro e w4 ⟨rfl, rfl⟩
  rw [hd2]
  go_wp2_with fail
  go_ret2
  exact ⟨rfl, hb3⟩

def valPR (o : Option (List UInt8)) : Value := match o with | some x => .tuple #[.string (mkS x), .bool true] | none => .tuple #[.string ⟨#[]⟩, .bool false]
theorem valPR_eq {a b : Option (List UInt8)} (h : a = b) : Ending.returned (valPR a) = .returned (valPR b) := by rw [h]

set_option maxRecDepth 100000 in
set_option maxHeartbeats 4000000 in
theorem refPower_any (a : Option Addr) (c : Nat) (m : List (List UInt8)) (k t : Nat) (w : World) (hm : Strs w a m) (hmap : mapB m = true) (h3 : o3 m = true) (hk : k < 3) (ht : t ≤ 40) :
    Calls Try.prog 53 #[.slice a 3 c, .int .u8 (97 + (k : Int)), .int .i64 t] w fun e w' => e = .returned (valPR (pw m t [UInt8.ofNat (97 + k)])) ∧ Below w.heap.size w w' := by
  have IG := fun x W (hW : Strs W a m) (hx : overB 3 x = true) (hl : x.length ≤ 2000) => hid (refImage_any a c m (mkS x) W hW hmap (by rw [mkS_size]; omega) (by rw [mkS_data]; exact hx))
  have HO := hid ((o3_iff m).1 h3)
  have HMAP := hid hmap
  have HM := hid hm
  obtain ⟨g, o, rfl, hg, hcell⟩ := hm.at (by rw [(map_len hmap).1]; omega)
  have hcv := run_letB k w (by omega)
  obtain ⟨R, hR⟩ : ∃ R, R = pw m t [UInt8.ofNat (97 + k)] := ⟨_, rfl⟩
  rw [← hR]
  have HR := hid hR
  clear hR hm hmap h3
  go_enter Try.func53, Try.ntmps53
  go_wp2_with fail
  go_loopw [8, 9] (fun v i wr => ∃ (j : Nat) (x : List UInt8), j ≤ t ∧ i = .int .i64 j ∧ v = .string (mkS x) ∧ x.length ≤ 2000 ∧ overB 3 x = true ∧ Below w.heap.size w wr ∧ Hid (R = pw m (t - j) x)) (fun _ i _ => t - (intOf i).toNat)
  case atStart => exact ⟨0, [UInt8.ofNat (97 + k)], by omega, rfl, by rw [letS_mk], by simp, by rw [overB, List.all_cons, okk_letter (by omega) hk]; rfl, (Below.refl _ w).alloc (Nat.le_refl _) _, HR⟩
  case round =>
    obtain ⟨j, x, hj, rfl, rfl, hxl, hxo, hB, HK⟩ := hrel
    by_cases hlt : j < t
    · have CALL := fun W (hW : Below w.heap.size w W) => IG x W (HM.out.below hW (Nat.le_refl _)) hxo hxl
      simp only [mkS_data] at CALL
      have hno := imgW_over HMAP.out HO.out hxo
      have hil := imgW_len HMAP.out hxo
      have hst := HK.out.trans (pw_step m t j x hlt)
      have HY := hid (rfl : imgW m x = imgW m x)
      have HXO := hid hxo
      have hxs := mkS_size x
      have HST := hid hst
      have HNO := hid hno
      have HIL := hid hil
      clear hst hno hil hxo
      go_wp2_with fail
      go_loopw [10, 11] (fun v i wr2 => ∃ (q n : Nat), q ≤ x.length ∧ i = .int .i64 q ∧ v = .int .i64 n ∧ n ≤ 12 * q ∧ Below w.heap.size w wr2 ∧ Hid (n + (imgW m (x.drop q)).length = (imgW m x).length)) (fun _ i _ => x.length - (intOf i).toNat)
      case atStart => exact ⟨0, 0, by omega, rfl, rfl, by omega, hB, by rw [Hid, List.drop_zero]; omega⟩
      case round =>
        obtain ⟨q, n, hq, rfl, rfl, hn, hB2, HN⟩ := hrel
        by_cases hlq : q < x.length
        · have hql : q < (mkS x).size := by omega
          have hxq : (mkS x)[q] = x[q] := rfl
          have hlet : 97 ≤ (mkS x)[q].toNat ∧ (mkS x)[q].toNat < 97 + 3 := overB_mem HXO.out (List.getElem_mem hlq)
          obtain ⟨y, hy1, hy2, hy3, hy4, -⟩ := (map_len HMAP.out).2 ((mkS x)[q].toNat - 97) (by omega)
          have q1 : wr.cell? ⟨g, o + ((mkS x)[q].toNat - 97), none⟩ = some (.string (mkS y)) := (hB2.cell (p := ⟨g, o + ((mkS x)[q].toNat - 97), none⟩) hg).trans (hcell _ _ hy1)
          have hix : IntKind.u8.wrap (((mkS x)[q].toNat : Int) - 97) = (((mkS x)[q].toNat - 97 : Nat) : Int) := by
            rw [show (((mkS x)[q].toNat : Int) - 97) = (((mkS x)[q].toNat - 97 : Nat) : Int) by omega]
            exact IntWalk.u8_in _ (by omega)
          have hI3 : (mkS x)[q].toNat - 97 < 3 := by omega
          have hys := mkS_size y
          have hnext : n + y.length + (imgW m (x.drop (q + 1))).length = (imgW m x).length := by
            have := HN.out
            rw [List.drop_eq_getElem_cons hlq, imgW_cons, List.length_append, show imgL m x[q] = y from hy2] at this
            omega
          have HNX := hid hnext
          clear hnext hy1 hy2 hxq
          go_wp2_with fail
          exact ⟨⟨q + 1, n + y.length, by omega, by go_num, by go_num, by omega, hB2, HNX⟩, by simp [intOf]; omega⟩
        · have hnn : n = (imgW m x).length := by
            have := HN.out
            rw [List.drop_eq_nil_of_le (by omega)] at this
            simpa [imgW] using this
          have HNN := hid hnn
          have CALL := CALL wr hB2
          obtain ⟨y, hy⟩ : ∃ y, y = imgW m x := ⟨_, rfl⟩
          have HST := hid HST.out
          have HNO := hid HNO.out
          rw [← hy] at CALL HST HNO HNN
          have hny : n = y.length := HNN.out
          clear hy hnn
          by_cases hlong : 2000 < y.length
          · have hfin : R = none := by rw [HST.out, if_pos hlong]
            have HF := hid hfin
            have hd : decide ((n : Int) > 2000) = true := decide_eq_true (by omega)
            clear hfin HST hny
            go_wp2_with fail
            go_ret2
            exact ⟨valPR_eq HF.out.symm, hB2⟩
          · have hfin : R = pw m (t - (j + 1)) y := by rw [HST.out, if_neg hlong]
            have HF := hid hfin
            have hd : decide ((n : Int) > 2000) = false := decide_eq_false (by omega)
            have hyl : y.length ≤ 2000 := by omega
            clear hfin HST hny
            go_wp2_with fail
            refine CALL.out.mono ?_
            rintro e w5 ⟨rfl, hb5⟩
            have hB5 := hB2.trans (hb5.mono hB2.size)
            go_wp2_with fail
            exact ⟨⟨j + 1, y, by omega, by go_num, rfl, hyl, HNO.out, hB5, HF⟩, by simp [intOf]; omega⟩
    · have hfin : R = some x := HK.out.trans (pw_end m t j x hlt)
      have HF := hid hfin
      clear hfin
      go_wp2_with fail
      go_ret2
      exact ⟨valPR_eq HF.out.symm, hB⟩
end Go.Proofs.Ytancficmkkdnfaa
