/-
  Walks: Rank, Apart.
-/
import Derived.Test.YthlgdakdjikjhaaDoorH
namespace Go.Proofs.YthlgdakdjikjhaaDoor
open Go.RowKit Go.ChangeMaps
attribute [local go_sem] Oper.semAt_some

set_option maxHeartbeats 1000000 in
theorem Apart_yes (a : Option Addr) (c : Nat) (M : List (List Nat)) (w : World) (hM : OkM M) (hr : RowsAt w a (intM M)) :
    Calls Tryd.prog 41 #[.slice a M.length c] w fun e w' => ∃ a' c', e = .returned (.tuple #[.slice a' (apartL M).length c', .int .i64 0]) ∧ Hid (w'.ownsRow w.heap.size 3 1 (.slice a' (apartL M).length c') (apartL M).length ((apartL M).map natV)) ∧ Below w.heap.size w w' := by
  have HW := hid (isM_yes a c M w hM hr)
  have HA := hid (fun (W : World) (hb : Below w.heap.size w W) => apart_any a c M W hM (hr.below hb (Nat.le_refl _)))
  clear hM hr
  generalize apartL M = L at *
  go_enter Tryd.func41, Tryd.ntmps41
  go_wp2_with fail
  refine HW.out.mono ?_
  rintro e w1 ⟨rfl, hb1⟩
  go_wp2_with fail
  refine (HA.out w1 hb1).mono ?_
  rintro e w2 ⟨a', c', rfl, ho, hb2⟩
  have HO := hid (show w2.ownsRow w.heap.size 3 1 (.slice a' L.length c') L.length (L.map natV) from ⟨ho.out.1, ho.out.2.imp id fun ⟨g, cap, cur, e1, e2, e3⟩ => ⟨g, cap, cur, e1, Nat.le_trans hb1.size e2, e3⟩⟩)
  replace hb2 := hb1.trans (hb2.mono hb1.size)
  clear ho
  go_wp2_with fail
  refine bodyPost_ret (results_tmp2 rfl _ _ _) rfl ?_
  exact ⟨a', c', rfl, HO, hb2⟩

/-- The least number of states so far. -/
def mF (n : Nat) (pre : List Nat) : Nat := pre.foldl (fun m q => min m (sizeN q)) n
theorem mF_snoc (n : Nat) (pre : List Nat) (q : Nat) : mF n (pre ++ [q]) = min (mF n pre) (sizeN q) := by simp [mF]
theorem mF_le (n : Nat) (pre : List Nat) : mF n pre ≤ n := by
  unfold mF
  induction pre generalizing n with
  | nil => exact Nat.le_refl _
  | cons q r ih => exact Nat.le_trans (ih _) (Nat.min_le_left _ _)
theorem sizeN_le (q : Nat) : sizeN q ≤ 9 := listN_len q

set_option maxHeartbeats 1000000 in
theorem in67_any (q b m : Nat) (W : World) (hq : q < 512) (hm : m ≤ 9) (hB : Blk W b #[.int .i64 (m : Int)] 3) :
    Calls Tryd.prog 67 #[.int .i64 q, .pointer (some ⟨b, 0, none⟩)] W fun e w' => e = .returned (.bool false) ∧ Blk w' b #[.int .i64 (min m (sizeN q) : Nat)] 3 ∧ Below b W w' ∧ KeptAbove (b + 1) W w' := by
  have C := hid (fun (W : World) => size_any q W hq)
  have q1 : W.cell? ⟨b, 0, none⟩ = some (.int .i64 (m : Int)) := hB.cell 0
  have f1 := hB.free 0
  have HB := hid hB
  have hs := sizeN_le q
  clear hB
  generalize sizeN q = S at *
  have hmin : (min (m : Int) (S : Int)) = ((min m S : Nat) : Int) := by omega
  go_enter Tryd.func67, Tryd.ntmps67
  go_wp2_with fail
  go_region_with (go_at_call 68; refine (C.out _).mono ?_; rintro e w1 ⟨rfl, rfl⟩)
  all_goals
    rw [show (if S < m then (S : Int) else (m : Int)) = ((min m S : Nat) : Int) by split <;> omega]
    clear hmin
    have hb1 := (HB.out.set 0 (.int .i64 ((min m S : Nat) : Int))).drew
    have HB1 := hid hb1
    have HBE := hid (show Below b W ((W.setCell ⟨b, 0, none⟩ (.int .i64 ((min m S : Nat) : Int))).drew) from (Below.setCell (Below.refl b W) (Nat.le_refl _) _).drew)
    have HK := hid (show KeptAbove (b + 1) W ((W.setCell ⟨b, 0, none⟩ (.int .i64 ((min m S : Nat) : Int))).drew) from ⟨by simp, fun k hk _ => Below.heap_setCell W ⟨b, 0, none⟩ _ k (by show k ≠ b; omega)⟩)
    clear hb1
    obtain ⟨T, hT⟩ : ∃ T, T = min m S := ⟨_, rfl⟩
    rw [← hT] at HB1 HBE HK ⊢
    have HT := hid hT
    clear hT
    go_wp2_with fail
    go_ret
    exact ⟨rfl, by rw [← HT.out]; exact HB1.out, HBE.out, HK.out⟩

set_option maxHeartbeats 1000000 in
theorem in69_any (q b m : Nat) (W : World) (hq : q < 512) (hm : W.cell? ⟨b, 0, none⟩ = some (.int .i64 (m : Int))) :
    Calls Tryd.prog 69 #[.int .i64 q, .pointer (some ⟨b, 0, none⟩)] W fun e w' => e = .returned (.bool (sizeN q == m)) ∧ Below W.heap.size W w' := by
  have C := hid (fun (W : World) => (size_any q W hq).mono (R' := fun e w' => e = .returned (.int .i64 (sizeN q)) ∧ w' = W) fun e w' h => ⟨h.1, h.2.symm⟩)
  go_enter Tryd.func69, Tryd.ntmps69
  go_wp2_with fail
  go_quiet (exact Calls.quiet_of_same (C.out _))
  go_wp2_with fail
  go_ret
  exact ⟨ret_bool (by rw [Bool.eq_iff_iff]; simp; omega), below_drewN (Below.refl _ W) nq⟩
theorem enter67 : ∀ args W, (callFunc 67 args).run Tryd.prog W = .ok (.enter 67 args) W := fun args W => by kernel_rfl
theorem enter69 : ∀ args W, (callFunc 69 args).run Tryd.prog W = .ok (.enter 69 args) W := fun args W => by kernel_rfl
/-- The smallest number of states of an image. -/
def minN (M : List (List Nat)) : Nat := mF (nst M) ((reach M (allS M)).map (·.set))
def hasB (m q : Nat) : Bool := sizeN q == m
def rankV (m : Nat) : Option Ent → Value
  | some x => .tuple #[.int .i64 m, .string (mkS x.word), .int .i64 0]
  | none => .tuple #[.int .i64 m, .string ⟨#[]⟩, .int .i64 0]

theorem rank_search (a : Option Addr) (c : Nat) (M : List (List Nat)) (w w2 : World) (b : Nat) (hM : OkM M) (hr : RowsAt w a (intM M)) (hb : Below w.heap.size w w2) (hB : Blk w2 b #[.int .i64 (nst M : Int)] 3) (hb2 : b + 1 = w2.heap.size) (hwb : w.heap.size ≤ b) :
    Calls Tryd.prog 52 #[.slice a M.length c, .int .i64 (allS M), .func (.func 67) #[] #[.pointer (some ⟨b, 0, none⟩)]] w2 fun e w' => e = .returned (srchV none) ∧ Below w.heap.size w w' ∧ Blk w' b #[.int .i64 (minN M : Int)] 3 := by
  refine (search_any M (allS M) 67 #[.pointer (some ⟨b, 0, none⟩)] (fun _ => false) (fun pre W => Below w.heap.size w W ∧ Blk W b #[.int .i64 (mF (nst M) pre : Int)] 3) a c w2 hM (allS_lt hM) (allS_ne hM) ⟨hb, hB⟩ enter67
    (fun _ W h => hr.below h.1 (Nat.le_refl _)) (fun pre W W' h1 h2 => ⟨h2.1.trans (h1.mono hb.size), h2.2.below h1 (by omega)⟩) ?_).mono ?_
  · intro pre q W hq hJ _
    refine (in67_any q b (mF (nst M) pre) W hq (Nat.le_trans (mF_le _ _) hM.n9) hJ.2).mono ?_
    rintro e w' ⟨rfl, k1, k2, k3⟩
    refine ⟨rfl, ⟨hJ.1.trans (k2.mono hwb), by rw [mF_snoc]; exact k1⟩, by rw [← hb2]; exact k3⟩
  · rintro e w' ⟨vis, hJ, hm⟩
    have hf : (reach M (allS M)).find? (fun _ => false) = none := by rw [List.find?_eq_none]; simp
    rw [hf] at hm
    obtain ⟨rfl, rfl⟩ := hm
    exact ⟨rfl, hJ.1, hJ.2⟩

set_option maxHeartbeats 2000000 in
theorem Rank_yes (a : Option Addr) (c : Nat) (M : List (List Nat)) (w : World) (hM : OkM M) (hr : RowsAt w a (intM M)) :
    Calls Tryd.prog 45 #[.slice a M.length c] w fun e w' => e = .returned (rankV (minN M) (firstE M (allS M) (hasB (minN M)))) ∧ Below w.heap.size w w' := by
  have HW := hid (isM_yes a c M w hM hr)
  have HR := hid (fun (W : World) (hb : Below w.heap.size w W) => hr.below hb (Nat.le_refl _))
  have HA := hid (fun (W : World) (hb : Below w.heap.size w W) => all_any a c M W hM (HR.out W hb))
  have HM := hid hM
  have hn9 := hM.n9
  have hall : 2 ^ nst M - 1 = allS M := rfl
  rw [hall] at HA
  have HRS := hid (fun (w2 : World) (b : Nat) hb hB hb2 hwb => rank_search a c M w w2 b hM hr hb hB hb2 hwb)
  have HS2 := hid (fun (b m : Nat) (W : World) (hb : Below w.heap.size w W) (hbl : b < W.heap.size) (hc : W.cell? ⟨b, 0, none⟩ = some (.int .i64 (m : Int))) =>
    search_pure M (allS M) 69 #[.pointer (some ⟨b, 0, none⟩)] (hasB m) a c W hM (allS_lt hM) (allS_ne hM) (hr.below hb (Nat.le_refl _)) enter69 fun q W' hq hb' => in69_any q b m W' hq ((hb'.cell (p := ⟨b, 0, none⟩) hbl).trans hc))
  have hm1 := hM.b1
  obtain ⟨g, o, b1, c1, ha, hg, q1, -⟩ := row_at hM hr 0 hm1
  rw [Nat.add_zero] at q1
  subst ha
  generalize minN M = m at *
  generalize allS M = s at *
  clear hM hr hall HR
  cases hf : firstE M s (hasB m)
  all_goals
    have HF := hid hf
    go_enter Tryd.func45, Tryd.ntmps45
    go_wp2_with fail
    refine HW.out.mono ?_
    rintro e w1 ⟨rfl, hb1⟩
    have q2 := (hb1.cell (p := ⟨g, o, none⟩) hg).trans q1
    have HB1 := hid hb1
    have HB2 := hid (hb1.alloc hb1.size (.cells #[.int .i64 (nst M : Int)] 3))
    have HK2 := hid (Blk.new w1 #[.int .i64 (nst M : Int)] 3)
    have HSZ := hid (show (w1.alloc (.cells #[.int .i64 (nst M : Int)] 3)).heap.size = w1.heap.size + 1 by simp)
    go_wp2_with fail
    obtain ⟨b, hb⟩ : ∃ b, b = w1.heap.size := ⟨_, rfl⟩
    obtain ⟨w2, hw2⟩ : ∃ w2, w2 = w1.alloc (.cells #[.int .i64 (nst M : Int)] 3) := ⟨_, rfl⟩
    have HWB := hid (show w.heap.size ≤ b by rw [hb]; exact hb1.size)
    rw [← hw2] at HB2 HK2 HSZ ⊢
    rw [← hb] at HK2 HSZ ⊢
    clear hb hw2 q2 hb1
    refine (HA.out w2 HB2.out).mono ?_
    rintro e w3 ⟨rfl, rfl⟩
    go_wp2_with fail
    refine (HRS.out w2 b HB2.out HK2.out HSZ.out.symm HWB.out).mono ?_
    rintro e w4 ⟨rfl, hb4, hk4⟩
    have HB4 := hid hb4
    have HK4 := hid hk4
    have q4 : w4.cell? ⟨b, 0, none⟩ = some (.int .i64 (m : Int)) := hk4.cell 0
    have HBL := hid hk4.lt
    clear hb4 hk4
    go_wp2_with fail
    refine (HA.out w4 HB4.out).mono ?_
    rintro e w5 ⟨rfl, rfl⟩
    go_wp2_with fail
    refine (HS2.out b m w4 HB4.out HBL.out q4).mono ?_
    rintro e w6 ⟨rfl, hb6⟩
    rw [HF.out]
    have q6 := (hb6.cell (p := ⟨b, 0, none⟩) HBL.out).trans q4
    have HB6 := hid (HB4.out.trans (hb6.mono HB4.out.size))
    clear hb6 q4
    simp only [srchV]
    go_wp2_with fail
    refine bodyPost_ret (results_tmp3 rfl _ _ _) rfl ?_
    exact ⟨rfl, HB6.out⟩
end Go.Proofs.YthlgdakdjikjhaaDoor
