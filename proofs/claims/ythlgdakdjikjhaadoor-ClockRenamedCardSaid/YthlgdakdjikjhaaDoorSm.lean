/-
  Walks: Same.
-/
import Derived.Test.YthlgdakdjikjhaaDoorEx
namespace Go.Proofs.YthlgdakdjikjhaaDoor
open Go.RowKit Go.ChangeMaps
attribute [local go_sem] Oper.semAt_some

set_option maxRecDepth 100000 in
set_option maxHeartbeats 8000000 in
theorem Same_yes (a : Option Addr) (c : Nat) (M : List (List Nat)) (a' : Option Addr) (c' : Nat) (O : List (List Nat)) (w : World) (hM : OkM M) (hO : OkM O) (hr : RowsAt w a (intM M)) (hr' : RowsAt w a' (intM O)) :
    Calls Tryd.prog 43 #[.slice a M.length c, .slice a' O.length c'] w fun e w' => e = .returned (.tuple #[.bool (sameB M O), .int .i64 0]) ∧ Below w.heap.size w w' := by
  obtain ⟨g, o, b1, c1, rfl, hg, q1⟩ := head_at hM hr
  obtain ⟨g', o', b1', c1', rfl, hg', q1'⟩ := head_at hO hr'
  have hb0 : Below w.heap.size w ((w.alloc (.cells #[.slice (some ⟨g, o, none⟩) M.length c] 22)).alloc (.cells #[.slice (some ⟨g', o', none⟩) O.length c'] 22)) := ((Below.refl _ w).alloc (Nat.le_refl _) _).alloc (by simp) _
  have HBM := hid (show Blk ((w.alloc (.cells #[.slice (some ⟨g, o, none⟩) M.length c] 22)).alloc (.cells #[.slice (some ⟨g', o', none⟩) O.length c'] 22)) w.heap.size #[.slice (some ⟨g, o, none⟩) M.length c] 22 from (Blk.new w _ _).alloc _)
  have HBO := hid (show Blk ((w.alloc (.cells #[.slice (some ⟨g, o, none⟩) M.length c] 22)).alloc (.cells #[.slice (some ⟨g', o', none⟩) O.length c'] 22)) (w.heap.size + 1) #[.slice (some ⟨g', o', none⟩) O.length c'] 22 from Blk.mk' (by simp) rfl)
  obtain ⟨w1, hw1⟩ : ∃ w1, w1 = ((w.alloc (.cells #[.slice (some ⟨g, o, none⟩) M.length c] 22)).alloc (.cells #[.slice (some ⟨g', o', none⟩) O.length c'] 22)) := ⟨_, rfl⟩
  have HB0 := hid hb0
  have I1 := hid (fun (W : World) (hb : Below w.heap.size w W) => isM_yes (some ⟨g, o, none⟩) c M W hM (hr.below hb (Nat.le_refl _)))
  have I2 := hid (fun (W : World) (hb : Below w.heap.size w W) => isM_yes (some ⟨g', o', none⟩) c' O W hO (hr'.below hb (Nat.le_refl _)))
  have hm1 := hM.b1
  have ho1 := hO.b1
  have hb4 := hM.b4
  have hb4' := hO.b4
  have hn9 := hM.n9
  have hn9' := hO.n9
  rw [← hw1] at HBM HBO HB0
  have EX := hid (fun (b : Bks) (v : Value) (W : World) (hk : b.ok w) (h1 : M.length = O.length) (h2 : nst M = nst O) hs => ext_any (some ⟨g, o, none⟩) c M (some ⟨g', o', none⟩) c' O w b hk hM hO h1 h2 hr hr' (nst M) [] v W hs (by simp) (by simp))
  have HW1 := hid hw1
  have HSA := hid (show sameB M O = (decide (M.length = O.length) && decide (nst M = nst O) && extF M O (nst M) []) from rfl)
  have HQ := hid q1
  have HQ' := hid q1'
  clear hM hO hr hr' hb0 hw1 q1 q1'
  generalize nst M = n at *
  generalize nst O = n' at *
  go_enter Tryd.func43, Tryd.ntmps43
  go_wp2_with fail
  rw [← HW1.out]
  refine (I1.out w1 HB0.out).mono ?_
  rintro e w2 ⟨rfl, hb2⟩
  have B2 := hid (HB0.out.trans (hb2.mono HB0.out.size))
  have HBM2 := hid (HBM.out.below hb2 HBM.out.lt)
  have HBO2 := hid (HBO.out.below hb2 HBO.out.lt)
  have c0 : w2.cell? ⟨w.heap.size + 1, 0, none⟩ = some (.slice (some ⟨g', o', none⟩) O.length c') := HBO2.out.cell 0
  clear hb2 HBM HBO
  go_wp2_with fail
  refine (I2.out w2 B2.out).mono ?_
  rintro e w3 ⟨rfl, hb3⟩
  have B3 := hid (B2.out.trans (hb3.mono B2.out.size))
  have HBM3 := hid (HBM2.out.below hb3 HBM2.out.lt)
  have HBO3 := hid (HBO2.out.below hb3 HBO2.out.lt)
  have c1 : w3.cell? ⟨w.heap.size, 0, none⟩ = some (.slice (some ⟨g, o, none⟩) M.length c) := HBM3.out.cell 0
  have c2 : w3.cell? ⟨w.heap.size + 1, 0, none⟩ = some (.slice (some ⟨g', o', none⟩) O.length c') := HBO3.out.cell 0
  have c3 := (B3.out.cell (p := ⟨g, o, none⟩) hg).trans HQ.out
  have c4 := (B3.out.cell (p := ⟨g', o', none⟩) hg').trans HQ'.out
  clear hb3 HBM2 HBO2 c0 HW1
  by_cases hlen : M.length = O.length
  · have e1 : ((M.length : Int) != (O.length : Int)) = false := by simp; omega
    by_cases hn : n = n'
    · subst hn
      have e2 : ((n : Int) != (n : Int)) = false := by simp
      have HF := hid (show sameB M O = extF M O n [] by rw [HSA.out, decide_eq_true hlen, decide_eq_true rfl]; rfl)
      have EX2 := hid (fun b v W hk hs => EX.out b v W hk hlen rfl hs)
      clear hlen EX HSA
      go_wp2_with fail
      go_quiet (fail)
      have B4 := hid (below_drewN B3.out nq)
      have HBM4 := hid (HBM3.out.below (below_drewN (Below.refl w3.heap.size w3) nq) HBM3.out.lt)
      have HBO4 := hid (HBO3.out.below (below_drewN (Below.refl w3.heap.size w3) nq) HBO3.out.lt)
      clear HBM3 HBO3 B3
      generalize w3.drewN nq = w4 at *
      go_wp2_with fail
      have hz1 := HBO4.out.lt
      have hk : Bks.ok w ⟨w.heap.size, w.heap.size + 1, w4.heap.size, w4.heap.size + 1⟩ := ⟨Nat.le_refl _, Nat.lt_succ_self _, hz1, Nat.lt_succ_self _⟩
      have hs : SW w ((w4.alloc (.cells #[.slice none 0 0] 38)).alloc (.cells #[Bks.fn ⟨w.heap.size, w.heap.size + 1, w4.heap.size, w4.heap.size + 1⟩] 26)) ⟨w.heap.size, w.heap.size + 1, w4.heap.size, w4.heap.size + 1⟩ (.slice (some ⟨g, o, none⟩) M.length c) (.slice (some ⟨g', o', none⟩) O.length c') [] (.slice none 0 0) :=
        ⟨(B4.out.alloc B4.out.size _).alloc (by have := B4.out.size; simp; omega) _, (HBM4.out.alloc _).alloc _, (HBO4.out.alloc _).alloc _, Blk.mk' (by simp) rfl, (Blk.new w4 _ _).alloc _, World.ownsRow_nil _ _ _ _⟩
      refine (EX2.out _ _ _ hk hs).mono ?_
      rintro e w5 ⟨v5, rfl, hb5, -⟩
      rw [← HF.out]
      clear hk hs
      go_wp2_with fail
      refine bodyPost_ret (results_tmp2 rfl _ _ _) rfl ?_
      exact ⟨rfl, hb5.out⟩
    · have e2 : ((n : Int) != (n' : Int)) = true := by simp; omega
      have HF := hid (show sameB M O = false by rw [HSA.out, decide_eq_false hn, Bool.and_false, Bool.false_and])
      clear hlen hn EX HSA
      go_wp2_with fail
      go_quiet (fail)
      have B4 := hid (below_drewN B3.out nq)
      go_wp2_with fail
      refine bodyPost_ret (results_tmp2 rfl _ _ _) rfl ?_
      rw [HF.out]
      exact ⟨rfl, B4.out⟩
  · have e1 : ((M.length : Int) != (O.length : Int)) = true := by simp; omega
    have HF := hid (show sameB M O = false by rw [HSA.out, decide_eq_false hlen, Bool.false_and, Bool.false_and])
    clear hlen EX HSA
    go_wp2_with fail
    go_quiet (fail)
    have B4 := hid (below_drewN B3.out nq)
    go_wp2_with fail
    refine bodyPost_ret (results_tmp2 rfl _ _ _) rfl ?_
    rw [HF.out]
    exact ⟨rfl, B4.out⟩

set_option maxRecDepth 100000 in
set_option maxHeartbeats 8000000 in
theorem Same_bad (a : Option Addr) (c : Nat) (X : List (List Int)) (a' : Option Addr) (c' : Nat) (Y : List (List Int)) (w : World) (hr : RowsAt w a X) (hr' : RowsAt w a' Y) (hl : X.length ≤ 1000) (hl2 : ∀ r ∈ X, r.length ≤ 1000) (hl' : Y.length ≤ 1000) (hl2' : ∀ r ∈ Y, r.length ≤ 1000) (h : (machineB X && machineB Y) = false) :
    Calls Tryd.prog 43 #[.slice a X.length c, .slice a' Y.length c'] w fun e w' => e = .returned (.tuple #[.bool false, .int .i64 2]) ∧ Below w.heap.size w w' := by
  have hb0 : Below w.heap.size w ((w.alloc (.cells #[.slice a X.length c] 22)).alloc (.cells #[.slice a' Y.length c'] 22)) := ((Below.refl _ w).alloc (Nat.le_refl _) _).alloc (by simp) _
  have HBO := hid (show Blk ((w.alloc (.cells #[.slice a X.length c] 22)).alloc (.cells #[.slice a' Y.length c'] 22)) (w.heap.size + 1) #[.slice a' Y.length c'] 22 from Blk.mk' (by simp) rfl)
  obtain ⟨w1, hw1⟩ : ∃ w1, w1 = ((w.alloc (.cells #[.slice a X.length c] 22)).alloc (.cells #[.slice a' Y.length c'] 22)) := ⟨_, rfl⟩
  have HB0 := hid hb0
  rw [← hw1] at HBO HB0
  have I1 := hid (isMachine_any a c X w1 (hr.below HB0.out (Nat.le_refl _)) hl hl2)
  have I2 := hid (fun (W : World) (hb : Below w.heap.size w W) => isMachine_any a' c' Y W (hr'.below hb (Nat.le_refl _)) hl' hl2')
  have HW1 := hid hw1
  have HH := hid h
  clear hr hr' hb0 hw1 hl2 hl2' h
  cases h1 : machineB X with
  | false =>
    rw [h1] at I1
    clear h1 HH
    go_enter Tryd.func43, Tryd.ntmps43
    go_wp2_with fail
    rw [← HW1.out]
    refine I1.out.mono ?_
    rintro e w2 ⟨rfl, hb2⟩
    have B2 := hid (HB0.out.trans (hb2.mono HB0.out.size))
    clear hb2
    go_wp2_with fail
    refine bodyPost_ret (results_tmp2 rfl _ _ _) rfl ?_
    exact ⟨rfl, B2.out⟩
  | true =>
    rw [h1] at I1
    have h2 := HH.out
    rw [h1, Bool.true_and] at h2
    rw [h2] at I2
    clear h1 HH h2
    go_enter Tryd.func43, Tryd.ntmps43
    go_wp2_with fail
    rw [← HW1.out]
    refine I1.out.mono ?_
    rintro e w2 ⟨rfl, hb2⟩
    have B2 := hid (HB0.out.trans (hb2.mono HB0.out.size))
    have c0 : w2.cell? ⟨w.heap.size + 1, 0, none⟩ = some (.slice a' Y.length c') := (HBO.out.below hb2 HBO.out.lt).cell 0
    clear hb2 HW1
    go_wp2_with fail
    refine (I2.out w2 B2.out).mono ?_
    rintro e w3 ⟨rfl, hb3⟩
    have B3 := hid (B2.out.trans (hb3.mono B2.out.size))
    clear hb3
    go_wp2_with fail
    refine bodyPost_ret (results_tmp2 rfl _ _ _) rfl ?_
    exact ⟨rfl, B3.out⟩
end Go.Proofs.YthlgdakdjikjhaaDoor
