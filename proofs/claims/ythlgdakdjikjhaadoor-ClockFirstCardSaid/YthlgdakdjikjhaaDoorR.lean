/-
  Walks: Merge, the reference's and the program's.
-/
import Derived.Test.YthlgdakdjikjhaaDoorQ
import Derived.Test.YthlgdakdjikjhaaDoorK
namespace Go.Proofs.YthlgdakdjikjhaaDoor
open Go.RowKit Go.ChangeMaps
attribute [local go_sem] Oper.semAt_some

/-- No image of a set that is not empty has no states. -/
theorem sizeN_pos : ∀ x : Nat, x < 512 → x ≠ 0 → 1 ≤ sizeN x := by decide +kernel
theorem ShrE.one {M : List (List Nat)} {s : Nat} {x : Ent} (hM : OkM M) (hs : s < 2 ^ nst M) (h0 : s ≠ 0) (h : ShrE M s x) :
    (firstE M s oneB).isSome = (sizeN x.set == 1) ∧ ∀ y, firstE M s oneB = some y → y = x := by
  by_cases h1 : sizeN x.set = 1
  · have h2 := h.1
    rw [h1] at h2
    have h3 : firstE M s oneB = some x := h2
    rw [h3, h1]
    exact ⟨rfl, fun y hy => (Option.some.inj hy).symm⟩
  · have hx := firstE_set hM hs h0 h.1
    have hp := sizeN_pos x.set hx.2.1 hx.2.2.1
    have h3 : firstE M s oneB = none := by
      unfold firstE
      rw [List.find?_eq_none]
      intro y hy
      have := h.2 y hy
      simp only [oneB, beq_iff_eq]
      omega
    rw [h3, beq_eq_false_iff_ne.2 h1]
    exact ⟨rfl, fun y hy => by cases hy⟩

theorem int_one (n : Nat) : ((n : Int) == 1) = (n == 1) := by rw [Bool.eq_iff_iff]; simp; omega

set_option maxRecDepth 100000 in
set_option maxHeartbeats 4000000 in
theorem refMerge_any (a : Option Addr) (c : Nat) (M : List (List Nat)) (p q : Nat) (w : World) (hM : OkM M) (hr : RowsAt w a (intM M)) (hp : p < nst M) (hq : q < nst M) :
    Calls Tryd.prog 25 #[.slice a M.length c, .int .i64 p, .int .i64 q] w fun e w' => ∃ wd : List UInt8, e = .returned (.tuple #[.string (mkS wd), .bool (firstE M (pairN p q) oneB).isSome]) ∧ Hid (∀ x, firstE M (pairN p q) oneB = some x → wd = x.word) ∧ Below w.heap.size w w' := by
  have hn9 := hM.n9
  have S := hid (fun (W : World) (hb : Below w.heap.size w W) => refShrink_any a c M (pairN p q) W hM (hr.below hb (Nat.le_refl _)) (pairN_lt hp hq))
  have HO := hid (fun (x : Ent) (h : ShrE M (pairN p q) x) => ShrE.one hM (pairN_lt hp hq) (pairN_ne p q) h)
  have d0 := pair_bits p q (by omega) (by omega)
  generalize pairN p q = s at *
  have hb0 := Below.refl w.heap.size w
  have HB0 := hid hb0
  clear hM hr hb0
  go_enter Tryd.func25, Tryd.ntmps25
  go_wp2_with fail
  go_region_with (go_at_call 47; go_must (refine (S.out _ ?_).mono ?_); (first | exact HB0.out | exact HB0.out.drew); rintro e wz ⟨x, rfl, hs, hbz⟩)
  all_goals
    have h1 := HO.out x hs.out
    have HBZ := hid (HB0.out.drew.trans ((show Below _ _ _ from hbz).mono HB0.out.size))
    have HW := hid h1
    clear hs h1 hbz
    go_wp2_with fail
    refine bodyPost_ret (results_tmp2 rfl _ _ _) rfl ?_
    refine ⟨x.word, ?_, fun y hy => by rw [HW.out.2 y hy], HBZ.out⟩
    rw [HW.out.1, ← int_one]
    rfl

def mergeV : Option Ent → Value
  | some x => .tuple #[.string (mkS x.word), .int .i64 0]
  | none => .tuple #[.string ⟨#[]⟩, .int .i64 6]

set_option maxRecDepth 100000 in
set_option maxHeartbeats 4000000 in
theorem Merge_yes (a : Option Addr) (c : Nat) (M : List (List Nat)) (p q : Nat) (w : World) (hM : OkM M) (hr : RowsAt w a (intM M)) (hp : p < nst M) (hq : q < nst M) :
    Calls Tryd.prog 23 #[.slice a M.length c, .int .i64 p, .int .i64 q] w fun e w' => e = .returned (mergeV (firstE M (pairN p q) oneB)) ∧ Below w.heap.size w w' := by
  have hn9 := hM.n9
  have h1 := hM.b1
  have HW := hid (isM_yes a c M w hM hr)
  obtain ⟨g, o, b1, c1, rfl, hg, q1, -⟩ := row_at hM hr 0 (by omega)
  rw [Nat.add_zero] at q1
  have S := hid (fun (W : World) (hb : Below w.heap.size w W) => search_one M (pairN p q) (some ⟨g, o, none⟩) c W hM (pairN_lt hp hq) (pairN_ne p q) (hr.below hb (Nat.le_refl _)))
  have W1 := fun W => within_any (p : Int) 0 ((nst M : Int) - 1) W
  have W2 := fun W => within_any (q : Int) 0 ((nst M : Int) - 1) W
  rw [show (decide ((0 : Int) ≤ (p : Int)) && decide ((p : Int) ≤ (nst M : Int) - 1)) = true by simp; omega] at W1
  rw [show (decide ((0 : Int) ≤ (q : Int)) && decide ((q : Int) ≤ (nst M : Int) - 1)) = true by simp; omega] at W2
  have W1 := hid W1
  have W2 := hid W2
  have d0 := pair_bits p q (by omega) (by omega)
  generalize pairN p q = s at *
  clear hM hr
  cases hf : firstE M s oneB
  all_goals
    rw [hf] at S
    simp only [srchV] at S
    clear hf
    go_enter Tryd.func23, Tryd.ntmps23
    go_wp2_with fail
    refine HW.out.mono ?_
    rintro e w1 ⟨rfl, hb1⟩
    have q2 := (hb1.cell (p := ⟨g, o, none⟩) hg).trans q1
    have HB1 := hid hb1
    clear hb1
    go_wp2_with fail
    refine (W1.out w1).mono ?_
    rintro e w2 ⟨rfl, rfl⟩
    go_wp2_with fail
    refine (W2.out w1).mono ?_
    rintro e w2 ⟨rfl, rfl⟩
    go_wp2_with fail
    go_region_with (go_at_call 52; go_must (refine (S.out _ ?_).mono ?_); (first | exact HB1.out | exact HB1.out.drew); rintro e wz ⟨rfl, hbz⟩)
    all_goals
      have HBZ := hid (HB1.out.drew.trans ((show Below _ _ _ from hbz).mono HB1.out.size))
      clear hbz
      go_wp2_with fail
      refine bodyPost_ret (results_tmp2 rfl _ _ _) rfl ?_
      exact ⟨rfl, HBZ.out⟩

set_option maxRecDepth 100000 in
set_option maxHeartbeats 4000000 in
theorem Merge_bad (a : Option Addr) (c : Nat) (M : List (List Nat)) (p q : Int) (w : World) (hM : OkM M) (hr : RowsAt w a (intM M)) (h : p < 0 ∨ (nst M : Int) ≤ p ∨ q < 0 ∨ (nst M : Int) ≤ q) :
    Calls Tryd.prog 23 #[.slice a M.length c, .int .i64 p, .int .i64 q] w fun e w' => e = .returned (.tuple #[.string ⟨#[]⟩, .int .i64 2]) ∧ Below w.heap.size w w' := by
  have hn9 := hM.n9
  have h1 := hM.b1
  have HW := hid (isM_yes a c M w hM hr)
  obtain ⟨g, o, b1, c1, rfl, hg, q1, -⟩ := row_at hM hr 0 (by omega)
  rw [Nat.add_zero] at q1
  have W1 := fun W => within_any p 0 ((nst M : Int) - 1) W
  have W2 := fun W => within_any q 0 ((nst M : Int) - 1) W
  generalize nst M = n at *
  clear hM hr
  by_cases hp : 0 ≤ p ∧ p ≤ (n : Int) - 1
  · rw [show (decide ((0 : Int) ≤ p) && decide (p ≤ (n : Int) - 1)) = true by simp; omega] at W1
    rw [show (decide ((0 : Int) ≤ q) && decide (q ≤ (n : Int) - 1)) = false by simp; omega] at W2
    have W1 := hid W1
    have W2 := hid W2
    clear hp h
    go_enter Tryd.func23, Tryd.ntmps23
    go_wp2_with fail
    refine HW.out.mono ?_
    rintro e w1 ⟨rfl, hb1⟩
    have q2 := (hb1.cell (p := ⟨g, o, none⟩) hg).trans q1
    go_wp2_with fail
    refine (W1.out w1).mono ?_
    rintro e w2 ⟨rfl, rfl⟩
    go_wp2_with fail
    refine (W2.out w1).mono ?_
    rintro e w2 ⟨rfl, rfl⟩
    go_wp2_with fail
    refine bodyPost_ret (results_tmp2 rfl _ _ _) rfl ?_
    exact ⟨rfl, hb1⟩
  · rw [show (decide ((0 : Int) ≤ p) && decide (p ≤ (n : Int) - 1)) = false by simp; omega] at W1
    have W1 := hid W1
    clear hp h
    go_enter Tryd.func23, Tryd.ntmps23
    go_wp2_with fail
    refine HW.out.mono ?_
    rintro e w1 ⟨rfl, hb1⟩
    have q2 := (hb1.cell (p := ⟨g, o, none⟩) hg).trans q1
    go_wp2_with fail
    refine (W1.out w1).mono ?_
    rintro e w2 ⟨rfl, rfl⟩
    go_wp2_with fail
    refine bodyPost_ret (results_tmp2 rfl _ _ _) rfl ?_
    exact ⟨rfl, hb1⟩

set_option maxHeartbeats 1000000 in
theorem Merge_no (a : Option Addr) (c : Nat) (X : List (List Int)) (p q : Int) (w : World) (hr : RowsAt w a X) (hl : X.length ≤ 1000) (hl2 : ∀ r ∈ X, r.length ≤ 1000) (hm : machineB X = false) :
    Calls Tryd.prog 23 #[.slice a X.length c, .int .i64 p, .int .i64 q] w fun e w' => e = .returned (.tuple #[.string ⟨#[]⟩, .int .i64 2]) ∧ Below w.heap.size w w' := by
  have HW := hid (isMachine_any a c X w hr hl hl2)
  rw [hm] at HW
  clear hm hr hl2
  go_enter Tryd.func23, Tryd.ntmps23
  go_wp2_with fail
  refine HW.out.mono ?_
  rintro e w1 ⟨rfl, hb1⟩
  go_wp2_with fail
  refine bodyPost_ret (results_tmp2 rfl _ _ _) rfl ?_
  exact ⟨rfl, hb1⟩
end Go.Proofs.YthlgdakdjikjhaaDoor
