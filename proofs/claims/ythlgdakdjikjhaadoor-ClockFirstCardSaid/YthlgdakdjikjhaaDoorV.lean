/-
  Walks: Lead, the reference's and the program's.
-/
import Derived.Test.YthlgdakdjikjhaaDoorU
namespace Go.Proofs.YthlgdakdjikjhaaDoor
open Go.RowKit Go.ChangeMaps
attribute [local go_sem] Oper.semAt_some

/-- Is this the wanted set? -/
def eqB (t q : Nat) : Bool := q == t

set_option maxRecDepth 100000 in
set_option maxHeartbeats 2000000 in
theorem refLead_any (a : Option Addr) (c : Nat) (M : List (List Nat)) (s t : Nat) (w : World) (hM : OkM M) (hr : RowsAt w a (intM M)) (hs : s < 2 ^ nst M) :
    Calls Tryd.prog 33 #[.slice a M.length c, .int .i64 s, .int .i64 t] w fun e w' => ∃ wd : List UInt8, e = .returned (.tuple #[.string (mkS wd), .bool (firstE M s (eqB t)).isSome]) ∧ Hid (∀ x, firstE M s (eqB t) = some x → wd = x.word) ∧ Below w.heap.size w w' := by
  have R := hid (refReached_any a c M s w hM hr hs)
  have hl5 := (reach_good hM hs).len hM
  have hpos := (reach_good hM hs).pos
  have H0 := hid (show firstE M s (eqB t) = ((reach M s).drop 0).find? (fun e => eqB t e.set) by rw [List.drop_zero]; rfl)
  generalize firstE M s (eqB t) = r at *
  generalize reach M s = L at *
  clear hM hr hs
  go_enter Tryd.func33, Tryd.ntmps33
  go_wp2_with fail
  refine R.out.mono ?_
  rintro e w1 ⟨a1, c1, a2, c2, rfl, ho1, ho2, hb1⟩
  obtain ⟨g1, c1', he1, hgb1, hg1, hcell1⟩ := own_at ho1.out hpos
  obtain ⟨g2, c2', he2, hgb2, hg2, hcell2⟩ := own_at ho2.out hpos
  cases he1
  cases he2
  have HB1 := hid hb1
  have HC1 := hid hcell1
  have HC2 := hid hcell2
  clear ho1 ho2 hb1 hcell1 hcell2
  go_wp2_with fail
  go_loop [10] (fun iv => ∃ i : Nat, iv = .int .i64 i ∧ i ≤ L.length ∧ Hid (r = (L.drop i).find? fun e => eqB t e.set)) (fun iv => L.length - (intOf iv).toNat)
  case atStart => exact ⟨0, rfl, by omega, H0⟩
  case round =>
    obtain ⟨i, rfl, hi, H⟩ := hrel
    by_cases hlt : i < L.length
    · obtain ⟨x, hx⟩ : ∃ x, L[i]? = some x := ⟨_, List.getElem?_eq_getElem hlt⟩
      have hd : L.drop i = x :: L.drop (i + 1) := by
        rw [List.drop_eq_getElem_cons hlt]
        rw [List.getElem?_eq_getElem hlt] at hx
        rw [Option.some.inj hx]
      have q1 : w1.cell? ⟨g1, i, none⟩ = some (.int .i64 (x.set : Int)) := HC1.out i (natV x.set) (by rw [List.getElem?_map, hx]; rfl)
      have q2 : w1.cell? ⟨g2, i, none⟩ = some (.string (mkS x.word)) := HC2.out i (wordV x) (by rw [List.getElem?_map, hx]; rfl)
      by_cases he : x.set = t
      · have hfin : r = some x := by
          rw [H.out, hd, List.find?_cons, show eqB t x.set = true by simp [eqB, he]]
        have HF := hid hfin
        have dq : ((x.set : Int) == (t : Int)) = true := beq_iff_eq.2 (by omega)
        clear hfin hd hx he
        go_wp2_with fail
        refine bodyPost_ret (results_tmp2 rfl _ _ _) rfl ?_
        rw [HF.out]
        exact ⟨x.word, rfl, fun y hy => by rw [Option.some.inj hy], HB1.out⟩
      · have hfin : r = (L.drop (i + 1)).find? fun e => eqB t e.set := by
          rw [H.out, hd, List.find?_cons, show eqB t x.set = false by simp [eqB, he]]
        have HF := hid hfin
        have dq : ((x.set : Int) == (t : Int)) = false := beq_eq_false_iff_ne.2 (by omega)
        clear hfin hd hx he
        go_wp2_with fail
        exact ⟨⟨i + 1, by go_num, by omega, HF⟩, by simp [intOf]; omega⟩
    · have hfin : r = none := by
        rw [H.out, List.drop_eq_nil_of_le (by omega)]; rfl
      have HF := hid hfin
      clear hfin
      go_wp2_with fail
      refine bodyPost_ret (results_tmp2 rfl _ _ _) rfl ?_
      rw [HF.out]
      have HV : Hid (∀ x : Ent, (none : Option Ent) = some x → ([] : List UInt8) = x.word) := hid (fun x h => nomatch h)
      exact ⟨[], rfl, HV, HB1.out⟩

theorem in58_any (q t b : Nat) (W : World) (hm : W.cell? ⟨b, 0, none⟩ = some (.int .i64 (t : Int))) :
    Calls Tryd.prog 58 #[.int .i64 q, .pointer (some ⟨b, 0, none⟩)] W fun e w' => e = .returned (.bool (eqB t q)) ∧ Below W.heap.size W w' := by
  go_enter Tryd.func58, Tryd.ntmps58
  go_wp2_with fail
  go_ret
  exact ⟨ret_bool (by unfold eqB; rw [Bool.eq_iff_iff]; simp; omega), Below.refl _ W⟩
theorem enter58 : ∀ args W, (callFunc 58 args).run Tryd.prog W = .ok (.enter 58 args) W := fun args W => by kernel_rfl

set_option maxRecDepth 100000 in
set_option maxHeartbeats 2000000 in
theorem Lead_yes (a : Option Addr) (c : Nat) (M : List (List Nat)) (a1 : Option Addr) (c1 : Nat) (l1 : List Int) (a2 : Option Addr) (c2 : Nat) (l2 : List Int) (w : World) (hM : OkM M) (hr : RowsAt w a (intM M))
    (h1 : Ints w a1 l1) (h2 : Ints w a2 l2) (hl1 : l1.length ≤ 1000) (hl2 : l2.length ≤ 1000) (hn1 : l1 ≠ []) (hn2 : l2 ≠ []) (hs1 : setB (nst M) l1 = true) (hs2 : setB (nst M) l2 = true) :
    Calls Tryd.prog 31 #[.slice a M.length c, .slice a1 l1.length c1, .slice a2 l2.length c2] w fun e w' => e = .returned (mergeV (firstE M (numL l1) (eqB (numL l2)))) ∧ Below w.heap.size w w' := by
  have HW := hid (isM_yes a c M w hM hr)
  have S1 := hid (fun (W : World) (hb : Below w.heap.size w W) => set_any a c M a1 c1 l1 W hM (hr.below hb (Nat.le_refl _)) (h1.below hb (Nat.le_refl _)) hl1)
  have S2 := hid (fun (W : World) (hb : Below w.heap.size w W) => set_any a c M a2 c2 l2 W hM (hr.below hb (Nat.le_refl _)) (h2.below hb (Nat.le_refl _)) hl2)
  rw [hs1] at S1
  rw [hs2] at S2
  simp only [setRV, if_true] at S1 S2
  obtain ⟨k1, k2⟩ := num_lt hs1
  have k2 := k2 hn1
  have d1 : ((l1.length : Int) == 0) = false := beq_eq_false_iff_ne.2 (by have := List.length_pos_iff.2 hn1; omega)
  have d2 : ((l2.length : Int) == 0) = false := beq_eq_false_iff_ne.2 (by have := List.length_pos_iff.2 hn2; omega)
  generalize numL l1 = s at *
  generalize numL l2 = t at *
  have SP := hid (fun (b : Nat) (W : World) (hb : Below w.heap.size w W) (hbl : b < W.heap.size) (hc : W.cell? ⟨b, 0, none⟩ = some (.int .i64 (t : Int))) =>
    search_pure M s 58 #[.pointer (some ⟨b, 0, none⟩)] (eqB t) a c W hM k1 k2 (hr.below hb (Nat.le_refl _)) enter58 fun q W' _ hb' => in58_any q t b W' ((hb'.cell (p := ⟨b, 0, none⟩) hbl).trans hc))
  generalize l1.length = n1 at *
  generalize l2.length = n2 at *
  clear hM hr h1 h2 hn1 hn2 hs1 hs2 k1 k2
  cases hf : firstE M s (eqB t)
  all_goals
    rw [hf] at SP
    simp only [srchV] at SP
    clear hf
    go_enter Tryd.func31, Tryd.ntmps31
    go_wp2_with fail
    refine HW.out.mono ?_
    rintro e w1 ⟨rfl, hb1⟩
    have HB1 := hid hb1
    clear hb1
    go_wp2_with fail
    refine (S1.out w1 HB1.out).mono ?_
    rintro e w2 ⟨rfl, rfl⟩
    go_wp2_with fail
    refine (S2.out w1 HB1.out).mono ?_
    rintro e w2 ⟨rfl, rfl⟩
    have HB2 := hid (HB1.out.alloc HB1.out.size (.cells #[.int .i64 (t : Int)] 75))
    have HS := hid (SP.out w1.heap.size _ HB2.out (by simp) ((Blk.new w1 #[.int .i64 (t : Int)] 75).cell 0))
    go_wp2_with fail
    refine HS.out.mono ?_
    rintro e w3 ⟨rfl, hb3⟩
    have HB3 := hid (HB2.out.trans (hb3.mono HB2.out.size))
    clear hb3
    go_wp2_with fail
    refine bodyPost_ret (results_tmp2 rfl _ _ _) rfl ?_
    exact ⟨rfl, HB3.out⟩

theorem Lead_no (a : Option Addr) (c : Nat) (X : List (List Int)) (v1 v2 : Value) (w : World) (hr : RowsAt w a X) (hl : X.length ≤ 1000) (hl2 : ∀ r ∈ X, r.length ≤ 1000) (hm : machineB X = false) :
    Calls Tryd.prog 31 #[.slice a X.length c, v1, v2] w fun e w' => e = .returned (.tuple #[.string ⟨#[]⟩, .int .i64 2]) ∧ Below w.heap.size w w' := by
  have HW := hid (isMachine_any a c X w hr hl hl2)
  rw [hm] at HW
  clear hm hr hl2
  go_enter Tryd.func31, Tryd.ntmps31
  go_wp2_with fail
  refine HW.out.mono ?_
  rintro e w1 ⟨rfl, hb1⟩
  go_wp2_with fail
  refine bodyPost_ret (results_tmp2 rfl _ _ _) rfl ?_
  exact ⟨rfl, hb1⟩

set_option maxRecDepth 100000 in
set_option maxHeartbeats 2000000 in
theorem Lead_bad (a : Option Addr) (c : Nat) (M : List (List Nat)) (a1 : Option Addr) (c1 : Nat) (l1 : List Int) (a2 : Option Addr) (c2 : Nat) (l2 : List Int) (w : World) (hM : OkM M) (hr : RowsAt w a (intM M))
    (h1 : Ints w a1 l1) (h2 : Ints w a2 l2) (hl1 : l1.length ≤ 1000) (hl2 : l2.length ≤ 1000) (hbad : l1.length = 0 ∨ l2.length = 0 ∨ setB (nst M) l1 = false ∨ setB (nst M) l2 = false) :
    Calls Tryd.prog 31 #[.slice a M.length c, .slice a1 l1.length c1, .slice a2 l2.length c2] w fun e w' => e = .returned (.tuple #[.string ⟨#[]⟩, .int .i64 2]) ∧ Below w.heap.size w w' := by
  have HW := hid (isM_yes a c M w hM hr)
  have S1 := hid (fun (W : World) (hb : Below w.heap.size w W) => set_any a c M a1 c1 l1 W hM (hr.below hb (Nat.le_refl _)) (h1.below hb (Nat.le_refl _)) hl1)
  have S2 := hid (fun (W : World) (hb : Below w.heap.size w W) => set_any a c M a2 c2 l2 W hM (hr.below hb (Nat.le_refl _)) (h2.below hb (Nat.le_refl _)) hl2)
  generalize numL l1 = s at *
  generalize numL l2 = t at *
  generalize setB (nst M) l1 = b1 at *
  generalize setB (nst M) l2 = b2 at *
  generalize l1.length = n1 at *
  generalize l2.length = n2 at *
  clear hM hr h1 h2
  by_cases e1 : n1 = 0
  · have d1 : ((n1 : Int) == 0) = true := beq_iff_eq.2 (by omega)
    clear e1 hbad
    go_enter Tryd.func31, Tryd.ntmps31
    go_wp2_with fail
    refine HW.out.mono ?_
    rintro e w1 ⟨rfl, hb1⟩
    go_wp2_with fail
    refine bodyPost_ret (results_tmp2 rfl _ _ _) rfl ?_
    exact ⟨rfl, hb1⟩
  · have d1 : ((n1 : Int) == 0) = false := beq_eq_false_iff_ne.2 (by omega)
    by_cases e2 : n2 = 0
    · have d2 : ((n2 : Int) == 0) = true := beq_iff_eq.2 (by omega)
      clear e1 e2 hbad
      go_enter Tryd.func31, Tryd.ntmps31
      go_wp2_with fail
      refine HW.out.mono ?_
      rintro e w1 ⟨rfl, hb1⟩
      go_wp2_with fail
      refine bodyPost_ret (results_tmp2 rfl _ _ _) rfl ?_
      exact ⟨rfl, hb1⟩
    · have d2 : ((n2 : Int) == 0) = false := beq_eq_false_iff_ne.2 (by omega)
      have hbb : b1 = false ∨ (b1 = true ∧ b2 = false) := by
        rcases hbad with h | h | h | h
        · exact absurd h e1
        · exact absurd h e2
        · exact .inl h
        · cases b1
          · exact .inl rfl
          · exact .inr ⟨rfl, h⟩
      clear e1 e2 hbad
      rcases hbb with rfl | ⟨rfl, rfl⟩
      · cases b2
        all_goals
          simp only [setRV, if_true, Bool.false_eq_true, if_false] at S1 S2
          go_enter Tryd.func31, Tryd.ntmps31
          go_wp2_with fail
          refine HW.out.mono ?_
          rintro e w1 ⟨rfl, hb1⟩
          have HB1 := hid hb1
          clear hb1
          go_wp2_with fail
          refine (S1.out w1 HB1.out).mono ?_
          rintro e w2 ⟨rfl, rfl⟩
          go_wp2_with fail
          refine (S2.out w1 HB1.out).mono ?_
          rintro e w2 ⟨rfl, rfl⟩
          go_wp2_with fail
          refine bodyPost_ret (results_tmp2 rfl _ _ _) rfl ?_
          exact ⟨rfl, HB1.out.alloc HB1.out.size _⟩
      · simp only [setRV, if_true, Bool.false_eq_true, if_false] at S1 S2
        go_enter Tryd.func31, Tryd.ntmps31
        go_wp2_with fail
        refine HW.out.mono ?_
        rintro e w1 ⟨rfl, hb1⟩
        have HB1 := hid hb1
        clear hb1
        go_wp2_with fail
        refine (S1.out w1 HB1.out).mono ?_
        rintro e w2 ⟨rfl, rfl⟩
        go_wp2_with fail
        refine (S2.out w1 HB1.out).mono ?_
        rintro e w2 ⟨rfl, rfl⟩
        go_wp2_with fail
        refine bodyPost_ret (results_tmp2 rfl _ _ _) rfl ?_
        exact ⟨rfl, HB1.out.alloc HB1.out.size _⟩
end Go.Proofs.YthlgdakdjikjhaaDoor
