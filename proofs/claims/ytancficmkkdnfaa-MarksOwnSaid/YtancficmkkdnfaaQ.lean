/-
  Walks: the reference's Keeps.
-/
import Derived.Test.YtancficmkkdnfaaO
import Derived.Test.YtancficmkkdnfaaP
namespace Go.Proofs.Ytancficmkkdnfaa
open Go.RowKit
attribute [local go_sem] Oper.semAt_some

/-- The words that the queue holds when i of them have been looked at. -/
def que (i : Nat) : List (List UInt8) := [] :: ((LL 11).take i).flatMap (chB 11)
theorem que_rest (i : Nat) : LL 11 = que i ++ ((LL 11).drop i).flatMap (chB 11) := by
  conv => lhs; rw [LL_self 11]
  conv => lhs; rw [← List.take_append_drop i (LL 11), List.flatMap_append]
  rfl
theorem LL_eleven : (LL 11).length ≤ 1000 := by decide +kernel
theorem que_len (i : Nat) : (que i).length ≤ 1000 := by
  have h1 := congrArg List.length (que_rest i)
  rw [List.length_append] at h1
  have := LL_eleven
  omega
theorem que_at (i : Nat) (h : i < (que i).length) : ∃ s, (que i)[i]? = some s ∧ (LL 11)[i]? = some s ∧ (LL 11).drop i = s :: (LL 11).drop (i + 1) ∧ que (i + 1) = que i ++ chB 11 s := by
  refine ⟨(que i)[i], List.getElem?_eq_getElem h, ?_, ?_, ?_⟩
  all_goals
    have h1 : (LL 11)[i]? = some (que i)[i] := by
      rw [que_rest i, List.getElem?_append_left h]; exact List.getElem?_eq_getElem h
    have hlt : i < (LL 11).length := by
      rcases Nat.lt_or_ge i (LL 11).length with h2 | h2
      · exact h2
      · rw [List.getElem?_eq_none h2] at h1; exact nomatch h1
    have h2 : (LL 11)[i] = (que i)[i] := Option.some.inj ((List.getElem?_eq_getElem hlt).symm.trans h1)
  · exact h1
  · rw [List.drop_eq_getElem_cons hlt, h2]
  · conv => lhs; unfold que
    rw [List.take_add_one (l := LL 11) (i := i), h1, List.flatMap_append]
    simp [que]
theorem que_end (i : Nat) (h : i ≤ (que i).length) (h2 : ¬ i < (que i).length) : (LL 11).drop i = [] :=
  LL_done 11 i (que_rest i) (by show (que i).length = i; omega)
/-- The first letters' words. -/
def chC (s : List UInt8) (c : Nat) : List (List UInt8) := (List.range c).flatMap fun c => if endsB (addL s c) then [] else [addL s c]
theorem chC_succ (s : List UInt8) (c : Nat) : chC s (c + 1) = chC s c ++ (if endsB (addL s c) then [] else [addL s c]) := by
  unfold chC; rw [List.range_succ, List.flatMap_append]; simp
theorem chC_three (s : List UInt8) : chC s 3 = chl 3 s := rfl
theorem chC_len (s : List UInt8) (c : Nat) : (chC s c).length ≤ c := by
  induction c with
  | zero => simp [chC]
  | succ c ih => rw [chC_succ, List.length_append]; split <;> simp <;> omega

/-- A cell of a row of strings. -/
theorem row_at {w : World} {base n : Nat} {v : Value} {l : List (List UInt8)} (h : w.ownsRow base 9 1 v n (l.map strV)) (hn : n = l.length) {i : Nat} {s : List UInt8} (hs : l[i]? = some s) :
    ∃ g o c, v = .slice (some ⟨g, o, none⟩) l.length c ∧ g < w.heap.size ∧ w.cell? ⟨g, o + i, none⟩ = some (.string (mkS s)) := by
  obtain ⟨a1, c1, rfl, hv, hl⟩ := ownsRow_vals h
  have hpos : 0 < l.length := by
    rcases Nat.lt_or_ge i l.length with h1 | h1
    · omega
    · rw [List.getElem?_eq_none h1] at hs; exact nomatch hs
  obtain ⟨g, o, rfl, hg, hc⟩ := Strs.at (m := l) hv hpos
  exact ⟨g, o, c1, by rw [List.length_map], hg, hc i s hs⟩

theorem vals_drew {w : World} {a : Option Addr} {l : List Value} (h : Vals w a l) : Vals w.drew a l := h
theorem run_letX (c : Nat) (W : World) (n : Nat) (X : Int) (h : c ≤ 20) (hX : X = 97 + (c : Int)) (hv : Vals W (some ⟨n, 0, none⟩) [.int .u8 X]) : (convert 66 9 (.slice (some ⟨n, 0, none⟩) 1 1)).run Try.prog W = .ok (.string (letS c)) W := by
  have := run_strB (P := Try.prog) 66 9 5 Try.underlying66 Try.underlying5 Try.underlying9 W (some ⟨n, 0, none⟩) 1 [UInt8.ofNat (97 + c)] (by rw [List.map_singleton, u8v, letter_nat c h, ← hX]; exact hv) (fun h => by cases h)
  exact this
def valKR (o : Option (List UInt8)) : Value := match o with | some x => .tuple #[.string (mkS x), .bool true] | none => .tuple #[.string ⟨#[]⟩, .bool false]
theorem valKR_eq {a b : Option (List UInt8)} (h : a = b) : Ending.returned (valKR a) = .returned (valKR b) := by rw [h]

set_option maxRecDepth 100000 in
set_option maxHeartbeats 4000000 in
theorem refKeeps_any (a : Option Addr) (c0 : Nat) (m : List (List UInt8)) (w : World) (hm : Strs w a m) (h : mapB m = true) :
    Calls Try.prog 34 #[.slice a 3 c0] w fun e w' => e = .returned (valKR (keepsO m 11)) ∧ Below w.heap.size w w' := by
  have HM := hid hm
  have HMAP := hid h
  obtain ⟨R, hR⟩ : ∃ R, R = keepsO m 11 := ⟨_, rfl⟩
  rw [← hR]
  have HR := hid hR
  clear hm h hR
  go_enter Try.func34, Try.ntmps34
  go_wp2_with fail
  go_loopw [4, 5] (fun v i wr => ∃ (j : Nat), j ≤ (que j).length ∧ i = .int .i64 j ∧ Below w.heap.size w wr ∧ Hid (wr.ownsRow w.heap.size 9 1 v (que j).length ((que j).map strV)) ∧ Hid (R = ((LL 11).drop j).find? (badB m))) (fun _ i _ => 1000 - (intOf i).toNat)
  case atStart =>
    refine ⟨0, by simp [que], rfl, (Below.refl _ w).alloc (Nat.le_refl _) _, ?_, HR⟩
    show World.ownsRow _ _ _ _ _ _ _
    exact ⟨by simp [que], .inr ⟨w.heap.size, 1, #[.string ⟨#[]⟩], by simp [que], Nat.le_refl _, Blk.new w _ _, by simp [que], by decide, by simp, by simp [que, strV, mkS]⟩⟩
  case round =>
    obtain ⟨j, hj, rfl, hB, HOWN, HK⟩ := hrel
    have hql := que_len j
    by_cases hlt : j < (que j).length
    · obtain ⟨s, hs1, hs2, hs3, hs4⟩ := que_at j hlt
      obtain ⟨g, o, c1, rfl, hg, hcell⟩ := row_at HOWN.out rfl hs1
      obtain ⟨hsl, hso, hsf⟩ := (mem_LL 11 s).1 (List.mem_of_getElem? hs2)
      have hilen := imgW_len HMAP.out hso
      have IM := fun W (hW : Below w.heap.size w W) => hid (refImage_any a c0 m (mkS s) W (HM.out.below hW (Nat.le_refl _)) HMAP.out (by rw [mkS_size]; omega) (by rw [mkS_data]; exact hso))
      have FI := fun W => hid (refFree_any (mkS (imgW m s)) W (by rw [mkS_size]; omega))
      rw [mkS_data] at IM FI
      have hbad : badB m s = !freeB (imgW m s) := rfl
      have hstep : ((LL 11).drop j).find? (badB m) = if badB m s then some s else ((LL 11).drop (j + 1)).find? (badB m) := by
        rw [hs3, List.find?_cons]; cases badB m s <;> rfl
      rw [hbad] at hstep
      obtain ⟨im, him⟩ : ∃ im, im = mkS (imgW m s) := ⟨_, rfl⟩
      rw [← him] at IM FI
      obtain ⟨fx, hfx⟩ : ∃ fx, fx = freeB (imgW m s) := ⟨_, rfl⟩
      rw [← hfx] at FI hstep
      have hstep2 := HK.out.trans hstep
      have HST := hid hstep2
      have HQ := hid hs4
      have hss := mkS_size s
      obtain ⟨q, hq⟩ : ∃ q, q = (que j).length := ⟨_, rfl⟩
      rw [← hq] at hlt hql HOWN ⊢
      have HQL := hid hq
      have HS1 := hid hs1
      clear hstep hstep2 hs1 hs2 hs3 hs4 hbad hfx him hilen hq hj
      go_wp2_with fail
      refine (IM _ hB).out.mono ?_
      rintro e w1 ⟨rfl, hb1⟩
      go_wp2_with fail
      refine (FI _).out.mono ?_
      rintro e w2 ⟨rfl, hb2⟩
      have hb12 := hb1.trans (hb2.mono hb1.size)
      have q2 := (hb12.cell (p := ⟨g, o + j, none⟩) hg).trans hcell
      have HO2 := hid (ownsRow_low HOWN.out hb12 (Nat.le_refl _))
      have hB2 := hB.trans (hb12.mono hB.size)
      have hg2 := Nat.lt_of_lt_of_le hg hb12.size
      clear hb1 hb2 hb12 hcell hg IM FI hB
      cases fx with
      | false =>
        have hfin : R = some s := HST.out
        have HF := hid hfin
        clear hfin
        go_wp2_with fail
        go_ret2
        exact ⟨valKR_eq HF.out.symm, hB2⟩
      | true =>
        have hfin : R = ((LL 11).drop (j + 1)).find? (badB m) := HST.out
        have HF := hid hfin
        clear hfin HST HK
        by_cases h11 : s.length = 11
        · have hq11 : que (j + 1) = que j := by rw [HQ.out, chB, if_pos h11, List.append_nil]
          have HQ1 := hid hq11
          have he11 : (((mkS s).size : Int) == 11) = true := by rw [mkS_size]; exact beq_iff_eq.2 (by omega)
          clear hq11 hss
          go_wp2_with fail
          refine ⟨⟨j + 1, by rw [HQ1.out]; have := HQL.out; omega, by go_num, hB2, ?_, HF⟩, by simp [intOf]; omega⟩
          rw [Hid, HQ1.out, ← HQL.out]; exact HO2.out
        · have hq11 : que (j + 1) = que j ++ chC s 3 := by rw [HQ.out, chB, if_neg h11, chC_three]
          have HQ1 := hid hq11
          have he11 : (((mkS s).size : Int) == 11) = false := by rw [mkS_size]; exact beq_eq_false_iff_ne.2 (by omega)
          have hsl10 : s.length ≤ 10 := by omega
          clear hq11 h11 hss
          go_wp2_with fail
          go_loopw [4, 6] (fun v i wr2 => ∃ (c : Nat), c ≤ 3 ∧ i = .int .i64 c ∧ Below w.heap.size w wr2 ∧ Hid (wr2.ownsRow w.heap.size 9 1 v (que j ++ chC s c).length ((que j ++ chC s c).map strV))) (fun _ i _ => 3 - (intOf i).toNat)
          case atStart =>
            refine ⟨0, by omega, rfl, hB2, ?_⟩
            rw [Hid, show que j ++ chC s 0 = que j by simp [chC], ← HQL.out]
            exact HO2.out
          case round =>
            obtain ⟨c, hc, rfl, hBx, HOx⟩ := hrel
            have hxl : (que j ++ chC s c).length ≤ 1003 := by
              rw [List.length_append]; have := chC_len s c; have := HQL.out; omega
            have hjx : j < (que j ++ chC s c).length := by rw [List.length_append]; have := HQL.out; omega
            have hsx : (que j ++ chC s c)[j]? = some s := by rw [List.getElem?_append_left (by have := HQL.out; omega)]; exact HS1.out
            obtain ⟨g', o', c', rfl, hg', hcell'⟩ := row_at HOx.out rfl hsx
            by_cases hlt3 : c < 3
            · have hw8 : IntKind.u8.wrap (IntKind.i64.wrap (97 + (c : Int))) = 97 + (c : Int) := by rw [IntWalk.i64_in _ (by omega)]; exact IntWalk.u8_in _ (by omega)
              have hcvA := run_letX c (wr.alloc (.cells #[.int .u8 (IntKind.u8.wrap (IntKind.i64.wrap (97 + (c : Int))))] 5)).drew wr.heap.size _ (by omega) hw8 (vals_drew (vals_new _ _ _ _ rfl))
              have hcvB := run_letX c (wr.drew.alloc (.cells #[.int .u8 (IntKind.u8.wrap (IntKind.i64.wrap (97 + (c : Int))))] 5)) wr.heap.size _ (by omega) hw8 (vals_new _ _ _ _ rfl)
              clear hw8
              have hsz : ¬ 9223372036854775807 < (mkS s).size + (letS c).size := by rw [mkS_size, letS_size]; omega
              have hadd := letS_add s c
              obtain ⟨t, ht⟩ : ∃ t, t = addL s c := ⟨_, rfl⟩
              rw [← ht] at hadd
              have htl : t.length = s.length + 1 := by rw [ht, addL_len]
              have hstep := chC_succ s c
              rw [← ht] at hstep
              have EN := fun W => hid (refEnds_any (mkS t) W (by rw [mkS_size]; omega))
              rw [mkS_data] at EN
              have HST := hid hstep
              obtain ⟨X, hX⟩ : ∃ X, X = que j ++ chC s c := ⟨_, rfl⟩
              rw [← hX] at HOx hxl hjx
              have HX := hid hX
              obtain ⟨xl, hxl2⟩ : ∃ xl, xl = X.length := ⟨_, rfl⟩
              rw [← hxl2] at HOx hxl hjx
              have HXL := hid hxl2
              rw [← hX, ← hxl2]
              clear ht htl hstep hsx hX hxl2
              go_wp2_with fail
              go_region_law (fail)
              all_goals
                have hal : Below wr.heap.size wr ((wr.alloc (.cells #[.int .u8 (97 + (c : Int))] 5)).drew) := ((Below.refl _ wr).alloc (Nat.le_refl _) _).drew
                clear hcvA hcvB
                have HAL := hid hal
                clear hal
                go_wp2_with fail
                refine (EN _).out.mono ?_
                rintro e w5 ⟨rfl, hb5⟩
                have hb5 := HAL.out.trans (hb5.mono HAL.out.size)
                have HO5 := hid (ownsRow_low HOx.out hb5 (Nat.le_refl _))
                have hB5 := hBx.trans (hb5.mono hBx.size)
                cases he : endsB t with
                | true =>
                  have hq : que j ++ chC s (c + 1) = X := by rw [HST.out, if_pos he, List.append_nil, HX.out]
                  have HQX := hid hq
                  clear hq he
                  go_wp2_with fail
                  refine ⟨⟨c + 1, by omega, by go_num, hB5, ?_⟩, by simp [intOf]; omega⟩
                  rw [Hid, HQX.out, ← HXL.out]; exact HO5.out
                | false =>
                  have hq : que j ++ chC s (c + 1) = X ++ [t] := by rw [HST.out, if_neg (by rw [he]; simp), ← List.append_assoc, HX.out]
                  have HQX := hid hq
                  clear hq he
                  have hown1 := HO5.out
                  go_wp2_with (at_builtin; go_must (refine wpList_appS _ rfl (.tmp 50) (.tmp 52) 44 rfl w.heap.size 9 (.string ⟨#[]⟩) 16 Try.underlying44 Try.info9 rfl _ xl _ rfl (hown1.alloc _) (some ⟨w5.heap.size, 0, none⟩) 1 1 [.string _] rfl rfl (vals_new _ _ _ _ rfl) (fun h => by cases h) (by simp [Value.oneCell']) (by omega) (by omega) (by have := hB5.size; simp; omega) ?_))
                  intro v' w6 hown' hgrow
                  have hB' := below_app (hB5.alloc hB5.size _) hgrow (hown1.alloc _) (by have := hB5.size; simp; omega) (Nat.le_refl _)
                  have HO' := hid hown'
                  clear hown' hgrow hown1
                  go_wp2_with fail
                  refine ⟨⟨c + 1, by omega, by go_num, hB', ?_⟩, by simp [intOf]; omega⟩
                  rw [Hid, HQX.out, List.length_append, ← HXL.out, List.map_append]; exact HO'.out
            · have hq : que (j + 1) = que j ++ chC s c := by rw [HQ1.out, show c = 3 by omega]
              have HQX := hid hq
              clear hq hsx
              obtain ⟨X, hX⟩ : ∃ X, X = que j ++ chC s c := ⟨_, rfl⟩
              rw [← hX] at HOx hxl hjx
              have HX := hid hX
              obtain ⟨xl, hxl2⟩ : ∃ xl, xl = X.length := ⟨_, rfl⟩
              rw [← hxl2] at HOx hxl hjx
              have HXL := hid hxl2
              rw [← hX, ← hxl2]
              clear hX hxl2
              go_wp2_with fail
              refine ⟨⟨j + 1, ?_, by go_num, hBx, ?_, HF⟩, by simp [intOf]; omega⟩
              · rw [HQX.out, ← HX.out, ← HXL.out]; omega
              · rw [Hid, HQX.out, ← HX.out, ← HXL.out]; exact HOx.out
    · have hfin : R = none := by rw [HK.out, que_end j hj hlt]; rfl
      have HF := hid hfin
      obtain ⟨a1, c1, rfl, hv1, -⟩ := ownsRow_vals HOWN.out
      have hll : ((que j).map strV).length = (que j).length := List.length_map ..
      rw [hll]
      clear hfin hv1 hll
      go_wp2_with fail
      go_ret2
      exact ⟨valKR_eq HF.out.symm, hB⟩
end Go.Proofs.Ytancficmkkdnfaa
