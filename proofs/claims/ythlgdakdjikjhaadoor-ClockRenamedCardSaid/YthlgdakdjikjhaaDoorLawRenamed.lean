/-
  The law ClockRenamed, walked.
-/
import Derived.Test.YthlgdakdjikjhaaDoorLawSame
import Derived.Test.YthlgdakdjikjhaaDoorIsp
import Derived.StillTailTactics
namespace Go.Proofs.YthlgdakdjikjhaaDoor
open Go.RowKit Go.ChangeMaps
attribute [local go_sem] Oper.semAt_some

theorem natV_take (L : List Nat) (k : Nat) : (L.map natV).take k = (L.take k).map natV := List.map_take.symm
theorem natV_drop (L : List Nat) (k : Nat) : (L.map natV).drop k = (L.drop k).map natV := List.map_drop.symm
theorem nmF_rows (z : List Int) (i : Nat) : ((nmF z i).take (atN z i)).map natV ++ [.int .i64 (i : Int)] ++ ((nmF z i).drop (atN z i)).map natV = (nmF z (i + 1)).map natV := by
  rw [nmF, List.map_append, List.map_append]; rfl

/-- A row of the renamed machine, as far as it is filled. -/
def fillF (M : List (List Nat)) (P : List Nat) (b q t : Nat) : Nat := if P.idxOf t < q then P.getD (stp M (P.idxOf t) b) 0 else 0
theorem fill_succ {M : List (List Nat)} {P : List Nat} {b q : Nat} (hn : P.Nodup) (hq : q < P.length) (hp : ∀ t, t < P.length → t ∈ P) (t : Nat) (ht : t < P.length) : (fillF M P b (q + 1) t : Int) = if t = P.getD q 0 then ((P.getD (stp M q b) 0 : Nat) : Int) else (fillF M P b q t : Int) := by
  have e1 : P.idxOf (P.getD q 0) = q := by
    rw [List.getD, List.getElem?_eq_getElem hq]
    exact hn.idxOf_getElem q hq
  unfold fillF
  by_cases h : t = P.getD q 0
  · rw [if_pos h, h, e1, if_pos (by omega)]
  · rw [if_neg h]
    have hne : P.idxOf t ≠ q := fun e => by
      obtain ⟨j, hj, hj2⟩ := List.getElem_of_mem (hp t ht)
      have e2 : P.idxOf t = j := by rw [← hj2]; exact hn.idxOf_getElem j hj
      rw [e2] at e
      subst e
      exact h (by rw [List.getD, List.getElem?_eq_getElem hj]; exact hj2.symm)
    by_cases h2 : P.idxOf t < q
    · rw [if_pos (by omega), if_pos h2]
    · rw [if_neg (by omega), if_neg h2]
theorem fill_end {M : List (List Nat)} {P : List Nat} {b : Nat} (hp : ∀ t, t < P.length → t ∈ P) (hl : P.length = nst M) : (rowN (fillF M P b P.length) P.length) = rowY M P b := by
  unfold rowN rowY
  rw [hl]
  refine List.map_congr_left fun t ht => ?_
  have := List.mem_range.1 ht
  unfold fillF
  rw [if_pos (by rw [← hl]; exact List.idxOf_lt_length_of_mem (hp t (by omega)))]
theorem Ren.mem {X Z : List (List Nat)} {P : List Nat} (h : Ren X Z P) : ∀ t, t < P.length → t ∈ P := fun t ht => by
  obtain ⟨q, hq, he⟩ := h.surj (t := t) (by rw [← h.full.len]; exact ht)
  have hl := h.full.len
  rw [List.getD, List.getElem?_eq_getElem (by omega)] at he
  exact he ▸ List.getElem_mem _
theorem round_end {w : World} {b base n5 i : Nat} {v : Value} {z : List Int} {xs : List Value} (h : w.ownsRow b 3 1 v n5 xs) (hn : n5 = i + 1) (hx : xs = (nmF z (i + 1)).map natV) (hb : base ≤ b) :
    ∃ a c, v = .slice a (i + 1) c ∧ Hid (w.ownsRow base 3 1 (.slice a (i + 1) c) (i + 1) ((nmF z (i + 1)).map natV)) := by
  subst hn hx
  obtain ⟨a, c, rfl, -, -⟩ := ownsRow_vals h
  rw [List.length_map, nmF_len] at h ⊢
  exact ⟨a, c, rfl, own_base h hb⟩

set_option maxRecDepth 100000 in
set_option maxHeartbeats 16000000 in
theorem renamed_walk (a0 : Option Addr) (len0 cap0 : Nat) (X : List (List Int)) (a1 : Option Addr) (len1 cap1 : Nat) (Y : List (List Int)) (a2 : Option Addr) (len2 cap2 : Nat) (z2 : List Int) (w : World) (hG : Glob w) (w0 : IsRows w a0 len0 cap0 X) (w1 : IsRows w a1 len1 cap1 Y) (w2 : IsRow .i64 w a2 len2 cap2 z2) :
    Calls Tryd.prog 13 #[.slice a0 len0 cap0, .slice a1 len1 cap1, .slice a2 len2 cap2] w fun e w' => e = .returned (.bool true) ∧ Below w.heap.size w w' := by
  have hX := w0
  have hY := hid w1
  obtain ⟨rfl, -⟩ := w0
  obtain ⟨rfl, -⟩ := w1
  have TM := hid (tame_any a0 cap0 X _ hX)
  have HG := hid hG
  have hz2 := w2.bounds
  obtain ⟨k2, e2, n2, c2, m2⟩ := w2.ints
  have hzt : ∀ n ∈ z2.take len2, -9223372036854775808 ≤ n ∧ n ≤ 9223372036854775807 := fun n hn => hz2 n (List.mem_of_mem_take hn)
  obtain ⟨z, hz⟩ : ∃ z, z = z2.take len2 := ⟨_, rfl⟩
  rw [← hz] at k2 e2 hzt
  have HZI := hid k2
  have HZB := hid hzt
  subst e2
  have hmx2 : maxLen ≤ 9223372036854775807 := by decide
  clear hX hG hz2 k2 hzt hz w2
  go_enter Tryd.func13, Tryd.ntmps13
  go_wp2_with fail
  refine TM.out.mono ?_
  rintro e v1 ⟨M, a, c, hM, rfl, ht⟩
  obtain ⟨-, hr, -, -⟩ := ht.out.rows
  have HB1 := hid ht.out.below
  have HRX := hid hr
  have HM := hid hM
  have TM2 := hid (tame_any a1 cap1 Y v1 (isRows_below hY.out HB1.out))
  clear ht hr TM hM hY
  go_wp2_with fail
  refine TM2.out.mono ?_
  rintro e v2 ⟨Z, a', c', hZ, rfl, ht⟩
  obtain ⟨-, hr', -, -⟩ := ht.out.rows
  have hb2 := ht.out.below
  have HB2 := hid (HB1.out.trans (hb2.mono HB1.out.size))
  have HRM := hid (HRX.out.below hb2 (Nat.le_refl _))
  have HRZ := hid hr'
  have HZ := hid hZ
  obtain ⟨g, o, b1, c1, ha, hg, q1⟩ := head_at HM.out HRM.out
  have hn9 := HM.out.n9
  have hn1 := HM.out.n1
  have hb4 := HM.out.b4
  have hm1 := HM.out.b1
  subst ha
  have HQ1 := hid q1
  clear ht hr' hb2 HRX TM2 hZ HB1
  obtain ⟨n, hnn⟩ : ∃ n, n = nst M := ⟨_, rfl⟩
  rw [← hnn] at q1 hn9 hn1 HQ1
  have HNN := hid hnn
  clear hnn
  go_wp2_with fail
  go_loopw [10, 11] (fun v iv W => ∃ (i : Nat) (av : Option Addr) (cv : Nat), i ≤ n ∧ iv = .int .i64 i ∧ v = .slice av i cv ∧ Below v2.heap.size v2 W ∧ Hid (W.ownsRow v2.heap.size 3 1 (.slice av i cv) i ((nmF z i).map natV))) (fun _ iv _ => n - (intOf iv).toNat)
  case atStart => exact ⟨0, none, 0, by omega, rfl, rfl, Below.refl _ _, World.ownsRow_nil _ _ _ _⟩
  case round =>
    obtain ⟨i, av, cv, hi, rfl, rfl, hB, HO⟩ := hrel
    have HB := hid hB
    clear hB
    by_cases hin : i < n
    · have d0 : decide (i < n) = true := decide_eq_true hin
      obtain ⟨t, htt⟩ : ∃ t, t = atN z i := ⟨_, rfl⟩
      have hti : t ≤ i := by rw [htt]; exact atN_le z i
      have hrows := nmF_rows z i
      rw [← htt] at hrows
      have HROWS := hid hrows
      have hlN := nmF_len z i
      obtain ⟨N, hN⟩ : ∃ N, N = nmF z i := ⟨_, rfl⟩
      rw [← hN] at HO HROWS hlN
      have HLN := hid hlN
      obtain ⟨-, hic, hnc⟩ := ownsRow_facts HO.out
      have hVN : Vals wr av (N.map natV) := by
        obtain ⟨ax, cx, he, hv, -⟩ := ownsRow_vals HO.out
        cases he; exact hv
      have HVN := hid hVN
      have HNC := hid hnc
      have HTT := hid htt
      clear hrows hlN hN hVN hnc htt
      cases av with
      | none =>
        have hcv : cv = 0 := HNC.out rfl
        subst hcv
        by_cases hiz : i < z.length
        · have dz : decide (i < z.length) = true := decide_eq_true hiz
          obtain ⟨x, hx, -⟩ := list_drop_cons z i hiz
          obtain ⟨gz, oz, rfl, hgz, hcz⟩ := HZI.out.at (by omega)
          have q6 := (HB.out.cell (p := ⟨gz, oz + i, none⟩) (Nat.lt_of_lt_of_le hgz HB2.out.size)).trans ((HB2.out.cell (p := ⟨gz, oz + i, none⟩) hgz).trans (hcz i x hx))
          have C := mod_any x (i + 1) wr (by omega) (by omega) (HZB.out x (List.mem_of_getElem? hx))
          rw [show modN x (i + 1) = t by rw [HTT.out]; unfold atN; rw [if_pos hiz, List.getD, hx]; rfl, show ((i + 1 : Nat) : Int) = (i : Int) + 1 by omega] at C
          have C := hid C
          clear hx hcz HTT
          go_wp2_with fail
          refine C.out.mono ?_
          rintro e w9 ⟨rfl, rfl⟩
          clear C q6
          have hlt1 : t = ((N.take t).map natV).length := by rw [List.length_map, List.length_take, HLN.out]; omega
          have hv1 : Vals wr none ((N.take t).map natV) := by rw [← natV_take]; exact HVN.out.take t
          have HLT1 := hid hlt1
          have HV1 := hid hv1
          clear hlt1 hv1
          go_wp2_with (at_builtin; go_must (refine wpList_app _ rfl (.tmp 64) (.tmp 67) 38 rfl wr.heap.size 3 (.int .i64 0) 8 Tryd.underlying38 Tryd.info3 rfl _ 0 [] rfl (World.ownsRow_nil _ _ _ _) none t 0 ((N.take t).map natV) rfl HLT1.out HV1.out (fun _ => ⟨by omega, rfl⟩) (natV_one _) (by omega) (by omega) (Nat.le_refl _) ?_))
          intro v3 w3 hown1 hgrow1 _
          have hbb1 := (Below.refl wr.heap.size wr).grown hgrow1 (Nat.le_refl _) (by simp [Value.ownBlock])
          replace hown1 : w3.ownsRow wr.heap.size 3 1 v3 t ((N.take t).map natV) := by simpa using hown1
          have HO1 := hid hown1
          have HB1 := hid hbb1
          have hz1 := hbb1.size
          clear hown1 hgrow1 hbb1
          go_wp2_with (at_builtin; go_must (refine wpList_app _ rfl (.tmp 69) (.tmp 71) 38 rfl wr.heap.size 3 (.int .i64 0) 8 Tryd.underlying38 Tryd.info3 rfl _ t _ rfl (HO1.out.alloc _) (some ⟨w3.heap.size, 0, none⟩) 1 1 [.int .i64 _] rfl rfl (vals_new _ _ _ _ rfl) (fun h => by cases h) (by simp [Value.oneCell']) (by omega) (by omega) (by simp; omega) ?_))
          intro v4 w4 hown2 hgrow2 _
          have hbb2 := below_app (HB1.out.alloc hz1 _) hgrow2 (HO1.out.alloc _) (by simp; omega) (Nat.le_refl _)
          have HO2 := hid hown2
          have HB2' := hid hbb2
          have hz2 := hbb2.size
          clear hown2 hgrow2 hbb2
          have hlr : i - t = ((N.drop t).map natV).length := by rw [List.length_map, List.length_drop, HLN.out]
          have hvr : Vals w4 none ((N.drop t).map natV) := by rw [List.drop_of_length_le (by rw [HLN.out]; omega)]; exact Vals.nil _ _
          have HLR := hid hlr
          have HVR := hid hvr
          clear hlr hvr
          go_wp2_with (at_builtin; go_must (refine wpList_app _ rfl (.tmp 73) (.tmp 76) 38 rfl wr.heap.size 3 (.int .i64 0) 8 Tryd.underlying38 Tryd.info3 rfl _ (t + 1) _ rfl HO2.out none (i - t) 0 ((N.drop t).map natV) rfl HLR.out HVR.out (fun _ => ⟨by omega, rfl⟩) (natV_one _) (by omega) (by omega) (by omega) ?_))
          intro v5 w5 hown3 hgrow3 _
          have hbb3 := below_app HB2'.out hgrow3 HO2.out (by omega) (Nat.le_refl _)
          have HB3 := hid (HB.out.trans (hbb3.mono HB.out.size))
          obtain ⟨av', cv', rfl, HO3⟩ := round_end (i := i) (z := z) (base := v2.heap.size) hown3 (by omega) (by simpa using HROWS.out) HB.out.size
          clear hown3 hgrow3 hbb3
          go_wp2_with fail
          exact ⟨⟨i + 1, av', cv', by omega, by go_num, rfl, HB3.out, HO3⟩, by simp [intOf]; omega⟩
        · have dz0 : z.length = 0 ∨ 0 < i := by omega
          have hi0 : i = 0 := by omega
          have ht0 : t = 0 := by omega
          subst hi0
          subst ht0
          have dz : decide (0 < z.length) = false := decide_eq_false hiz
          have hN0 : N = [] := List.eq_nil_of_length_eq_zero HLN.out
          have HN0 := hid (show ([] : List Value) ++ [.int .i64 0] ++ ([] : List Nat).map natV = (nmF z (0 + 1)).map natV by
            have := HROWS.out
            rw [hN0] at this
            exact this)
          clear hN0 HTT HROWS HVN HLN hiz dz0
          go_wp2_with (at_builtin; go_must (refine wpList_app _ rfl (.tmp 64) (.tmp 67) 38 rfl wr.heap.size 3 (.int .i64 0) 8 Tryd.underlying38 Tryd.info3 rfl _ 0 [] rfl (World.ownsRow_nil _ _ _ _) none 0 0 (([] : List Nat).map natV) rfl rfl (Vals.nil _ _) (fun _ => ⟨rfl, rfl⟩) (natV_one _) (by omega) (by omega) (Nat.le_refl _) ?_))
          intro v3 w3 hown1 hgrow1 _
          have hbb1 := (Below.refl wr.heap.size wr).grown hgrow1 (Nat.le_refl _) (by simp [Value.ownBlock])
          replace hown1 : w3.ownsRow wr.heap.size 3 1 v3 0 [] := by simpa using hown1
          have HO1 := hid hown1
          have HB1 := hid hbb1
          have hz1 := hbb1.size
          clear hown1 hgrow1 hbb1
          go_wp2_with (at_builtin; go_must (refine wpList_app _ rfl (.tmp 69) (.tmp 71) 38 rfl wr.heap.size 3 (.int .i64 0) 8 Tryd.underlying38 Tryd.info3 rfl _ 0 _ rfl (HO1.out.alloc _) (some ⟨w3.heap.size, 0, none⟩) 1 1 [.int .i64 _] rfl rfl (vals_new _ _ _ _ rfl) (fun h => by cases h) (by simp [Value.oneCell']) (by omega) (by omega) (by simp; omega) ?_))
          intro v4 w4 hown2 hgrow2 _
          have hbb2 := below_app (HB1.out.alloc hz1 _) hgrow2 (World.ownsRow_nil _ wr.heap.size 3 1) (by simp; omega) (Nat.le_refl _)
          replace hown2 : w4.ownsRow wr.heap.size 3 1 v4 1 [.int .i64 0] := by simpa using hown2
          have HO2 := hid hown2
          have HB2' := hid hbb2
          have hz2 := hbb2.size
          clear hown2 hgrow2 hbb2
          go_wp2_with (at_builtin; go_must (refine wpList_app _ rfl (.tmp 73) (.tmp 76) 38 rfl wr.heap.size 3 (.int .i64 0) 8 Tryd.underlying38 Tryd.info3 rfl _ 1 _ rfl HO2.out none 0 0 (([] : List Nat).map natV) rfl rfl (Vals.nil _ _) (fun _ => ⟨rfl, rfl⟩) (natV_one _) (by omega) (by omega) (by omega) ?_))
          intro v5 w5 hown3 hgrow3 _
          have hbb3 := below_app HB2'.out hgrow3 HO2.out (by omega) (Nat.le_refl _)
          have HB3 := hid (HB.out.trans (hbb3.mono HB.out.size))
          obtain ⟨av', cv', rfl, HO3⟩ := round_end (i := 0) (z := z) (base := v2.heap.size) hown3 (by omega) (by simpa using HN0.out) HB.out.size
          clear hown3 hgrow3 hbb3
          go_wp2_with fail
          exact ⟨⟨0 + 1, av', cv', by omega, rfl, rfl, HB3.out, HO3⟩, by simp [intOf]; omega⟩
      | some ad =>
        obtain ⟨g3, o3, rfl⟩ : ∃ g3 o3, ad = ⟨g3, o3, none⟩ := by
          rcases HO.out.2 with ⟨h, -⟩ | ⟨g3, cap, cur, h, -⟩
          · cases h
          · cases h; exact ⟨_, _, rfl⟩
        by_cases hiz : i < z.length
        · have dz : decide (i < z.length) = true := decide_eq_true hiz
          obtain ⟨x, hx, -⟩ := list_drop_cons z i hiz
          obtain ⟨gz, oz, rfl, hgz, hcz⟩ := HZI.out.at (by omega)
          have q6 := (HB.out.cell (p := ⟨gz, oz + i, none⟩) (Nat.lt_of_lt_of_le hgz HB2.out.size)).trans ((HB2.out.cell (p := ⟨gz, oz + i, none⟩) hgz).trans (hcz i x hx))
          have C := mod_any x (i + 1) wr (by omega) (by omega) (HZB.out x (List.mem_of_getElem? hx))
          rw [show modN x (i + 1) = t by rw [HTT.out]; unfold atN; rw [if_pos hiz, List.getD, hx]; rfl, show ((i + 1 : Nat) : Int) = (i : Int) + 1 by omega] at C
          have C := hid C
          clear hx hcz HTT
          go_wp2_with fail
          refine C.out.mono ?_
          rintro e w9 ⟨rfl, rfl⟩
          clear C q6
          by_cases hte : t = i
          · subst hte
            by_cases htc : t = cv
            · subst htc
              have hlt1 : t = ((N.take t).map natV).length := by rw [List.length_map, List.length_take, HLN.out]; omega
              have hv1 : Vals wr (some ⟨g3, o3, none⟩) ((N.take t).map natV) := by rw [← natV_take]; exact HVN.out.take t
              have HLT1 := hid hlt1
              have HV1 := hid hv1
              clear hlt1 hv1
              go_wp2_with (at_builtin; go_must (refine wpList_app _ rfl (.tmp 64) (.tmp 67) 38 rfl wr.heap.size 3 (.int .i64 0) 8 Tryd.underlying38 Tryd.info3 rfl _ 0 [] rfl (World.ownsRow_nil _ _ _ _) (some ⟨g3, o3, none⟩) t t ((N.take t).map natV) rfl HLT1.out HV1.out (fun h => by cases h) (natV_one _) (by omega) (by omega) (Nat.le_refl _) ?_))
              intro v3 w3 hown1 hgrow1 _
              have hbb1 := (Below.refl wr.heap.size wr).grown hgrow1 (Nat.le_refl _) (by simp [Value.ownBlock])
              replace hown1 : w3.ownsRow wr.heap.size 3 1 v3 t ((N.take t).map natV) := by simpa using hown1
              have HO1 := hid hown1
              have HB1 := hid hbb1
              have hz1 := hbb1.size
              clear hown1 hgrow1 hbb1
              go_wp2_with (at_builtin; go_must (refine wpList_app _ rfl (.tmp 69) (.tmp 71) 38 rfl wr.heap.size 3 (.int .i64 0) 8 Tryd.underlying38 Tryd.info3 rfl _ t _ rfl (HO1.out.alloc _) (some ⟨w3.heap.size, 0, none⟩) 1 1 [.int .i64 _] rfl rfl (vals_new _ _ _ _ rfl) (fun h => by cases h) (by simp [Value.oneCell']) (by omega) (by omega) (by simp; omega) ?_))
              intro v4 w4 hown2 hgrow2 _
              have hbb2 := below_app (HB1.out.alloc hz1 _) hgrow2 (HO1.out.alloc _) (by simp; omega) (Nat.le_refl _)
              have HO2 := hid hown2
              have HB2' := hid hbb2
              have hz2 := hbb2.size
              clear hown2 hgrow2 hbb2
              go_wp2_with (at_builtin; go_must (refine wpList_app _ rfl (.tmp 73) (.tmp 76) 38 rfl wr.heap.size 3 (.int .i64 0) 8 Tryd.underlying38 Tryd.info3 rfl _ (t + 1) _ rfl HO2.out (some ⟨g3, o3, none⟩) 0 0 (([] : List Nat).map natV) rfl rfl (Vals.nil _ _) (fun h => by cases h) (natV_one _) (by omega) (by omega) (by omega) ?_))
              intro v5 w5 hown3 hgrow3 _
              have hbb3 := below_app HB2'.out hgrow3 HO2.out (by omega) (Nat.le_refl _)
              have HB3 := hid (HB.out.trans (hbb3.mono HB.out.size))
              obtain ⟨av', cv', rfl, HO3⟩ := round_end (i := t) (z := z) (base := v2.heap.size) hown3 (by omega) (by have := HROWS.out; rw [List.drop_of_length_le (by rw [HLN.out]; omega)] at this; simpa using this) HB.out.size
              clear hown3 hgrow3 hbb3
              go_wp2_with fail
              exact ⟨⟨t + 1, av', cv', by omega, by go_num, rfl, HB3.out, HO3⟩, by simp [intOf]; omega⟩
            · have htc2 : t < cv := by omega
              clear htc
              have hlt1 : t = ((N.take t).map natV).length := by rw [List.length_map, List.length_take, HLN.out]; omega
              have hv1 : Vals wr (some ⟨g3, o3, none⟩) ((N.take t).map natV) := by rw [← natV_take]; exact HVN.out.take t
              have HLT1 := hid hlt1
              have HV1 := hid hv1
              clear hlt1 hv1
              go_wp2_with (at_builtin; go_must (refine wpList_app _ rfl (.tmp 64) (.tmp 67) 38 rfl wr.heap.size 3 (.int .i64 0) 8 Tryd.underlying38 Tryd.info3 rfl _ 0 [] rfl (World.ownsRow_nil _ _ _ _) (some ⟨g3, o3, none⟩) t cv ((N.take t).map natV) rfl HLT1.out HV1.out (fun h => by cases h) (natV_one _) (by omega) (by omega) (Nat.le_refl _) ?_))
              intro v3 w3 hown1 hgrow1 _
              have hbb1 := (Below.refl wr.heap.size wr).grown hgrow1 (Nat.le_refl _) (by simp [Value.ownBlock])
              replace hown1 : w3.ownsRow wr.heap.size 3 1 v3 t ((N.take t).map natV) := by simpa using hown1
              have HO1 := hid hown1
              have HB1 := hid hbb1
              have hz1 := hbb1.size
              clear hown1 hgrow1 hbb1
              go_wp2_with (at_builtin; go_must (refine wpList_app _ rfl (.tmp 69) (.tmp 71) 38 rfl wr.heap.size 3 (.int .i64 0) 8 Tryd.underlying38 Tryd.info3 rfl _ t _ rfl (HO1.out.alloc _) (some ⟨w3.heap.size, 0, none⟩) 1 1 [.int .i64 _] rfl rfl (vals_new _ _ _ _ rfl) (fun h => by cases h) (by simp [Value.oneCell']) (by omega) (by omega) (by simp; omega) ?_))
              intro v4 w4 hown2 hgrow2 _
              have hbb2 := below_app (HB1.out.alloc hz1 _) hgrow2 (HO1.out.alloc _) (by simp; omega) (Nat.le_refl _)
              have HO2 := hid hown2
              have HB2' := hid hbb2
              have hz2 := hbb2.size
              clear hown2 hgrow2 hbb2
              go_wp2_with (at_builtin; go_must (refine wpList_app _ rfl (.tmp 73) (.tmp 76) 38 rfl wr.heap.size 3 (.int .i64 0) 8 Tryd.underlying38 Tryd.info3 rfl _ (t + 1) _ rfl HO2.out (some ⟨g3, o3 + t, none⟩) 0 (cv - t) (([] : List Nat).map natV) rfl rfl (Vals.nil _ _) (fun h => by cases h) (natV_one _) (by omega) (by omega) (by omega) ?_))
              intro v5 w5 hown3 hgrow3 _
              have hbb3 := below_app HB2'.out hgrow3 HO2.out (by omega) (Nat.le_refl _)
              have HB3 := hid (HB.out.trans (hbb3.mono HB.out.size))
              obtain ⟨av', cv', rfl, HO3⟩ := round_end (i := t) (z := z) (base := v2.heap.size) hown3 (by omega) (by have := HROWS.out; rw [List.drop_of_length_le (by rw [HLN.out]; omega)] at this; simpa using this) HB.out.size
              clear hown3 hgrow3 hbb3
              go_wp2_with fail
              exact ⟨⟨t + 1, av', cv', by omega, by go_num, rfl, HB3.out, HO3⟩, by simp [intOf]; omega⟩
          · have hte2 : t < i := by omega
            clear hte
            have hlt1 : t = ((N.take t).map natV).length := by rw [List.length_map, List.length_take, HLN.out]; omega
            have hv1 : Vals wr (some ⟨g3, o3, none⟩) ((N.take t).map natV) := by rw [← natV_take]; exact HVN.out.take t
            have HLT1 := hid hlt1
            have HV1 := hid hv1
            clear hlt1 hv1
            go_wp2_with (at_builtin; go_must (refine wpList_app _ rfl (.tmp 64) (.tmp 67) 38 rfl wr.heap.size 3 (.int .i64 0) 8 Tryd.underlying38 Tryd.info3 rfl _ 0 [] rfl (World.ownsRow_nil _ _ _ _) (some ⟨g3, o3, none⟩) t cv ((N.take t).map natV) rfl HLT1.out HV1.out (fun h => by cases h) (natV_one _) (by omega) (by omega) (Nat.le_refl _) ?_))
            intro v3 w3 hown1 hgrow1 _
            have hbb1 := (Below.refl wr.heap.size wr).grown hgrow1 (Nat.le_refl _) (by simp [Value.ownBlock])
            replace hown1 : w3.ownsRow wr.heap.size 3 1 v3 t ((N.take t).map natV) := by simpa using hown1
            have HO1 := hid hown1
            have HB1 := hid hbb1
            have hz1 := hbb1.size
            clear hown1 hgrow1 hbb1
            go_wp2_with (at_builtin; go_must (refine wpList_app _ rfl (.tmp 69) (.tmp 71) 38 rfl wr.heap.size 3 (.int .i64 0) 8 Tryd.underlying38 Tryd.info3 rfl _ t _ rfl (HO1.out.alloc _) (some ⟨w3.heap.size, 0, none⟩) 1 1 [.int .i64 _] rfl rfl (vals_new _ _ _ _ rfl) (fun h => by cases h) (by simp [Value.oneCell']) (by omega) (by omega) (by simp; omega) ?_))
            intro v4 w4 hown2 hgrow2 _
            have hbb2 := below_app (HB1.out.alloc hz1 _) hgrow2 (HO1.out.alloc _) (by simp; omega) (Nat.le_refl _)
            have HO2 := hid hown2
            have HB2' := hid hbb2
            have hz2 := hbb2.size
            clear hown2 hgrow2 hbb2
            have hlr : i - t = ((N.drop t).map natV).length := by rw [List.length_map, List.length_drop, HLN.out]
            have hvr : Vals w4 (some ⟨g3, o3 + t, none⟩) ((N.drop t).map natV) := by rw [← natV_drop]; exact (HVN.out.below HB2'.out (Nat.le_refl _)).drop t
            have HLR := hid hlr
            have HVR := hid hvr
            clear hlr hvr
            go_wp2_with (at_builtin; go_must (refine wpList_app _ rfl (.tmp 73) (.tmp 76) 38 rfl wr.heap.size 3 (.int .i64 0) 8 Tryd.underlying38 Tryd.info3 rfl _ (t + 1) _ rfl HO2.out (some ⟨g3, o3 + t, none⟩) (i - t) (cv - t) ((N.drop t).map natV) rfl HLR.out HVR.out (fun h => by cases h) (natV_one _) (by omega) (by omega) (by omega) ?_))
            intro v5 w5 hown3 hgrow3 _
            have hbb3 := below_app HB2'.out hgrow3 HO2.out (by omega) (Nat.le_refl _)
            have HB3 := hid (HB.out.trans (hbb3.mono HB.out.size))
            obtain ⟨av', cv', rfl, HO3⟩ := round_end (i := i) (z := z) (base := v2.heap.size) hown3 (by omega) (by simpa using HROWS.out) HB.out.size
            clear hown3 hgrow3 hbb3
            go_wp2_with fail
            exact ⟨⟨i + 1, av', cv', by omega, by go_num, rfl, HB3.out, HO3⟩, by simp [intOf]; omega⟩
        · have dz : decide (i < z.length) = false := decide_eq_false hiz
          have hte : t = i := by rw [HTT.out]; unfold atN; rw [if_neg hiz]
          subst hte
          by_cases htc : t = cv
          · subst htc
            have hlt1 : t = ((N.take t).map natV).length := by rw [List.length_map, List.length_take, HLN.out]; omega
            have hv1 : Vals wr (some ⟨g3, o3, none⟩) ((N.take t).map natV) := by rw [← natV_take]; exact HVN.out.take t
            have HLT1 := hid hlt1
            have HV1 := hid hv1
            clear hlt1 hv1
            go_wp2_with (at_builtin; go_must (refine wpList_app _ rfl (.tmp 64) (.tmp 67) 38 rfl wr.heap.size 3 (.int .i64 0) 8 Tryd.underlying38 Tryd.info3 rfl _ 0 [] rfl (World.ownsRow_nil _ _ _ _) (some ⟨g3, o3, none⟩) t t ((N.take t).map natV) rfl HLT1.out HV1.out (fun h => by cases h) (natV_one _) (by omega) (by omega) (Nat.le_refl _) ?_))
            intro v3 w3 hown1 hgrow1 _
            have hbb1 := (Below.refl wr.heap.size wr).grown hgrow1 (Nat.le_refl _) (by simp [Value.ownBlock])
            replace hown1 : w3.ownsRow wr.heap.size 3 1 v3 t ((N.take t).map natV) := by simpa using hown1
            have HO1 := hid hown1
            have HB1 := hid hbb1
            have hz1 := hbb1.size
            clear hown1 hgrow1 hbb1
            go_wp2_with (at_builtin; go_must (refine wpList_app _ rfl (.tmp 69) (.tmp 71) 38 rfl wr.heap.size 3 (.int .i64 0) 8 Tryd.underlying38 Tryd.info3 rfl _ t _ rfl (HO1.out.alloc _) (some ⟨w3.heap.size, 0, none⟩) 1 1 [.int .i64 _] rfl rfl (vals_new _ _ _ _ rfl) (fun h => by cases h) (by simp [Value.oneCell']) (by omega) (by omega) (by simp; omega) ?_))
            intro v4 w4 hown2 hgrow2 _
            have hbb2 := below_app (HB1.out.alloc hz1 _) hgrow2 (HO1.out.alloc _) (by simp; omega) (Nat.le_refl _)
            have HO2 := hid hown2
            have HB2' := hid hbb2
            have hz2 := hbb2.size
            clear hown2 hgrow2 hbb2
            go_wp2_with (at_builtin; go_must (refine wpList_app _ rfl (.tmp 73) (.tmp 76) 38 rfl wr.heap.size 3 (.int .i64 0) 8 Tryd.underlying38 Tryd.info3 rfl _ (t + 1) _ rfl HO2.out (some ⟨g3, o3, none⟩) 0 0 (([] : List Nat).map natV) rfl rfl (Vals.nil _ _) (fun h => by cases h) (natV_one _) (by omega) (by omega) (by omega) ?_))
            intro v5 w5 hown3 hgrow3 _
            have hbb3 := below_app HB2'.out hgrow3 HO2.out (by omega) (Nat.le_refl _)
            have HB3 := hid (HB.out.trans (hbb3.mono HB.out.size))
            obtain ⟨av', cv', rfl, HO3⟩ := round_end (i := t) (z := z) (base := v2.heap.size) hown3 (by omega) (by have := HROWS.out; rw [List.drop_of_length_le (by rw [HLN.out]; omega)] at this; simpa using this) HB.out.size
            clear hown3 hgrow3 hbb3
            go_wp2_with fail
            exact ⟨⟨t + 1, av', cv', by omega, by go_num, rfl, HB3.out, HO3⟩, by simp [intOf]; omega⟩
          · have htc2 : t < cv := by omega
            clear htc
            have hlt1 : t = ((N.take t).map natV).length := by rw [List.length_map, List.length_take, HLN.out]; omega
            have hv1 : Vals wr (some ⟨g3, o3, none⟩) ((N.take t).map natV) := by rw [← natV_take]; exact HVN.out.take t
            have HLT1 := hid hlt1
            have HV1 := hid hv1
            clear hlt1 hv1
            go_wp2_with (at_builtin; go_must (refine wpList_app _ rfl (.tmp 64) (.tmp 67) 38 rfl wr.heap.size 3 (.int .i64 0) 8 Tryd.underlying38 Tryd.info3 rfl _ 0 [] rfl (World.ownsRow_nil _ _ _ _) (some ⟨g3, o3, none⟩) t cv ((N.take t).map natV) rfl HLT1.out HV1.out (fun h => by cases h) (natV_one _) (by omega) (by omega) (Nat.le_refl _) ?_))
            intro v3 w3 hown1 hgrow1 _
            have hbb1 := (Below.refl wr.heap.size wr).grown hgrow1 (Nat.le_refl _) (by simp [Value.ownBlock])
            replace hown1 : w3.ownsRow wr.heap.size 3 1 v3 t ((N.take t).map natV) := by simpa using hown1
            have HO1 := hid hown1
            have HB1 := hid hbb1
            have hz1 := hbb1.size
            clear hown1 hgrow1 hbb1
            go_wp2_with (at_builtin; go_must (refine wpList_app _ rfl (.tmp 69) (.tmp 71) 38 rfl wr.heap.size 3 (.int .i64 0) 8 Tryd.underlying38 Tryd.info3 rfl _ t _ rfl (HO1.out.alloc _) (some ⟨w3.heap.size, 0, none⟩) 1 1 [.int .i64 _] rfl rfl (vals_new _ _ _ _ rfl) (fun h => by cases h) (by simp [Value.oneCell']) (by omega) (by omega) (by simp; omega) ?_))
            intro v4 w4 hown2 hgrow2 _
            have hbb2 := below_app (HB1.out.alloc hz1 _) hgrow2 (HO1.out.alloc _) (by simp; omega) (Nat.le_refl _)
            have HO2 := hid hown2
            have HB2' := hid hbb2
            have hz2 := hbb2.size
            clear hown2 hgrow2 hbb2
            go_wp2_with (at_builtin; go_must (refine wpList_app _ rfl (.tmp 73) (.tmp 76) 38 rfl wr.heap.size 3 (.int .i64 0) 8 Tryd.underlying38 Tryd.info3 rfl _ (t + 1) _ rfl HO2.out (some ⟨g3, o3 + t, none⟩) 0 (cv - t) (([] : List Nat).map natV) rfl rfl (Vals.nil _ _) (fun h => by cases h) (natV_one _) (by omega) (by omega) (by omega) ?_))
            intro v5 w5 hown3 hgrow3 _
            have hbb3 := below_app HB2'.out hgrow3 HO2.out (by omega) (Nat.le_refl _)
            have HB3 := hid (HB.out.trans (hbb3.mono HB.out.size))
            obtain ⟨av', cv', rfl, HO3⟩ := round_end (i := t) (z := z) (base := v2.heap.size) hown3 (by omega) (by have := HROWS.out; rw [List.drop_of_length_le (by rw [HLN.out]; omega)] at this; simpa using this) HB.out.size
            clear hown3 hgrow3 hbb3
            go_wp2_with fail
            exact ⟨⟨t + 1, av', cv', by omega, by go_num, rfl, HB3.out, HO3⟩, by simp [intOf]; omega⟩
    · have d0 : decide (i < n) = false := decide_eq_false hin
      have hie : i = n := by omega
      subst hie
      obtain ⟨P, hP⟩ : ∃ P, P = nmF z i := ⟨_, rfl⟩
      rw [← hP] at HO
      have hlP : P.length = i := by rw [hP]; exact nmF_len z i
      have hnP : P.Nodup := by rw [hP]; exact nmF_nodup z i
      have htP : ∀ x ∈ P, x < i := by rw [hP]; exact nmF_lt z i
      have REN := hid (machY_ren HM.out (P := P) (by rw [hlP]; exact HNN.out) hnP (fun x hx => by rw [← HNN.out]; exact htP x hx))
      have HP2 := hid (And.intro hlP (And.intro hnP htP))
      have HRM3 := hid (HRM.out.below HB.out (Nat.le_refl _))
      have HRZ3 := hid (HRZ.out.below HB.out (Nat.le_refl _))
      have HIP := hid (show Ints wr av (castL P) from own_ints (by rw [hlP]; exact HO.out))
      have HB3 := hid (HB2.out.trans (HB.out.mono HB2.out.size))
      have q3 := (HB.out.cell (p := ⟨g, o, none⟩) hg).trans HQ1.out
      have hg3 := Nat.lt_of_lt_of_le hg HB.out.size
      obtain ⟨w3, hw3⟩ : ∃ w3 : World, w3 = wr := ⟨_, rfl⟩
      clear hP hlP hnP htP HO HRM HRZ HB HQ1 q1 HZI HZB
      rw [← hw3] at HRM3 HRZ3 HIP HB3 q3 hg3
      subst hw3
      go_wp2_with fail
      go_loopw [14, 15] (fun v bv W => ∃ b : Nat, b ≤ M.length ∧ bv = .int .i64 b ∧ Hid (Tab w3 W v (intM (machY M P b)))) (fun _ bv _ => M.length - (intOf bv).toNat)
      case atStart => exact ⟨0, by omega, rfl, Tab.start w3⟩
      case round =>
        obtain ⟨b, hb, rfl, HT⟩ := hrel
        obtain ⟨W0, rfl⟩ : ∃ W0, W0 = wr := ⟨_, rfl⟩
        have hsz := HT.out.below.size
        by_cases hbk : b < M.length
        · have dbk : decide (b < M.length) = true := decide_eq_true hbk
          have hmk2 : ∀ W : World, (Instr.makeSlice 38 (.int .i64 (i : Int)) (.int .i64 (i : Int))).run Tryd.prog W = .ok (.slice (some ⟨W.heap.size, 0, none⟩) i i) (W.alloc (.cells (rowA (fun _ => 0) i) 3)) := by
            intro W
            have hmk := run_make_row' (P := Tryd.prog) 38 3 (.int .i64 0) 8 Tryd.underlying38 Tryd.info3 rfl .i64 .i64 i (by omega) (by omega) W
            rw [← rowA_made]; exact hmk
          go_wp2_with fail
          have HMS := hid (Blk.new W0 (rowA (fun t => (fillF M P b 0 t : Int)) i) 3)
          have hz0 : (rowA (fun _ => 0) i) = rowA (fun t => (fillF M P b 0 t : Int)) i := by
            refine rowA_congr fun t _ => ?_
            unfold fillF; rw [if_neg (by omega)]; rfl
          have HZ0 := hid hz0
          clear hz0
          rw [HZ0.out]
          go_loopw [17] (fun qv W => ∃ q : Nat, q ≤ i ∧ qv = .int .i64 q ∧ Below W0.heap.size W0 W ∧ Blk W W0.heap.size (rowA (fun t => (fillF M P b q t : Int)) i) 3) (fun qv _ => i - (intOf qv).toNat)
          case atStart => exact ⟨0, by omega, rfl, (Below.refl _ W0).alloc (Nat.le_refl _) _, HMS.out⟩
          case round =>
            obtain ⟨q, hq, rfl, hBw, hBlk⟩ := hrel
            have HBw := hid hBw
            have HBlk := hid hBlk
            have HBW3 := hid (HT.out.below.trans (hBw.mono HT.out.below.size))
            clear hBw hBlk
            by_cases hqi : q < i
            · have dqi : decide (q < i) = true := decide_eq_true hqi
              obtain ⟨hlP, hnP, htP⟩ := HP2.out
              obtain ⟨t1, ht1, -⟩ := list_drop_cons P q (by omega)
              have ht1n := htP t1 (List.mem_of_getElem? ht1)
              obtain ⟨gP, oP, hadP, hgP, hcP⟩ := HIP.out.at (by rw [castL_len]; omega)
              subst hadP
              have k1 := (HBW3.out.cell (p := ⟨gP, oP + q, none⟩) hgP).trans (hcP q (t1 : Int) (castL_at ht1))
              obtain ⟨gM, oM, bM, cM, ha, hgM, qM, hrow⟩ := row_at HM.out HRM3.out b hbk
              cases ha
              rw [← HNN.out] at qM
              have k2 := (HBW3.out.cell (p := ⟨g, o + b, none⟩) hgM).trans qM
              have hps := stp_row (M := M) (b := b) (q := q) (by rw [HM.out.row _ (getD_mem hbk), ← HNN.out]; exact hqi)
              have hsn := stp_lt HM.out hbk (q := q) (by rw [← HNN.out]; exact hqi)
              rw [← HNN.out] at hsn
              obtain ⟨gm, om, hbm, hgm, hcm⟩ := hrow.at (by have := (List.getElem?_eq_some_iff.1 hps).1; omega)
              subst hbm
              have k3 := (HBW3.out.cell (p := ⟨gm, om + q, none⟩) hgm).trans (hcm q _ hps)
              obtain ⟨y1, hy1, -⟩ := list_drop_cons P (stp M q b) (by omega)
              have k4 := (HBW3.out.cell (p := ⟨gP, oP + stp M q b, none⟩) hgP).trans (hcP _ (y1 : Int) (castL_at hy1))
              have k5 := HBlk.out.rowAt t1 ht1n
              have k6 := HBlk.out.free t1
              have e1 : P.getD q 0 = t1 := by rw [List.getD, ht1]; rfl
              have e2 : P.getD (stp M q b) 0 = y1 := by rw [List.getD, hy1]; rfl
              have hfs : ∀ t, t < i → (fillF M P b (q + 1) t : Int) = if t = t1 then (y1 : Int) else (fillF M P b q t : Int) := fun t ht => by
                have := fill_succ (M := M) (b := b) (q := q) hnP (by omega) REN.out.mem t (by omega)
                rw [e1, e2] at this; exact this
              have HPUT := hid (HBlk.out.drew.rowPut (g := fun t => (fillF M P b (q + 1) t : Int)) t1 (y1 : Int) hfs)
              have HBW2 := hid (show Below W0.heap.size W0 (wr.drew.setCell ⟨W0.heap.size, t1, none⟩ (.int .i64 (y1 : Int))) from HBw.out.drew.setCell (Nat.le_refl _) _)
              have k7 : wr.drew.cell? ⟨W0.heap.size, t1, none⟩ = some (.int .i64 (fillF M P b q t1 : Int)) := k5
              have k8 : wr.drew.frozen? ⟨W0.heap.size, t1, none⟩ = false := k6
              obtain ⟨s1, hs1⟩ : ∃ s1, s1 = stp M q b := ⟨_, rfl⟩
              rw [← hs1] at k3 k4 hsn
              have i1 : (0 : Int) ≤ (q : Int) := by omega
              have i2 : (q : Int) < (i : Int) := by omega
              have i3 : (0 : Int) ≤ (b : Int) := by omega
              have i4 : (b : Int) < (M.length : Int) := by omega
              have i5 : (0 : Int) ≤ (s1 : Int) := by omega
              have i6 : (s1 : Int) < (i : Int) := by omega
              have i7 : (0 : Int) ≤ (t1 : Int) := by omega
              have i8 : (t1 : Int) < (i : Int) := by omega
              have hzw : W0.heap.size < wr.heap.size := HBlk.out.lt
              clear hlP hnP htP ht1 hcP qM hrow hps hcm hy1 e1 e2 hs1 hfs
              go_wp2_with fail
              go_still_tail 16, (by kernel_rfl)
              change wpList _ _ _ _ _ wr.drew
              generalize wr.drew = wd at *
              clear k1 k2 k3 k4 k5 k6
              go_wp2_with fail
              exact ⟨⟨q + 1, by omega, by go_num, HBW2.out, HPUT.out⟩, by simp [intOf]; omega⟩
            · have dqi : decide (q < i) = false := decide_eq_false hqi
              have hqe : q = i := by omega
              subst hqe
              have hbl := HBlk.out
              have hfe : rowN (fillF M P b q) q = rowY M P b := by
                have := fill_end (M := M) (b := b) REN.out.mem (by rw [HP2.out.1]; exact HNN.out)
                rw [HP2.out.1] at this; exact this
              have hrl2 : ((rowY M P b).map fun (x : Nat) => (x : Int)).length = q := by rw [List.length_map, rowY_len]; exact HNN.out.symm
              have hr2 : wr.ownsRow W0.heap.size 3 1 (.slice (some ⟨W0.heap.size, 0, none⟩) q q) q (((rowY M P b).map fun (x : Nat) => (x : Int)).map (Value.int .i64)) := by
                rw [← hfe, ← rowA_list]; exact own_row hbl (rowA_size _ _) (Nat.le_refl _) (by omega)
              obtain ⟨vs, hvs⟩ := HT.out.ex
              have hly : (intM (machY M P b)).length = b := by rw [intM_length, machY_len]
              have HLY := hid hly
              have HVS := hid hvs
              have hv2 := (ownsRow_low hvs.1 HBw.out (Nat.le_refl _)).alloc (.cells #[.slice (some ⟨W0.heap.size, 0, none⟩) q q] 38)
              have hbs := HBw.out.size
              have HV2 := hid hv2
              have HR2 := hid hr2
              have HRL := hid hrl2
              clear hvs hly hv2 hr2 hrl2 hfe hbl
              go_wp2_with (at_builtin; go_must (refine wpList_appN _ rfl (.tmp 107) (.tmp 109) 22 rfl w3.heap.size 38 (.slice none 0 0) 1 24 Tryd.underlying22 Tryd.info38 rfl (by decide) _ (intM (machY M P b)).length vs rfl HV2.out ⟨wr.heap.size, 0, none⟩ 1 1 [.slice (some ⟨W0.heap.size, 0, none⟩) q q] rfl rfl (cells_new wr _ 38) (by simp [Value.oneCell']) (by rw [HLY.out]; omega) (by decide) (by simp; omega) (by decide) ?_))
              intro v' w4 hown' hgrow hwh
              have hadd := HT.out.add (W1 := wr) (W2 := w4) (v' := v') (r := (rowY M P b).map fun (x : Nat) => (x : Int)) (b := some ⟨W0.heap.size, 0, none⟩) (c := q) HBw.out (by rw [HRL.out]; exact HR2.out) (.cells #[.slice (some ⟨W0.heap.size, 0, none⟩) q q] 38) HVS.out (by rw [HRL.out]; exact hown') hgrow hwh
              rw [intM_snoc, ← machY_succ] at hadd
              have HADD := hid hadd
              clear hadd hown' hgrow hwh
              go_wp2_with fail
              exact ⟨⟨b + 1, by omega, by go_num, HADD⟩, by simp [intOf]; omega⟩
        · have dbk : decide (b < M.length) = false := decide_eq_false hbk
          have hbe : b = M.length := by omega
          subst hbe
          obtain ⟨YM, hYM⟩ : ∃ YM, YM = machY M P M.length := ⟨_, rfl⟩
          rw [← hYM] at HT REN
          have hYl : YM.length = M.length := by rw [hYM]; exact machY_len _ _ _
          have hB4 := HT.out.below
          obtain ⟨ys, hys, -⟩ := HT.out.ex
          obtain ⟨ay, cy, rfl, -, -⟩ := ownsRow_vals hys
          have hyl2 : ys.length = (intM YM).length := Tab.vs_len (w0 := w3) (v := .slice ay ys.length cy) (T := intM YM) (by
            have := hys; exact this)
          rw [hyl2, intM_length, hYl] at HT ⊢
          obtain ⟨-, hrY, -, -⟩ := HT.out.rows
          have HRY := hid hrY
          have HRM4 := hid (HRM3.out.below hB4 (Nat.le_refl _))
          have HRZ4 := hid (HRZ3.out.below hB4 (Nat.le_refl _))
          have HIP4 := hid (HIP.out.below hB4 (Nat.le_refl _))
          have HB4 := hid (HB3.out.trans (hB4.mono HB3.out.size))
          clear hys hyl2 hB4 hrY HT HRM3 HRZ3 HIP
          have AW := hid (fun (W : World) (hb : Below W0.heap.size W0 W) => awake_any W (HG.out.next (HB4.out.trans (hb.mono HB4.out.size))))
          have hMs : sameB M YM = true := (same_ren HM.out REN.out.z).2 ⟨_, REN.out⟩
          have SY := hid (fun W (hb : Below W0.heap.size W0 W) => Same_yes (some ⟨g, o, none⟩) c M ay cy YM W HM.out REN.out.z (HRM4.out.below hb (Nat.le_refl _)) (HRY.out.below hb (Nat.le_refl _)))
          rw [hMs, hYl] at SY
          have C1 := hid (fun W (hb : Below W0.heap.size W0 W) => Reset_yes (some ⟨g, o, none⟩) c M W HM.out (HRM4.out.below hb (Nat.le_refl _)) (HG.out.next (HB4.out.trans (hb.mono HB4.out.size))))
          have C2 := hid (fun W (hb : Below W0.heap.size W0 W) => Reset_yes ay cy YM W REN.out.z (HRY.out.below hb (Nat.le_refl _)) (HG.out.next (HB4.out.trans (hb.mono HB4.out.size))))
          rw [hYl] at C2
          have K1 := hid (fun W (hb : Below W0.heap.size W0 W) => Rank_yes (some ⟨g, o, none⟩) c M W HM.out (HRM4.out.below hb (Nat.le_refl _)))
          have K2 := hid (fun W (hb : Below W0.heap.size W0 W) => Rank_yes ay cy YM W REN.out.z (HRY.out.below hb (Nat.le_refl _)))
          rw [hYl] at K2
          have K3 := hid (fun W (hb : Below W0.heap.size W0 W) => Rank_yes a' c' Z W HZ.out (HRZ4.out.below hb (Nat.le_refl _)))
          have S1 := hid (fun W (hb : Below W0.heap.size W0 W) => Same_yes (some ⟨g, o, none⟩) c M a' c' Z W HM.out HZ.out (HRM4.out.below hb (Nat.le_refl _)) (HRZ4.out.below hb (Nat.le_refl _)))
          have S2 := hid (fun W (hb : Below W0.heap.size W0 W) => Same_yes a' c' Z (some ⟨g, o, none⟩) c M W HZ.out HM.out (HRZ4.out.below hb (Nat.le_refl _)) (HRM4.out.below hb (Nat.le_refl _)))
          rw [← same_symm HM.out HZ.out] at S2
          have HSR := hid (fun h : sameB M Z = true => same_rank HM.out HZ.out h)
          obtain ⟨u, hu, hu1, -, -, -⟩ := rank_some HM.out
          obtain ⟨u2, hu2, hu3, -⟩ := REN.out.first (minN M) hu
          have hmin := REN.out.min
          rw [hmin, hu2] at K2
          rw [hu] at K1
          simp only [rankV] at K1 K2
          rw [hu3] at K2
          obtain ⟨u4, hu4, -⟩ := rank_some HZ.out
          rw [hu4] at K3
          simp only [rankV] at K3
          obtain ⟨rs, rq, rq2, re, hr1, hr2, hrx⟩ : ∃ (s : List UInt8) (q q2 e : Int), resetV (firstE M (allS M) oneB) = .tuple #[.string (mkS s), .int .i64 q, .int .i64 e] ∧ resetV (firstE YM (allS YM) oneB) = .tuple #[.string (mkS s), .int .i64 q2, .int .i64 e] ∧ (e = 6 ∨ (e = 0 ∧ ∃ p t : Nat, q = p ∧ q2 = t ∧ p < i ∧ P[p]? = some t)) := by
            cases hf : firstE M (allS M) oneB with
            | none =>
              have := REN.out.firstN 1 hf
              rw [hasB_one] at this
              rw [this]
              exact ⟨[], 0, 0, 6, rfl, rfl, .inl rfl⟩
            | some x =>
              obtain ⟨x2, k1, k2, k3⟩ := REN.out.first 1 hf
              rw [hasB_one] at k1
              rw [k1]
              have hxs := firstE_set HM.out (allS_lt HM.out) (allS_ne HM.out) hf
              have hxl := (reach_good HM.out (allS_lt HM.out)).lt x hxs.1
              obtain ⟨k4, k5⟩ := REN.out.low hxl (by simpa [oneB] using hxs.2.2.2)
              refine ⟨x.word, lowN x.set, lowN x2.set, 0, rfl, by rw [← k2]; rfl, .inr ⟨rfl, lowN x.set, lowN x2.set, rfl, rfl, by rw [HNN.out]; exact k5, ?_⟩⟩
              rw [k3, k4, List.getD, List.getElem?_eq_getElem (by rw [HP2.out.1, HNN.out]; exact k5)]; rfl
          rw [hr1] at C1
          rw [hr2] at C2
          have HRX := hid hrx
          have tz : ((mkS u.word).toList != (mkS u.word).toList) = false := by simp
          have tz2 : ((mkS rs).toList != (mkS rs).toList) = false := by simp
          clear hMs hu hu1 hu2 hu3 hmin hu4 hr1 hr2 hrx hYM HM HZ REN HNN HRM4 HRZ4 HRY
          generalize sameB M Z = sb at *
          generalize minN M = r at *
          generalize minN Z = r3 at *
          go_wp2_with fail
          refine (SY.out W0 (Below.refl _ _)).mono ?_
          rintro e v5 ⟨rfl, hb5⟩
          have B5 := hid hb5
          clear hb5
          go_wp2_with fail
          refine (C1.out v5 B5.out).mono ?_
          rintro e v6 ⟨rfl, hb6⟩
          have B6 := hid (B5.out.trans (hb6.mono B5.out.size))
          clear hb6
          go_wp2_with fail
          refine (C2.out v6 B6.out).mono ?_
          rintro e v7 ⟨rfl, hb7⟩
          have B7 := hid (B6.out.trans (hb7.mono B6.out.size))
          clear hb7
          go_wp2_with fail
          refine (K1.out v7 B7.out).mono ?_
          rintro e v8 ⟨rfl, hb8⟩
          have B8 := hid (B7.out.trans (hb8.mono B7.out.size))
          clear hb8
          go_wp2_with fail
          refine (K2.out v8 B8.out).mono ?_
          rintro e v9 ⟨rfl, hb9⟩
          have B9 := hid (B8.out.trans (hb9.mono B8.out.size))
          clear hb9 SY C1 C2 K1 K2
          rcases HRX.out with rfl | ⟨rfl, p, t, rfl, rfl, hp, ht⟩
          · clear HRX
            go_wp2_with fail
            refine (S1.out v9 B9.out).mono ?_
            rintro e v10 ⟨rfl, hb10⟩
            have B10 := hid (B9.out.trans (hb10.mono B9.out.size))
            clear hb10
            go_wp2_with fail
            refine (S2.out v10 B10.out).mono ?_
            rintro e v11 ⟨rfl, hb11⟩
            have B11 := hid (B10.out.trans (hb11.mono B10.out.size))
            clear hb11
            go_wp2_with fail
            refine (K3.out v11 B11.out).mono ?_
            rintro e v12 ⟨rfl, hb12⟩
            have B12 := hid (B11.out.trans (hb12.mono B11.out.size))
            clear hb12
            cases sb with
            | true =>
              have e5 : ((r3 : Int) == (r : Int)) = true := by rw [HSR.out rfl]; simp
              go_wp2_with fail
              refine (AW.out v12 B12.out).mono ?_
              rintro e v13 ⟨rfl, hb13⟩
              have B13 := hid (HB4.out.trans ((B12.out.trans (hb13.mono B12.out.size)).mono HB4.out.size))
              clear hb13
              go_wp2_with fail
              go_ret
              exact ⟨rfl, B13.out⟩
            | false =>
              go_wp2_with fail
              refine (AW.out v12 B12.out).mono ?_
              rintro e v13 ⟨rfl, hb13⟩
              have B13 := hid (HB4.out.trans ((B12.out.trans (hb13.mono B12.out.size)).mono HB4.out.size))
              clear hb13
              go_wp2_with fail
              go_ret
              exact ⟨rfl, B13.out⟩
          · obtain ⟨gP, oP, hadP, hgP, hcP⟩ := HIP4.out.at (by rw [castL_len, HP2.out.1]; omega)
            subst hadP
            have k1 := (B9.out.cell (p := ⟨gP, oP + p, none⟩) hgP).trans (hcP p (t : Int) (castL_at ht))
            have j1 : (0 : Int) ≤ (p : Int) := by omega
            have j2 : (p : Int) < (i : Int) := by omega
            have j3 : decide ((p : Int) < 0) = false := decide_eq_false (by omega)
            have j4 : decide (i ≤ p) = false := decide_eq_false (by omega)
            have j5 : ((t : Int) != (t : Int)) = false := by simp
            clear HRX hcP ht HP2
            go_wp2_with fail
            refine (S1.out v9 B9.out).mono ?_
            rintro e v10 ⟨rfl, hb10⟩
            have B10 := hid (B9.out.trans (hb10.mono B9.out.size))
            clear hb10
            go_wp2_with fail
            refine (S2.out v10 B10.out).mono ?_
            rintro e v11 ⟨rfl, hb11⟩
            have B11 := hid (B10.out.trans (hb11.mono B10.out.size))
            clear hb11
            go_wp2_with fail
            refine (K3.out v11 B11.out).mono ?_
            rintro e v12 ⟨rfl, hb12⟩
            have B12 := hid (B11.out.trans (hb12.mono B11.out.size))
            clear hb12
            cases sb with
            | true =>
              have e5 : ((r3 : Int) == (r : Int)) = true := by rw [HSR.out rfl]; simp
              go_wp2_with fail
              refine (AW.out v12 B12.out).mono ?_
              rintro e v13 ⟨rfl, hb13⟩
              have B13 := hid (HB4.out.trans ((B12.out.trans (hb13.mono B12.out.size)).mono HB4.out.size))
              clear hb13
              go_wp2_with fail
              go_ret
              exact ⟨rfl, B13.out⟩
            | false =>
              go_wp2_with fail
              refine (AW.out v12 B12.out).mono ?_
              rintro e v13 ⟨rfl, hb13⟩
              have B13 := hid (HB4.out.trans ((B12.out.trans (hb13.mono B12.out.size)).mono HB4.out.size))
              clear hb13
              go_wp2_with fail
              go_ret
              exact ⟨rfl, B13.out⟩
end Go.Proofs.YthlgdakdjikjhaaDoor
