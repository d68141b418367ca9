/-
  Walks: the law TopDealt.
-/
import Derived.Test.YtkmpdcckgibkhaaGreatVl
import Derived.Test.YtkmpdcckgibkhaaGreatTa
import Derived.Test.YtkmpdcckgibkhaaGreatUr
import Derived.Deep.DeepCutAuto
namespace Go.Proofs.YtkmpdcckgibkhaaGreat
open Go.RowKit

set_option maxRecDepth 100000 in
set_option maxHeartbeats 16000000 in
theorem topDealt_walk (n0 : Int) (a : Option Addr) (len cap : Nat) (zs : List Int) (w : World) (hn : -9223372036854775808 ≤ n0 ∧ n0 ≤ 9223372036854775807) (hz : IsRow .i64 w a len cap zs) :
    Calls Tryz.prog 4 #[.int .i64 n0, .slice a len cap] w (RetB (.bool true) w) := by
  obtain ⟨hZI, hZl, hZn, hZc, hZm⟩ := hz.ints
  obtain ⟨Z, hZ⟩ : ∃ Z, Z = zs.take len := ⟨_, rfl⟩
  have hZb : ∀ x ∈ Z, -9223372036854775808 ≤ x ∧ x ≤ 9223372036854775807 := fun x hx => hz.bounds x (List.mem_of_mem_take (hZ ▸ hx))
  rw [← hZ] at hZI hZl
  have hlm : len ≤ 9223372036854775807 := by unfold maxLen at hZm; omega
  obtain ⟨M, hM⟩ : ∃ M, M = (n0 % 18446744073709551616) % 19 := ⟨_, rfl⟩
  have hM0 : 0 ≤ M := by omega
  have hM1 : M ≤ 18 := by omega
  obtain ⟨N, hN⟩ : ∃ N : Nat, 2 + M = (N : Int) := ⟨(2 + M).toNat, by omega⟩
  have hN2 : 2 ≤ N := by omega
  have hN20 : N ≤ 20 := by omega
  have hm := mod7 n0 19 w (by omega) (by omega) hn
  rw [← hM] at hm
  have HM := hid hm
  have hw0 : wrap64 (2 + M) = 2 + M := by unfold wrap64; omega
  have hw3 : IntKind.i64.wrap (2 + M) = 2 + M := by rw [IntKind.wrap_i64]; omega
  have HN := hid hN
  have hw1 : wrap64 (2 * (N : Int)) = 2 * (N : Int) := by unfold wrap64; omega
  have hw2 : wrap64 (2 * (N : Int) - 1) = 2 * (N : Int) - 1 := by unfold wrap64; omega
  have HZ := hid (And.intro hZI (And.intro hZb hZl))
  clear hm hN hM hz hZI hZb hZl hZ hZn hZc hZm
  go_enter Tryz.func4, Tryz.ntmps4
  go_wp2_with fail
  refine HM.out.mono ?_
  rintro e w1 ⟨rfl, rfl⟩
  go_wp2_with fail
  rw [HN.out]
  clear hw0 hw3 hM0 hM1
  go_loopw [5, 6, 7] (fun v5 v6 iv W => ∃ (i : Nat) (bs : List Nat), i ≤ 2 * N - 1 ∧ iv = .int .i64 i ∧ Hid (DI w N Z i i v5 v6 bs W)) (fun _ _ iv _ => 2 * N - 1 - (intOf iv).toNat)
  case atStart => exact ⟨0, [], Nat.zero_le _, rfl, Below.refl _ _, ⟨rfl, .inl ⟨rfl, rfl⟩⟩, rfl, ⟨rfl, .inl ⟨rfl, rfl⟩⟩, fun j b h => by simp at h⟩
  case round =>
    obtain ⟨i, bs, hi, rfl, HD⟩ := hrel
    by_cases hlt : i < 2 * N - 1
    · have di : decide ((i : Int) < 2 * (N : Int) - 1) = true := by simp; omega
      obtain ⟨x, hx⟩ : ∃ x, x = xF Z i := ⟨_, rfl⟩
      have hxb := xF_bound Z i (by omega)
      rw [← hx] at hxb
      have HX := hid hx
      clear hx
      go_upto_if 32 with (fail)
      go_cut [8] (fun v8 W' => v8 = .int .i64 x ∧ W' = wr)
      case first =>
        by_cases hzl : i < len
        · have d2 : decide ((i : Int) < (len : Int)) = true := by simp; omega
          obtain ⟨y, hy, -⟩ := list_drop_cons Z i (by rw [HZ.out.2.2]; exact hzl)
          obtain ⟨g, o, rfl, hg, hc⟩ := HZ.out.1.at (by rw [HZ.out.2.2]; omega)
          have q1 := (HD.out.below.cell (p := ⟨g, o + i, none⟩) hg).trans (hc i y hy)
          have hyb := HZ.out.2.1 y (List.mem_of_getElem? hy)
          have M := hid (fun w => mod7 y 1000 w (by omega) (by omega) hyb)
          have hil : (i : Int) < (len : Int) := by omega
          have hxe : (y % 18446744073709551616) % 1000 = x := by
            rw [HX.out]; unfold xF
            rw [if_pos (by rw [HZ.out.2.2]; exact hzl), show Z.getD i 0 = y by simp [List.getD, hy]]
          rw [hxe] at M
          clear hc hy hyb hxe
          go_wp2_with fail
          refine (M.out _).mono ?_
          rintro e w1 ⟨rfl, rfl⟩
          go_wp2_with fail
          go_meet
          exact ⟨rfl, rfl⟩
        · have d2 : decide ((i : Int) < (len : Int)) = false := by simp; omega
          have hxe : (i : Int) = x := by
            rw [HX.out]; unfold xF
            rw [if_neg (by rw [HZ.out.2.2]; exact hzl)]
          have HXE := hid hxe
          clear hxe
          go_wp2_with fail
          go_meet
          exact ⟨congrArg _ HXE.out, rfl⟩
      case rest =>
        obtain ⟨rfl, rfl⟩ := hcut
        have hown5 := HD.out.own5
        have hsz := HD.out.below.size
        have hx1 : w.heap.size ≤ (wc.alloc (.cells #[.int .i64 x] 3)).heap.size := by simp; omega
        have hi60 : i + 1 ≤ 60 := by omega
        go_wp2_with (at_builtin; go_must (refine wpList_app2 _ rfl (.tmp 38) (.tmp 40) 24 rfl w.heap.size 3 (.int .i64 0) 8 Tryz.underlying24 info3 rfl _ i _ rfl (hown5.alloc _) (some ⟨wc.heap.size, 0, none⟩) 1 1 [.int .i64 x] rfl rfl (vals_new _ _ _ _ rfl) (fun h => by cases h) (by simp [Value.oneCell']) (Nat.le_trans hi60 (by decide)) (by omega) hx1 ?_))
        intro v5' w6 hown6 hgrow6 hwh6
        have D6 := (HD.out.alloc (.cells #[.int .i64 x] 3)).push5 hlt (by rw [← HX.out, List.map_take]; exact hown6) hgrow6 (by simpa using hwh6)
        have HD6 := hid D6
        obtain ⟨y, hy⟩ : ∃ y, y = x % (N : Int) := ⟨_, rfl⟩
        obtain ⟨m1, -, -, -, m5, m6⟩ := mod_facts x N y hxb.1 hxb.2 (by omega) (by omega) hy
        have hN0 : ¬ (N : Int) = 0 := by omega
        have HY := hid hy
        have D7 := D6.alloc (.cells #[.int .i64 y] 3)
        have D8 := D7.alloc (.cells #[.slice (some ⟨w6.heap.size, 0, none⟩) 1 1] 24)
        have k7 : Blk (w6.alloc (.cells #[.int .i64 y] 3)) w6.heap.size #[.int .i64 y] 3 := Blk.new _ _ _
        have k8 := k7.alloc (.cells #[.slice (some ⟨w6.heap.size, 0, none⟩) 1 1] 24)
        have hv8 := vals_new (w6.alloc (.cells #[.int .i64 y] 3)) #[.slice (some ⟨w6.heap.size, 0, none⟩) 1 1] 24 _ rfl
        rw [show (w6.alloc (.cells #[.int .i64 y] 3)).heap.size = w6.heap.size + 1 by simp] at hv8
        have hown6b := D8.own6
        have hx2 := D8.below.size
        have h5n : some w6.heap.size ≠ v5'.ownBlock := fun e => by have := (D6.own5.lt _ e.symm).2; omega
        have h6n : w.heap.size ≤ w6.heap.size := D6.below.size
        have H8 := hid (And.intro D8 (And.intro k8 (And.intro h5n h6n)))
        clear hown6 hgrow6 hwh6 D6 D7 D8 k7 k8 h5n hy hown5 hx1 hsz
        go_wp2_with (at_builtin; go_must (refine wpList_appS _ rfl (.tmp 42) (.tmp 47) 22 rfl w.heap.size 24 (.slice none 0 0) 24 Tryz.underlying22 info24 rfl _ i _ rfl hown6b (some ⟨w6.heap.size + 1, 0, none⟩) 1 1 [.slice (some ⟨w6.heap.size, 0, none⟩) 1 1] rfl rfl hv8 (fun h => by cases h) (by simp [Value.oneCell']) (Nat.le_trans hi60 (by decide)) (by omega) hx2 ?_))
        intro v6' w9 hown9 hgrow9
        have HD9 := hid (H8.out.1.push6 hlt H8.out.2.2.2 (by rw [← HX.out, ← HY.out]; exact H8.out.2.1) H8.out.2.2.1 hown9 hgrow9)
        clear hown9 hgrow9 hown6b hv8 hx2 h6n m1 m5 m6
        go_wp2_with fail
        exact ⟨⟨i + 1, _, by omega, by go_num, HD9⟩, by simp [intOf]; omega⟩
    · have hie : i = 2 * N - 1 := by omega
      have di : decide ((i : Int) < 2 * (N : Int) - 1) = false := by simp; omega
      have hown5 := HD.out.own5
      rw [hie] at HD
      have hll := lF_len Z N
      obtain ⟨l, hl⟩ : ∃ l, l = lF Z N := ⟨_, rfl⟩
      rw [show (lF Z N).take i = l by rw [hl, List.take_of_length_le (by rw [hll, hie]; exact Nat.le_refl _)]] at hown5
      rw [← hl] at hll
      obtain ⟨a5, c5, rfl, hi5⟩ := ownsRow_ints hown5
      obtain ⟨a6, c6, rfl, hv6, hr6⟩ := HD.out.rowsAt
      have HL := hid hl
      have HRow := hid HD.out.rowOf
      have C := hid (exactly13 N l a5 c5 wr hi5 hN2 hN20 hll (by rw [hl]; exact lF_bound Z N hN20))
      rw [← hl] at hr6
      have hl60 : l.length ≤ 60 := by omega
      have H6 := hid (And.intro hi5 (And.intro hv6 (And.intro hr6 HD.out.below)))
      have HLL := hid hll
      have HIE := hid hie
      clear hown5 hi5 hv6 hr6 hll hl HD hie
      go_wp2_with fail
      refine C.out.mono ?_
      rintro e w3 ⟨v9, rfl, hP⟩
      obtain ⟨P, p1, p2, p3, p4, p5⟩ := hP
      obtain ⟨L, hL⟩ : ∃ L, L = l.map (· % (N : Int)) := ⟨_, rfl⟩
      have hLl : L.length = 2 * N - 1 := by rw [hL, List.length_map, HLL.out]
      have hL0 : ∀ x ∈ L, 0 ≤ x ∧ x < (N : Int) := by
        intro x hx
        rw [hL] at hx
        obtain ⟨y, -, rfl⟩ := List.mem_map.1 hx
        exact ⟨Int.emod_nonneg _ (by omega), Int.emod_lt_of_pos _ (by omega)⟩
      rw [← hL] at p3 p4
      obtain ⟨a9, c9, rfl, hi9⟩ := ownsRow_ints (l := P.map fun d => ((d : Nat) : Int)) p1
      have hpl : (P.map fun d => ((d : Nat) : Int)).length = N := by rw [List.length_map, p2]
      rw [hpl]
      have W4b := (Below.refl _ w3).alloc (Nat.le_refl _) (.cells #[.int .i64 N] 3)
      have I4 := vals_new w3 #[.int .i64 N] 3 [.int .i64 (N : Int)] rfl
      have hr4 : RowsAt (w3.alloc (.cells #[.int .i64 N] 3)) a6 (L.map fun x => [x]) := by
        have := (H6.out.2.2.1.below p5 (Nat.le_refl _)).below W4b (Nat.le_refl _)
        rw [← hL] at this
        exact this
      have hrch : Rch (N : Int) L N 0 := rch_deal N hN2 hN20 L hLl
      have C := hid (zero14 N L N (some ⟨w3.heap.size, 0, none⟩) 1 a6 c6 (w3.alloc (.cells #[.int .i64 N] 3)) I4 hr4 (by omega) hrch (by omega) (by omega) (by omega) hL0)
      rw [hLl] at C
      have H9 := hid (And.intro p2 (And.intro p3 (And.intro p4 (And.intro p5 (And.intro hi9 W4b)))))
      have HLd := hid (And.intro hL (And.intro hLl (And.intro hL0 hrch)))
      clear p1 p2 p3 p4 p5 hL hLl hL0 hi9 W4b hr4 hrch hpl I4
      go_wp2_with fail
      refine C.out.mono ?_
      rintro e w4 ⟨v11, rfl, hz⟩
      obtain ⟨m, z1, z2, z3, P', z4, z5, -, -, z6⟩ := hz
      obtain ⟨a11, c11, rfl⟩ := own_slice z4
      rw [z5]
      have hmN : m ≤ N := z3 N (by omega) HLd.out.2.2.2
      have hb4 : Below w.heap.size w w4 := by
        have h0 := H6.out.2.2.2
        have h1 := h0.trans (H9.out.2.2.2.1.mono h0.size)
        have h2 := h1.trans (H9.out.2.2.2.2.2.mono h1.size)
        exact h2.trans (z6.mono h2.size)
      have hb34 : Below wr.heap.size wr w4 := (H9.out.2.2.2.1.trans (H9.out.2.2.2.2.2.mono H9.out.2.2.2.1.size)).trans (z6.mono (by have := H9.out.2.2.2.1.size; have := H9.out.2.2.2.2.2.size; omega))
      have hi9' : Ints w4 a9 (P.map fun d => ((d : Nat) : Int)) := (H9.out.2.2.2.2.1.below H9.out.2.2.2.2.2 (Nat.le_refl _)).below z6 (Nat.le_refl _)
      have H4 := hid (And.intro hb4 (And.intro hb34 hi9'))
      have HZm := hid (And.intro z1 (And.intro z2 z3))
      have t1 : ((N : Int) != (N : Int)) = false := by simp
      have t2 : decide ((m : Int) < 1) = false := by simp; omega
      have t3 : decide ((N : Int) < (m : Int)) = false := by simp; omega
      have t4 : decide (N < m) = false := by simp; omega
      have t5 : decide (m < 1) = false := by simp; omega
      have t6 : decide (m = 0) = false := by simp; omega
      clear z1 z2 z3 z4 z5 z6 hb4 hb34 hi9'
      go_wp2_with fail
      obtain ⟨R, hR⟩ : ∃ R, R = bs.map fun b => Value.slice (some ⟨b, 0, none⟩) 1 1 := ⟨_, rfl⟩
      rw [← hR] at H6 HRow
      clear hR t1 t2 t3 t4 t5 t6
      obtain ⟨wr0, hwr0⟩ : ∃ wr0, wr0 = wr := ⟨_, rfl⟩
      rw [← hwr0] at H6 HRow H4 H9
      clear hwr0
      go_loopw [13, 14, 15] (fun v13 sv kv W => ∃ k : Nat, k ≤ N ∧ kv = .int .i64 k ∧ sv = .int .i64 (sumAt l (P.take k)) ∧ Hid (Below w4.heap.size w4 W ∧ W.ownsRow w4.heap.size 24 1 v13 k ((P.take k).map fun p => R.getD p (.bool false)))) (fun _ _ kv _ => N - (intOf kv).toNat)
      case atStart => exact ⟨0, Nat.zero_le _, rfl, rfl, Below.refl _ _, ⟨rfl, .inl ⟨rfl, rfl⟩⟩⟩
      case round =>
        obtain ⟨k, hk, rfl, rfl, HK⟩ := hrel
        have hP2 := H9.out.1
        by_cases hkl : k < N
        · obtain ⟨p, hp, -⟩ := list_drop_cons P k (by omega)
          have hpb := H9.out.2.1.lt P p (List.mem_of_getElem? hp)
          rw [HLd.out.2.1] at hpb
          obtain ⟨b, hb, -⟩ := HRow.out p hpb
          obtain ⟨g9, o9, rfl, hg9, hc9⟩ := H4.out.2.2.at (by rw [List.length_map, hP2]; omega)
          have q1 := (HK.out.1.cell (p := ⟨g9, o9 + k, none⟩) hg9).trans (hc9 k p (by rw [List.getElem?_map, hp]; rfl))
          have hW := H4.out.2.1.trans (HK.out.1.mono H4.out.2.1.size)
          obtain ⟨g5, o5, rfl, hg5, hc5⟩ := H6.out.1.at (by have := HLL.out; omega)
          obtain ⟨x, hx⟩ : ∃ x, l[p]? = some x := ⟨_, List.getElem?_eq_getElem (by have := HLL.out; omega)⟩
          have q2 := (hW.cell (p := ⟨g5, o5 + p, none⟩) hg5).trans (hc5 p x hx)
          obtain ⟨g6, o6, rfl, hg6, hc6⟩ : ∃ g o, a6 = some ⟨g, o, none⟩ ∧ g < wr0.heap.size ∧ ∀ i u, R[i]? = some u → wr0.cell? ⟨g, o + i, none⟩ = some u := by
            rcases H6.out.2.1 with h | h
            · rw [h] at hb; simp at hb
            · exact h
          have q3 := (hW.cell (p := ⟨g6, o6 + p, none⟩) hg6).trans (hc6 p _ hb)
          have dk : decide ((k : Int) < (N : Int)) = true := by simpa using hkl
          have ik : (k : Int) < (N : Int) := by omega
          have hll := HLL.out
          have dp0 : decide ((p : Int) < 0) = false := by simp
          have dp1 : decide ((l.length : Int) ≤ (p : Int)) = false := by simp; omega
          have ip6 : (p : Int) < ((2 * N - 1 : Nat) : Int) := by omega
          have ip5 : (p : Int) < (l.length : Int) := by omega
          have hxl : l.getD p 0 = x := by simp [List.getD, hx]
          have hst := sumAt_take l P k p hp
          rw [hxl] at hst
          have hlb : ∀ q ∈ P, 0 ≤ l.getD q 0 ∧ l.getD q 0 ≤ 1000 := fun q hq => by
            have hq2 := H9.out.2.1.lt P q hq
            rw [HLd.out.2.1] at hq2
            refine lF_bound Z N hN20 _ ?_
            rw [← HL.out, List.getD_eq_getElem?_getD, List.getElem?_eq_getElem (by omega)]
            exact List.getElem_mem _
          have hsb := sumAt_bound l (P.take (k + 1)) fun q hq => hlb q (List.mem_of_mem_take hq)
          have hsb0 := sumAt_bound l (P.take k) fun q hq => hlb q (List.mem_of_mem_take hq)
          rw [List.length_take] at hsb hsb0
          have hxb := hlb p (List.mem_of_getElem? hp)
          rw [hxl] at hxb
          obtain ⟨s, hs⟩ : ∃ s, s = sumAt l (P.take k) := ⟨_, rfl⟩
          rw [← hs] at hst hsb0 ⊢
          have z1 : wrap64 (s + x) = s + x := by unfold wrap64; omega
          have z2 : IntKind.i64.wrap (s + x) = s + x := by rw [IntKind.wrap_i64]; omega
          have HST := hid (show s + x = sumAt l (P.take (k + 1)) from hst.symm)
          have HOK := hid (show (P.take (k + 1)).map (fun p => R.getD p (.bool false)) = (P.take k).map (fun p => R.getD p (.bool false)) ++ [.slice (some ⟨b, 0, none⟩) 1 1] by
            rw [List.take_add_one, hp]
            simp [List.getD, hb])
          have hown := HK.out.2
          have hg5' : g5 < w4.heap.size := Nat.lt_of_lt_of_le hg5 H4.out.2.1.size
          have hx1 : w4.heap.size ≤ (wr.alloc (.cells #[.slice (some ⟨b, 0, none⟩) 1 1] 24)).heap.size := by have := HK.out.1.size; simp; omega
          have hk60 : k + 1 ≤ 60 := by omega
          clear hp hpb hb hc9 hc5 hc6 hx hxl hst hlb hsb hsb0 hxb hs hW hP2 hll
          go_wp2_with (at_builtin; go_must (refine wpList_appS _ rfl (.tmp 104) (.tmp 112) 22 rfl w4.heap.size 24 (.slice none 0 0) 24 Tryz.underlying22 info24 rfl _ k _ rfl (hown.alloc _) (some ⟨wr.heap.size, 0, none⟩) 1 1 [.slice (some ⟨b, 0, none⟩) 1 1] rfl rfl (vals_new _ _ _ _ rfl) (fun h => by cases h) (by simp [Value.oneCell']) (Nat.le_trans hk60 (by decide)) (by omega) hx1 ?_))
          intro v13' w6 hown6 hgrow6
          have hb6 : Below w4.heap.size wr w6 := ((Below.refl _ wr).alloc HK.out.1.size (.cells #[.slice (some ⟨b, 0, none⟩) 1 1] 24)).grown hgrow6 (by simp; have := HK.out.1.size; omega) (fun j hj => (hown.lt j hj).1)
          have q1' := (hb6.cell (p := ⟨g9, o9 + k, none⟩) hg9).trans q1
          have q2' := (hb6.cell (p := ⟨g5, o5 + p, none⟩) hg5').trans q2
          have HK6 := hid (show Below w4.heap.size w4 w6 ∧ w6.ownsRow w4.heap.size 24 1 v13' (k + 1) ((P.take (k + 1)).map fun p => R.getD p (.bool false)) from ⟨HK.out.1.trans hb6, by rw [HOK.out, List.map_take]; exact hown6⟩)
          clear hown6 hgrow6 hown hb6 q1 q2 q3
          go_wp2_with fail
          clear z1 z2
          exact ⟨⟨k + 1, by omega, by go_num, congrArg (Value.int .i64) HST.out, HK6⟩, by simp [intOf]; omega⟩
        · have hke : k = N := by omega
          have dk : decide ((k : Int) < (N : Int)) = false := by simp; omega
          obtain ⟨s, hs⟩ : ∃ s, s = sumAt l (P.take k) := ⟨_, rfl⟩
          rw [← hs]
          have hPk : P.take k = P := List.take_of_length_le (by omega)
          have hown := HK.out.2
          rw [hPk] at hown hs
          obtain ⟨a13, c13, hv13, hr13, -⟩ := ownsRow_vals hown
          have hl13 : (P.map fun p => R.getD p (.bool false)).length = N := by rw [List.length_map, hP2]
          rw [hl13] at hv13
          subst hv13
          have hsm : s % (N : Int) = 0 := by
            rw [hs, ← sumAt_mod, ← HLd.out.1]
            exact H9.out.2.2.1
          have hlb : ∀ q ∈ P, 0 ≤ l.getD q 0 ∧ l.getD q 0 ≤ 1000 := fun q hq => by
            have hq2 := H9.out.2.1.lt P q hq
            rw [HLd.out.2.1] at hq2
            have hll := HLL.out
            refine lF_bound Z N hN20 _ ?_
            rw [← HL.out, List.getD_eq_getElem?_getD, List.getElem?_eq_getElem (by omega)]
            exact List.getElem_mem _
          have hsb := sumAt_bound l P hlb
          rw [← hs] at hsb
          have htm : Int.tmod s (N : Int) = 0 := by rw [Int.tmod_eq_emod_of_nonneg hsb.1, hsm]
          have hN0 : ¬ (N : Int) = 0 := by omega
          obtain ⟨L', hL'⟩ : ∃ L', L' = P.map fun p => L.getD p 0 := ⟨_, rfl⟩
          have hLl' : L'.length = N := by rw [hL', List.length_map, hP2]
          have hsub : L'.Sublist L := by
            have := H9.out.2.1.sublist L P 0
            rw [hL']; simpa using this
          have hL0' : ∀ x ∈ L', 0 ≤ x ∧ x < (N : Int) := fun x hx => HLd.out.2.2.1 x (hsub.subset hx)
          have hrch : Rch (N : Int) L' N 0 := ⟨L', List.Sublist.refl _, hLl', by rw [hL']; exact H9.out.2.2.1⟩
          have hbW := H4.out.2.1.trans (HK.out.1.mono H4.out.2.1.size)
          have hrows : RowsAt wr a13 (L'.map fun x => [x]) := by
            refine ⟨_, hr13, by rw [hl13, List.length_map, hLl'], fun j r hj => ?_⟩
            rw [hL', List.map_map, List.getElem?_map] at hj
            cases hpj : P[j]? with
            | none => rw [hpj] at hj; cases hj
            | some p =>
              rw [hpj] at hj
              simp at hj
              subst hj
              have hpb := H9.out.2.1.lt P p (List.mem_of_getElem? hpj)
              rw [HLd.out.2.1] at hpb
              obtain ⟨b, hb, hi⟩ := HRow.out p hpb
              rw [← HL.out, ← HLd.out.1] at hi
              refine ⟨some ⟨b, 0, none⟩, 1, by rw [List.getElem?_map, hpj]; simp [List.getD, hb], ?_, (fun h => by cases h), Nat.le_refl _⟩
              have := hi.below hbW (Nat.le_refl _)
              simpa [List.getD] using this
          have hbA := (Below.refl _ wr).alloc (Nat.le_refl _) (.cells #[.int .i64 N] 3)
          have I4 := vals_new wr #[.int .i64 N] 3 [.int .i64 (N : Int)] rfl
          have C := hid (zero14 N L' N (some ⟨wr.heap.size, 0, none⟩) 1 a13 c13 (wr.alloc (.cells #[.int .i64 N] 3)) I4 (hrows.below hbA (Nat.le_refl _)) (by omega) hrch (by omega) (by omega) (by omega) hL0')
          rw [hLl'] at C
          have HSub := hid hsub
          have HBW := hid ((H4.out.1.trans (HK.out.1.mono H4.out.1.size)).trans (hbA.mono (H4.out.1.trans (HK.out.1.mono H4.out.1.size)).size))
          clear hr13 hown hl13 hPk hs hsm hlb hsb hLl' hsub hL0' hrch hbW hrows hbA I4 hL' hP2
          go_wp2_with fail
          refine C.out.mono ?_
          rintro e w7 ⟨v16, rfl, hz⟩
          obtain ⟨m2, y1, y2, y3, P2, y4, y5, -, -, y6⟩ := hz
          obtain ⟨a16, c16, rfl⟩ := own_slice y4
          rw [y5]
          have hmm : m ≤ m2 := HZm.out.2.2 m2 y1 (y2.mono HSub.out)
          have d1 : decide ((m : Int) ≤ (m2 : Int)) = true := by simpa using hmm
          have d2 : decide (m ≤ m2) = true := by simpa using hmm
          have HB7 := hid (HBW.out.trans (y6.mono HBW.out.size))
          clear y1 y2 y3 y4 y5 y6 hmm
          go_wp2_with fail
          refine (seven_any _).mono ?_
          rintro e w10 ⟨rfl, hb10⟩
          have HB10 := hid (HB7.out.trans (hb10.mono HB7.out.size))
          clear hb10
          go_wp2_with fail
          go_ret
          exact ⟨rfl, HB10.out⟩

end Go.Proofs.YtkmpdcckgibkhaaGreat
