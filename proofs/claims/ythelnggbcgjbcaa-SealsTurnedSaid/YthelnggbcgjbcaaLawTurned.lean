/-
  The walk of the law SealsTurned.
-/
import Derived.Test.YthelnggbcgjbcaaTurnW
import Derived.Test.YthelnggbcgjbcaaWaysE
import Derived.Test.YthelnggbcgjbcaaLawRounds
namespace Go.Proofs.Ythelnggbcgjbcaa
open Go.RowKit

theorem tn_drop (n : Nat) (A : List Int) (j : Nat) (x : Int) (h : A[j]? = some x) : tn n (A.drop j) = tn n (A.drop (j + 1)) ++ [(n : Int) - x] := by
  obtain ⟨hj, rfl⟩ := List.getElem?_eq_some_iff.1 h
  rw [List.drop_eq_getElem_cons hj]
  unfold tn
  rw [List.reverse_cons, List.map_append]
  rfl

set_option maxRecDepth 100000 in
set_option maxHeartbeats 8000000 in
theorem turned_walk (a0 : ByteArray) (a1 : Int) (w : World) (w0 : a0.size ≤ maxLen) (hb1 : -9223372036854775808 ≤ a1 ∧ a1 ≤ 9223372036854775807) :
    Calls Try.prog 10 #[.string a0, .int .i64 a1] w fun e w' => e = .returned (.bool true) ∧ Below w.heap.size w w' := by
  have hmx : maxLen ≤ 9223372036854775807 := by decide
  go_enter Try.func10, Try.ntmps10
  go_wp2_with fail
  refine (even_any a0 24 w (by omega) (by omega) (by omega)).mono ?_
  rintro e w2 ⟨rfl, hb⟩
  obtain ⟨s, hs⟩ : ∃ s, s = mkS (evenL a0.data.toList 24) := ⟨_, rfl⟩
  have hch : evenChainB s.data.toList = true := by rw [hs]; exact evenL_chain _ _ (by omega) (by omega)
  have hsz : s.size ≤ 24 := by rw [hs, mkS_size]; exact evenL_len _ _ (by omega)
  rw [← hs]
  have HC := hid hch
  have HOK := hid (even_facts hch).1
  obtain ⟨k, hk, hyk⟩ := mod4 a1
  obtain ⟨t, ht⟩ : ∃ t, t = mkS s.data.toList.reverse := ⟨_, rfl⟩
  obtain ⟨u, hu⟩ : ∃ u, u = mkS (s.data.toList.map (rn k)) := ⟨_, rfl⟩
  have htd : t.data.toList = s.data.toList.reverse := by rw [ht]; rfl
  have hud : u.data.toList = s.data.toList.map (rn k) := by rw [hu]; rfl
  have hts : t.size ≤ 24 := by rw [ht, mkS_size, List.length_reverse]; exact hsz
  have hus : u.size ≤ 24 := by rw [hu, mkS_size, List.length_map]; exact hsz
  have htc : evenChainB t.data.toList = true := by rw [htd]; exact even_reverse _ hch
  have huc : evenChainB u.data.toList = true := by rw [hud]; exact even_rn k _ hch
  have hE : ∀ z : ByteArray, evenChainB z.data.toList = true → leastE z.data.toList = 0 := fun z hz => by rw [leastE, hz]; rfl
  obtain ⟨A, hA⟩ : ∃ A, A = leastC s.data.toList := ⟨_, rfl⟩
  obtain ⟨B, hB⟩ : ∃ B, B = leastC t.data.toList := ⟨_, rfl⟩
  obtain ⟨X, hX⟩ : ∃ X, X = ringC s.data.toList := ⟨_, rfl⟩
  have hAB : B.length = A.length := by rw [hA, hB, htd]; exact least_reverse _ hch
  have hAu : leastC u.data.toList = A := by rw [hA, hud]; exact least_rn k _ hch
  have hXu : ringC u.data.toList = X := by rw [hX, hud]; exact ringC_rn k _ hch
  obtain ⟨l1, l2, l3, -, -⟩ := least_spec s.data.toList hch
  rw [← hA] at l1 l2 l3
  have hk4 := kindsN_le s.data.toList
  have hA4 : A.length ≤ 4 := by omega
  have hX4 : X.length ≤ 4 := by rw [hX]; exact (ring_spec _ hch).2.2.2.1
  have hcut := tn_cuts _ _ l1
  have hck : checkE t.data.toList (tn s.size A) = 0 := by
    have h2 : cutsB t.data.toList.length 1 (tn s.size A) = true := by rw [htd, List.length_reverse]; exact hcut
    have h3 : fairB t.data.toList (tn s.size A) = true := by
      have := tn_fair s.data.toList A l1
      rw [l2] at this
      rw [htd]; exact this
    rw [checkE, htc, h2, h3]; rfl
  have hAb : ∀ x ∈ A, 1 ≤ x ∧ x ≤ 24 := fun x hx => by
    have := cutsB_ge _ _ _ l1 x hx
    have h2 := bytes_len s
    omega
  have hw1 : waysE s.data.toList 2 = .tuple #[.int .i64 (waysN s.data.toList [] 2 1), .int .i64 0] := by
    rw [waysE, hch, if_pos (by simp)]; rfl
  have hw2 : waysE t.data.toList 2 = .tuple #[.int .i64 (waysN s.data.toList [] 2 1), .int .i64 0] := by
    rw [waysE, htc, if_pos (by simp), htd, show (2 : Int).toNat = 2 from rfl, ways_reverse]
  obtain ⟨P, hP⟩ : ∃ P, P = waysN s.data.toList [] 2 1 := ⟨_, rfl⟩
  rw [← hP] at hw1 hw2
  have HT := hid ht
  have HU := hid hu
  have HES := hid (hE s hch)
  have HET := hid (hE t htc)
  have HEU := hid (hE u huc)
  have HA := hid hA
  have HB := hid hB
  have HX := hid hX
  have HAB := hid hAB
  have HAU := hid hAu
  have HXU := hid hXu
  have HCK := hid hck
  have HW1 := hid hw1
  have HW2 := hid hw2
  have HAb := hid hAb
  have HYK := hid hyk
  clear hs hch ht hu htd hud htc huc hE hA hB hX hAB hAu hXu l1 l2 l3 hk4 hcut hck hAb hw1 hw2 hP hyk
  go_wp2_with fail
  refine (back_any s w2 (by omega)).mono ?_
  rintro e w3 ⟨rfl, rfl⟩
  rw [← HT.out]
  go_wp2_with fail
  refine (renamed_any s a1 k w2 (by omega) HOK.out hb1 hk HYK.out).mono ?_
  rintro e w3 ⟨rfl, hb3⟩
  rw [← HU.out]
  have hb3 := hb.trans (hb3.mono hb.size)
  go_wp2_with fail
  refine (least_any s w3 (by omega)).mono ?_
  rintro e w4 ⟨aa, ca, rfl, hia, -, -, hb4⟩
  rw [← HA.out] at hia ⊢
  rw [HES.out]
  have HIA := hid hia
  have hb4 := hb3.trans (hb4.mono hb3.size)
  clear hia
  go_wp2_with fail
  refine (least_any t w4 (by omega)).mono ?_
  rintro e w5 ⟨ab, cb, rfl, -, -, -, hb5⟩
  rw [← HB.out, HET.out, HAB.out]
  have HIA := hid (HIA.out.below hb5 (Nat.le_refl _))
  have hb5 := hb4.trans (hb5.mono hb4.size)
  go_wp2_with fail
  refine (least_any u w5 (by omega)).mono ?_
  rintro e w6 ⟨ac, cc, rfl, hic, -, -, hb6⟩
  rw [HAU.out] at hic ⊢
  rw [HEU.out]
  have HIA := hid (HIA.out.below hb6 (Nat.le_refl _))
  have HIC := hid hic
  have hb6 := hb5.trans (hb6.mono hb5.size)
  clear hic
  go_wp2_with fail
  refine (ring_any s w6 (by omega)).mono ?_
  rintro e w7 ⟨ax, cx, rfl, hix, -, -, hb7⟩
  rw [← HX.out] at hix ⊢
  rw [HES.out]
  have HIA := hid (HIA.out.below hb7 (Nat.le_refl _))
  have HIC := hid (HIC.out.below hb7 (Nat.le_refl _))
  have HIX := hid hix
  have hb7 := hb6.trans (hb7.mono hb6.size)
  clear hix
  go_wp2_with fail
  refine (ring_any u w7 (by omega)).mono ?_
  rintro e w8 ⟨ay, cy, rfl, hiy, -, -, hb8⟩
  rw [HXU.out] at hiy ⊢
  rw [HEU.out]
  have HIA := hid (HIA.out.below hb8 (Nat.le_refl _))
  have HIC := hid (HIC.out.below hb8 (Nat.le_refl _))
  have HIX := hid (HIX.out.below hb8 (Nat.le_refl _))
  have HIY := hid hiy
  have hb8 := hb7.trans (hb8.mono hb7.size)
  clear hiy
  go_wp2_with fail
  refine (ways_any s 2 w8 (by omega)).mono ?_
  rintro e w9 ⟨rfl, hb9⟩
  rw [HW1.out]
  have HIA := hid (HIA.out.below hb9 (Nat.le_refl _))
  have HIC := hid (HIC.out.below hb9 (Nat.le_refl _))
  have HIX := hid (HIX.out.below hb9 (Nat.le_refl _))
  have HIY := hid (HIY.out.below hb9 (Nat.le_refl _))
  have hb9 := hb8.trans (hb9.mono hb8.size)
  go_wp2_with fail
  refine (ways_any t 2 w9 (by omega)).mono ?_
  rintro e w10 ⟨rfl, hb10⟩
  rw [HW2.out]
  have HIA := hid (HIA.out.below hb10 (Nat.le_refl _))
  have HIC := hid (HIC.out.below hb10 (Nat.le_refl _))
  have HIX := hid (HIX.out.below hb10 (Nat.le_refl _))
  have HIY := hid (HIY.out.below hb10 (Nat.le_refl _))
  have hb10 := hb9.trans (hb10.mono hb9.size)
  clear hb hb3 hb4 hb5 hb6 hb7 hb8 hb9
  go_wp2_with fail
  refine (ints_any aa ac ca cc A A w10 HIA.out HIC.out (by omega) (by omega)).mono ?_
  rintro e w11 ⟨rfl, hb11⟩
  rw [show (A == A) = true by simp]
  have HIA := hid (HIA.out.below hb11 (Nat.le_refl _))
  have HIX := hid (HIX.out.below hb11 (Nat.le_refl _))
  have HIY := hid (HIY.out.below hb11 (Nat.le_refl _))
  have hb11 := hb10.trans (hb11.mono hb10.size)
  go_wp2_with fail
  refine (ints_any ax ay cx cy X X w11 HIX.out HIY.out (by omega) (by omega)).mono ?_
  rintro e w12 ⟨rfl, hb12⟩
  rw [show (X == X) = true by simp]
  have HIA := hid (HIA.out.below hb12 (Nat.le_refl _))
  have hb12 := hb11.trans (hb12.mono hb11.size)
  clear hb10 hb11
  go_wp2_with fail
  go_loopw [22, 23] (fun v i wr => ∃ (j : Nat) (L : List Int), j ≤ A.length ∧ i = .int .i64 ((j : Int) - 1) ∧ Below w.heap.size w wr ∧ Below w12.heap.size w12 wr ∧ wr.ownsRow w12.heap.size 3 1 v L.length (L.map (Value.int .i64)) ∧ L.length ≤ 4 ∧ Hid (L = tn s.size (A.drop j))) (fun _ i _ => (intOf i + 1).toNat)
  case atStart => exact ⟨A.length, [], Nat.le_refl _, by go_num, hb12, Below.refl _ _, World.ownsRow_nil _ _ _ _, by simp, by simp [Hid, tn]⟩
  case round =>
    obtain ⟨j, L, hj, rfl, hB13, hB14, hown, hL, HL⟩ := hrel
    by_cases hlt : 0 < j
    · obtain ⟨j, rfl⟩ : ∃ i, j = i + 1 := ⟨j - 1, by omega⟩
      rw [show (((j + 1 : Nat) : Int) - 1) = (j : Int) by omega]
      obtain ⟨x, hx⟩ : ∃ x, A[j]? = some x := ⟨_, List.getElem?_eq_getElem (by omega)⟩
      obtain ⟨g, o, rfl, hg, hcell⟩ := HIA.out.at (by omega)
      have q1 := (hB14.cell (p := ⟨g, o + j, none⟩) hg).trans (hcell j x hx)
      have hxb := HAb.out x (List.mem_of_getElem? hx)
      have hnew : L ++ [(s.size : Int) - x] = tn s.size (A.drop j) := by rw [tn_drop _ _ _ _ hx, HL.out]
      have hnl : (L ++ [(s.size : Int) - x]).length ≤ 4 := by rw [hnew]; simp [tn]; omega
      have HNEW := hid hnew
      have hjA : j < A.length := by omega
      clear hx hcell hnew
      go_wp2_with (at_builtin; go_must (refine wpList_app _ rfl (.tmp 123) (.tmp 131) 23 rfl w12.heap.size 3 (.int .i64 0) 8 Try.underlying23 Try.info3 rfl _ L.length _ rfl (hown.alloc _) (some ⟨wr.heap.size, 0, none⟩) 1 1 [.int .i64 _] rfl rfl (vals_new _ _ _ _ rfl) (fun h => by cases h) (by simp [Value.oneCell']) (by omega) (by omega) (by have := hB14.size; simp; omega) ?_))
      intro v' w13 hown' hgrow _
      have hB' := below_app (hB13.alloc hB13.size _) hgrow (hown.alloc _) (by have := hB13.size; simp; omega) hb12.size
      have hB'' := below_app (hB14.alloc hB14.size _) hgrow (hown.alloc _) (by have := hB14.size; simp; omega) (Nat.le_refl _)
      go_wp2
      go_roundw
      case rel => exact ⟨j, _, by omega, by go_num, hB', hB'', by simpa using hown', hnl, HNEW⟩
      case measure => simp [intOf]
    · have hj0 : j = 0 := by omega
      subst hj0
      have hfin : L = tn s.size A := by rw [HL.out]; rfl
      obtain ⟨al, cl, rfl, hil⟩ := ownsRow_ints hown
      obtain ⟨-, hlc, hln⟩ := ownsRow_facts hown
      rw [← hfin] at HCK
      have HIL := hid hil
      clear hfin hil hown
      go_wp2_with fail
      refine (check_any t al cl L wr (by omega) HIL.out hln hlc (by omega)).mono ?_
      rintro e w13 ⟨rfl, hb13⟩
      rw [HCK.out]
      have hb13 := hB13.trans (hb13.mono hB13.size)
      go_wp2_with fail
      refine (awake_any w13).mono ?_
      rintro e w14 ⟨rfl, hb14⟩
      go_wp2
      go_ret
      exact ⟨rfl, hb13.trans (hb14.mono hb13.size)⟩
end Go.Proofs.Ythelnggbcgjbcaa
