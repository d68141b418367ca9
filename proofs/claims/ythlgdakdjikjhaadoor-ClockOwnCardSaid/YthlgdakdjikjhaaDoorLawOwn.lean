/-
  The law ClockOwn, walked.
-/
import Derived.Test.YthlgdakdjikjhaaDoorUJ
namespace Go.Proofs.YthlgdakdjikjhaaDoor
open Go.RowKit Go.ChangeMaps
attribute [local go_sem] Oper.semAt_some


set_option maxHeartbeats 4000000 in
theorem Slow_own (n : Nat) (w : World) (h1 : 1 ≤ n) (h9 : n ≤ 9) :
    Calls Tryd.prog 16 #[.int .i64 n] w fun e w' => ∃ g a1 c1 a2 c2, e = .returned (.tuple #[.slice (some ⟨g, 0, none⟩) 2 2, .int .i64 0]) ∧ Blk w' g #[.slice a1 n c1, .slice a2 n c2] 38 ∧ Hid (w'.ownsRow w.heap.size 3 1 (.slice a1 n c1) n ((slowA n n).map natV)) ∧ Hid (w'.ownsRow w.heap.size 3 1 (.slice a2 n c2) n ((slowB n n).map natV)) ∧ RowsAt w' (some ⟨g, 0, none⟩) (intM (slowM n)) ∧ Below w.heap.size w w' := by
  have W1 := hid (within_any (n : Int) 1 9 w)
  rw [show (decide ((1 : Int) ≤ (n : Int)) && decide ((n : Int) ≤ 9)) = true by simp; omega] at W1
  have hmax : max (1 : Int) ((n : Int) - 1) = ((max 1 (n - 1) : Nat) : Int) := by omega
  obtain ⟨m, hm⟩ : ∃ m, m = max 1 (n - 1) := ⟨_, rfl⟩
  rw [← hm] at hmax
  have hm1 : 1 ≤ m := by omega
  have HM := hid hm
  clear hm
  go_enter Tryd.func16, Tryd.ntmps16
  go_wp2_with fail
  refine W1.out.mono ?_
  rintro e w1 ⟨rfl, rfl⟩
  go_wp2_with fail
  go_loopw [4, 5, 11] (fun va vb qv W => ∃ q : Nat, q ≤ n ∧ qv = .int .i64 q ∧ Hid (Two w W va vb (slowA n q) (slowB n q))) (fun _ _ qv _ => n - (intOf qv).toNat)
  case atStart => exact ⟨0, by omega, rfl, Below.refl _ _, World.ownsRow_nil _ _ _ _, World.ownsRow_nil _ _ _ _, fun k hk => by simp [Value.ownBlock] at hk⟩
  case round =>
    obtain ⟨q, hq, rfl, HT⟩ := hrel
    have hsz := HT.out.below.size
    by_cases hlt : q < n
    · have t1 : Int.tmod ((q : Int) + 1) (n : Int) = (((q + 1) % n : Nat) : Int) := tmod_nn (q + 1) n
      have t2 : Int.tmod (q : Int) (m : Int) = ((q % m : Nat) : Int) := tmod_nn q m
      have ho := HT.out.a
      have hla : (slowA n q).length ≤ 9 := by rw [slowA_len]; omega
      have hlb : (slowB n q).length ≤ 9 := by rw [slowB_len]; omega
      obtain ⟨x, hx⟩ : ∃ x, x = (q + 1) % n := ⟨_, rfl⟩
      obtain ⟨y, hy⟩ : ∃ y, y = q % m := ⟨_, rfl⟩
      rw [← hx] at t1
      rw [← hy] at t2
      have hA : slowA n (q + 1) = slowA n q ++ [x] := by rw [slowA_succ, hx]
      have hB : slowB n (q + 1) = slowB n q ++ [y] := by rw [slowB_succ, hy, HM.out]
      have HA := hid hA
      have HB := hid hB
      have hz1 : ¬ (m : Int) = 0 := by omega
      have hz2 : ((m : Int) == 0) = false := beq_eq_false_iff_ne.2 hz1
      generalize slowA n q = A at *
      generalize slowB n q = B at *
      have hyc : (3 ≤ n ∧ (q : Int) % ((n : Int) - 1) = (y : Int)) ∨ (n ≤ 2 ∧ y = 0 ∧ m = 1) := by
        have hm2 := HM.out
        rcases (show 3 ≤ n ∨ n ≤ 2 by omega) with h | h
        · refine .inl ⟨h, ?_⟩
          rw [show (n : Int) - 1 = (m : Int) by omega, hy]; rfl
        · have hm3 : m = 1 := by omega
          refine .inr ⟨h, ?_, hm3⟩
          rw [hy, hm3, Nat.mod_one]
      clear hx hy hA hB
      go_wp2_with (at_builtin; go_must (refine wpList_app2 _ rfl (.tmp 14) (.tmp 19) 38 rfl w.heap.size 3 (.int .i64 0) 8 Tryd.underlying38 Tryd.info3 rfl _ A.length _ rfl (ho.alloc _) (some ⟨wr.heap.size, 0, none⟩) 1 1 [.int .i64 _] rfl rfl (vals_new wr _ _ _ rfl) (fun h => by cases h) (by simp [Value.oneCell']) (by omega) (by omega) (by simp; omega) ?_))
      intro v' w2 hown' hgrow hwh
      have HT2 := hid (HT.out.growA (x := x) _ hown' hgrow hwh)
      have ho2 := HT2.out.b
      have hsz2 := HT2.out.below.size
      clear hown' hgrow hwh ho
      rcases hyc with ⟨hn3, t3⟩ | ⟨hn2, hy0, hm0⟩
      · have c1 : (1 : Int) ≤ (n : Int) - 1 := by omega
        have c2 : (1 : Int) < (n : Int) - 1 := by omega
        go_wp2_with (at_builtin; go_must (refine wpList_app2 _ rfl (.tmp 21) (.tmp 27) 38 rfl w.heap.size 3 (.int .i64 0) 8 Tryd.underlying38 Tryd.info3 rfl _ B.length _ rfl (ho2.alloc _) (some ⟨w2.heap.size, 0, none⟩) 1 1 [.int .i64 _] rfl rfl (vals_new w2 _ _ _ rfl) (fun h => by cases h) (by simp [Value.oneCell']) (by omega) (by omega) (by simp; omega) ?_))
        intro v2' w3 hown2' hgrow2 hwh2
        have HT3 := hid (HT2.out.growB (x := y) _ hown2' hgrow2 hwh2)
        clear hown2' hgrow2 hwh2 ho2
        go_wp2_with fail
        exact ⟨⟨q + 1, by omega, by go_num, by rw [HA.out, HB.out]; exact HT3⟩, by simp [intOf]; omega⟩
      · subst hy0
        have c1 : ¬ (1 : Int) < (n : Int) - 1 := by omega
        have c2 : (n : Int) - 1 ≤ 1 := by omega
        go_wp2_with (at_builtin; go_must (refine wpList_app2 _ rfl (.tmp 21) (.tmp 27) 38 rfl w.heap.size 3 (.int .i64 0) 8 Tryd.underlying38 Tryd.info3 rfl _ B.length _ rfl (ho2.alloc _) (some ⟨w2.heap.size, 0, none⟩) 1 1 [.int .i64 _] rfl rfl (vals_new w2 _ _ _ rfl) (fun h => by cases h) (by simp [Value.oneCell']) (by omega) (by omega) (by simp; omega) ?_))
        intro v2' w3 hown2' hgrow2 hwh2
        have HT3 := hid (HT2.out.growB (x := 0) _ hown2' hgrow2 hwh2)
        clear hown2' hgrow2 hwh2 ho2
        go_wp2_with fail
        exact ⟨⟨q + 1, by omega, by go_num, by rw [HA.out, HB.out]; exact HT3⟩, by simp [intOf]; omega⟩
    · have hqn : q = n := by omega
      subst hqn
      obtain ⟨a1, c1, rfl, -, -⟩ := ownsRow_vals HT.out.a
      obtain ⟨a2, c2, rfl, -, -⟩ := ownsRow_vals HT.out.b
      rw [List.length_map] at HT ⊢
      rw [List.length_map] at HT ⊢
      have HR := hid HT.out.rows
      have HBE := hid (HT.out.below.alloc hsz (.cells #[.slice a1 (slowA q q).length c1, .slice a2 (slowB q q).length c2] 38))
      clear hsz
      go_wp2_with fail
      refine bodyPost_ret (results_tmp2 rfl _ _ _) rfl ?_
      have oa := HT.out.a
      have ob := HT.out.b
      rw [slowA_len] at oa
      rw [slowB_len] at ob
      refine ⟨_, a1, c1, a2, c2, rfl, ?_, ?_, ?_, HR.out, HBE.out⟩
      · have := Blk.new wr #[.slice a1 (slowA q q).length c1, .slice a2 (slowB q q).length c2] 38
        rw [slowA_len, slowB_len] at this ⊢
        exact this
      · exact ownsRow_low oa ((Below.refl _ _).alloc (Nat.le_refl _) _) (Nat.le_refl _)
      · exact ownsRow_low ob ((Below.refl _ _).alloc (Nat.le_refl _) _) (Nat.le_refl _)

/-- A row that may be written to: its cells lie at or above B, not in block gA. -/
def LiveRow (B gA : Nat) (W : World) (r : Value) : Prop := ∃ a n c, r = .slice a n c ∧ n ≤ 9 ∧ (n = 0 ∨ ∃ g o, a = some ⟨g, o, none⟩ ∧ B ≤ g ∧ g ≠ gA ∧ ∀ k, k < n → (∃ v, W.cell? ⟨g, o + k, none⟩ = some v) ∧ W.frozen? ⟨g, o + k, none⟩ = false)
theorem LiveRow.set {B gA : Nat} {W : World} {r : Value} (h : LiveRow B gA W r) (p : Addr) (x : Value) : LiveRow B gA (W.setCell p x) r := by
  obtain ⟨a, n, c, h1, h2, h3⟩ := h
  refine ⟨a, n, c, h1, h2, h3.imp id ?_⟩
  rintro ⟨g, o, h4, h5, h6, h7⟩
  refine ⟨g, o, h4, h5, h6, fun k hk => ?_⟩
  obtain ⟨⟨v, h8⟩, h9⟩ := h7 k hk
  exact ⟨cell?_setCell_some h8, by rw [World.frozen?_setCell]; exact h9⟩
theorem LiveRow.below {B gA D : Nat} {W W' : World} {r : Value} (h : LiveRow B gA W r) (hb : Below D W W') (hD : W.heap.size ≤ D) : LiveRow B gA W' r := by
  obtain ⟨a, n, c, h1, h2, h3⟩ := h
  refine ⟨a, n, c, h1, h2, h3.imp id ?_⟩
  rintro ⟨g, o, h4, h5, h6, h7⟩
  refine ⟨g, o, h4, h5, h6, fun k hk => ?_⟩
  obtain ⟨⟨v, h8⟩, h9⟩ := h7 k hk
  have hg : g < D := Nat.lt_of_lt_of_le (World.block_lt_of_cell? _ _ h8) hD
  exact ⟨⟨v, (hb.cell (p := ⟨g, o + k, none⟩) hg).trans h8⟩, (hb.frozen (p := ⟨g, o + k, none⟩) hg).trans h9⟩
theorem LiveRow.own {B base gA n : Nat} {W : World} {a : Option Addr} {c : Nat} {L : List Nat} (h : W.ownsRow base 3 1 (.slice a n c) n (L.map natV)) (hn : n ≤ 9) (hB : B ≤ base) (hA : ∀ g, g < W.heap.size → g ≠ gA) : LiveRow B gA W (.slice a n c) := by
  refine ⟨a, n, c, rfl, hn, ?_⟩
  obtain ⟨h1, h2⟩ := h
  rcases h2 with ⟨h3, -⟩ | ⟨g, cap, cs, h3, h4, h5, h6, h7, h8, h9⟩
  · left
    simp at h3; exact h3.2.1
  · cases h3
    refine .inr ⟨g, 0, rfl, Nat.le_trans hB h4, hA g (Blk.lt h5), fun k hk => ?_⟩
    have hcs : k < cs.size := by
      have : ((cs.toList.take (n * 1)).length) = (L.map natV).length := by rw [h9]
      rw [List.length_take, Array.length_toList] at this
      omega
    refine ⟨⟨cs[k], ?_⟩, ?_⟩
    · rw [Nat.zero_add, Blk.cell h5 k]; exact Array.getElem?_eq_getElem hcs
    · rw [Nat.zero_add]; exact Blk.free h5 k
theorem tabL_self {M : List (List Nat)} (hM : OkM M) : tabL (intM M) = intM M := by
  have hb := hM.b4
  have hn := hM.n9
  unfold tabL
  rw [List.take_of_length_le (by rw [intM_length]; omega)]
  refine (List.map_congr_left fun r hr => ?_).trans (List.map_id _)
  obtain ⟨q, hq, rfl⟩ := List.mem_map.1 hr
  exact List.take_of_length_le (by rw [List.length_map, hM.row q hq]; omega)
theorem cells_two (w : World) (u v : Value) (t : TypeId) : (w.alloc (.cells #[u, v] t)).ownsRow w.heap.size t 1 (.slice (some ⟨w.heap.size, 0, none⟩) 2 2) 2 [u, v] :=
  ⟨rfl, .inr ⟨w.heap.size, 2, #[u, v], rfl, Nat.le_refl _, Blk.new w _ _, Nat.le_refl _, by decide, rfl, rfl⟩⟩
theorem blk_cells {w : World} {b : Nat} {cs : Array Value} {t : TypeId} (h : Blk w b cs t) : ∀ (j : Nat) (u : Value), cs.toList[j]? = some u → w.cell? ((⟨b, 0, none⟩ : Addr).add j) = some u := by
  intro j u hu
  rw [Addr.add_lit, h.cell, Nat.zero_add]
  simpa using hu
theorem slice_one (a : Option Addr) (n c : Nat) : (Value.slice a n c).oneCell' = true := by cases a <;> rfl

set_option maxRecDepth 100000 in
set_option maxHeartbeats 8000000 in
theorem own_walk (a0 : Option Addr) (len0 cap0 : Nat) (X : List (List Int)) (a2 : Option Addr) (len2 cap2 : Nat) (z2 : List Int) (w : World) (hG : Glob w) (w0 : IsRows w a0 len0 cap0 X) (w2 : IsRow .i64 w a2 len2 cap2 z2) :
    Calls Tryd.prog 10 #[.slice a0 len0 cap0, .slice a2 len2 cap2] w fun e w' => e = .returned (.bool true) ∧ Below w.heap.size w w' := by
  have hX := w0
  obtain ⟨rfl, -⟩ := w0
  have TM := hid (tame_any a0 cap0 X _ hX)
  have HG := hid hG
  have hz2 := w2.bounds
  obtain ⟨k2, e2, n2, c2, m2⟩ := w2.ints
  have hzt : ∀ n ∈ z2.take len2, -9223372036854775808 ≤ n ∧ n ≤ 9223372036854775807 := fun n hn => hz2 n (List.mem_of_mem_take hn)
  obtain ⟨z, hz⟩ : ∃ z, z = z2.take len2 := ⟨_, rfl⟩
  rw [← hz] at k2 e2 hzt
  have HZI := hid k2
  have HZB := hid hzt
  subst e2
  have hmx : 1000 ≤ maxLen := by decide
  have hmx2 : maxLen ≤ 9223372036854775807 := by decide
  clear hX hG hz2 k2 hzt hz w2
  go_enter Tryd.func10, Tryd.ntmps10
  go_wp2_with fail
  refine TM.out.mono ?_
  rintro e v1 ⟨M, a, c, hM, rfl, ht⟩
  obtain ⟨-, hr, -, -⟩ := ht.out.rows
  have HB1 := hid ht.out.below
  have hn9 := hM.n9
  have hn1 := hM.n1
  have hb4 := hM.b4
  have hm1 := hM.b1
  have hself := tabL_self hM
  have HRX := hid hr
  have TB := hid (table_any a c (intM M) v1 hr (by rw [intM_length]; omega) (fun r h => by obtain ⟨q, hq, rfl⟩ := List.mem_map.1 h; rw [List.length_map, hM.row q hq]; omega))
  rw [hself, intM_length] at TB
  have HM := hid hM
  have hlM := intM_length M
  clear ht hr hself TM hM
  go_wp2_with fail
  refine TB.out.mono ?_
  rintro e v2 ⟨b2, d2, rfl, ht2⟩
  rw [hlM] at ht2 ⊢
  obtain ⟨-, hr2, -, -⟩ := ht2.out.rows
  have hbt2 := ht2.out.below
  have HRX2 := hid (HRX.out.below hbt2 (Nat.le_refl _))
  have HCP := hid hr2
  have HB2 := hid (HB1.out.trans (hbt2.mono HB1.out.size))
  have ST := hid (states_any a c M a2 cap2 z v2 HM.out HRX2.out (HZI.out.below HB2.out (Nat.le_refl _)) (by omega) HZB.out)
  obtain ⟨L0, hL0⟩ : ∃ L0, L0 = statesL (nst M) z := ⟨_, rfl⟩
  have hs0 : setB (nst M) (castL L0) = true := by rw [hL0]; exact states_set _ _
  have hl0 : L0.length ≤ 9 := by have := states_len (nst M) z; rw [hL0]; omega
  rw [← hL0] at ST
  clear ht2 hr2 hbt2 TB hL0 HRX
  go_wp2_with fail
  refine ST.out.mono ?_
  rintro e v3 ⟨a3, c3, rfl, ho3, hb3⟩
  obtain ⟨-, hn3, hc3⟩ := own_vals ho3.out
  have HI3 := hid (show Ints v3 a3 (castL L0) from retN_ints ho3.out)
  have HRX3 := hid (HRX2.out.below hb3 (Nat.le_refl _))
  have HCP3 := hid (HCP.out.below hb3 (Nat.le_refl _))
  have HB3 := hid (HB2.out.trans (hb3.mono HB2.out.size))
  have LC := listc_any a3 c3 (castL L0) v3 HI3.out (by rw [castL_len]; exact hc3) hn3 (by rw [castL_len]; omega)
  rw [List.take_of_length_le (by rw [castL_len]; omega), castL_len] at LC
  have LC := hid LC
  clear ho3 hb3 ST HRX2 HCP hn3 hc3
  go_wp2_with fail
  refine LC.out.mono ?_
  rintro e v4 ⟨a4, c4, rfl, ho4, hb4'⟩
  have HI4 := hid (retI_ints ho4.out).1
  rw [castL_len]
  have HL4 := hid (HI3.out.below hb4' (Nat.le_refl _))
  have HRX4 := hid (HRX3.out.below hb4' (Nat.le_refl _))
  have HCP4 := hid (HCP3.out.below hb4' (Nat.le_refl _))
  have HB4 := hid (HB3.out.trans (hb4'.mono HB3.out.size))
  have HG4 := hid (HG.out.next HB4.out)
  clear ho4 hb4' LC HRX3 HCP3 HI3
  -- what is called above v4
  have APC := hid (fun (W : World) (hb : Below v4.heap.size v4 W) => Apart_yes a c M W HM.out (HRX4.out.below hb (Nat.le_refl _)))
  have hw97 : ([97] : List UInt8).all (letB M.length) = true := by
    rw [List.all_cons, List.all_nil, Bool.and_true, letB_iff]
    exact ⟨by decide, by show 97 < 97 + M.length; omega⟩
  have hx0l := (num_lt hs0).1
  have IMG := hid (fun (W : World) (hb : Below v4.heap.size v4 W) => show Calls Tryd.prog 35 #[.slice a M.length c, .slice a3 L0.length c3, .string ⟨#[97]⟩] W _ from Image_ok a c M a3 c3 L0 [97] W HM.out (HRX4.out.below hb (Nat.le_refl _)) (HL4.out.below hb (Nat.le_refl _)) hl0 hs0 hw97 (by decide) (HG4.out.next hb))
  have hap : (apartL M).length ≤ 9 := by
    rcases apart_cases HM.out with ⟨h, -⟩ | ⟨i, j, h, -⟩
    · rw [h]; simp
    · rw [h]; simp
  obtain ⟨y1, hy1⟩ : ∃ y1, y1 = imgW M (numL (castL L0)) [97] := ⟨_, rfl⟩
  have hy1l : y1 < 512 := by rw [hy1]; exact lt512 HM.out (imgW_lt HM.out _ _ hx0l)
  have hx05 := lt512 HM.out hx0l
  rw [← hy1] at IMG
  have TBL := hid (fun (W : World) (hb : Below v4.heap.size v4 W) => tables_any a b2 c d2 (intM M) (intM M) W (HRX4.out.below hb (Nat.le_refl _)) (HCP4.out.below hb (Nat.le_refl _)) (by rw [intM_length]; omega) (fun r h => by obtain ⟨q, hq, rfl⟩ := List.mem_map.1 h; rw [List.length_map, HM.out.row q hq]; omega) |>.mono (R' := fun e w' => e = .returned (.bool true) ∧ Below W.heap.size W w') fun e w' h => ⟨by rw [h.1, decide_eq_true rfl], h.2⟩)
  rw [hlM] at TBL
  have IEL := hid (fun (W : World) (hb : Below v4.heap.size v4 W) => ints_any a3 a4 c3 c4 (castL L0) (castL L0) W (HL4.out.below hb (Nat.le_refl _)) (HI4.out.below hb (Nat.le_refl _)) (by rw [castL_len]; omega) |>.mono (R' := fun e w' => e = .returned (.bool true) ∧ Below W.heap.size W w') fun e w' h => ⟨by rw [h.1, decide_eq_true rfl], h.2⟩)
  rw [castL_len] at IEL
  have NUM := hid (fun (W : World) (hb : Below v4.heap.size v4 W) => refNumber_any a4 c4 (nst M) (castL L0) W hn9 (HI4.out.below hb (Nat.le_refl _)) (by rw [castL_len]; omega) hs0)
  rw [castL_len] at NUM
  have RIM := hid (fun (W : World) (hb : Below v4.heap.size v4 W) => show Calls Tryd.prog 29 #[.slice b2 M.length d2, .int .i64 (numL (castL L0) : Nat), .string ⟨#[97]⟩] W fun e w' => e = .returned (.int .i64 (y1 : Nat)) ∧ W = w' from by
    have := refImage_any b2 d2 M (numL (castL L0)) (mkS [97]) W HM.out (HCP4.out.below hb (Nat.le_refl _)) hx05 (by rw [mkS_size]; exact Nat.le_trans (by decide) hmx) hw97
    rw [mkS_data, ← hy1] at this
    exact this)
  have RLI := hid (fun (W : World) => refList_any y1 W hy1l)
  have AW := hid (fun (W : World) (hb : Below v4.heap.size v4 W) => awake_any W (HG4.out.next hb))
  have SLO := hid (fun (W : World) => Slow_own 4 W (by decide) (by decide))
  have SLY := hid (fun (W : World) => show Calls Tryd.prog 16 #[.int .i64 4] W fun e w' => ∃ a c, e = .returned (.tuple #[.slice a 2 c, .int .i64 0]) ∧ RowsAt w' a (intM (slowM 4)) ∧ Below W.heap.size W w' from Slow_yes 4 W (by decide) (by decide))
  have SLR := hid (fun (W : World) => show Calls Tryd.prog 19 #[.int .i64 4] W fun e w' => ∃ a c, e = .returned (.slice a 2 c) ∧ RowsAt w' a (intM (slowM 4)) ∧ Below W.heap.size W w' from refSlow_yes 4 W (by decide) (by decide))
  have TSL := hid (fun (p q : Option Addr) (cp cq : Nat) (W : World) (h1 : RowsAt W p (intM (slowM 4))) (h2 : RowsAt W q (intM (slowM 4))) => show Calls Tryd.prog 18 #[.slice p 2 cp, .slice q 2 cq] W fun e w' => e = .returned (.bool true) ∧ Below W.heap.size W w' from
    (tables_any p q cp cq (intM (slowM 4)) (intM (slowM 4)) W h1 h2 (by decide) (by decide)).mono fun e w' h => ⟨by rw [h.1, decide_eq_true rfl], h.2⟩)
  have hy9 := sizeN_le y1
  have IEY := hid (fun (p q : Option Addr) (cp cq : Nat) (W : World) (h1 : Ints W p (castL (listN y1))) (h2 : Ints W q (castL (listN y1))) => ints_any p q cp cq (castL (listN y1)) (castL (listN y1)) W h1 h2 (by rw [castL_len]; unfold sizeN at hy9; omega) |>.mono (R' := fun e w' => e = .returned (.bool true) ∧ Below W.heap.size W w') fun e w' h => ⟨by rw [h.1, decide_eq_true rfl], h.2⟩)
  rw [castL_len] at IEY
  unfold sizeN at hy9
  obtain ⟨ny, hny⟩ : ∃ ny, ny = (listN y1).length := ⟨_, rfl⟩
  rw [← hny] at IEY IMG hy9
  have HNY := hid hny
  obtain ⟨nu, hnu⟩ : ∃ nu, nu = numL (castL L0) := ⟨_, rfl⟩
  rw [← hnu] at NUM RIM
  obtain ⟨AP, hAP⟩ : ∃ AP, AP = apartL M := ⟨_, rfl⟩
  rw [← hAP] at APC hap
  obtain ⟨nl, hnl⟩ : ∃ nl, nl = L0.length := ⟨_, rfl⟩
  rw [← hnl] at IMG IEL NUM ⊢
  clear hs0 hx0l hx05 hy1 hy1l hw97 hny hnu hAP hnl hl0 HM
  go_wp2_with fail
  refine (APC.out v4 (Below.refl _ _)).mono ?_
  rintro e v5 ⟨a5, c5, rfl, ho5, hb5⟩
  have B5 := hid hb5
  clear hb5
  go_wp2_with fail
  refine (IMG.out v5 B5.out).mono ?_
  rintro e v6 ⟨a6, c6, rfl, -, ho6, hb6⟩
  have HO5 := hid (ownsRow_low ho5.out hb6 (Nat.le_refl _))
  have B6 := hid (B5.out.trans (hb6.mono B5.out.size))
  clear hb6 ho5
  go_wp2_with fail
  refine (SLO.out v6).mono ?_
  rintro e v7 ⟨gs, a7, c7, a8, c8, rfl, hbs, ho7, ho8, -, hb7⟩
  have HO5b := hid (ownsRow_low HO5.out hb7 (Nat.le_refl _))
  have HO6 := hid (ownsRow_low ho6.out hb7 (Nat.le_refl _))
  have B7 := hid (B6.out.trans (hb7.mono B6.out.size))
  have hz4 := B5.out.size
  have hz5 := B6.out.size
  have hz7 := B7.out.size
  have HBS := hid hbs
  have HSZ := hid (And.intro hz4 (And.intro hz5 hz7))
  clear hb7 ho6 HO5 hbs hz4 hz5 hz7
  go_wp2_with (at_builtin; go_must (refine wpList_appN _ rfl (.tmp 48) (.tmp 49) 22 rfl v7.heap.size 38 (.slice none 0 0) 1 24 Tryd.underlying22 Tryd.info38 rfl (by decide) _ 2 [.slice a5 AP.length c5, .slice a6 ny c6] rfl (cells_two _ _ _ _) ⟨gs, 0, none⟩ 2 2 [.slice a7 4 c7, .slice a8 4 c8] rfl rfl (blk_cells (HBS.out.alloc _)) (by intro u hu; simp at hu; rcases hu with rfl | rfl <;> exact slice_one _ _ _) (by decide) (by decide) (by simp) (by decide) ?_))
  intro v' w8 hown hgrow hwh
  have hb8 := below_app ((Below.refl v7.heap.size v7).alloc (Nat.le_refl _) _) hgrow (cells_two v7 _ _ _) (by simp) (Nat.le_refl _)
  obtain ⟨hx1, hx2⟩ := hown
  rcases hx2 with ⟨-, hx3⟩ | ⟨gA, cA, cs, rfl, hgA, hbA, hx5, hx6, hx7, hx8⟩
  · simp at hx3
  have HROW := hid hx8
  have HBA := hid (show Blk w8 gA cs 38 from hbA)
  have B8 := hid (B7.out.trans (hb8.mono B7.out.size))
  have hgne : ∀ g, g < v7.heap.size → g ≠ gA := fun g hg e => by omega
  have LV := hid (show ∀ r ∈ [Value.slice a5 AP.length c5, .slice a6 ny c6, .slice a7 4 c7, .slice a8 4 c8], LiveRow v4.heap.size gA w8 r from by
    have h1 := LiveRow.own (gA := gA) HO5b.out hap (Nat.le_refl _) hgne
    have h2 := LiveRow.own (gA := gA) (B := v4.heap.size) HO6.out hy9 HSZ.out.1 hgne
    have h3 := LiveRow.own (gA := gA) (B := v4.heap.size) ho7.out (by decide) HSZ.out.2.1 hgne
    have h4 := LiveRow.own (gA := gA) (B := v4.heap.size) ho8.out (by decide) HSZ.out.2.1 hgne
    intro r hr
    simp only [List.mem_cons, List.not_mem_nil, or_false] at hr
    rcases hr with rfl | rfl | rfl | rfl
    · exact h1.below hb8 (Nat.le_refl _)
    · exact h2.below hb8 (Nat.le_refl _)
    · exact h3.below hb8 (Nat.le_refl _)
    · exact h4.below hb8 (Nat.le_refl _))
  obtain ⟨R, hR⟩ : ∃ R, R = [Value.slice a5 AP.length c5, .slice a6 ny c6, .slice a7 4 c7, .slice a8 4 c8] := ⟨_, rfl⟩
  rw [← hR] at LV
  have HR := hid (show ∀ i r, R[i]? = some r → i < 4 ∧ cs[i]? = some r from fun i r h => by
    have hi := (List.getElem?_eq_some_iff.1 h).1
    have e : R = cs.toList.take 4 := by rw [hR]; simpa using HROW.out.symm
    rw [e, List.length_take] at hi
    rw [e, List.getElem?_take] at h
    split at h
    · exact ⟨by omega, by simpa using h⟩
    · cases h)
  have HR4 := hid (show ∀ i, i < 4 → ∃ r, R[i]? = some r from fun i hi => ⟨_, List.getElem?_eq_getElem (by rw [hR]; exact hi)⟩)
  have hgA2 : gA < w8.heap.size := HBA.out.lt
  clear hgrow hwh hx1 hx5 hx6 hx7 hx8 hbA hgne hb8 ho7 ho8 HO5b HO6 HBS HROW hR
  go_wp2_with fail
  go_loopw [16] (fun iv W => ∃ i : Nat, i ≤ 4 ∧ iv = .int .i64 i ∧ Below v4.heap.size v4 W ∧ Blk W gA cs 38 ∧ ∀ r ∈ R, LiveRow v4.heap.size gA W r) (fun iv _ => 4 - (intOf iv).toNat)
  case atStart => exact ⟨0, by omega, rfl, B8.out, HBA.out, LV.out⟩
  case round =>
    obtain ⟨i, hi, rfl, hB, hBA, hLV⟩ := hrel
    have HBW := hid hB
    have HBAW := hid hBA
    have HLV := hid hLV
    clear hB hBA hLV
    by_cases hi4 : i < 4
    · obtain ⟨r, hr⟩ := HR4.out i hi4
      have hrm := List.mem_of_getElem? hr
      have hcr := (HR.out i r hr).2
      obtain ⟨an, n, cn, rfl, hn9', hlv⟩ := HLV.out r hrm
      have HRM := hid hrm
      have HCR := hid hcr
      have q1 : wr.cell? ⟨gA, i, none⟩ = some (.slice an n cn) := (HBAW.out.cell i).trans hcr
      clear hr hrm hcr hlv
      obtain ⟨wo, rfl⟩ : ∃ wo : World, wo = wr := ⟨_, rfl⟩
      go_wp2_with fail
      go_loopw [17] (fun kv W => ∃ k : Nat, k ≤ n ∧ kv = .int .i64 k ∧ Below v4.heap.size v4 W ∧ Blk W gA cs 38 ∧ ∀ r ∈ R, LiveRow v4.heap.size gA W r) (fun kv _ => n - (intOf kv).toNat)
      case atStart => exact ⟨0, by omega, rfl, HBW.out, HBAW.out, HLV.out⟩
      case round =>
        obtain ⟨k, hk, rfl, hB2, hBA2, hLV2⟩ := hrel
        have HB2' := hid hB2
        have HBA2 := hid hBA2
        have HLV2 := hid hLV2
        have q2 : wr.cell? ⟨gA, i, none⟩ = some (.slice an n cn) := (HBA2.out.cell i).trans HCR.out
        clear hB2 hBA2 hLV2
        by_cases hkn : k < n
        · obtain ⟨an', n', cn', he, -, hlv⟩ := HLV2.out _ HRM.out
          cases he
          rcases hlv with h | ⟨g, o, rfl, hgB, hgA', hlv⟩
          · omega
          · obtain ⟨⟨u, hu⟩, hfz⟩ := hlv k hkn
            have HK := hid (show Below v4.heap.size v4 (wr.setCell ⟨g, o + k, none⟩ (.int .i64 (-7))) ∧ Blk (wr.setCell ⟨g, o + k, none⟩ (.int .i64 (-7))) gA cs 38 ∧ ∀ r ∈ R, LiveRow v4.heap.size gA (wr.setCell ⟨g, o + k, none⟩ (.int .i64 (-7))) r from
              ⟨HB2'.out.setCell hgB _, HBA2.out.other _ (fun e => hgA' e.symm) _, fun r hr => (HLV2.out r hr).set _ _⟩)
            clear hlv
            go_wp2_with fail
            exact ⟨⟨k + 1, by omega, by go_num, HK.out⟩, by simp [intOf]; omega⟩
        · go_wp2_with fail
          exact ⟨⟨i + 1, by omega, by go_num, HB2'.out, HBA2.out, HLV2.out⟩, by simp [intOf]; omega⟩
    · clear HR HR4 HLV HBAW LV
      go_wp2_with fail
      refine (SLY.out wr).mono ?_
      rintro e w9 ⟨a9, c9, rfl, hr9, hb9⟩
      have HR9 := hid hr9
      have B9 := hid (HBW.out.trans (hb9.mono HBW.out.size))
      clear hr9 hb9
      go_wp2_with fail
      refine (IMG.out w9 B9.out).mono ?_
      rintro e w10 ⟨a10, c10, rfl, hi10, -, hb10⟩
      have HR10 := hid (HR9.out.below hb10 (Nat.le_refl _))
      have B10 := hid (B9.out.trans (hb10.mono B9.out.size))
      have HI10 := hid hi10.out
      clear hb10 hi10 HR9
      go_wp2_with fail
      refine (TBL.out w10 B10.out).mono ?_
      rintro e w11 ⟨rfl, hb11⟩
      have HR11 := hid (HR10.out.below hb11 (Nat.le_refl _))
      have HI11 := hid (HI10.out.below hb11 (Nat.le_refl _))
      have B11 := hid (B10.out.trans (hb11.mono B10.out.size))
      clear hb11 HR10 HI10
      go_wp2_with fail
      refine (IEL.out w11 B11.out).mono ?_
      rintro e w12 ⟨rfl, hb12⟩
      have HR12 := hid (HR11.out.below hb12 (Nat.le_refl _))
      have HI12 := hid (HI11.out.below hb12 (Nat.le_refl _))
      have B12 := hid (B11.out.trans (hb12.mono B11.out.size))
      clear hb12 HR11 HI11
      go_wp2_with fail
      refine (SLR.out w12).mono ?_
      rintro e w13 ⟨a13, c13, rfl, hr13, hb13⟩
      have HR13 := hid (HR12.out.below hb13 (Nat.le_refl _))
      have HI13 := hid (HI12.out.below hb13 (Nat.le_refl _))
      have HS13 := hid hr13
      have B13 := hid (B12.out.trans (hb13.mono B12.out.size))
      clear hb13 HR12 HI12 hr13
      go_wp2_with fail
      refine (TSL.out a9 a13 c9 c13 w13 HR13.out HS13.out).mono ?_
      rintro e w14 ⟨rfl, hb14⟩
      have HI14 := hid (HI13.out.below hb14 (Nat.le_refl _))
      have B14 := hid (B13.out.trans (hb14.mono B13.out.size))
      clear hb14 HR13 HI13 HS13
      go_wp2_with fail
      refine (NUM.out w14 B14.out).mono ?_
      rintro e w15 ⟨rfl, rfl⟩
      go_wp2_with fail
      refine (RIM.out w14 B14.out).mono ?_
      rintro e w15 ⟨rfl, rfl⟩
      go_wp2_with fail
      refine (RLI.out w14).mono ?_
      rintro e w15 ⟨a15, c15, rfl, ho15, hb15⟩
      have HI15 := hid (HI14.out.below hb15 (Nat.le_refl _))
      have HJ15 := hid (show Ints w15 a15 (castL (listN y1)) from retN_ints ho15.out)
      have B15 := hid (B14.out.trans (hb15.mono B14.out.size))
      clear hb15 ho15 HI14
      rw [← HNY.out]
      go_wp2_with fail
      refine (IEY.out a10 a15 c10 c15 w15 HI15.out HJ15.out).mono ?_
      rintro e w16 ⟨rfl, hb16⟩
      have B16 := hid (B15.out.trans (hb16.mono B15.out.size))
      clear hb16
      go_wp2_with fail
      refine (AW.out w16 B16.out).mono ?_
      rintro e w17 ⟨rfl, hb17⟩
      have B17 := hid (HB4.out.trans ((B16.out.trans (hb17.mono B16.out.size)).mono HB4.out.size))
      clear hb17
      go_wp2_with fail
      go_ret
      exact ⟨rfl, B17.out⟩
end Go.Proofs.YthlgdakdjikjhaaDoor
