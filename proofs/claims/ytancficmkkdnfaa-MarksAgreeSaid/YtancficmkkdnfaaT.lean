/-
  Walks: the reference's Greatest; Periods.
-/
import Derived.Test.YtancficmkkdnfaaN
namespace Go.Proofs.Ytancficmkkdnfaa
open Go.RowKit
attribute [local go_sem] Oper.semAt_some

/-- A period, as two parts that are equal. -/
theorem isP_parts (d : List UInt8) (n p : Nat) (h1 : 1 ≤ p) (h2 : p ≤ n) : IsP d n p ↔ (d.drop p).take (n - p) = d.take (n - p) := by
  unfold IsP
  constructor
  · rintro ⟨-, -, h⟩
    apply List.ext_getElem?
    intro i
    rw [List.getElem?_take, List.getElem?_take, List.getElem?_drop]
    by_cases hi : i < n - p
    · rw [if_pos hi, if_pos hi]; exact h i (by omega)
    · rw [if_neg hi, if_neg hi]
  · intro h
    refine ⟨h1, h2, fun i hi => ?_⟩
    have := congrArg (·[i]?) h
    simp only [List.getElem?_take, List.getElem?_drop] at this
    rwa [if_pos (by omega), if_pos (by omega)] at this

def ret3 (a b c : Nat) : Value := .tuple #[.int .i64 a, .int .i64 b, .int .i64 c]
theorem ret3_eq {a b c a' b' c' : Nat} (h1 : a = a') (h2 : b = b') (h3 : c = c') : Ending.returned (ret3 a b c) = .returned (ret3 a' b' c') := by rw [h1, h2, h3]
theorem gr_first (l : List UInt8) (h : l ≠ []) : (List.range' 0 l.length).foldl (fun st i => grI (l.drop i) i st) ⟨0, 1, 1⟩ = gr l := by
  have hl := List.length_pos_iff.2 h
  unfold gr grO
  rw [range'_cons 0 _ hl, List.foldl_cons, List.foldl_cons]
  congr 1
  unfold grI
  rw [List.drop_zero, range'_cons 1 _ hl, List.foldl_cons, List.foldl_cons]
  congr 1

set_option maxRecDepth 100000 in
set_option maxHeartbeats 4000000 in
theorem refGreatest_any (s : ByteArray) (w : World) (hs : s.size ≤ 1000) (hne : s.data.toList ≠ []) :
    Calls Try.prog 26 #[.string s] w fun e w' => e = .returned (ret3 (gr s.data.toList).size (gr s.data.toList).period (gr s.data.toList).at_) ∧ Below w.heap.size w w' := by
  obtain ⟨G, hG⟩ : ∃ G, G = gr s.data.toList := ⟨_, rfl⟩
  rw [← hG]
  have hfirst := gr_first _ hne
  rw [bytes_len, ← hG] at hfirst
  have HF := hid hfirst
  clear hfirst hG
  go_enter Try.func26, Try.ntmps26
  go_wp2_with fail
  go_loopw [5, 6, 7, 8] (fun x y z i wr => ∃ (st : St) (k : Nat), k ≤ s.size ∧ st.at_ ≤ s.size ∧ st.size ≤ 1000 ∧ st.period ≤ 1000 ∧ x = .int .i64 st.size ∧ y = .int .i64 st.period ∧ z = .int .i64 st.at_ ∧ i = .int .i64 k ∧ Below w.heap.size w wr ∧ Hid ((List.range' k (s.size - k)).foldl (fun st i => grI (s.data.toList.drop i) i st) st = G)) (fun _ _ _ i _ => s.size - (intOf i).toNat)
  case atStart => exact ⟨⟨0, 1, 1⟩, 0, by omega, by simp, by simp, by simp, rfl, rfl, rfl, rfl, Below.refl _ _, HF⟩
  case round =>
    obtain ⟨st, k, hk, hs1, hs2, hs3, rfl, rfl, rfl, rfl, hB, HG⟩ := hrel
    by_cases hlt : k < s.size
    · have hlen : (s.data.toList.drop k).length = s.size - k := by rw [List.length_drop, bytes_len]
      have hg1 := HG.out
      rw [range'_cons k _ (by omega), List.foldl_cons, show s.size - k - 1 = s.size - (k + 1) by omega] at hg1
      have HG1 := hid hg1
      obtain ⟨d, hd⟩ : ∃ d, d = s.data.toList.drop k := ⟨_, rfl⟩
      rw [← hd] at hlen HG1
      have HD := hid hd
      have HLEN := hid hlen
      obtain ⟨st1, hst1⟩ : ∃ st1, st1 = grI d k st := ⟨_, rfl⟩
      rw [← hst1] at HG1
      have HS1 := hid (show (List.range' 1 d.length).foldl (grS d k) st = st1 from hst1.symm)
      clear hg1 hd hlen hst1 HG
      go_wp2_with fail
      go_loopw [5, 6, 7, 9, 10] (fun x y z u v wr2 => ∃ (st2 : St) (n p : Nat), 1 ≤ n ∧ n ≤ s.size - k + 1 ∧ 1 ≤ p ∧ p ≤ n ∧ (n ≤ s.size - k → p ≤ per d n) ∧ st2.at_ ≤ s.size ∧ st2.size ≤ 1000 ∧ st2.period ≤ 1000 ∧ x = .int .i64 st2.size ∧ y = .int .i64 st2.period ∧ z = .int .i64 st2.at_ ∧ u = .int .i64 p ∧ v = .int .i64 n ∧ Below w.heap.size w wr2 ∧ Hid ((List.range' n (s.size - k + 1 - n)).foldl (grS d k) st2 = st1)) (fun _ _ _ _ v _ => s.size + 2 - (intOf v).toNat)
      case atStart =>
        refine ⟨st, 1, 1, by omega, by omega, by omega, by omega, fun h => per_pos d 1 (by omega), hs1, hs2, hs3, rfl, rfl, rfl, rfl, rfl, hB, ?_⟩
        rw [Hid, ← HS1.out, HLEN.out]; rfl
      case round =>
        obtain ⟨st2, n, p, hn1, hn2, hp1, hpn, hpper, ht1, ht2, ht3, rfl, rfl, rfl, rfl, rfl, hB2, HK⟩ := hrel
        by_cases hin : n ≤ s.size - k
        · have hpp := hpper hin
          have hkn : decide ((k : Int) + (n : Int) ≤ (s.size : Int)) = true := decide_eq_true (by omega)
          have hg1 := HK.out
          rw [range'_cons n _ (by omega), List.foldl_cons, show s.size - k + 1 - n - 1 = s.size - k + 1 - (n + 1) by omega] at hg1
          have HG2 := hid hg1
          have HPL := hid (per_le d n)
          have HPM := hid (fun (h : n + 1 ≤ s.size - k) => per_mono d n (n + 1) (by omega) (by omega))
          have HPI := hid (per_is d n (by omega))
          have HPN := hid (fun q (h : IsP d n q) => per_min d n q h)
          clear hg1 hpper HK
          go_wp2_with fail
          go_loopw [9] (fun u wr3 => ∃ q : Nat, 1 ≤ q ∧ q ≤ per d n ∧ u = .int .i64 q ∧ Below w.heap.size w wr3) (fun u _ => n + 1 - (intOf u).toNat)
          case atStart => exact ⟨p, hp1, hpp, rfl, hB2⟩
          case round =>
            obtain ⟨q, hq1, hq2, rfl, hB3⟩ := hrel
            have hqn : q ≤ n := Nat.le_trans hq2 HPL.out
            have hx1 : (s.extract (k + q) (k + n)).toList = (d.drop q).take (n - q) := by
              rw [Lib.extract_toList, HD.out, List.drop_drop, show k + n - (k + q) = n - q by omega]
            have hx2 : (s.extract k (k + n - q)).toList = d.take (n - q) := by
              rw [Lib.extract_toList, HD.out, show k + n - q - k = n - q by omega]
            have b1 : (0 : Int) ≤ (k : Int) + (q : Int) := by omega
            have b2 : (k : Int) + (q : Int) ≤ (k : Int) + (n : Int) := by omega
            have b3 : (k : Int) + (n : Int) ≤ (s.size : Int) := by omega
            have b4 : (0 : Int) ≤ (k : Int) := by omega
            have b5 : (k : Int) ≤ (k : Int) + (n : Int) - (q : Int) := by omega
            have b6 : (k : Int) + (n : Int) - (q : Int) ≤ (s.size : Int) := by omega
            have t1 : ((k : Int) + (q : Int)).toNat = k + q := by omega
            have t2 : ((k : Int) + (n : Int)).toNat = k + n := by omega
            have t3 : ((k : Int) + (n : Int) - (q : Int)).toNat = k + n - q := by omega
            have hpar := isP_parts d n q hq1 hqn
            by_cases hq : q = per d n
            · have heq : ((s.extract (k + q) (k + n)).toList == (s.extract k (k + n - q)).toList) = true := by
                rw [hx1, hx2, beq_iff_eq]; exact hpar.1 (by rw [hq]; exact HPI.out)
              have HQ := hid hq
              clear hx1 hx2 hpar hq
              have hqq : q ≤ 1000 := by omega
              have m1 := wrap_mul n st2.period (by omega) (by omega)
              have m2 := wrap_mul st2.size q (by omega) (by omega)
              have E1 := hid m1
              have E2 := hid m2
              clear m1 m2
              go_wp2_with fail
              go_quiet (fail)
              go_wp2_with fail
              · rename_i hcmp
                rw [E1.out, E2.out] at hcmp
                have hg : grS d k st2 n = ⟨k, n, q⟩ := by unfold grS; rw [← HQ.out, if_pos (by omega)]
                refine ⟨⟨⟨k, n, q⟩, n + 1, q, by omega, by omega, hq1, by omega, fun h => by rw [HQ.out]; exact HPM.out h, by simp; omega, by simp; omega, by simp; omega, rfl, rfl, rfl, rfl, by go_num, below_drewN hB3 nq, ?_⟩, by simp [intOf]; omega⟩
                rw [Hid, ← HG2.out, hg]
              · rename_i hcmp
                rw [E1.out, E2.out] at hcmp
                have hg : grS d k st2 n = st2 := by unfold grS; rw [← HQ.out, if_neg (by omega)]
                refine ⟨⟨st2, n + 1, q, by omega, by omega, hq1, by omega, fun h => by rw [HQ.out]; exact HPM.out h, ht1, ht2, ht3, rfl, rfl, rfl, rfl, by go_num, below_drewN hB3 nq, ?_⟩, by simp [intOf]; omega⟩
                rw [Hid, ← HG2.out, hg]
            · have hne2 : ((s.extract (k + q) (k + n)).toList == (s.extract k (k + n - q)).toList) = false := by
                rw [hx1, hx2, beq_eq_false_iff_ne]; intro h; exact hq (Nat.le_antisymm hq2 (HPN.out q (hpar.2 h)))
              have hqlt : q + 1 ≤ per d n := by omega
              clear hx1 hx2 hpar hq
              go_wp2_with fail
              go_quiet (fail)
              go_wp2_with fail
              exact ⟨⟨q + 1, by omega, hqlt, by go_num, below_drewN hB3 nq⟩, by simp [intOf]; omega⟩
        · have hkn : decide ((k : Int) + (n : Int) ≤ (s.size : Int)) = false := decide_eq_false (by omega)
          have hst : st2 = st1 := by have := HK.out; rw [show s.size - k + 1 - n = 0 by omega] at this; exact this
          subst hst
          clear HK hpper
          go_wp2_with fail
          exact ⟨⟨st2, k + 1, by omega, ht1, ht2, ht3, rfl, rfl, rfl, by go_num, hB2, HG1⟩, by simp [intOf]; omega⟩
    · have hst : st = G := by have := HG.out; rw [show s.size - k = 0 by omega] at this; exact this
      subst hst
      clear HG
      go_wp2_with fail
      refine bodyPost_ret (v := ret3 st.size st.period st.at_) (by simp [results, Try.results26, go_sem, ret3]) rfl ⟨rfl, hB⟩

/-- All periods from p on. -/
def perF (l : List UInt8) (p k : Nat) : List Nat := (List.range' p k).filter fun p => decide (l.drop p = l.take (l.length - p))
def perL (l : List UInt8) : List Nat := perF l 1 l.length
theorem perF_step (l : List UInt8) (p k : Nat) : perF l p (k + 1) = (if l.drop p = l.take (l.length - p) then [p] else []) ++ perF l (p + 1) k := by
  unfold perF
  rw [show List.range' p (k + 1) = p :: List.range' (p + 1) k from rfl, List.filter_cons]
  by_cases h : l.drop p = l.take (l.length - p) <;> simp [h]
theorem perF_len (l : List UInt8) : ∀ (k p : Nat), (perF l p k).length ≤ k := by
  intro k p
  unfold perF
  exact Nat.le_trans (List.length_filter_le _ _) (by simp)
theorem perL_len (l : List UInt8) : (perL l).length ≤ l.length := perF_len l _ _
def natV (x : Nat) : Value := .int .i64 (x : Int)
theorem natV_one (l : List Nat) : ∀ u ∈ l.map natV, u.oneCell' = true := by
  intro u hu; obtain ⟨x, _, rfl⟩ := List.mem_map.1 hu; rfl
/-- What a call returns: a new slice of numbers. -/
def RetN (l : List Nat) (w : World) (e : Ending) (w' : World) : Prop := ∃ a c, e = .returned (.slice a l.length c) ∧ Hid (w'.ownsRow w.heap.size 3 1 (.slice a l.length c) l.length (l.map natV)) ∧ Below w.heap.size w w'

set_option maxHeartbeats 4000000 in
theorem refPeriods_any (s : ByteArray) (w : World) (hs : s.size ≤ 1000) : Calls Try.prog 25 #[.string s] w (RetN (perL s.data.toList) w) := by
  go_enter Try.func25, Try.ntmps25
  go_wp2_with fail
  go_loopw [3, 4] (fun v i wr => ∃ (p : Nat) (L : List Nat), 1 ≤ p ∧ p ≤ s.size + 1 ∧ i = .int .i64 p ∧ L.length ≤ p ∧ Below w.heap.size w wr ∧ wr.ownsRow w.heap.size 3 1 v L.length (L.map natV) ∧ Hid (perL s.data.toList = L ++ perF s.data.toList p (s.size + 1 - p))) (fun _ i _ => s.size + 2 - (intOf i).toNat)
  case atStart => exact ⟨1, [], by omega, by omega, rfl, by simp, Below.refl _ _, World.ownsRow_nil _ _ _ _, by rw [Hid, perL, bytes_len]; rfl⟩
  case round =>
    obtain ⟨p, L, hp1, hp2, rfl, hLl, hB, hown, HL⟩ := hrel
    by_cases hlt : p ≤ s.size
    · have hx1 : (s.extract p s.size).toList = s.data.toList.drop p := by
        rw [Lib.extract_toList, List.take_of_length_le (by rw [List.length_drop, bytes_len]; omega)]
      have hx2 : (s.extract 0 (s.size - p)).toList = s.data.toList.take (s.data.toList.length - p) := by
        rw [Lib.extract_toList, bytes_len]; simp
      have t1 : ((s.size : Int) - (p : Int)).toNat = s.size - p := by omega
      have b1 : (0 : Int) ≤ (s.size : Int) - (p : Int) := by omega
      have b2 : (s.size : Int) - (p : Int) ≤ (s.size : Int) := by omega
      have b3 : (p : Int) ≤ (s.size : Int) := by omega
      have hst := HL.out
      rw [show s.size + 1 - p = (s.size + 1 - (p + 1)) + 1 by omega, perF_step] at hst
      by_cases he : s.data.toList.drop p = s.data.toList.take (s.data.toList.length - p)
      · have heq : ((s.extract p s.size).toList == (s.extract 0 (s.size - p)).toList) = true := by rw [hx1, hx2, beq_iff_eq]; exact he
        rw [if_pos he] at hst
        have HST := hid hst
        have hX : L.map natV ++ [.int .i64 (p : Int)] = (L ++ [p]).map natV := by rw [List.map_append]; rfl
        have HX := hid hX
        clear hx1 hx2 he hst hX
        go_wp2_with fail
        go_quiet (fail)
        have hB2 := below_drewN hB nq
        have hown2 : (wr.drewN nq).ownsRow w.heap.size 3 1 u3 L.length (L.map natV) := hown
        go_wp2_with (at_builtin; go_must (refine wpList_app _ rfl (.tmp 21) (.tmp 23) 33 rfl w.heap.size 3 (.int .i64 0) 8 Try.underlying33 Try.info3 rfl _ L.length _ rfl (hown2.alloc _) (some ⟨wr.heap.size, 0, none⟩) 1 1 [.int .i64 _] rfl rfl (vals_new (wr.drewN nq) _ _ _ rfl) (fun h => by cases h) (by simp [Value.oneCell']) (by omega) (by omega) (by have := hB.size; simp; omega) ?_))
        intro v' w1 hown' hgrow _
        rw [HX.out] at hown'
        have hB' := below_app (hB2.alloc hB2.size _) hgrow (hown2.alloc _) (by have := hB.size; simp; omega) (Nat.le_refl _)
        have HO' := hid hown'
        clear hown' hgrow hown hown2
        go_wp2_with fail
        refine ⟨⟨p + 1, L ++ [p], by omega, by omega, by go_num, by simp; omega, hB', by simpa using HO'.out, ?_⟩, by simp [intOf]; omega⟩
        rw [Hid, HST.out, List.append_assoc]
      · have heq : ((s.extract p s.size).toList == (s.extract 0 (s.size - p)).toList) = false := by rw [hx1, hx2, beq_eq_false_iff_ne]; exact he
        rw [if_neg he, List.nil_append] at hst
        have HST := hid hst
        clear hx1 hx2 he hst
        go_wp2_with fail
        go_quiet (fail)
        go_wp2_with fail
        exact ⟨⟨p + 1, L, by omega, by omega, by go_num, by omega, below_drewN hB nq, hown, HST⟩, by simp [intOf]; omega⟩
    · have hfin : perL s.data.toList = L := by rw [HL.out, show s.size + 1 - p = 0 by omega]; simp [perF]
      obtain ⟨a1, c1, rfl, hv1, -⟩ := ownsRow_vals hown
      have hll : (L.map natV).length = L.length := List.length_map ..
      rw [hll] at hown ⊢
      have HO := hid hown
      have HFN := hid hfin
      clear hown hv1 hll hfin
      go_wp2_with fail
      go_ret
      exact ⟨a1, c1, by rw [HFN.out]; rfl, by rw [HFN.out]; exact HO, hB⟩
/-- .. with no error. -/
def RetP (l : List Nat) (w : World) (e : Ending) (w' : World) : Prop := ∃ a c, e = .returned (.tuple #[.slice a l.length c, .int .i64 0]) ∧ Hid (w'.ownsRow w.heap.size 3 1 (.slice a l.length c) l.length (l.map natV)) ∧ Below w.heap.size w w'

set_option maxHeartbeats 4000000 in
theorem Periods_yes (s : ByteArray) (w : World) (hw : wordB s.data.toList = true) : Calls Try.prog 46 #[.string s] w (RetP (perL s.data.toList) w) := by
  have hs : s.size ≤ 120 := by have := (word_len hw).1; rw [bytes_len] at this; exact this
  have HW := hid (isWord_any s w)
  rw [hw] at HW
  clear hw
  go_enter Try.func46, Try.ntmps46
  go_wp2_with fail
  refine HW.out.mono ?_
  rintro e w0 ⟨rfl, hb0⟩
  go_wp2_with fail
  go_loopw [4, 5] (fun v i wr => ∃ (p : Nat) (L : List Nat), 1 ≤ p ∧ p ≤ s.size + 1 ∧ i = .int .i64 p ∧ L.length ≤ p ∧ Below w.heap.size w wr ∧ wr.ownsRow w.heap.size 3 1 v L.length (L.map natV) ∧ Hid (perL s.data.toList = L ++ perF s.data.toList p (s.size + 1 - p))) (fun _ i _ => s.size + 2 - (intOf i).toNat)
  case atStart => exact ⟨1, [], by omega, by omega, rfl, by simp, hb0, World.ownsRow_nil _ _ _ _, by rw [Hid, perL, bytes_len]; rfl⟩
  case round =>
    obtain ⟨p, L, hp1, hp2, rfl, hLl, hB, hown, HL⟩ := hrel
    by_cases hlt : p ≤ s.size
    · have hx1 : (s.extract p s.size).toList = s.data.toList.drop p := by
        rw [Lib.extract_toList, List.take_of_length_le (by rw [List.length_drop, bytes_len]; omega)]
      have hx2 : (s.extract 0 (s.size - p)).toList = s.data.toList.take (s.data.toList.length - p) := by
        rw [Lib.extract_toList, bytes_len]; simp
      have t1 : ((s.size : Int) - (p : Int)).toNat = s.size - p := by omega
      have b1 : (0 : Int) ≤ (s.size : Int) - (p : Int) := by omega
      have b2 : (s.size : Int) - (p : Int) ≤ (s.size : Int) := by omega
      have b3 : (p : Int) ≤ (s.size : Int) := by omega
      have hst := HL.out
      rw [show s.size + 1 - p = (s.size + 1 - (p + 1)) + 1 by omega, perF_step] at hst
      by_cases he : s.data.toList.drop p = s.data.toList.take (s.data.toList.length - p)
      · have heq : ((s.extract p s.size).toList == (s.extract 0 (s.size - p)).toList) = true := by rw [hx1, hx2, beq_iff_eq]; exact he
        rw [if_pos he] at hst
        have HST := hid hst
        have hX : L.map natV ++ [.int .i64 (p : Int)] = (L ++ [p]).map natV := by rw [List.map_append]; rfl
        have HX := hid hX
        clear hx1 hx2 he hst hX
        go_wp2_with fail
        go_quiet (fail)
        have hB2 := below_drewN hB nq
        have hown2 : (wr.drewN nq).ownsRow w.heap.size 3 1 u4 L.length (L.map natV) := hown
        go_wp2_with (at_builtin; go_must (refine wpList_app _ rfl (.tmp 25) (.tmp 27) 33 rfl w.heap.size 3 (.int .i64 0) 8 Try.underlying33 Try.info3 rfl _ L.length _ rfl (hown2.alloc _) (some ⟨wr.heap.size, 0, none⟩) 1 1 [.int .i64 _] rfl rfl (vals_new (wr.drewN nq) _ _ _ rfl) (fun h => by cases h) (by simp [Value.oneCell']) (by omega) (by omega) (by have := hB.size; simp; omega) ?_))
        intro v' w1 hown' hgrow _
        rw [HX.out] at hown'
        have hB' := below_app (hB2.alloc hB2.size _) hgrow (hown2.alloc _) (by have := hB.size; simp; omega) (Nat.le_refl _)
        have HO' := hid hown'
        clear hown' hgrow hown hown2
        go_wp2_with fail
        refine ⟨⟨p + 1, L ++ [p], by omega, by omega, by go_num, by simp; omega, hB', by simpa using HO'.out, ?_⟩, by simp [intOf]; omega⟩
        rw [Hid, HST.out, List.append_assoc]
      · have heq : ((s.extract p s.size).toList == (s.extract 0 (s.size - p)).toList) = false := by rw [hx1, hx2, beq_eq_false_iff_ne]; exact he
        rw [if_neg he, List.nil_append] at hst
        have HST := hid hst
        clear hx1 hx2 he hst
        go_wp2_with fail
        go_quiet (fail)
        go_wp2_with fail
        exact ⟨⟨p + 1, L, by omega, by omega, by go_num, by omega, below_drewN hB nq, hown, HST⟩, by simp [intOf]; omega⟩
    · have hfin : perL s.data.toList = L := by rw [HL.out, show s.size + 1 - p = 0 by omega]; simp [perF]
      obtain ⟨a1, c1, rfl, hv1, -⟩ := ownsRow_vals hown
      have hll : (L.map natV).length = L.length := List.length_map ..
      rw [hll] at hown ⊢
      have HO := hid hown
      have HFN := hid hfin
      clear hown hv1 hll hfin
      go_wp2_with fail
      go_ret2
      exact ⟨a1, c1, by rw [HFN.out]; rfl, by rw [HFN.out]; exact HO, hB⟩

theorem Periods_no (s : ByteArray) (w : World) (hw : wordB s.data.toList = false) : Calls Try.prog 46 #[.string s] w fun e w' => e = .returned (.tuple #[.slice none 0 0, .int .i64 2]) ∧ Below w.heap.size w w' := by
  have HW := hid (isWord_any s w)
  rw [hw] at HW
  clear hw
  go_enter Try.func46, Try.ntmps46
  go_wp2_with fail
  refine HW.out.mono ?_
  rintro e w0 ⟨rfl, hb0⟩
  go_wp2_with fail
  go_ret2
  exact ⟨rfl, hb0⟩

/-- A row of numbers that is a call's own, read. -/
theorem own_vals {w : World} {base : Nat} {a : Option Addr} {c : Nat} {l : List Nat} (h : w.ownsRow base 3 1 (.slice a l.length c) l.length (l.map natV)) : Vals w a (l.map natV) ∧ (a = none → c = 0) ∧ l.length ≤ c := by
  obtain ⟨a1, c1, he, hv, -⟩ := ownsRow_vals h
  rw [List.length_map] at he
  cases he
  exact ⟨hv, (ownsRow_facts h).2.2, (ownsRow_facts h).2.1⟩

set_option maxHeartbeats 1000000 in
theorem ints_eq (a b : Option Addr) (ca cb : Nat) (l : List Nat) (w : World) (ha : Vals w a (l.map natV)) (hb : Vals w b (l.map natV)) (hl : l.length ≤ 1000000) :
    Calls Try.prog 47 #[.slice a l.length ca, .slice b l.length cb] w fun e w' => e = .returned (.bool true) ∧ Below w.heap.size w w' := by
  have hcell : ∀ (c : Option Addr), Vals w c (l.map natV) → ∀ k (hk : k < l.length), ∃ g o, c = some ⟨g, o, none⟩ ∧ g < w.heap.size ∧ w.cell? ⟨g, o + k, none⟩ = some (.int .i64 (l[k] : Int)) := fun c hc k hk => by
    rcases hc with h | ⟨g, o, e, hg, h⟩
    · simp at h; subst h; simp at hk
    · exact ⟨g, o, e, hg, h k _ (by rw [List.getElem?_map, List.getElem?_eq_getElem hk]; rfl)⟩
  have HA := hid (hcell a ha)
  have HB := hid (hcell b hb)
  clear hcell ha hb
  go_enter Try.func47, Try.ntmps47
  go_wp2_with fail
  go_loopw [5] (fun i wr => ∃ k : Nat, k ≤ l.length ∧ i = .int .i64 k ∧ Below w.heap.size w wr) (fun i _ => l.length - (intOf i).toNat)
  case atStart => exact ⟨0, by omega, rfl, Below.refl _ _⟩
  case round =>
    obtain ⟨k, hk, rfl, hB⟩ := hrel
    by_cases hlt : k < l.length
    · obtain ⟨g1, o1, rfl, h1, c1⟩ := HA.out k hlt
      obtain ⟨g2, o2, rfl, h2, c2⟩ := HB.out k hlt
      have c1 := (hB.cell (p := ⟨g1, o1 + k, none⟩) h1).trans c1
      have c2 := (hB.cell (p := ⟨g2, o2 + k, none⟩) h2).trans c2
      obtain ⟨x, hx⟩ : ∃ x, x = l[k] := ⟨_, rfl⟩
      rw [← hx] at c1 c2
      have hne : ((x : Int) != (x : Int)) = false := by simp
      clear hx
      go_wp2_with fail
      go_quiet (fail)
      go_wp2_with fail
      exact ⟨⟨k + 1, by omega, by go_num, below_drewN hB nq⟩, by simp [intOf]; omega⟩
    · go_wp2_with fail
      go_ret
      exact ⟨rfl, hB⟩
end Go.Proofs.Ytancficmkkdnfaa
