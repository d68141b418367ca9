/-
  Walks: the reference's Count, First, Extend; Extend.
-/
import Derived.Test.YtancficmkkdnfaaN
namespace Go.Proofs.Ytancficmkkdnfaa
open Go.RowKit
attribute [local go_sem] Oper.semAt_some

theorem letter_nat (c : Nat) (h : c ≤ 20) : ((UInt8.ofNat (97 + c)).toNat : Int) = 97 + (c : Int) := by
  rw [UInt8.toNat_ofNat', Nat.mod_eq_of_lt (by omega)]; omega
theorem run_letB (c : Nat) (W : World) (h : c ≤ 20) : (convert 66 9 (.slice (some ⟨W.heap.size, 0, none⟩) 1 1)).run Try.prog (W.alloc (.cells #[.int .u8 (97 + (c : Int))] 5)) = .ok (.string (letS c)) (W.alloc (.cells #[.int .u8 (97 + (c : Int))] 5)) := by
  have := run_strB (P := Try.prog) 66 9 5 Try.underlying66 Try.underlying5 Try.underlying9 (W.alloc (.cells #[.int .u8 (97 + (c : Int))] 5)) (some ⟨W.heap.size, 0, none⟩) 1 [UInt8.ofNat (97 + c)] (vals_new _ _ _ _ (by rw [List.map_singleton, u8v, letter_nat c h])) (fun h => by cases h)
  exact this

set_option maxHeartbeats 2000000 in
theorem refCount_any (n k : Nat) (hn : n ≤ 100) (hk : k ≤ 4) : ∀ (m : Nat) (l : List UInt8) (w : World), l.length + m = n → (frW k m l).length ≤ 1000000000 →
    Calls Try.prog 41 #[.string (mkS l), .int .i64 n, .int .i64 k] w fun e w' => e = .returned (.int .i64 (frW k m l).length) ∧ Below w.heap.size w w' := by
  intro m
  induction m with
  | zero =>
    intro l w hl _
    have h0 : (((mkS l).size : Int) == (n : Int)) = true := by rw [mkS_size]; exact beq_iff_eq.2 (by omega)
    go_enter Try.func41, Try.ntmps41
    go_wp2
    go_ret
    exact ⟨rfl, Below.refl _ _⟩
  | succ m ih =>
    intro l w hl hbig
    have IH := hid ih
    have h0 : (((mkS l).size : Int) == (n : Int)) = false := by rw [mkS_size]; exact beq_eq_false_iff_ne.2 (by omega)
    have hll : l.length ≤ 99 := by omega
    have HL := hid hl
    have HBIG := hid hbig
    clear ih hl hbig
    go_enter Try.func41, Try.ntmps41
    go_wp2_with fail
    go_loopw [7, 8] (fun v i wr => ∃ (c acc : Nat), i = .int .i64 c ∧ c ≤ k ∧ v = .int .i64 acc ∧ Below w.heap.size w wr ∧ Hid (acc + (frC k m l c).length = (frW k (m + 1) l).length)) (fun _ i _ => k - (intOf i).toNat)
    case atStart => exact ⟨0, 0, rfl, by omega, rfl, Below.refl _ _, by rw [Hid, frC_zero]; omega⟩
    case round =>
      obtain ⟨c, acc, rfl, hc, rfl, hB, HK⟩ := hrel
      have hacc : acc ≤ 1000000000 := by have := HK.out; have := HBIG.out; omega
      by_cases hlt : c < k
      · have hcv := run_letB c wr (by omega)
        have hw8 : IntKind.u8.wrap (97 + (c : Int)) = 97 + (c : Int) := IntWalk.u8_in _ (by omega)
        have hsz : ¬ 9223372036854775807 < (mkS l).size + (letS c).size := by rw [mkS_size, letS_size]; omega
        have hadd := letS_add l c
        obtain ⟨t, ht⟩ : ∃ t, t = addL l c := ⟨_, rfl⟩
        rw [← ht] at hadd
        have htl : t.length = l.length + 1 := by rw [ht, addL_len]
        have HTT := hid ht
        have HN := hid (refEnds_any (mkS t) (wr.alloc (.cells #[.int .u8 (97 + (c : Int))] 5)) (by rw [mkS_size]; omega))
        rw [mkS_data] at HN
        have hal : Below wr.heap.size wr (wr.alloc (.cells #[.int .u8 (97 + (c : Int))] 5)) := (Below.refl _ _).alloc (Nat.le_refl _) _
        have HAL := hid hal
        have HTL := hid htl
        clear ht htl hal
        have hstep := frC_step k m l c hlt
        rw [← HTT.out] at hstep
        by_cases he : endsB t = true
        · rw [he] at HN
          rw [if_pos he, List.nil_append] at hstep
          have HS := hid hstep
          clear hstep he
          go_wp2_with fail
          refine HN.out.mono ?_
          rintro e w1 ⟨rfl, hb⟩
          have hB1 := hB.trans ((HAL.out.trans (hb.mono (by simp))).mono hB.size)
          go_wp2_with fail
          exact ⟨⟨c + 1, acc, by go_num, by omega, rfl, hB1, by rw [Hid, ← HK.out, HS.out]⟩, by simp [intOf]; omega⟩
        · have he' : endsB t = false := by simpa using he
          rw [he'] at HN
          rw [if_neg he] at hstep
          have HS := hid hstep
          have hsum : acc + (frW k m t).length ≤ 1000000000 := by
            have h1 := HK.out
            rw [HS.out, List.length_append] at h1
            have := HBIG.out; omega
          have CALL := hid (fun (w1 : World) => IH.out t w1 (by have := HTL.out; have := HL.out; omega) (by omega))
          obtain ⟨q, hq⟩ : ∃ q, q = (frW k m t).length := ⟨_, rfl⟩
          rw [← hq] at hsum CALL
          have HQ := hid hq
          clear hstep he he' hq
          go_wp2_with fail
          refine HN.out.mono ?_
          rintro e w1 ⟨rfl, hb⟩
          have hB1 := hB.trans ((HAL.out.trans (hb.mono (by simp))).mono hB.size)
          go_wp2_with fail
          refine (CALL.out w1).mono ?_
          rintro e w2 ⟨rfl, hb2⟩
          go_wp2_with fail
          exact ⟨⟨c + 1, acc + q, by go_num, by omega, by go_num, hB1.trans (hb2.mono hB1.size), by rw [Hid, ← HK.out, HS.out, List.length_append, ← HQ.out]; omega⟩, by simp [intOf]; omega⟩
      · have hfin : acc = (frW k (m + 1) l).length := by have := HK.out; rw [frC_end k m l c (by omega)] at this; simpa using this
        have HF := hid hfin
        clear hfin
        go_wp2_with fail
        go_ret
        exact ⟨ret_int (by rw [HF.out]), hB⟩

def valF (o : Option (List UInt8)) : Value := match o with | some x => .tuple #[.string (mkS x), .bool true] | none => .tuple #[.string ⟨#[]⟩, .bool false]
theorem valF_eq {a b : Option (List UInt8)} (h : a = b) : Ending.returned (valF a) = .returned (valF b) := by rw [h]

set_option maxHeartbeats 2000000 in
theorem refFirst_any (n k : Nat) (hn : n ≤ 100) (hk : k ≤ 4) : ∀ (m : Nat) (l : List UInt8) (w : World), l.length + m = n →
    Calls Try.prog 42 #[.string (mkS l), .int .i64 n, .int .i64 k] w fun e w' => e = .returned (valF (frW k m l).head?) ∧ Below w.heap.size w w' := by
  intro m
  induction m with
  | zero =>
    intro l w hl
    have h0 : (((mkS l).size : Int) == (n : Int)) = true := by rw [mkS_size]; exact beq_iff_eq.2 (by omega)
    go_enter Try.func42, Try.ntmps42
    go_wp2
    go_ret2
    exact ⟨rfl, Below.refl _ _⟩
  | succ m ih =>
    intro l w hl
    have IH := hid ih
    have h0 : (((mkS l).size : Int) == (n : Int)) = false := by rw [mkS_size]; exact beq_eq_false_iff_ne.2 (by omega)
    have hll : l.length ≤ 99 := by omega
    have HL := hid hl
    obtain ⟨R, hR⟩ : ∃ R, R = (frW k (m + 1) l).head? := ⟨_, rfl⟩
    rw [← hR]
    have HR := hid hR
    clear ih hl hR
    go_enter Try.func42, Try.ntmps42
    go_wp2_with fail
    go_loopw [8] (fun i wr => ∃ (c : Nat), i = .int .i64 c ∧ c ≤ k ∧ Below w.heap.size w wr ∧ Hid (R = (frC k m l c).head?)) (fun i _ => k - (intOf i).toNat)
    case atStart => exact ⟨0, rfl, by omega, Below.refl _ _, HR⟩
    case round =>
      obtain ⟨c, rfl, hc, hB, HK⟩ := hrel
      by_cases hlt : c < k
      · have hcv := run_letB c wr (by omega)
        have hw8 : IntKind.u8.wrap (97 + (c : Int)) = 97 + (c : Int) := IntWalk.u8_in _ (by omega)
        have hsz : ¬ 9223372036854775807 < (mkS l).size + (letS c).size := by rw [mkS_size, letS_size]; omega
        have hadd := letS_add l c
        obtain ⟨t, ht⟩ : ∃ t, t = addL l c := ⟨_, rfl⟩
        rw [← ht] at hadd
        have htl : t.length = l.length + 1 := by rw [ht, addL_len]
        have HTT := hid ht
        have HN := hid (refEnds_any (mkS t) (wr.alloc (.cells #[.int .u8 (97 + (c : Int))] 5)) (by rw [mkS_size]; omega))
        rw [mkS_data] at HN
        have hal : Below wr.heap.size wr (wr.alloc (.cells #[.int .u8 (97 + (c : Int))] 5)) := (Below.refl _ _).alloc (Nat.le_refl _) _
        have HAL := hid hal
        have HTL := hid htl
        clear ht htl hal
        have hstep := frC_step k m l c hlt
        rw [← HTT.out] at hstep
        by_cases he : endsB t = true
        · rw [he] at HN
          rw [if_pos he, List.nil_append] at hstep
          have HS := hid hstep
          clear hstep he
          go_wp2_with fail
          refine HN.out.mono ?_
          rintro e w1 ⟨rfl, hb⟩
          have hB1 := hB.trans ((HAL.out.trans (hb.mono (by simp))).mono hB.size)
          go_wp2_with fail
          exact ⟨⟨c + 1, by go_num, by omega, hB1, by rw [Hid, HK.out, HS.out]⟩, by simp [intOf]; omega⟩
        · have he' : endsB t = false := by simpa using he
          rw [he'] at HN
          rw [if_neg he] at hstep
          have HS := hid hstep
          have CALL := hid (fun (w1 : World) => IH.out t w1 (by have := HTL.out; have := HL.out; omega))
          obtain ⟨q, hq⟩ : ∃ q, q = (frW k m t).head? := ⟨_, rfl⟩
          rw [← hq] at CALL
          have HQ := hid hq
          clear hstep he he' hq
          go_wp2_with fail
          refine HN.out.mono ?_
          rintro e w1 ⟨rfl, hb⟩
          have hB1 := hB.trans ((HAL.out.trans (hb.mono (by simp))).mono hB.size)
          go_wp2_with fail
          refine (CALL.out w1).mono ?_
          rintro e w2 ⟨rfl, hb2⟩
          have hB2 := hB1.trans (hb2.mono hB1.size)
          cases q with
          | none =>
            have hfn : frW k m t = [] := by have := HQ.out; cases hc : frW k m t with | nil => rfl | cons x r => rw [hc] at this; exact nomatch this
            have HFN := hid hfn
            clear hfn
            simp only [valF]
            go_wp2_with fail
            exact ⟨⟨c + 1, by go_num, by omega, hB2, by rw [Hid, HK.out, HS.out, HFN.out]; rfl⟩, by simp [intOf]; omega⟩
          | some x =>
            have hfn : R = some x := by rw [HK.out, HS.out, List.head?_append, ← HQ.out]; rfl
            have HFN := hid hfn
            clear hfn
            simp only [valF]
            go_wp2_with fail
            go_ret2
            exact ⟨valF_eq HFN.out.symm, hB2⟩
      · have hfin : R = none := by rw [HK.out, frC_end k m l c (by omega)]; rfl
        have HF := hid hfin
        clear hfin
        go_wp2_with fail
        go_ret2
        exact ⟨valF_eq HF.out.symm, hB⟩

/-- The first letter, from the c-th on, that makes no square. -/
def extC (k : Nat) (l : List UInt8) (c : Nat) : Option (List UInt8) := (((List.range k).drop c).map (addL l)).find? freeB
def extO (k : Nat) (l : List UInt8) : Option (List UInt8) := extC k l 0
theorem extC_end (k : Nat) (l : List UInt8) (c : Nat) (h : k ≤ c) : extC k l c = none := by
  unfold extC; rw [List.drop_eq_nil_of_le (by simpa using h)]; rfl
theorem extC_yes (k : Nat) (l : List UInt8) (c : Nat) (h : c < k) (hf : freeB (addL l c) = true) : extC k l c = some (addL l c) := by
  unfold extC
  rw [List.drop_eq_getElem_cons (by simpa using h), List.map_cons, List.find?_cons, List.getElem_range, hf]
theorem extC_no (k : Nat) (l : List UInt8) (c : Nat) (h : c < k) (hf : freeB (addL l c) = false) : extC k l c = extC k l (c + 1) := by
  unfold extC
  rw [List.drop_eq_getElem_cons (by simpa using h), List.map_cons, List.find?_cons, List.getElem_range, hf]

set_option maxHeartbeats 2000000 in
theorem refExtend_any (l : List UInt8) (k : Nat) (hl : l.length ≤ 200) (hk : k ≤ 4) (w : World) :
    Calls Try.prog 45 #[.string (mkS l), .int .i64 k] w fun e w' => e = .returned (valF (extO k l)) ∧ Below w.heap.size w w' := by
  obtain ⟨R, hR⟩ : ∃ R, R = extO k l := ⟨_, rfl⟩
  rw [← hR]
  have HR := hid hR
  clear hR
  go_enter Try.func45, Try.ntmps45
  go_wp2_with fail
  go_loopw [6] (fun i wr => ∃ (c : Nat), i = .int .i64 c ∧ c ≤ k ∧ Below w.heap.size w wr ∧ Hid (R = extC k l c)) (fun i _ => k - (intOf i).toNat)
  case atStart => exact ⟨0, rfl, by omega, Below.refl _ _, HR⟩
  case round =>
    obtain ⟨c, rfl, hc, hB, HK⟩ := hrel
    by_cases hlt : c < k
    · have hcv := run_letB c wr (by omega)
      have hw8 : IntKind.u8.wrap (97 + (c : Int)) = 97 + (c : Int) := IntWalk.u8_in _ (by omega)
      have hsz : ¬ 9223372036854775807 < (mkS l).size + (letS c).size := by rw [mkS_size, letS_size]; omega
      have hadd := letS_add l c
      obtain ⟨t, ht⟩ : ∃ t, t = addL l c := ⟨_, rfl⟩
      rw [← ht] at hadd
      have htl : t.length = l.length + 1 := by rw [ht, addL_len]
      have HN := hid (refFree_any (mkS t) (wr.alloc (.cells #[.int .u8 (97 + (c : Int))] 5)) (by rw [mkS_size]; omega))
      rw [mkS_data] at HN
      have hal : Below wr.heap.size wr (wr.alloc (.cells #[.int .u8 (97 + (c : Int))] 5)) := (Below.refl _ _).alloc (Nat.le_refl _) _
      have HAL := hid hal
      cases he : freeB t with
      | true =>
        rw [he] at HN
        have HFN := hid (show R = some t by rw [HK.out, extC_yes k l c hlt (by rw [← ht]; exact he), ht])
        clear ht htl hal he
        go_wp2_with fail
        refine HN.out.mono ?_
        rintro e w1 ⟨rfl, hb⟩
        have hB1 := hB.trans ((HAL.out.trans (hb.mono (by simp))).mono hB.size)
        go_wp2_with fail
        go_ret2
        exact ⟨valF_eq HFN.out.symm, hB1⟩
      | false =>
        rw [he] at HN
        have HFN := hid (show R = extC k l (c + 1) by rw [HK.out, extC_no k l c hlt (by rw [← ht]; exact he)])
        clear ht htl hal he
        go_wp2_with fail
        refine HN.out.mono ?_
        rintro e w1 ⟨rfl, hb⟩
        have hB1 := hB.trans ((HAL.out.trans (hb.mono (by simp))).mono hB.size)
        go_wp2_with fail
        exact ⟨⟨c + 1, by go_num, by omega, hB1, HFN⟩, by simp [intOf]; omega⟩
    · have hfin : R = none := by rw [HK.out, extC_end k l c (by omega)]
      have HF := hid hfin
      clear hfin
      go_wp2_with fail
      go_ret2
      exact ⟨valF_eq HF.out.symm, hB⟩

/-- What Extend returns. -/
def valX (o : Option (List UInt8)) : Value := match o with | some x => .tuple #[.string (mkS x), .int .i64 0] | none => .tuple #[.string ⟨#[]⟩, .int .i64 6]
theorem valX_eq {a b : Option (List UInt8)} (h : a = b) : Ending.returned (valX a) = .returned (valX b) := by rw [h]
def extOk (l : List UInt8) (k : Int) : Bool := wordB l && (decide (1 ≤ k) && decide (k ≤ 4)) && decide (l.length ≠ 120)

set_option maxHeartbeats 2000000 in
theorem Extend_yes (l : List UInt8) (k : Nat) (hw : wordB l = true) (hk1 : 1 ≤ k) (hk : k ≤ 4) (hl : l.length ≠ 120) (w : World) :
    Calls Try.prog 44 #[.string (mkS l), .int .i64 k] w fun e w' => e = .returned (valX (extO k l)) ∧ Below w.heap.size w w' := by
  have hl2 := (word_len hw).1
  have HW := hid (isWord_any (mkS l) w)
  rw [mkS_data, hw] at HW
  have hd : (decide ((1 : Int) ≤ (k : Int)) && decide ((k : Int) ≤ 4)) = true := by simp; omega
  have h120 : (((mkS l).size : Int) == 120) = false := by rw [mkS_size]; exact beq_eq_false_iff_ne.2 (by omega)
  obtain ⟨R, hR⟩ : ∃ R, R = extO k l := ⟨_, rfl⟩
  rw [← hR]
  have HR := hid hR
  clear hR hw hl
  go_enter Try.func44, Try.ntmps44
  go_wp2_with fail
  refine HW.out.mono ?_
  rintro e w1 ⟨rfl, hb1⟩
  go_wp2_with fail
  refine (within_any _ _ _ _).mono ?_
  rintro e w2 ⟨rfl, rfl⟩
  rw [hd]
  go_wp2_with fail
  go_loopw [24] (fun i wr => ∃ (c : Nat), i = .int .i64 c ∧ c ≤ k ∧ Below w.heap.size w wr ∧ Hid (R = extC k l c)) (fun i _ => k - (intOf i).toNat)
  case atStart => exact ⟨0, rfl, by omega, hb1, HR⟩
  case round =>
    obtain ⟨c, rfl, hc, hB, HK⟩ := hrel
    by_cases hlt : c < k
    · have hcv := fun W => run_letter c W (by omega)
      have hsz : ¬ 9223372036854775807 < (mkS l).size + (letS c).size := by rw [mkS_size, letS_size]; omega
      have hadd := letS_add l c
      obtain ⟨t, ht⟩ : ∃ t, t = addL l c := ⟨_, rfl⟩
      rw [← ht] at hadd
      have htl : t.length = l.length + 1 := by rw [ht, addL_len]
      have HN := hid (square_any (mkS t) wr (by rw [mkS_size]; omega))
      rw [mkS_data] at HN
      have hp1 := at1_free t
      have hp2 := at1_pos t
      obtain ⟨y, hy⟩ : ∃ y : Int, y = at1 (sq t) := ⟨_, rfl⟩
      rw [← hy] at hp1 hp2 HN
      clear hy
      cases he : freeB t with
      | true =>
        have hy0 : y = 0 := hp1.2 he
        have HFN := hid (show R = some t by rw [HK.out, extC_yes k l c hlt (by rw [← ht]; exact he), ht])
        clear ht htl he hp1 hp2
        subst hy0
        go_wp2_with fail
        refine HN.out.mono ?_
        rintro e w1 ⟨rfl, hb⟩
        have hB1 := hB.trans (hb.mono hB.size)
        go_wp2_with fail
        go_ret2
        exact ⟨valX_eq HFN.out.symm, hB1⟩
      | false =>
        have hy0 : 0 < y := hp2 he
        have hyd : (y == 0) = false := beq_eq_false_iff_ne.2 (by omega)
        have HFN := hid (show R = extC k l (c + 1) by rw [HK.out, extC_no k l c hlt (by rw [← ht]; exact he)])
        clear ht htl he hp1 hp2
        go_wp2_with fail
        refine HN.out.mono ?_
        rintro e w1 ⟨rfl, hb⟩
        have hB1 := hB.trans (hb.mono hB.size)
        go_wp2_with fail
        exact ⟨⟨c + 1, by go_num, by omega, hB1, HFN⟩, by simp [intOf]; omega⟩
    · have hfin : R = none := by rw [HK.out, extC_end k l c (by omega)]
      have HF := hid hfin
      clear hfin
      go_wp2_with fail
      go_ret2
      exact ⟨valX_eq HF.out.symm, hB⟩

set_option maxHeartbeats 2000000 in
theorem Extend_no (s : ByteArray) (k : Int) (w : World) (h : ¬ (wordB s.data.toList = true ∧ 1 ≤ k ∧ k ≤ 4 ∧ s.size ≠ 120)) :
    Calls Try.prog 44 #[.string s, .int .i64 k] w fun e w' => e = .returned (.tuple #[.string ⟨#[]⟩, .int .i64 2]) ∧ Below w.heap.size w w' := by
  have HW := hid (isWord_any s w)
  cases hw : wordB s.data.toList with
  | false =>
    rw [hw] at HW
    clear h hw
    go_enter Try.func44, Try.ntmps44
    go_wp2_with fail
    refine HW.out.mono ?_
    rintro e w1 ⟨rfl, hb1⟩
    go_wp2_with fail
    go_ret2
    exact ⟨rfl, hb1⟩
  | true =>
    rw [hw] at HW
    by_cases hk : 1 ≤ k ∧ k ≤ 4
    · have hd : (decide (1 ≤ k) && decide (k ≤ 4)) = true := by simp; omega
      have hs : s.size = 120 := by
        rcases Nat.decEq s.size 120 with h1 | h1
        · exact absurd ⟨hw, hk.1, hk.2, h1⟩ h
        · exact h1
      have h120 : ((s.size : Int) == 120) = true := beq_iff_eq.2 (by omega)
      clear h hw hk
      go_enter Try.func44, Try.ntmps44
      go_wp2_with fail
      refine HW.out.mono ?_
      rintro e w1 ⟨rfl, hb1⟩
      go_wp2_with fail
      refine (within_any _ _ _ _).mono ?_
      rintro e w2 ⟨rfl, rfl⟩
      rw [hd]
      go_wp2_with fail
      go_ret2
      exact ⟨rfl, hb1⟩
    · have hd : (decide (1 ≤ k) && decide (k ≤ 4)) = false := by
        simp only [Bool.and_eq_false_iff, decide_eq_false_iff_not]; omega
      clear h hw hk
      go_enter Try.func44, Try.ntmps44
      go_wp2_with fail
      refine HW.out.mono ?_
      rintro e w1 ⟨rfl, hb1⟩
      go_wp2_with fail
      refine (within_any _ _ _ _).mono ?_
      rintro e w2 ⟨rfl, rfl⟩
      rw [hd]
      go_wp2_with fail
      go_ret2
      exact ⟨rfl, hb1⟩
end Go.Proofs.Ytancficmkkdnfaa
