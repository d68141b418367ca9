/-
  Walks: Exponent, Greatest.
-/
import Derived.Test.YtancficmkkdnfaaE
namespace Go.Proofs.Ytancficmkkdnfaa
open Go.RowKit

def zfrac : Value := .agg #[.int .i64 0, .int .i64 0]
def fullB (l : List UInt8) : Bool := wordB l && !l.isEmpty
def RetExp (l : List UInt8) (w : World) (e : Ending) (w' : World) : Prop :=
  e = .returned (if fullB l then .tuple #[fracV l.length (per l l.length), .int .i64 0] else .tuple #[zfrac, .int .i64 2]) ∧ Below w.heap.size w w'
theorem word_len {l : List UInt8} (h : wordB l = true) : l.length ≤ 120 ∧ overB 4 l = true := by
  rw [wordB, Bool.and_eq_true] at h
  exact ⟨by simpa using h.1, h.2⟩

theorem empty_yes (s : ByteArray) (h : s.size = 0) : s.toList.isEmpty = true := by
  rw [Lib.toList_data, List.eq_nil_of_length_eq_zero (show s.data.toList.length = 0 from h)]; rfl
theorem empty_no (s : ByteArray) (h : ¬ s.size = 0) : s.toList.isEmpty = false := by
  rw [Lib.toList_data]
  cases hl : s.data.toList with
  | nil => exact absurd (by rw [← bytes_len, hl]; rfl) h
  | cons _ _ => rfl
theorem full_no (l : List UInt8) (h : l.length = 0) : fullB l = false := by
  rw [List.eq_nil_of_length_eq_zero h]; simp [fullB]
theorem full_yes (l : List UInt8) (h : ¬ l.length = 0) (hw : wordB l = true) : fullB l = true := by
  rw [fullB, hw]
  cases l with
  | nil => exact absurd rfl h
  | cons _ _ => rfl
theorem full_word (l : List UInt8) (h : wordB l = false) : fullB l = false := by rw [fullB, h]; rfl

/-- A struct of two numbers in a block. -/
theorem Blk.pair {w : World} {b : Nat} {x y : Int} {t : TypeId} (h : Blk w b #[.int .i64 x, .int .i64 y] t) :
    w.cell? ⟨b, 0, none⟩ = some (.int .i64 x) ∧ w.cell? ⟨b, 1, none⟩ = some (.int .i64 y) ∧ w.frozen? ⟨b, 0, none⟩ = false ∧ w.frozen? ⟨b, 1, none⟩ = false :=
  ⟨h.cell 0, h.cell 1, h.free 0, h.free 1⟩

set_option maxHeartbeats 1000000 in
theorem Exponent_any (s : ByteArray) (w : World) (hs : s.size ≤ 1000) :
    Calls Try.prog 20 #[.string s] w (RetExp s.data.toList w) := by
  have HW := hid (fun W => isWord_any s W)
  have HL := hid (fun W => least_any s W hs)
  by_cases hw : wordB s.data.toList = true
  · rw [hw] at HW
    by_cases h0 : s.size = 0
    · have hfin : RetExp s.data.toList w = fun e w' => e = .returned (.tuple #[zfrac, .int .i64 2]) ∧ Below w.heap.size w w' := by
        unfold RetExp; rw [full_no _ h0]; rfl
      rw [hfin]
      have hse := empty_yes s h0
      clear hfin hw HL h0
      go_enter Try.func20, Try.ntmps20
      go_wp2_with fail
      refine (HW.out _).mono ?_
      rintro e w1 ⟨rfl, hb⟩
      obtain ⟨r0, r1, f0, f1⟩ := ((Blk.new w _ _).below hb (by simp)).pair
      go_wp2_with fail
      refine bodyPost_ret (v := .tuple #[zfrac, .int .i64 2]) (by simp [results, Try.results20, go_sem, r0, r1, zfrac]) rfl ⟨rfl, ?_⟩
      exact (((Below.refl _ w).alloc (Nat.le_refl _) _).trans (hb.mono (by simp))).setCell (Nat.le_refl _) _ |>.setCell (Nat.le_refl _) _
    · have hse := empty_no s h0
      have hfin : RetExp s.data.toList w = fun e w' => e = .returned (.tuple #[fracV s.size (per s.data.toList s.size), .int .i64 0]) ∧ Below w.heap.size w w' := by
        unfold RetExp; rw [full_yes _ h0 hw]; rfl
      rw [hfin]
      have hp1 := per_pos s.data.toList s.size (by omega)
      have hp2 := per_le s.data.toList s.size
      have HF := hid (fun W => frac_any s.size (per s.data.toList s.size) W (by omega) (by omega) (by omega))
      clear hfin hw
      go_enter Try.func20, Try.ntmps20
      go_wp2_with fail
      refine (HW.out _).mono ?_
      rintro e w1 ⟨rfl, hb⟩
      go_wp2_with fail
      refine (HL.out _).mono ?_
      rintro e w2 ⟨b, rfl, hge, hL, hb2⟩
      have q1 := hL.rowAt s.size (by rw [bytes_len]; omega)
      rw [bytes_len]
      rw [show perI s.data.toList s.size = (per s.data.toList s.size : Int) from rfl] at q1
      go_wp2_with fail
      refine (HF.out _).mono ?_
      rintro e w3 ⟨rfl, hb3⟩
      have hB := hb.trans ((hb2.mono hb.size).trans (hb3.mono (Nat.le_trans hb.size hb2.size)))
      obtain ⟨r0, r1, f0, f1⟩ := ((Blk.new w _ _).below hB (by simp)).pair
      unfold fracV
      go_wp2_with fail
      refine bodyPost_ret (v := .tuple #[fracV s.size (per s.data.toList s.size), .int .i64 0]) (by simp [results, Try.results20, go_sem, r0, r1, fracV]) rfl ⟨rfl, ?_⟩
      exact (((Below.refl _ w).alloc (Nat.le_refl _) _).trans (hB.mono (by simp))).setCell (Nat.le_refl _) _ |>.setCell (Nat.le_refl _) _
  · have hw' : wordB s.data.toList = false := by simpa using hw
    rw [hw'] at HW
    have hfin : RetExp s.data.toList w = fun e w' => e = .returned (.tuple #[zfrac, .int .i64 2]) ∧ Below w.heap.size w w' := by
      unfold RetExp; rw [full_word _ hw']; rfl
    rw [hfin]
    clear hfin hw hw' HL
    go_enter Try.func20, Try.ntmps20
    go_wp2_with fail
    refine (HW.out _).mono ?_
    rintro e w1 ⟨rfl, hb⟩
    obtain ⟨r0, r1, f0, f1⟩ := ((Blk.new w _ _).below hb (by simp)).pair
    go_wp2_with fail
    refine bodyPost_ret (v := .tuple #[zfrac, .int .i64 2]) (by simp [results, Try.results20, go_sem, r0, r1, zfrac]) rfl ⟨rfl, ?_⟩
    exact (((Below.refl _ w).alloc (Nat.le_refl _) _).trans (hb.mono (by simp))).setCell (Nat.le_refl _) _ |>.setCell (Nat.le_refl _) _

def RetGr (l : List UInt8) (w : World) (e : Ending) (w' : World) : Prop :=
  e = .returned (if fullB l then .tuple #[fracV (gr l).size (gr l).period, .int .i64 (gr l).at_, .int .i64 (gr l).size, .int .i64 0] else .tuple #[zfrac, .int .i64 0, .int .i64 0, .int .i64 2]) ∧ Below w.heap.size w w'

theorem grS_bound (d : List UInt8) (i : Nat) (st : St) (n m : Nat) (hn : n ≤ m) (h : st.size ≤ m ∧ st.period ≤ m) : (grS d i st n).size ≤ m ∧ (grS d i st n).period ≤ m := by
  unfold grS; split
  · have := per_le d n; exact ⟨hn, by simp only; omega⟩
  · exact h
theorem gr_full (l : List UInt8) (h : l ≠ []) : 1 ≤ (gr l).size ∧ (gr l).size ≤ l.length ∧ (gr l).at_ ≤ l.length ∧ 1 ≤ (gr l).period ∧ (gr l).period ≤ l.length := by
  obtain ⟨h1, -, h3, h4, h5⟩ := gr_spec l h
  have := per_le (l.drop (gr l).at_) (gr l).size
  omega

theorem wrap_mul (a b : Nat) (ha : a ≤ 10000) (hb : b ≤ 10000) : wrap64 ((a : Int) * (b : Int)) = ((a * b : Nat) : Int) := by
  rw [← Int.natCast_mul]
  have : a * b ≤ 10000 * 10000 := Nat.mul_le_mul ha hb
  exact IntWalk.wrap64_in _ (by omega)

set_option maxHeartbeats 4000000 in
theorem Greatest_any (s : ByteArray) (w : World) (hs : s.size ≤ 1000) :
    Calls Try.prog 21 #[.string s] w (RetGr s.data.toList w) := by
  have HW := hid (fun W => isWord_any s W)
  by_cases hw : wordB s.data.toList = true
  · rw [hw] at HW
    by_cases h0 : s.size = 0
    · have hfin : RetGr s.data.toList w = fun e w' => e = .returned (.tuple #[zfrac, .int .i64 0, .int .i64 0, .int .i64 2]) ∧ Below w.heap.size w w' := by
        unfold RetGr; rw [full_no _ h0]; rfl
      rw [hfin]
      have hse := empty_yes s h0
      clear hfin hw h0
      go_enter Try.func21, Try.ntmps21
      go_wp2_with fail
      refine (HW.out _).mono ?_
      rintro e w1 ⟨rfl, hb⟩
      obtain ⟨r0, r1, f0, f1⟩ := ((Blk.new w _ _).below hb (by simp)).pair
      go_wp2_with fail
      refine bodyPost_ret (v := .tuple #[zfrac, .int .i64 0, .int .i64 0, .int .i64 2]) (by simp [results, Try.results21, go_sem, r0, r1, zfrac]) rfl ⟨rfl, ?_⟩
      exact (((Below.refl _ w).alloc (Nat.le_refl _) _).trans (hb.mono (by simp))).setCell (Nat.le_refl _) _ |>.setCell (Nat.le_refl _) _
    · have hse := empty_no s h0
      have hfin : RetGr s.data.toList w = fun e w' => e = .returned (.tuple #[fracV (gr s.data.toList).size (gr s.data.toList).period, .int .i64 (gr s.data.toList).at_, .int .i64 (gr s.data.toList).size, .int .i64 0]) ∧ Below w.heap.size w w' := by
        unfold RetGr; rw [full_yes _ h0 hw]; rfl
      rw [hfin]
      have HB := hid (gr_full s.data.toList (fun e => h0 (by rw [← bytes_len, e]; rfl)))
      clear hfin hw
      go_enter Try.func21, Try.ntmps21
      go_wp2_with fail
      refine (HW.out _).mono ?_
      rintro e w1 ⟨rfl, hb⟩
      have hB1 := ((Below.refl _ w).alloc (Nat.le_refl _) (.cells #[.int .i64 0, .int .i64 0] 24)).trans (hb.mono (by simp))
      have hA1 := (Blk.new w #[.int .i64 0, .int .i64 0] 24).below hb (by simp)
      go_wp2_with fail
      go_loopw [6, 7, 8, 22] (fun x y z i wr => ∃ (st : St) (k : Nat), k ≤ s.size ∧ st.at_ ≤ s.size ∧ st.size ≤ s.size ∧ st.period ≤ s.size ∧ x = .int .i64 st.at_ ∧ y = .int .i64 st.size ∧ z = .int .i64 st.period ∧ i = .int .i64 k ∧ Below w.heap.size w wr ∧ Blk wr w.heap.size #[.int .i64 0, .int .i64 0] 24 ∧ Hid (gr s.data.toList = (List.range' k (s.size - k)).foldl (fun st i => grI (s.data.toList.drop i) i st) st)) (fun _ _ _ i _ => s.size - (intOf i).toNat)
      case atStart => exact ⟨⟨0, 0, 1⟩, 0, by omega, by simp, by simp, by simp; omega, rfl, rfl, rfl, rfl, hB1, hA1, rfl⟩
      case round =>
        obtain ⟨st, k, hk, hs1, hs2, hs3, rfl, rfl, rfl, rfl, hB, hA, HG⟩ := hrel
        by_cases hlt : k < s.size
        · have HL := hid (fun W => least_any (s.extract k s.size) W (by simp; omega))
          rw [data_extract, List.take_of_length_le (by rw [List.length_drop, bytes_len]; omega)] at HL
          have hlen : (s.data.toList.drop k).length = s.size - k := by rw [List.length_drop, bytes_len]
          go_wp2_with fail
          refine (HL.out _).mono ?_
          rintro e w2 ⟨b, rfl, hge, hL, hb2⟩
          rw [hlen] at hL ⊢
          have hB2 := hB.trans (hb2.mono hB.size)
          have hA2 := hA.below hb2 (lt_of_block hA)
          have hbw : w.heap.size < b := Nat.lt_of_lt_of_le (lt_of_block hA) hge
          go_wp2_with fail
          go_loopw [6, 7, 8, 30] (fun x y z i wx => ∃ (st' : St) (m : Nat), m ≤ s.size - k + 1 ∧ st'.at_ ≤ s.size ∧ st'.size ≤ s.size ∧ st'.period ≤ s.size ∧ x = .int .i64 st'.at_ ∧ y = .int .i64 st'.size ∧ z = .int .i64 st'.period ∧ i = .int .i64 m ∧ Below w.heap.size w wx ∧ Blk wx w.heap.size #[.int .i64 0, .int .i64 0] 24 ∧ Blk wx b (rowA (perI (s.data.toList.drop k)) (s.size - k + 1)) 3 ∧ Hid (grI (s.data.toList.drop k) k st = (List.range' (max m 1) (s.size - k + 1 - max m 1)).foldl (grS (s.data.toList.drop k) k) st')) (fun _ _ _ i _ => s.size - k + 1 - (intOf i).toNat)
          case atStart => exact ⟨st, 0, by omega, hs1, hs2, hs3, rfl, rfl, rfl, rfl, hB2, hA2, hL, by rw [Hid, grI, hlen]; rfl⟩
          case round =>
            obtain ⟨st', m, hm, ht1, ht2, ht3, rfl, rfl, rfl, rfl, hB3, hA3, hL3, HI⟩ := hrel
            by_cases hlm : m < s.size - k + 1
            · have q1 := hL3.rowAt m hlm
              rw [show perI (s.data.toList.drop k) m = (per (s.data.toList.drop k) m : Int) from rfl] at q1
              have hpl := per_le (s.data.toList.drop k) m
              by_cases hm0 : m = 0
              · subst hm0
                go_wp2_with fail
                exact ⟨⟨st', 1, by omega, ht1, ht2, ht3, rfl, rfl, rfl, by go_num, hB3, hA3, hL3, HI⟩, by simp [intOf]⟩
              · have hgt : decide ((m : Int) > 0) = true := by simp; omega
                have hpos : 0 < m := by omega
                have hcons : (List.range' (max m 1) (s.size - k + 1 - max m 1)).foldl (grS (s.data.toList.drop k) k) st' = (List.range' (max (m + 1) 1) (s.size - k + 1 - max (m + 1) 1)).foldl (grS (s.data.toList.drop k) k) (grS (s.data.toList.drop k) k st' m) := by
                  rw [show max m 1 = m by omega, show max (m + 1) 1 = m + 1 by omega, range'_cons _ _ (by omega), List.foldl_cons, show s.size - k + 1 - m - 1 = s.size - k + 1 - (m + 1) by omega]
                have e1 := wrap_mul m st'.period (by omega) (by omega)
                have e2 := wrap_mul st'.size (per (s.data.toList.drop k) m) (by omega) (by omega)
                have HI2 := hid (HI.out.trans hcons)
                have E1 := hid e1
                have E2 := hid e2
                clear hcons HI e1 e2
                go_wp2_with fail
                · rename_i hcmp
                  rw [E1.out, E2.out] at hcmp
                  refine ⟨⟨⟨k, m, per (s.data.toList.drop k) m⟩, m + 1, by omega, by simp only; omega, by simp only; omega, by simp only; omega, rfl, rfl, rfl, by go_num, hB3, hA3, hL3, ?_⟩, by simp [intOf]; omega⟩
                  rw [Hid, HI2.out, grS, if_pos (by omega)]
                · rename_i hcmp
                  rw [E1.out, E2.out] at hcmp
                  refine ⟨⟨st', m + 1, by omega, ht1, ht2, ht3, rfl, rfl, rfl, by go_num, hB3, hA3, hL3, ?_⟩, by simp [intOf]; omega⟩
                  rw [Hid, HI2.out, grS, if_neg (by omega)]
            · have hfin : gr s.data.toList = (List.range' (k + 1) (s.size - (k + 1))).foldl (fun st i => grI (s.data.toList.drop i) i st) st' := by
                rw [HG.out, range'_cons _ _ (by omega), List.foldl_cons, HI.out, show s.size - k + 1 - max m 1 = 0 by omega, show s.size - k - 1 = s.size - (k + 1) by omega]
                rfl
              have HF := hid hfin
              clear hfin
              go_wp2_with fail
              exact ⟨⟨st', k + 1, by omega, ht1, ht2, ht3, rfl, rfl, rfl, by go_num, hB3, hA3, HF⟩, by simp [intOf]; omega⟩
        · have hfin : gr s.data.toList = st := by rw [HG.out, show s.size - k = 0 by omega]; rfl
          have HF := hid (fun W => frac_any st.size st.period W (by omega) (by omega) (by have := HB.out; rw [hfin] at this; omega))
          have HFin := hid hfin
          clear hfin
          go_wp2_with fail
          refine (HF.out _).mono ?_
          rintro e w3 ⟨rfl, hb3⟩
          obtain ⟨r0, r1, f0, f1⟩ := (hA.below hb3 (lt_of_block hA)).pair
          have hB3 := hB.trans (hb3.mono hB.size)
          unfold fracV
          go_wp2_with fail
          refine bodyPost_ret (v := .tuple #[fracV st.size st.period, .int .i64 st.at_, .int .i64 st.size, .int .i64 0]) (by simp [results, Try.results21, go_sem, r0, r1, fracV]) rfl ⟨by rw [HFin.out], ?_⟩
          exact (hB3.setCell (Nat.le_refl _) _).setCell (Nat.le_refl _) _
  · have hw' : wordB s.data.toList = false := by simpa using hw
    rw [hw'] at HW
    have hfin : RetGr s.data.toList w = fun e w' => e = .returned (.tuple #[zfrac, .int .i64 0, .int .i64 0, .int .i64 2]) ∧ Below w.heap.size w w' := by
      unfold RetGr; rw [full_word _ hw']; rfl
    rw [hfin]
    clear hfin hw hw'
    go_enter Try.func21, Try.ntmps21
    go_wp2_with fail
    refine (HW.out _).mono ?_
    rintro e w1 ⟨rfl, hb⟩
    obtain ⟨r0, r1, f0, f1⟩ := ((Blk.new w _ _).below hb (by simp)).pair
    go_wp2_with fail
    refine bodyPost_ret (v := .tuple #[zfrac, .int .i64 0, .int .i64 0, .int .i64 2]) (by simp [results, Try.results21, go_sem, r0, r1, zfrac]) rfl ⟨rfl, ?_⟩
    exact (((Below.refl _ w).alloc (Nat.le_refl _) _).trans (hb.mono (by simp))).setCell (Nat.le_refl _) _ |>.setCell (Nat.le_refl _) _
end Go.Proofs.Ytancficmkkdnfaa
