/-
  Walks: counting letters, chains.
-/
import Derived.Test.YtkmpdcckgibkhaaGreatSa
import Derived.Test.YtkmpdcckgibkhaaGreatSr
namespace Go.Proofs.YtkmpdcckgibkhaaGreat
open Go.RowKit

set_option maxHeartbeats 400000 in
theorem of_any (s : ByteArray) (w : World) (hs : s.size ≤ 1000000) (h : s.data.toList.all okb = true) :
    Calls Tryz.prog 44 #[.string s] w fun e w' => e = .returned (.agg #[.int .i64 (cn s.data.toList 0), .int .i64 (cn s.data.toList 1), .int .i64 (cn s.data.toList 2), .int .i64 (cn s.data.toList 3)]) ∧ Below w.heap.size w w' := by
  have hcv := run_bytesW (P := Tryz.prog) 9 71 5 s Tryz.underlying9 Tryz.underlying71 Tryz.underlying5
  go_enter Tryz.func44, Tryz.ntmps44
  go_wp2
  clear hcv
  go_loopw [9] (fun i wr => ∃ k : Nat, k ≤ s.size ∧ i = .int .i64 k ∧ Below w.heap.size w wr ∧ Blk wr w.heap.size (arr4 fun _ => 0) 82 ∧ 
     Blk wr (w.heap.size + 1) (arr4 fun j => cn (s.data.toList.take k) j) 82 ∧ Hid (∀ j (hj : j < s.size), wr.cell? ⟨w.heap.size + 2, j, none⟩ = some (.int .u8 s[j].toNat))) (fun i _ => s.size - (intOf i).toNat)
  case atStart => 
    refine ⟨0, Nat.zero_le _, rfl, bytesW_below _ _ (((Below.refl _ _).alloc (Nat.le_refl _) _).alloc (by simp) _) (by simp; omega), ?_, ?_, ?_⟩
    · exact (((Blk.new w _ _).alloc _).below (B := w.heap.size + 2) (bytesW_below _ _ (Below.refl _ _) (by simp)) (by omega))
    · exact (Blk.mk' (by simp) (by simp [arr4, cn])).below (B := w.heap.size + 2) (bytesW_below _ _ (Below.refl _ _) (by simp)) (by omega)
    · intro j hj
      have := bytesW_cell 5 ((w.alloc (.cells #[.int .i64 0, .int .i64 0, .int .i64 0, .int .i64 0] 82)).alloc (.cells #[.int .i64 0, .int .i64 0, .int .i64 0, .int .i64 0] 82)) s j hj
      simpa using this
  case round =>
    obtain ⟨k, hk, rfl, hB, R, H, HC⟩ := hrel
    by_cases hlt : k < s.size
    · have hl := letter_lt s k h hlt
      have hb1 := cn_le (s.data.toList.take k) (s[k].toNat - 97)
      have hb2 : (s.data.toList.take k).length ≤ k := List.length_take_le _ _
      have hcc := H.cell4 (s[k].toNat - 97) (by omega)
      have hff := H.free (s[k].toNat - 97)
      have hq := HC.out k hlt
      generalize hv : cn (s.data.toList.take k) (s[k].toNat - 97) = v at *
      have HV := hid hv
      clear hv
      go_wp2
      refine ⟨⟨k + 1, by omega, by go_num, hB.setCell (Nat.le_succ _) _, R.other _ (by simp) _, H.store4 _ _ (by omega) ?_, ?_⟩, by simp [intOf]; omega⟩
      · intro i hi
        rw [take_succ_bytes s k hlt, cn_snoc]
        split
        · rename_i he; rw [if_pos (by omega), ← HV.out, show i = s[k].toNat - 97 by omega]; simp
        · rename_i he; rw [if_neg (by omega)]; simp
      · intro j hj
        rw [World.cell?_of_block (Below.heap_setCell _ _ _ _ (by simp))]
        exact HC.out j hj
    · rw [take_all_bytes s k (by omega)] at H
      obtain ⟨q0, q1, q2, q3, -⟩ := H.all4
      obtain ⟨r0, r1, r2, r3, f0, f1, f2, f3⟩ := R.all4
      go_wp2
      refine bodyPost_ret (v := .agg #[.int .i64 (cn s.data.toList 0), .int .i64 (cn s.data.toList 1), .int .i64 (cn s.data.toList 2), .int .i64 (cn s.data.toList 3)]) (by simp [results, Tryz.results44, go_sem, r0, r1, r2, r3]) rfl ⟨rfl, ?_⟩
      exact (((hB.setCell (Nat.le_refl _) _).setCell (Nat.le_refl _) _).setCell (Nat.le_refl _) _).setCell (Nat.le_refl _) _

set_option maxHeartbeats 400000 in
theorem isChain1_any (c : UInt8) (w : World) :
    Calls Tryz.prog 102 #[.int .u8 c.toNat] w fun e w' => e = .returned (.bool (!okb c)) ∧ w = w' := by
  go_enter Tryz.func102, Tryz.ntmps102
  go_wp2
  all_goals (go_ret; exact ⟨ret_bool (by rw [Bool.eq_iff_iff]; simp [okb]; omega), rfl⟩)


def allokB (l : List UInt8) : Bool := l.all okb
def RetIdx (b : Bool) (w : World) (e : Ending) (w' : World) : Prop := ∃ r : Int, e = .returned (.int .i64 r) ∧ decide (0 ≤ r) = b ∧ w = w'

set_option maxHeartbeats 400000 in
theorem indexByte_any (g c : Nat) (s : ByteArray) (w : World) (hs : s.size ≤ 1000000) (hc : ∀ k (h : k < s.size), w.cell? ⟨g, k, none⟩ = some (.int .u8 s[k].toNat)) :
    Calls Tryz.prog 136 #[.slice (some ⟨g, 0, none⟩) s.size c, .func (.func 102) #[] #[]] w (RetIdx (!allokB s.data.toList) w) := by
  have HC := hid hc
  clear hc
  go_enter Tryz.func136, Tryz.ntmps136
  go_wp2_with fail
  go_loop [8] (fun i => ∃ k : Nat, k ≤ s.size ∧ i = .int .i64 k ∧ Hid (allokB s.data.toList = allokB (s.data.toList.drop k))) (fun i => s.size - (intOf i).toNat)
  case atStart => exact ⟨0, Nat.zero_le _, rfl, rfl⟩
  case round =>
    obtain ⟨k, hk, rfl, HK⟩ := hrel
    by_cases hlt : k < s.size
    · have hq := HC.out k hlt
      have H2 := hid (bytes_drop s k hlt)
      by_cases hok : okb s[k] = true
      · have hfin : allokB s.data.toList = allokB (s.data.toList.drop (k + 1)) := by rw [HK.out, H2.out]; simp [allokB, hok]
        have HF := hid hfin
        have HO := hid hok
        clear hfin hok
        go_wp2_with (go_at_call 102; refine (isChain1_any s[k] _).mono ?_; rintro e w1 ⟨rfl, rfl⟩; rw [HO.out]; simp only [Bool.not_true])
        go_round
        case rel => exact ⟨k + 1, by omega, by go_num, HF⟩
        case measure => simp [intOf]; omega
      · have hok' : okb s[k] = false := by simpa using hok
        have hfin : allokB s.data.toList = false := by rw [HK.out, H2.out]; simp [allokB, hok']
        have HF := hid hfin
        have HO := hid hok'
        clear hfin hok hok'
        go_wp2_with (go_at_call 102; refine (isChain1_any s[k] _).mono ?_; rintro e w1 ⟨rfl, rfl⟩; rw [HO.out]; simp only [Bool.not_false])
        go_ret
        exact ⟨k, rfl, by rw [HF.out]; simp, rfl⟩
    · have hfin : allokB s.data.toList = true := by rw [HK.out, bytes_drop_end s k (by omega)]; rfl
      have HF := hid hfin
      clear hfin
      go_wp2
      go_ret
      exact ⟨-1, rfl, by rw [HF.out]; rfl, rfl⟩

set_option maxHeartbeats 400000 in
theorem containsByte_any (g c : Nat) (s : ByteArray) (w : World) (hs : s.size ≤ 1000000) (hc : ∀ k (h : k < s.size), w.cell? ⟨g, k, none⟩ = some (.int .u8 s[k].toNat)) :
    Calls Tryz.prog 101 #[.slice (some ⟨g, 0, none⟩) s.size c, .func (.func 102) #[] #[]] w fun e w' => e = .returned (.bool (!allokB s.data.toList)) ∧ w = w' := by
  have HC := hid (indexByte_any g c s w hs hc)
  clear hc
  go_enter Tryz.func101, Tryz.ntmps101
  go_wp2_with fail
  refine HC.out.mono ?_
  rintro e w1 ⟨r, rfl, hr, rfl⟩
  have HR := hid hr
  clear hr
  go_wp2
  go_ret
  exact ⟨ret_bool HR.out, rfl⟩

set_option maxHeartbeats 400000 in
theorem isChain_any (s : ByteArray) (w : World) (hs : s.size ≤ 1000000) :
    Calls Tryz.prog 66 #[.string s] w fun e w' => e = .returned (.bool (chainB s.data.toList)) ∧ Below w.heap.size w w' := by
  have hcv := run_bytesW (P := Tryz.prog) 9 71 5 s Tryz.underlying9 Tryz.underlying71 Tryz.underlying5
  have HC := hid (containsByte_any w.heap.size (bytesC 5 w s) s (bytesW 5 w s) hs (bytesW_cell 5 w s))
  have hfin : chainB s.data.toList = (allokB s.data.toList && decide (s.size ≤ 24)) := rfl
  have HF := hid hfin
  clear hfin
  by_cases hl : s.size ≤ 24
  · have hd : decide ((s.size : Int) ≤ 24) = true := by simp; omega
    go_enter Tryz.func66, Tryz.ntmps66
    go_wp2_with (go_at_call 101; refine HC.out.mono ?_; rintro e w1 ⟨rfl, rfl⟩)
    go_ret
    exact ⟨ret_bool (by rw [HF.out]; simp [hl]), bytesW_below _ _ (Below.refl _ _) (Nat.le_refl _)⟩
  · have hd : decide ((s.size : Int) ≤ 24) = false := by simp; omega
    go_enter Tryz.func66, Tryz.ntmps66
    go_wp2_with fail
    go_ret
    exact ⟨ret_bool (by rw [HF.out]; simp [hl]), Below.refl _ _⟩
end Go.Proofs.YtkmpdcckgibkhaaGreat
