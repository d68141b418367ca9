/-
  Walks: letters, words.
-/
import Derived.Test.YtancficmkkdnfaaRows
import Derived.Test.YtancficmkkdnfaaBytes
import Derived.Test.YtancficmkkdnfaaPure
import Derived.Lib.OthersKept
import Derived.Lib.TrimU
import Derived.Deep.LoopGhost
namespace Go.Proofs.Ytancficmkkdnfaa
open Go.RowKit

set_option maxHeartbeats 400000 in
theorem within_any (a b c : Int) (w : World) :
    Calls Try.prog 57 #[.int .i64 a, .int .i64 b, .int .i64 c] w fun e w' => e = .returned (.bool (decide (b ≤ a) && decide (a ≤ c))) ∧ w = w' := by
  by_cases h : b ≤ a
  · have hd : decide (b ≤ a) = true := by simpa using h
    go_enter Try.func57, Try.ntmps57
    go_wp2
    go_ret; exact ⟨ret_bool (by simp [h]), rfl⟩
  · have hd : decide (b ≤ a) = false := by simpa using h
    go_enter Try.func57, Try.ntmps57
    go_wp2
    all_goals (go_ret; exact ⟨ret_bool (by simp [h]), rfl⟩)

set_option maxHeartbeats 400000 in
theorem Letters_any (s : ByteArray) (k : Nat) (w : World) (hk : k ≤ 100) (h : s.size ≤ 9223372036854775807) :
    Calls Try.prog 35 #[.string s, .int .i64 k] w fun e w' => e = .returned (.bool (overB k s.data.toList)) ∧ w = w' := by
  go_enter Try.func35, Try.ntmps35
  go_wp2
  go_loop [5] (fun i => ∃ j : Nat, j ≤ s.size ∧ i = .int .i64 j ∧ Hid (overB k s.data.toList = overB k (s.data.toList.drop j))) (fun i => s.size - (intOf i).toNat)
  case atStart => exact ⟨0, Nat.zero_le _, rfl, rfl⟩
  case round =>
    obtain ⟨j, hj, rfl, H⟩ := hrel
    by_cases hlt : j < s.size
    · have H2 := hid (bytes_drop s j hlt)
      have hu := UInt8.toNat_lt s[j]
      go_wp2
      · go_ret
        exact ⟨ret_bool (by rw [H.out, H2.out]; rw [overB_bad _ _ _ (by omega)]), rfl⟩
      · exact ⟨⟨j + 1, by omega, by go_num, by rw [Hid, H.out, H2.out, overB_ok _ _ _ (by omega)]⟩, by simp [intOf]; omega⟩
      · go_ret
        exact ⟨ret_bool (by rw [H.out, H2.out]; rw [overB_bad _ _ _ (by omega)]), rfl⟩
    · go_wp2
      go_ret
      exact ⟨ret_bool (by rw [H.out, bytes_drop_end s j (by omega)]; rfl), rfl⟩

set_option maxHeartbeats 400000 in
theorem refWord_any (s : ByteArray) (w : World) (hs : s.size ≤ 9223372036854775807) :
    Calls Try.prog 22 #[.string s] w fun e w' => e = .returned (.bool (wordB s.data.toList)) ∧ w = w' := by
  have hfin : wordB s.data.toList = (decide (s.size ≤ 120) && overB 4 s.data.toList) := rfl
  have HF := hid hfin
  clear hfin
  have HC := hid (Letters_any s 4 w (by omega) hs)
  by_cases hl : s.size ≤ 120
  · have hd : decide ((s.size : Int) ≤ 120) = true := by simp; omega
    go_enter Try.func22, Try.ntmps22
    go_wp2_with (go_at_call 35; refine HC.out.mono ?_; rintro e w1 ⟨rfl, rfl⟩)
    go_ret
    exact ⟨ret_bool (by rw [HF.out]; simp [hl]), rfl⟩
  · have hd : decide ((s.size : Int) ≤ 120) = false := by simp; omega
    go_enter Try.func22, Try.ntmps22
    go_wp2_with fail
    go_ret
    exact ⟨ret_bool (by rw [HF.out]; simp [hl]), rfl⟩

set_option maxHeartbeats 400000 in
theorem isOver1_any (r k b : Nat) (w : World) (hr : r ≤ 2147483647) (hk : k ≤ 100) (hc : w.cell? ⟨b, 0, none⟩ = some (.int .i64 k)) :
    Calls Try.prog 71 #[.int .i32 r, .pointer (some ⟨b, 0, none⟩)] w fun e w' => e = .returned (.bool (!(decide (97 ≤ r) && decide (r < 97 + k)))) ∧ w = w' := by
  go_enter Try.func71, Try.ntmps71
  go_wp2_with (go_at_call 57; refine (within_any _ _ _ _).mono ?_; rintro e w1 ⟨rfl, rfl⟩)
  go_ret
  refine ⟨ret_bool ?_, rfl⟩
  rw [Bool.eq_iff_iff]; simp; omega

def RetIdx (b : Bool) (w : World) (e : Ending) (w' : World) : Prop := ∃ r : Int, e = .returned (.int .i64 r) ∧ decide (0 ≤ r) = b ∧ Below w.heap.size w w'

set_option maxHeartbeats 1000000 in
theorem indexFunc_any (s : ByteArray) (k b : Nat) (w : World) (hk : k ≤ 30) (hc : w.cell? ⟨b, 0, none⟩ = some (.int .i64 k)) :
    Calls Try.prog 78 #[.string s, .func (.func 71) #[] #[.pointer (some ⟨b, 0, none⟩)], .bool true] w (RetIdx (!overB k s.data.toList) w) := by
  have hcb : b < w.heap.size := World.block_lt_of_cell? _ _ hc
  have HC := hid hc
  clear hc
  go_enter Try.func78, Try.ntmps78
  go_wp2
  go_loopg [] s.size (fun gf wx => ∃ pos : Nat, wx.heap[w.heap.size]? = some (.stringIter s pos) ∧ Below w.heap.size w wx ∧ Hid (overB k s.data.toList = overB k (s.data.toList.drop pos)) ∧ s.size ≤ pos + gf)
  case atStart => exact ⟨0, World.iter_heap w s 0, (Below.refl _ w).alloc (Nat.le_refl _) _, rfl, by omega⟩
  case round =>
    obtain ⟨pos, hit, hbw, HL, hfu⟩ := hrel
    by_cases hps : pos < s.size
    · obtain ⟨g', rfl⟩ : ∃ g', gk = g' + 1 := ⟨gk - 1, by omega⟩
      have hnx : ∀ ty, (Instr.next (.pointer (some ⟨w.heap.size, 0, none⟩)) true ty).run Try.prog wr = _ := fun ty => Lib.run_next_any_at wr w.heap.size s pos ty hit hps
      have H2 := hid (bytes_drop s pos hps)
      have hle := decode_le s pos
      by_cases ha : s[pos].toNat < 128
      · have hde := decode_ascii s pos hps ha
        rw [hde] at hnx hle
        have hit2 := Lib.iterAt_heap wr w.heap.size s pos (pos + 1) hit
        have hbw2 := Lib.below_iterAt hbw (k := w.heap.size) (Nat.le_refl _) s (pos + 1)
        obtain ⟨W, hWd⟩ : ∃ W, wr.iterAt w.heap.size s (pos + 1) = W := ⟨_, rfl⟩
        obtain ⟨R, hR⟩ : ∃ R, s[pos].toNat = R := ⟨_, rfl⟩
        simp only [hR] at hnx hle
        rw [hWd] at hnx hit2 hbw2
        have hcW : W.cell? ⟨b, 0, none⟩ = some (.int .i64 k) := (hbw2.cell (p := ⟨b, 0, none⟩) hcb).trans HC.out
        have cS := hid (isOver1_any R k b W hle (by omega) hcW)
        clear hcW hde hWd
        by_cases hok : 97 ≤ R ∧ R < 97 + k
        · have hfin : overB k s.data.toList = overB k (s.data.toList.drop (pos + 1)) := by rw [HL.out, H2.out, overB_ok _ _ _ (by omega)]
          have HF := hid hfin
          have hv : (!(decide (97 ≤ R) && decide (R < 97 + k))) = false := by simp; omega
          rw [hv] at cS
          clear hfin hR
          go_wp2_with (go_at_call 71; refine cS.out.mono ?_; rintro e W' ⟨rfl, rfl⟩)
          go_roundg g'
          case measure => omega
          case rel => exact ⟨pos + 1, hit2, hbw2, HF, by omega⟩
        · have hfin : overB k s.data.toList = false := by rw [HL.out, H2.out, overB_bad _ _ _ (by omega)]
          have HF := hid hfin
          have hv : (!(decide (97 ≤ R) && decide (R < 97 + k))) = true := by simp; omega
          rw [hv] at cS
          clear hfin hR
          go_wp2_with (go_at_call 71; refine cS.out.mono ?_; rintro e W' ⟨rfl, rfl⟩)
          go_ret
          exact ⟨pos, rfl, by rw [HF.out]; simp, hbw2⟩
      · have hde := (decode_high s pos hps (by omega)).1
        have hit2 := Lib.iterAt_heap wr w.heap.size s pos (pos + (Utf8.decode s pos).2) hit
        have hbw2 := Lib.below_iterAt hbw (k := w.heap.size) (Nat.le_refl _) s (pos + (Utf8.decode s pos).2)
        obtain ⟨W, hWd⟩ : ∃ W, wr.iterAt w.heap.size s (pos + (Utf8.decode s pos).2) = W := ⟨_, rfl⟩
        rw [hWd] at hnx hit2 hbw2
        obtain ⟨R, hR⟩ : ∃ R, (Utf8.decode s pos).1 = R := ⟨_, rfl⟩
        rw [hR] at hnx hle hde
        have hcW : W.cell? ⟨b, 0, none⟩ = some (.int .i64 k) := (hbw2.cell (p := ⟨b, 0, none⟩) hcb).trans HC.out
        have cS := hid (isOver1_any R k b W hle (by omega) hcW)
        have hfin : overB k s.data.toList = false := by rw [HL.out, H2.out, overB_bad _ _ _ (by omega)]
        have HF := hid hfin
        have hv : (!(decide (97 ≤ R) && decide (R < 97 + k))) = true := by simp; omega
        rw [hv] at cS
        clear hfin hR hcW hWd
        go_wp2_with (go_at_call 71; refine cS.out.mono ?_; rintro e W' ⟨rfl, rfl⟩)
        go_ret
        exact ⟨pos, rfl, by rw [HF.out]; simp, hbw2⟩
    · have hnx : ∀ ty, (Instr.next (.pointer (some ⟨w.heap.size, 0, none⟩)) true ty).run Try.prog wr = _ := fun ty => Lib.run_next_end_at wr w.heap.size s pos ty hit hps
      have hfin : overB k s.data.toList = true := by rw [HL.out, bytes_drop_end s pos (by omega)]; rfl
      have HF := hid hfin
      clear hfin
      go_wp2
      go_ret
      exact ⟨-1, rfl, by rw [HF.out]; rfl, hbw⟩

set_option maxHeartbeats 400000 in
theorem isOver_any (s : ByteArray) (k : Nat) (w : World) (hk : k ≤ 30) :
    Calls Try.prog 60 #[.string s, .int .i64 k] w fun e w' => e = .returned (.bool (overB k s.data.toList)) ∧ Below w.heap.size w w' := by
  have HI := hid (indexFunc_any s k w.heap.size (w.alloc (.cells #[.int .i64 k] 3)) hk ((Blk.new w _ 3).cell 0))
  have HJ : Hid (Calls Try.prog 75 #[.string s, .func (.func 71) #[] #[.pointer (some ⟨w.heap.size, 0, none⟩)]] (w.alloc (.cells #[.int .i64 k] 3)) (RetIdx (!overB k s.data.toList) (w.alloc (.cells #[.int .i64 k] 3)))) := by
    show Calls _ _ _ _ _
    go_enter Try.func75, Try.ntmps75
    go_wp2_with (go_at_call 78; refine HI.out.mono ?_; rintro e w1 ⟨r, rfl, hr, hb⟩; have HR := hid hr; clear hr)
    go_ret
    exact ⟨r, rfl, HR.out, hb⟩
  clear HI
  have HK : Hid (Calls Try.prog 70 #[.string s, .func (.func 71) #[] #[.pointer (some ⟨w.heap.size, 0, none⟩)]] (w.alloc (.cells #[.int .i64 k] 3)) (fun e w' => e = .returned (.bool (!overB k s.data.toList)) ∧ Below (w.alloc (.cells #[.int .i64 k] 3)).heap.size (w.alloc (.cells #[.int .i64 k] 3)) w')) := by
    show Calls _ _ _ _ _
    go_enter Try.func70, Try.ntmps70
    go_wp2_with (go_at_call 75; refine HJ.out.mono ?_; rintro e w1 ⟨r, rfl, hr, hb⟩; have HR := hid hr; clear hr)
    go_ret
    exact ⟨ret_bool HR.out, hb⟩
  clear HJ
  go_enter Try.func60, Try.ntmps60
  go_wp2_with (go_at_call 70; refine HK.out.mono ?_; rintro e w1 ⟨rfl, hb⟩)
  go_ret
  refine ⟨ret_bool (by simp), ?_⟩
  exact ((Below.refl _ w).alloc (Nat.le_refl _) _).trans (hb.mono (by simp))

set_option maxHeartbeats 400000 in
theorem isWord_any (s : ByteArray) (w : World) :
    Calls Try.prog 54 #[.string s] w fun e w' => e = .returned (.bool (wordB s.data.toList)) ∧ Below w.heap.size w w' := by
  have hfin : wordB s.data.toList = (decide (s.size ≤ 120) && overB 4 s.data.toList) := rfl
  have HF := hid hfin
  clear hfin
  have HC := hid (isOver_any s 4 w (by omega))
  by_cases hl : s.size ≤ 120
  · have hd : decide ((s.size : Int) ≤ 120) = true := by simp; omega
    go_enter Try.func54, Try.ntmps54
    go_wp2_with (go_at_call 60; refine HC.out.mono ?_; rintro e w1 ⟨rfl, hb⟩)
    go_ret
    exact ⟨ret_bool (by rw [HF.out]; simp [hl]), hb⟩
  · have hd : decide ((s.size : Int) ≤ 120) = false := by simp; omega
    go_enter Try.func54, Try.ntmps54
    go_wp2_with fail
    go_ret
    exact ⟨ret_bool (by rw [HF.out]; simp [hl]), Below.refl _ _⟩
end Go.Proofs.Ytancficmkkdnfaa
