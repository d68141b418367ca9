/-
  Walks: borders, exponents.
-/
import Derived.Test.YtancficmkkdnfaaC
import Derived.Test.YtancficmkkdnfaaBorder
import Derived.Test.YtancficmkkdnfaaRowA
namespace Go.Proofs.Ytancficmkkdnfaa
open Go.RowKit

theorem Try.info3 : (Try.prog.info? 3).map (fun i => (i.zero, i.size, i.bytes)) = some (some (.int .i64 0), 1, 8) := by kernel_rfl

def perI (l : List UInt8) (n : Nat) : Int := (per l n : Int)
def RetLeast (l : List UInt8) (w : World) (e : Ending) (w' : World) : Prop :=
  ∃ b, e = .returned (.slice (some ⟨b, 0, none⟩) (l.length + 1) (l.length + 1)) ∧ w.heap.size ≤ b ∧ Blk w' b (rowA (perI l) (l.length + 1)) 3 ∧ Below w.heap.size w w'

def upTo (f : Nat → Nat) (n : Nat) : Nat → Int := fun i => if i < n then (f i : Int) else 0
theorem byte_opt (s : ByteArray) (k : Nat) (h : k < s.size) : s.data.toList[k]? = some s[k] := List.getElem?_eq_getElem (l := s.data.toList) h

def brdI (l : List UInt8) (n : Nat) : Int := (brd l n : Int)

theorem upTo_one (f : Nat → Nat) (h : f 0 = 0) (i : Nat) : upTo f 1 i = 0 := by
  unfold upTo
  split
  · rw [show i = 0 by omega, h]; rfl
  · rfl
theorem upTo_two (l : List UInt8) (i : Nat) : upTo (brd l) (1 + 1) i = 0 := by
  unfold upTo
  split
  · rcases (show i = 0 ∨ i = 1 by omega) with h | h <;> rw [h] <;> rfl
  · rfl
theorem upTo_put (f : Nat → Nat) (n : Nat) (x : Int) (hx : x = f n) : ∀ i, upTo f (n + 1) i = if i = n then x else upTo f n i := by
  intro i
  unfold upTo
  by_cases h1 : i = n
  · rw [if_pos (by omega), if_pos h1, h1, hx]
  · rw [if_neg h1]
    by_cases h2 : i < n
    · rw [if_pos (by omega), if_pos h2]
    · rw [if_neg (by omega), if_neg h2]

set_option maxHeartbeats 4000000 in
theorem least_any (s : ByteArray) (w : World) (hs : s.size ≤ 1000) :
    Calls Try.prog 56 #[.string s] w (RetLeast s.data.toList w) := by
  have hmk := fun W => run_make_row' (P := Try.prog) 33 3 (.int .i64 0) 8 Try.underlying33 Try.info3 rfl .i64 .i64 (s.size + 1) (by omega) (by omega) W
  have hlen : ((s.size : Int) + 1) = ((s.size + 1 : Nat) : Int) := by omega
  have hmk2 : ∀ W : World, (Instr.makeSlice 33 (.int .i64 ((s.size : Int) + 1)) (.int .i64 ((s.size : Int) + 1))).run Try.prog W = .ok (.slice (some ⟨W.heap.size, 0, none⟩) (s.size + 1) (s.size + 1)) (W.alloc (.cells (rowA (fun _ => 0) (s.size + 1)) 3)) := by
    intro W; rw [hlen, hmk W, rowA_made]
  clear hmk hlen
  go_enter Try.func56, Try.ntmps56
  go_wp2_with fail
  obtain ⟨w1, hW⟩ : ∃ w1, w1 = (w.alloc (.cells (rowA (fun _ => 0) (s.size + 1)) 3)).alloc (.cells (rowA (fun _ => 0) (s.size + 1)) 3) := ⟨_, rfl⟩
  have hb1 : Below w.heap.size w w1 := by rw [hW]; exact ((Below.refl _ w).alloc (Nat.le_refl _) _).alloc (by simp) _
  have hA : Blk w1 w.heap.size (rowA (upTo (brd s.data.toList) 1) (s.size + 1)) 3 := by
    have h0 := Blk.new w (rowA (fun _ => 0) (s.size + 1)) 3
    have := h0.alloc (.cells (rowA (fun _ => 0) (s.size + 1)) 3)
    rw [← hW, rowA_congr (f := fun _ => 0) (g := upTo (brd s.data.toList) 1) (fun i _ => (upTo_one _ rfl i).symm)] at this
    exact this
  have hC : Blk w1 (w.heap.size + 1) (rowA (upTo (per s.data.toList) 1) (s.size + 1)) 3 := by
    rw [hW]
    exact Blk.mk' (by simp) (rowA_congr fun i _ => (upTo_one _ rfl i).symm)
  have hsz : (w.alloc (.cells (rowA (fun _ => 0) (s.size + 1)) 3)).heap.size = w.heap.size + 1 := by simp
  try rw [hsz]
  rw [← hW]
  clear hW hsz hmk2
  go_loopw [5] (fun i wr => ∃ n : Nat, 1 ≤ n ∧ n ≤ s.size + 1 ∧ i = .int .i64 n ∧ Below w.heap.size w wr ∧ Blk wr w.heap.size (rowA (upTo (brd s.data.toList) n) (s.size + 1)) 3 ∧ Blk wr (w.heap.size + 1) (rowA (upTo (per s.data.toList) n) (s.size + 1)) 3) (fun i _ => s.size + 1 - (intOf i).toNat)
  case atStart => exact ⟨1, by omega, by omega, rfl, hb1, hA, hC⟩
  case round =>
    obtain ⟨n, hn1, hn, rfl, hb, hA, hC⟩ := hrel
    by_cases hlt : n ≤ s.size
    · by_cases h1 : 1 < n
      · have q1 := hA.rowAt (n - 1) (by omega)
        rw [show upTo (brd s.data.toList) n (n - 1) = (brd s.data.toList (n - 1) : Int) from if_pos (by omega)] at q1
        have hst := hid (Cand.start s.data.toList (n - 1) (by omega))
        have hbl := brd_lt s.data.toList (n - 1) (by omega)
        have hgt : decide ((n : Int) > 1) = true := by simp; omega
        go_wp2_with fail
        go_loopw [6] (fun i wx => ∃ k : Nat, k < n - 1 ∧ i = .int .i64 k ∧ Below w.heap.size w wx ∧ Blk wx w.heap.size (rowA (upTo (brd s.data.toList) n) (s.size + 1)) 3 ∧ Blk wx (w.heap.size + 1) (rowA (upTo (per s.data.toList) n) (s.size + 1)) 3 ∧ Hid (Cand s.data.toList (n - 1) k)) (fun i _ => (intOf i).toNat)
        case atStart => exact ⟨_, hbl, rfl, hb, hA, hC, hst⟩
        case round =>
          obtain ⟨k, hk, rfl, hb2, hA2, hC2, HK⟩ := hrel
          clear hst hbl q1
          have hks : k < s.size := by omega
          have hns : n - 1 < s.size := by omega
          have hwr : IntKind.i64.wrap ((n : Int) - 1) = ((n - 1 : Nat) : Int) := by
            rw [show ((n : Int) - 1) = ((n - 1 : Nat) : Int) by omega]; exact IntWalk.i64_in _ (by omega)
          have q3 := hA2.rowAt n (by omega)
          have q4 := hC2.rowAt n (by omega)
          have q5 := hA2.free n
          have q6 := hC2.free n
          by_cases he : s[k]'hks = s[n - 1]'hns
          · have heq : (((s[k]'hks).toNat : Int) == ((s[n - 1]'hns).toNat : Int)) = true := by rw [he]; simp
            have hne : (((s[k]'hks).toNat : Int) != ((s[n - 1]'hns).toNat : Int)) = false := by rw [he]; simp
            have HB := hid (HK.out.hit (by rw [byte_opt s k (by omega), byte_opt s (n - 1) (by omega), he]))
            rw [show n - 1 + 1 = n by omega] at HB
            clear he HK
            by_cases hk0 : k = 0
            · have hpos : ¬ 0 < k := by omega
              have hgt : decide ((k : Int) > 0) = false := by simp; omega
              have hgt2 : decide (0 < k) = false := by simp; omega
              have HK0 := hid hk0
              clear hk0
              go_wp2
              go_quiet (fail)
              go_wp2
              go_quiet (fail)
              go_wp2
              refine ⟨⟨n + 1, by omega, by omega, by go_num, ((below_drewN hb2 _).setCell (Nat.le_refl _) _).setCell (by simp) _, ?_, ?_⟩, by simp [intOf]; omega⟩
              · refine Blk.other ?_ _ (by simp) _
                exact Blk.rowPut (f := upTo (brd s.data.toList) n) hA2 n _ fun i _ => upTo_put _ _ _ (by rw [HB.out]; simp; try omega) i
              · refine Blk.rowPut (f := upTo (per s.data.toList) n) (Blk.other hC2 _ (by simp) _) n _ fun i _ => upTo_put _ _ _ (by unfold per; rw [HB.out]; omega) i
            · have hgt : decide ((k : Int) > 0) = true := by simp; omega
              have hpos : 0 < k := by omega
              go_wp2
              go_quiet (fail)
              go_wp2
              go_quiet (fail)
              go_wp2
              refine ⟨⟨n + 1, by omega, by omega, by go_num, ((below_drewN hb2 _).setCell (Nat.le_refl _) _).setCell (by simp) _, ?_, ?_⟩, by simp [intOf]; omega⟩
              · refine Blk.other ?_ _ (by simp) _
                exact Blk.rowPut (f := upTo (brd s.data.toList) n) hA2 n _ fun i _ => upTo_put _ _ _ (by rw [HB.out]; simp; try omega) i
              · refine Blk.rowPut (f := upTo (per s.data.toList) n) (Blk.other hC2 _ (by simp) _) n _ fun i _ => upTo_put _ _ _ (by unfold per; rw [HB.out]; omega) i
          · by_cases hk0 : k = 0
            · have hpos : ¬ 0 < k := by omega
              have hgt : decide ((k : Int) > 0) = false := by simp; omega
              have hgt2 : decide (0 < k) = false := by simp; omega
              have heq : (((s[k]'hks).toNat : Int) == ((s[n - 1]'hns).toNat : Int)) = false := by
                simp only [beq_eq_false_iff_ne]; intro h; exact he (UInt8.toNat_inj.1 (by omega))
              have HB := hid (HK.out.miss hk0 (by rw [byte_opt s k (by omega), byte_opt s (n - 1) (by omega)]; simpa using he))
              rw [show n - 1 + 1 = n by omega] at HB
              clear he HK hk0
              go_wp2
              go_quiet (fail)
              go_wp2
              go_quiet (fail)
              go_wp2
              refine ⟨⟨n + 1, by omega, by omega, by go_num, ((below_drewN hb2 _).setCell (Nat.le_refl _) _).setCell (by simp) _, ?_, ?_⟩, by simp [intOf]; omega⟩
              · refine Blk.other ?_ _ (by simp) _
                exact Blk.rowPut (f := upTo (brd s.data.toList) n) hA2 n _ fun i _ => upTo_put _ _ _ (by rw [HB.out]; simp; try omega) i
              · refine Blk.rowPut (f := upTo (per s.data.toList) n) (Blk.other hC2 _ (by simp) _) n _ fun i _ => upTo_put _ _ _ (by unfold per; rw [HB.out]; omega) i
            · have hgt : decide ((k : Int) > 0) = true := by simp; omega
              have hpos : 0 < k := by omega
              have hne : (((s[k]'hks).toNat : Int) != ((s[n - 1]'hns).toNat : Int)) = true := by
                simp only [bne_iff_ne]; intro h; exact he (UInt8.toNat_inj.1 (by omega))
              have q2 := hA2.rowAt k (by omega)
              rw [show upTo (brd s.data.toList) n k = (brd s.data.toList k : Int) from if_pos (by omega)] at q2
              have HN := hid (HK.out.next (by omega) (by rw [byte_opt s k (by omega), byte_opt s (n - 1) (by omega)]; simpa using he))
              have hbl := brd_lt s.data.toList k (by omega)
              clear he HK hk0
              go_wp2
              go_quiet (fail)
              go_wp2
              refine ⟨⟨_, ?_, rfl, below_drewN hb2 _, hA2, hC2, HN⟩, ?_⟩
              · omega
              · simp [intOf]; omega
      · have q3 := hA.rowAt n (by omega)
        have q4 := hC.rowAt n (by omega)
        have q5 := hA.free n
        have q6 := hC.free n
        have hgt : decide ((n : Int) > 1) = false := by simp; omega
        have hu0 : upTo (brd s.data.toList) n n = 0 := by unfold upTo; rw [if_neg (by omega)]
        rw [hu0] at q3
        have HB := hid (show brd s.data.toList n = 0 by rw [show n = 1 by omega]; rfl)
        go_wp2
        refine ⟨⟨n + 1, by omega, by omega, by go_num, hb.setCell (by simp) _, ?_, ?_⟩, by simp [intOf]; omega⟩
        · refine Blk.other ?_ _ (by simp) _
          rw [show n = 1 by omega] at hA ⊢
          rw [← rowA_congr (f := upTo (brd s.data.toList) 1) (fun i _ => by rw [upTo_one _ rfl, upTo_two])]
          exact hA
        · refine Blk.rowPut (f := upTo (per s.data.toList) n) hC n _ fun i _ => upTo_put _ _ _ (by unfold per; rw [HB.out]; omega) i
    · go_wp2
      go_ret
      refine ⟨w.heap.size + 1, rfl, by omega, ?_, hb⟩
      rw [bytes_len, ← rowA_congr (f := upTo (per s.data.toList) n) (fun i hi => by unfold upTo perI; rw [if_pos (by omega)])]
      exact hC
end Go.Proofs.Ytancficmkkdnfaa
