/-
  Walks: awake, short.
-/
import Derived.Test.YtancficmkkdnfaaL
namespace Go.Proofs.Ytancficmkkdnfaa
open Go.RowKit
attribute [local go_sem] Oper.semAt_some

theorem Keeps_any (a : Option Addr) (c : Nat) (m : List (List UInt8)) (w : World) (hm : Strs w a m) (hs : m.length ≤ 1000000) (hs2 : ∀ x ∈ m, x.length ≤ 1000000) :
    Calls Try.prog 32 #[.slice a m.length c] w (RetKeeps m w) := by
  cases h : mapB m with
  | false =>
    refine (keeps_no a c m w hm hs hs2 h).mono ?_
    rintro e w' ⟨rfl, hb⟩
    exact ⟨by rw [h]; rfl, hb⟩
  | true =>
    rw [(map_len h).1]
    refine (keeps_yes a c m w hm h).mono ?_
    rintro e w' ⟨rfl, hb⟩
    exact ⟨by rw [h]; rfl, hb⟩

theorem awSq : sq [97, 98, 99, 98, 99] = some (1, 2) := by decide +kernel
theorem awSqW : wordB [97, 98, 99, 98, 99] = true := by decide +kernel
theorem awEx : fullB [97, 98, 97, 97, 98] = true := by decide +kernel
theorem awEx2 : per [97, 98, 97, 97, 98] 5 = 3 := by decide +kernel
theorem awGr : (gr [97, 98, 97, 97, 98]).size = 2 ∧ (gr [97, 98, 97, 97, 98]).period = 1 ∧ (gr [97, 98, 97, 97, 98]).at_ = 2 := by decide +kernel
theorem awMap : mapB [[97, 98, 99], [97, 99], [98]] = true := by decide +kernel
theorem awMost : mostN [[97, 98, 99], [97, 99], [98]] = 3 := by decide +kernel
theorem awKe : keepsO [[97, 98, 99], [97, 99], [98]] 3 = some [97, 98, 97] := by decide +kernel
theorem awCo : (frW 3 3 []).length = 12 := by decide +kernel

theorem awQ (w : World) : Calls Try.prog 43 #[.string ⟨#[97, 98, 99, 98, 99]⟩] w fun e w' => e = .returned (.tuple #[.int .i64 1, .int .i64 2, .int .i64 0]) ∧ Below w.heap.size w w' := by
  refine (Square_any ⟨#[97, 98, 99, 98, 99]⟩ w (by decide)).mono ?_
  rintro e w1 ⟨rfl, hb⟩
  refine ⟨?_, hb⟩
  rw [show (⟨#[97, 98, 99, 98, 99]⟩ : ByteArray).data.toList = [97, 98, 99, 98, 99] from rfl, if_pos awSqW, freeB, awSq]; rfl
theorem awE (w : World) : Calls Try.prog 20 #[.string ⟨#[97, 98, 97, 97, 98]⟩] w fun e w' => e = .returned (.tuple #[.agg #[.int .i64 5, .int .i64 3], .int .i64 0]) ∧ Below w.heap.size w w' := by
  refine (Exponent_any ⟨#[97, 98, 97, 97, 98]⟩ w (by decide)).mono ?_
  rintro e w1 ⟨rfl, hb⟩
  refine ⟨?_, hb⟩
  rw [show (⟨#[97, 98, 97, 97, 98]⟩ : ByteArray).data.toList = [97, 98, 97, 97, 98] from rfl, if_pos awEx, show [97, 98, 97, 97, (98 : UInt8)].length = 5 from rfl, awEx2]; rfl
theorem awG (w : World) : Calls Try.prog 21 #[.string ⟨#[97, 98, 97, 97, 98]⟩] w fun e w' => e = .returned (.tuple #[.agg #[.int .i64 2, .int .i64 1], .int .i64 2, .int .i64 2, .int .i64 0]) ∧ Below w.heap.size w w' := by
  refine (Greatest_any ⟨#[97, 98, 97, 97, 98]⟩ w (by decide)).mono ?_
  rintro e w1 ⟨rfl, hb⟩
  refine ⟨?_, hb⟩
  rw [show (⟨#[97, 98, 97, 97, 98]⟩ : ByteArray).data.toList = [97, 98, 97, 97, 98] from rfl, if_pos awEx, awGr.1, awGr.2.1, awGr.2.2]; rfl
theorem awK (a : Option Addr) (w : World) (h : Strs w a [[97, 98, 99], [97, 99], [98]]) : Calls Try.prog 32 #[.slice a 3 3] w fun e w' => e = .returned (.tuple #[.string ⟨#[97, 98, 97]⟩, .int .i64 0]) ∧ Below w.heap.size w w' := by
  refine (keeps_yes a 3 _ w h awMap).mono ?_
  rintro e w1 ⟨rfl, hb⟩
  refine ⟨?_, hb⟩
  rw [awMost, awKe]; rfl
theorem awC (w : World) : Calls Try.prog 29 #[.int .i64 3, .int .i64 3] w fun e w' => e = .returned (.tuple #[.int .i64 12, .int .i64 0]) ∧ Below w.heap.size w w' := by
  refine (count_yes 3 3 w (by omega) (by omega) (by omega)).mono ?_
  rintro e w1 ⟨rfl, hb⟩
  exact ⟨by rw [awCo]; rfl, hb⟩

set_option maxHeartbeats 4000000 in
theorem awake_any (w : World) : Calls Try.prog 23 #[] w fun e w' => e = .returned (.bool true) ∧ Below w.heap.size w w' := by
  go_enter Try.func23, Try.ntmps23
  go_wp2_with fail
  refine (awQ w).mono ?_
  rintro e w1 ⟨rfl, hb1⟩
  go_wp2_with fail
  refine (awE w1).mono ?_
  rintro e w2 ⟨rfl, hb2⟩
  have hb2 := hb1.trans (hb2.mono hb1.size)
  go_wp2_with fail
  have hk1 : Blk (w2.alloc (.cells #[.int .i64 5, .int .i64 3] 24)) w2.heap.size #[.int .i64 5, .int .i64 3] 24 := Blk.new _ _ _
  have hs1 : w2.heap.size < (w2.alloc (.cells #[.int .i64 5, .int .i64 3] 24)).heap.size := by simp
  have hb2' : Below w.heap.size w (w2.alloc (.cells #[.int .i64 5, .int .i64 3] 24)) := hb2.alloc hb2.size _
  refine (awG _).mono ?_
  rintro e w3 ⟨rfl, hb3⟩
  have HK1 := hid (hk1.below hb3 hs1)
  have hb3 := hb2'.trans (hb3.mono hb2'.size)
  clear hk1 hs1 hb2' hb2 hb1
  go_wp2_with fail
  have hk2 : Blk (w3.alloc (.cells #[.int .i64 2, .int .i64 1] 24)) w3.heap.size #[.int .i64 2, .int .i64 1] 24 := Blk.new _ _ _
  have hst : Strs ((w3.alloc (.cells #[.int .i64 2, .int .i64 1] 24)).alloc (.cells #[.string ⟨#[97, 98, 99]⟩, .string ⟨#[97, 99]⟩, .string ⟨#[98]⟩] 9)) (some ⟨w3.heap.size + 1, 0, none⟩) [[97, 98, 99], [97, 99], [98]] := by
    have := vals_new (w3.alloc (.cells #[.int .i64 2, .int .i64 1] 24)) #[strV [97, 98, 99], strV [97, 99], strV [98]] 9 [strV [97, 98, 99], strV [97, 99], strV [98]] rfl
    rw [World.size_alloc] at this
    exact this
  have hbx : Below w3.heap.size w3 ((w3.alloc (.cells #[.int .i64 2, .int .i64 1] 24)).alloc (.cells #[.string ⟨#[97, 98, 99]⟩, .string ⟨#[97, 99]⟩, .string ⟨#[98]⟩] 9)) := ((Below.refl _ w3).alloc (Nat.le_refl _) _).alloc (by simp) _
  refine (awK _ _ hst).mono ?_
  rintro e w4 ⟨rfl, hb4⟩
  have HK1 := hid ((HK1.out.below hbx HK1.out.lt).below hb4 (Nat.lt_of_lt_of_le HK1.out.lt hbx.size))
  have HK2 := hid ((hk2.alloc (.cells #[.string ⟨#[97, 98, 99]⟩, .string ⟨#[97, 99]⟩, .string ⟨#[98]⟩] 9)).below hb4 (by simp; omega))
  have hb4 := hb3.trans ((hbx.mono hb3.size).trans (hb4.mono (Nat.le_trans hb3.size hbx.size)))
  clear hst hk2 hbx hb3
  go_wp2_with fail
  refine (awC w4).mono ?_
  rintro e w5 ⟨rfl, hb5⟩
  have HK1 := hid (HK1.out.below hb5 HK1.out.lt)
  have HK2 := hid (HK2.out.below hb5 HK2.out.lt)
  have hb5 := hb4.trans (hb5.mono hb4.size)
  obtain ⟨a1, a2, -, -⟩ := HK1.out.pair
  obtain ⟨b1, b2, -, -⟩ := HK2.out.pair
  clear hb4
  go_wp2
  go_ret
  exact ⟨rfl, hb5⟩

theorem short_any (s : ByteArray) (w : World) (hs : s.size ≤ 9223372036854775807) :
    Calls Try.prog 19 #[.string s] w fun e w' => e = .returned (.string (s.extract 0 (min s.size 121))) ∧ w = w' := by
  have h : (min (s.size : Int) 121).toNat = min s.size 121 := by omega
  go_enter Try.func19, Try.ntmps19
  go_wp2
  all_goals (go_ret; exact ⟨rfl, rfl⟩)
theorem short_size (s : ByteArray) : (s.extract 0 (min s.size 121)).size ≤ 121 := by
  rw [ByteArray.size_extract]; omega
end Go.Proofs.Ytancficmkkdnfaa
