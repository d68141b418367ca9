/-
  Walks: awake, list.
-/
import Derived.Test.YthelnggbcgjbcaaPrgK
namespace Go.Proofs.Ythelnggbcgjbcaa
open Go.RowKit

theorem aw1 : leastC [97, 97, 98, 98] = [1, 3] := by decide +kernel
theorem aw2 : leastE [97, 97, 98, 98] = 0 := by decide +kernel
theorem aw3 : leastC [97, 98, 97, 98] = [2] := by decide +kernel
theorem aw4 : leastE [97, 98, 97, 98] = 0 := by decide +kernel
theorem aw5 : ringC [97, 97, 98, 98] = [1, 3] := by decide +kernel
theorem aw6 : sharesV [97, 97, 98, 98] [1, 3] = .tuple #[.string ⟨#[97, 98]⟩, .string ⟨#[97, 98]⟩, .int .i64 0] := by
  have h1 : sharesE [97, 97, 98, 98] [1, 3] = true := by decide +kernel
  have h2 : shLoop [97, 97, 98, 98] 0 0 [1, 3] [] [] = ([97, 98], [97, 98]) := by decide +kernel
  rw [sharesV, if_pos h1, h2]; rfl


theorem awL1 (w : World) : Calls Try.prog 15 #[.string ⟨#[97, 97, 98, 98]⟩] w fun e w' => ∃ a c, e = .returned (.tuple #[.slice a 2 c, .int .i64 0]) ∧ Hid (Ints w' a [1, 3]) ∧ Below w.heap.size w w' := by
  refine (least_any ⟨#[97, 97, 98, 98]⟩ w (by decide)).mono ?_
  rintro e w1 ⟨a1, c1, he1, hi1, -, -, hb1⟩
  rw [show (⟨#[97, 97, 98, 98]⟩ : ByteArray).data.toList = [97, 97, 98, 98] from rfl, aw1] at he1 hi1
  rw [aw2] at he1
  exact ⟨a1, c1, he1, hi1, hb1⟩
theorem awL2 (w : World) : Calls Try.prog 15 #[.string ⟨#[97, 98, 97, 98]⟩] w fun e w' => ∃ a c, e = .returned (.tuple #[.slice a 1 c, .int .i64 0]) ∧ Hid (Ints w' a [2]) ∧ Below w.heap.size w w' := by
  refine (least_any ⟨#[97, 98, 97, 98]⟩ w (by decide)).mono ?_
  rintro e w1 ⟨a1, c1, he1, hi1, -, -, hb1⟩
  rw [show (⟨#[97, 98, 97, 98]⟩ : ByteArray).data.toList = [97, 98, 97, 98] from rfl, aw3] at he1 hi1
  rw [aw4] at he1
  exact ⟨a1, c1, he1, hi1, hb1⟩
theorem awR (w : World) : Calls Try.prog 28 #[.string ⟨#[97, 97, 98, 98]⟩] w fun e w' => ∃ a c, e = .returned (.tuple #[.slice a 2 c, .int .i64 0]) ∧ Hid (Ints w' a [1, 3]) ∧ Below w.heap.size w w' := by
  refine (ring_any ⟨#[97, 97, 98, 98]⟩ w (by decide)).mono ?_
  rintro e w1 ⟨a1, c1, he1, hi1, -, -, hb1⟩
  rw [show (⟨#[97, 97, 98, 98]⟩ : ByteArray).data.toList = [97, 97, 98, 98] from rfl, aw5] at he1 hi1
  rw [aw2] at he1
  exact ⟨a1, c1, he1, hi1, hb1⟩
theorem awS (a : Addr) (w : World) (h : Ints w (some a) [1, 3]) : Calls Try.prog 22 #[.string ⟨#[97, 97, 98, 98]⟩, .slice (some a) 2 2] w fun e w' => e = .returned (.tuple #[.string ⟨#[97, 98]⟩, .string ⟨#[97, 98]⟩, .int .i64 0]) ∧ Below w.heap.size w w' := by
  refine (sharesE_any ⟨#[97, 97, 98, 98]⟩ (some a) 2 [1, 3] w (by decide) h (by simp) (by simp) (by simp)).mono ?_
  rintro e w1 ⟨rfl, hb⟩
  exact ⟨by rw [← aw6], hb⟩
theorem awI (a b : Option Addr) (c d n : Nat) (l : List Int) (w : World) (ha : Ints w a l) (hb : Ints w b l) (hn : l.length = n) (hl : n ≤ 100) : Calls Try.prog 17 #[.slice a n c, .slice b n d] w fun e w' => e = .returned (.bool true) ∧ Below w.heap.size w w' := by
  subst hn
  have := ints_any a b c d l l w ha hb (by omega) (by omega)
  simpa using this

set_option maxHeartbeats 4000000 in
theorem awake_any (w : World) : Calls Try.prog 18 #[] w fun e w' => e = .returned (.bool true) ∧ Below w.heap.size w w' := by
  go_enter Try.func18, Try.ntmps18
  go_wp2_with fail
  refine (awL1 w).mono ?_
  rintro e w1 ⟨a1, c1, rfl, hi1, hb1⟩
  go_wp2_with fail
  refine (awL2 w1).mono ?_
  rintro e w2 ⟨a2, c2, rfl, hi2, hb2⟩
  have hi1 := hid (hi1.out.below hb2 (Nat.le_refl _))
  have hb2 := hb1.trans (hb2.mono hb1.size)
  go_wp2_with fail
  refine (awR w2).mono ?_
  rintro e w3 ⟨a3, c3, rfl, hi3, hb3⟩
  have hi1 := hid (hi1.out.below hb3 (Nat.le_refl _))
  have hi2 := hid (hi2.out.below hb3 (Nat.le_refl _))
  have hb3 := hb2.trans (hb3.mono hb2.size)
  go_wp2_with fail
  refine (awS _ _ (vals_new _ _ _ _ rfl)).mono ?_
  rintro e w4 ⟨rfl, hb4⟩
  have hb4 := ((Below.refl _ w3).alloc (Nat.le_refl _) _).trans (hb4.mono (by simp))
  have hi1 := hid (hi1.out.below hb4 (Nat.le_refl _))
  have hi2 := hid (hi2.out.below hb4 (Nat.le_refl _))
  have hi3 := hid (hi3.out.below hb4 (Nat.le_refl _))
  have hb4 := hb3.trans (hb4.mono hb3.size)
  clear hb1 hb2 hb3
  go_wp2_with fail
  have nw : ∀ (W : World) (l : List Int), Ints (W.alloc (.cells (l.map (Value.int .i64)).toArray 3)) (some ⟨W.heap.size, 0, none⟩) l := fun W l => vals_new _ _ _ _ rfl
  have NW := hid nw
  clear nw
  refine (awI a1 _ c1 2 2 [1, 3] _ (hi1.out.below ((Below.refl _ w4).alloc (Nat.le_refl _) _) (Nat.le_refl _)) (NW.out w4 [1, 3]) rfl (by decide)).mono ?_
  rintro e w5 ⟨rfl, hb5⟩
  have hb5 := ((Below.refl _ w4).alloc (Nat.le_refl _) _).trans (hb5.mono (by simp))
  have hi2 := hid (hi2.out.below hb5 (Nat.le_refl _))
  have hi3 := hid (hi3.out.below hb5 (Nat.le_refl _))
  have hb5 := hb4.trans (hb5.mono hb4.size)
  go_wp2_with fail
  refine (awI a2 _ c2 1 1 [2] _ (hi2.out.below ((Below.refl _ w5).alloc (Nat.le_refl _) _) (Nat.le_refl _)) (NW.out w5 [2]) rfl (by decide)).mono ?_
  rintro e w6 ⟨rfl, hb6⟩
  have hb6 := ((Below.refl _ w5).alloc (Nat.le_refl _) _).trans (hb6.mono (by simp))
  have hi3 := hid (hi3.out.below hb6 (Nat.le_refl _))
  have hb6 := hb5.trans (hb6.mono hb5.size)
  go_wp2_with fail
  refine (awI a3 _ c3 2 2 [1, 3] _ (hi3.out.below ((Below.refl _ w6).alloc (Nat.le_refl _) _) (Nat.le_refl _)) (NW.out w6 [1, 3]) rfl (by decide)).mono ?_
  rintro e w7 ⟨rfl, hb7⟩
  have hb7 := ((Below.refl _ w6).alloc (Nat.le_refl _) _).trans (hb7.mono (by simp))
  have hb7 := hb6.trans (hb7.mono hb6.size)
  go_wp2
  go_ret
  exact ⟨rfl, hb7⟩

/-- What a call returns: a new slice. -/
def RetL (l : List Int) (w : World) (e : Ending) (w' : World) : Prop := ∃ a c, e = .returned (.slice a l.length c) ∧ Ints w' a l ∧ (a = none → c = 0) ∧ l.length ≤ c ∧ Below w.heap.size w w'

set_option maxHeartbeats 400000 in
theorem list_full (a : Option Addr) (c : Nat) (l : List Int) (w : World) (ha : Ints w a l) (hc : l.length ≤ c) (hn : a = none → c = 0) (hl : l.length ≤ 9223372036854775807) :
    Calls Try.prog 20 #[.slice a l.length c] w (RetL (l.take 30) w) := by
  have hT : Ints w a (l.take 30) := ha.take 30
  have hz : a = none → l.length = 0 ∧ c = 0 := fun h => by have := hn h; omega
  have HN := hid hz
  clear hn hz
  have hm : (l.take 30).length = min 30 l.length := List.length_take
  have HM := hid hm
  clear hm
  by_cases h0 : 30 < l.length
  · go_enter Try.func20, Try.ntmps20
    go_wp2_with (at_builtin; go_must (refine wpList_app _ rfl (.tmp 4) (.tmp 9) 23 rfl w.heap.size 3 (.int .i64 0) 8 Try.underlying23 Try.info3 rfl _ 0 [] rfl (World.ownsRow_nil _ _ _ _) a 30 c _ rfl ?_ hT ?_ (ints_one _) (by omega) (by omega) (Nat.le_refl _) ?_))
    · rw [List.length_map, HM.out]; omega
    · intro h; have := (HN.out h); omega
    · intro v' w1 hown hgrow _
      obtain ⟨a', c', rfl, hr⟩ := ownsRow_ints (l := l.take 30) (by simpa using hown)
      go_wp2
      go_ret
      exact ⟨a', c', rfl, hr, (ownsRow_facts hown).2.2, by have := (ownsRow_facts hown).2.1; simpa using this, (Below.refl _ w).grown hgrow (Nat.le_refl _) (by simp [Value.ownBlock])⟩
  · go_enter Try.func20, Try.ntmps20
    go_wp2_with (at_builtin; go_must (refine wpList_app _ rfl (.tmp 4) (.tmp 9) 23 rfl w.heap.size 3 (.int .i64 0) 8 Try.underlying23 Try.info3 rfl _ 0 [] rfl (World.ownsRow_nil _ _ _ _) a l.length c _ rfl ?_ hT ?_ (ints_one _) (by omega) (by omega) (Nat.le_refl _) ?_))
    · rw [List.length_map, HM.out]; omega
    · exact HN.out
    · intro v' w1 hown hgrow _
      obtain ⟨a', c', rfl, hr⟩ := ownsRow_ints (l := l.take 30) (by simpa using hown)
      go_wp2
      go_ret
      exact ⟨a', c', rfl, hr, (ownsRow_facts hown).2.2, by have := (ownsRow_facts hown).2.1; simpa using this, (Below.refl _ w).grown hgrow (Nat.le_refl _) (by simp [Value.ownBlock])⟩
end Go.Proofs.Ythelnggbcgjbcaa
