/-
  Walks: the small functions of the layer of orders.
-/
import Derived.Test.YtkmpdcckgibkhaaGreatB
namespace Go.Proofs.YtkmpdcckgibkhaaGreat
open Go.RowKit

def facN : Nat → Nat
  | 0 => 1
  | n + 1 => facN n * (n + 1)
theorem facN_le : ∀ n, n < 13 → facN n ≤ 479001600 := by decide

set_option maxHeartbeats 400000 in
theorem factorial_any (n : Nat) (hn : n ≤ 12) (w : World) : Calls Tryz.prog 23 #[.int .i64 n] w fun e w' => e = .returned (.int .i64 (facN n)) ∧ w = w' := by
  go_enter Tryz.func23, Tryz.ntmps23
  go_wp2
  go_loop [3, 6] (fun p i => ∃ k : Nat, k ≤ n ∧ i = .int .i64 k ∧ p = .int .i64 (facN k)) (fun _ i => n - (intOf i).toNat)
  case atStart => exact ⟨0, by omega, rfl, rfl⟩
  case round =>
    obtain ⟨k, hk, rfl, rfl⟩ := hrel
    by_cases hlt : k < n
    · have d1 : decide ((k : Int) < n) = true := by simpa using hlt
      have b1 := facN_le k (by omega)
      have b2 := facN_le (k + 1) (by omega)
      have e1 : (facN k : Int) * ((k : Int) + 1) = (facN (k + 1) : Nat) := by simp [facN]
      have e3 : facN (k + 1) = facN (k + 1) := rfl
      generalize hy : facN (k + 1) = y at b2 e1 e3
      clear e3
      generalize facN k = x at *
      replace hy := hid hy
      have e2 : IntKind.i64.wrap ((x : Int) * ((k : Int) + 1)) = (y : Int) := by rw [e1, IntKind.wrap_i64]; omega
      go_wp2
      exact ⟨⟨k + 1, by omega, by go_num, by rw [hy.out]⟩, by simp [intOf]; omega⟩
    · have hke : k = n := by omega
      subst hke
      go_wp2
      go_ret
      exact ⟨rfl, rfl⟩

/-- Is a number in a list? -/
def hasI (l : List Int) (x : Int) : Bool := l.contains x
theorem hasI_nil (x : Int) : hasI [] x = false := rfl
theorem hasI_hit (x : Int) (l : List Int) : hasI (x :: l) x = true := by simp [hasI]
theorem hasI_miss (x y : Int) (l : List Int) (h : x ≠ y) : hasI (y :: l) x = hasI l x := by simp [hasI, h]

/-- The place of a number in a list, from a place on; -1: none. -/
def RetIx (b : Bool) (w : World) (e : Ending) (w' : World) : Prop := ∃ r : Int, e = .returned (.int .i64 r) ∧ decide (0 ≤ r) = b ∧ w = w'

set_option maxHeartbeats 400000 in
theorem index120_any (a : Option Addr) (c : Nat) (l : List Int) (x : Int) (w : World) (hi : Ints w a l) (hl : l.length ≤ 1000000) :
    Calls Tryz.prog 120 #[.slice a l.length c, .int .i64 x] w (RetIx (hasI l x) w) := by
  have HR := hid hi
  clear hi
  go_enter Tryz.func120, Tryz.ntmps120
  go_wp2
  go_loop [8] (fun i => ∃ k : Nat, k ≤ l.length ∧ i = .int .i64 k ∧ Hid (hasI l x = hasI (l.drop k) x)) (fun i => l.length - (intOf i).toNat)
  case atStart => exact ⟨0, by omega, rfl, rfl⟩
  case round =>
    obtain ⟨k, hk, rfl, H⟩ := hrel
    by_cases hlt : k < l.length
    · obtain ⟨y, hx, hd⟩ := list_drop_cons l k hlt
      obtain ⟨g, o, rfl, hg, hcell⟩ := HR.out.at (by omega)
      have q1 := hcell k y hx
      have HX := hid hd
      clear hcell hd hx
      have d1 : decide ((k : Int) < (l.length : Int)) = true := by simpa using hlt
      by_cases he : x = y
      · subst he
        go_wp2
        go_ret
        refine ⟨k, rfl, ?_, rfl⟩
        rw [H.out, HX.out, hasI_hit]; simp
      · have hn : (x == y) = false := by simpa using he
        go_wp2
        refine ⟨⟨k + 1, by omega, by go_num, ?_⟩, by simp [intOf]; omega⟩
        show hasI l x = _
        rw [H.out, HX.out, hasI_miss _ _ _ he]
    · have hke : k = l.length := by omega
      subst hke
      have H2 := hid H.out
      clear H
      go_wp2
      go_ret
      refine ⟨-1, rfl, ?_, rfl⟩
      rw [H2.out, List.drop_length, hasI_nil]; simp

theorem contains_any (a : Option Addr) (c : Nat) (l : List Int) (x : Int) (w : World) (hi : Ints w a l) (hl : l.length ≤ 1000000) :
    Calls Tryz.prog 87 #[.slice a l.length c, .int .i64 x] w fun e w' => e = .returned (.bool (hasI l x)) ∧ w = w' := by
  have HR := hid (index120_any a c l x w hi hl)
  clear hi
  go_enter Tryz.func87, Tryz.ntmps87
  go_wp2_with fail
  refine HR.out.mono ?_
  rintro e w1 ⟨r, rfl, hr, rfl⟩
  go_wp2_with fail
  go_ret
  exact ⟨rfl, rfl⟩

/-- Is a list an order? -/
def isOrd (l : List Int) : Nat → Bool
  | 0 => true
  | k + 1 => isOrd l k && (decide (1 ≤ l.getD k 0) && decide (l.getD k 0 ≤ (l.length : Int))) && !hasI (l.take k) (l.getD k 0)
theorem isOrd_le {l : List Int} : ∀ {n : Nat}, isOrd l n = true → ∀ k, k ≤ n → isOrd l k = true
  | 0, h, k, hk => by have : k = 0 := by omega
                      subst this; exact h
  | n + 1, h, k, hk => by
    rcases Nat.lt_or_eq_of_le hk with hk | rfl
    · exact isOrd_le (n := n) (by simp only [isOrd, Bool.and_eq_true] at h; exact h.1.1) k (by omega)
    · exact h

set_option maxHeartbeats 800000 in
theorem newOrder_yes (a : Option Addr) (c : Nat) (l : List Int) (w : World) (hi : Ints w a l) (hl : l.length ≤ 12) (hc : l.length ≤ c) (h : isOrd l l.length = true) :
    Calls Tryz.prog 57 #[.slice a l.length c] w fun e w' => e = .returned (.tuple #[.slice a l.length c, .bool true]) ∧ w = w' := by
  have HR := hid hi
  have HO := hid h
  clear hi h
  go_enter Tryz.func57, Tryz.ntmps57
  go_wp2
  go_loop [11] (fun i => ∃ k : Nat, k ≤ l.length ∧ i = .int .i64 k) (fun i => l.length - (intOf i).toNat)
  case atStart => exact ⟨0, by omega, rfl⟩
  case round =>
    obtain ⟨k, hk, rfl⟩ := hrel
    by_cases hlt : k < l.length
    · obtain ⟨y, hx, -⟩ := list_drop_cons l k hlt
      obtain ⟨g, o, rfl, hg, hcell⟩ := HR.out.at (by omega)
      have q1 := hcell k y hx
      have hgd : l.getD k 0 = y := by simp [hx]
      have ho := isOrd_le HO.out (k + 1) (by omega)
      simp only [isOrd, hgd, Bool.and_eq_true, decide_eq_true_eq, Bool.not_eq_true'] at ho
      obtain ⟨⟨-, h1, h2⟩, h3⟩ := ho
      have HC := contains_any (some ⟨g, o, none⟩) c (l.take k) y w (HR.out.take k) (by simp; omega)
      rw [h3, show (l.take k).length = k by simp; omega] at HC
      replace HC := hid HC
      clear hcell hx hgd h3
      have d1 : decide ((k : Int) < (l.length : Int)) = true := by simpa using hlt
      go_wp2_with fail
      refine (within22_yes _ _ _ _ h1 h2).mono ?_
      rintro e w1 ⟨rfl, rfl⟩
      go_wp2_with fail
      refine HC.out.mono ?_
      rintro e w1 ⟨rfl, rfl⟩
      go_wp2
      exact ⟨⟨k + 1, by omega, by go_num⟩, by simp [intOf]; omega⟩
    · have hke : k = l.length := by omega
      subst hke
      go_wp2
      go_ret2
      exact ⟨rfl, rfl⟩

end Go.Proofs.YtkmpdcckgibkhaaGreat
