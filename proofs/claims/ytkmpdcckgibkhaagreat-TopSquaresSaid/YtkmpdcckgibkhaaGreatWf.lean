/-
  Walks: the branches of a place.
-/
import Derived.Test.YtkmpdcckgibkhaaGreatWe
namespace Go.Proofs.YtkmpdcckgibkhaaGreat
open Go.RowKit Go.ChangeMaps

set_option maxHeartbeats 2000000 in
theorem insert163 (v f : Value) (n : Nat) (hn : n ≤ 1) (w : World) : Calls Tryz.prog 163 #[v, .int .i64 0, .int .i64 n, f] w fun e w' => e = .returned (.tuple #[]) ∧ w = w' := by
  have d0 : decide ((1 : Int) < (n : Int)) = false := by simp; omega
  have d1 : decide (1 < n) = false := by simp; omega
  go_enter Tryz.func163, Tryz.ntmps163
  go_wp2_with fail
  refine wp_loop_rounds 1 ?_
  rw [rounds_succ]
  go_wp2_with fail
  go_returns
  exact ⟨rfl, rfl⟩

set_option maxHeartbeats 2000000 in
theorem stable173 (v f : Value) (n : Nat) (hn : n ≤ 1) (w : World) : Calls Tryz.prog 173 #[v, .int .i64 n, f] w fun e w' => e = .returned (.tuple #[]) ∧ w = w' := by
  have d0 : decide ((20 : Int) ≤ (n : Int)) = false := by simp; omega
  have d1 : decide ((20 : Int) < (n : Int)) = false := by simp; omega
  have d2 : decide (20 ≤ n) = false := by simp; omega
  have d3 : decide (20 < n) = false := by simp; omega
  go_enter Tryz.func173, Tryz.ntmps173
  go_wp2_with fail
  refine wp_loop_rounds 1 ?_
  rw [rounds_succ]
  go_wp2_with fail
  refine (insert163 v f n hn w).mono ?_
  rintro e w1 ⟨rfl, rfl⟩
  go_wp2_with fail
  refine wp_loop_rounds 1 ?_
  rw [rounds_succ]
  go_wp2_with fail
  go_returns
  exact ⟨rfl, rfl⟩

theorem sort161 (a : Option Addr) (c n : Nat) (f : Value) (hn : n ≤ 1) (w : World) : Calls Tryz.prog 161 #[.slice a n c, f] w fun e w' => e = .returned (.tuple #[]) ∧ w = w' := by
  go_enter Tryz.func161, Tryz.ntmps161
  go_wp2_with (go_at_call 173; refine (stable173 _ _ n hn w).mono ?_; rintro e w1 ⟨rfl, rfl⟩)
  go_returns
  exact ⟨rfl, rfl⟩

set_option maxHeartbeats 2000000 in
theorem falling156 (a : Option Addr) (c : Nat) (l : List Int) (p3 p4 : Nat) (w : World) (ha : Ints w a l) (hn : a = none → l = [] ∧ c = 0) (hl : l.length ≤ 1) : Calls Tryz.prog 156 #[.slice a l.length c, .func (.func 157) #[] #[.pointer (some ⟨p3, 0, none⟩), .pointer (some ⟨p4, 0, none⟩)]] w (RetInts l w) := by
  have hb := (Below.refl _ w).alloc (Nat.le_refl _) (.cells #[.func (.func 157) #[] #[.pointer (some ⟨p3, 0, none⟩), .pointer (some ⟨p4, 0, none⟩)]] 49)
  have C := hid (clone_any a c l (w.alloc (.cells #[.func (.func 157) #[] #[.pointer (some ⟨p3, 0, none⟩), .pointer (some ⟨p4, 0, none⟩)]] 49)) (ha.below hb (Nat.le_refl _)) hn (by omega))
  have HB := hid hb
  clear ha hb
  go_enter Tryz.func156, Tryz.ntmps156
  go_wp2_with fail
  refine C.out.mono ?_
  rintro e w1 ⟨a1, c1, rfl, hown, hb1⟩
  obtain ⟨a2, c2, he, hi⟩ := ownsRow_ints hown
  simp only [Value.slice.injEq, true_and] at he
  obtain ⟨rfl, rfl⟩ := he
  have H1 := hid (And.intro hi (HB.out.trans (hb1.mono HB.out.size)))
  clear hown hb1 hi
  go_wp2_with fail
  refine (sort161 a1 c1 l.length _ hl w1).mono ?_
  rintro e w2 ⟨rfl, rfl⟩
  go_wp2_with fail
  go_ret
  exact ⟨a1, c1, rfl, H1.out.1, H1.out.2⟩

theorem in155 (u b : Nat) (x : Int) (w : World) (hb : Blk w b #[.int .i64 x] 3) : Calls Tryz.prog 155 #[.int .i64 u, .pointer (some ⟨b, 0, none⟩)] w fun e w' => e = .returned (.bool ((u : Int) == x)) ∧ w = w' := by
  have q := hb.cell 0
  clear hb
  go_enter Tryz.func155, Tryz.ntmps155
  go_wp2_with fail
  go_ret
  exact ⟨rfl, rfl⟩

set_option maxHeartbeats 2000000 in
theorem index86_155 (g o c u b : Nat) (x : Int) (w : World) (hc : w.cell? ⟨g, o, none⟩ = some (.int .i64 u)) (hb : Blk w b #[.int .i64 x] 3) :
    Calls Tryz.prog 86 #[.slice (some ⟨g, o, none⟩) 1 c, .func (.func 155) #[] #[.pointer (some ⟨b, 0, none⟩)]] w fun e w' => e = .returned (.int .i64 (if (u : Int) = x then 0 else -1)) ∧ w = w' := by
  have C := hid (in155 u b x w hb)
  clear hb
  by_cases h : (u : Int) = x
  · have h2 : ((u : Int) == x) = true := by simpa using h
    rw [h2] at C
    rw [if_pos h]
    clear h h2
    go_enter Tryz.func86, Tryz.ntmps86
    go_wp2_with fail
    refine wp_loop_rounds 2 ?_
    rw [rounds_succ]
    go_wp2_with (go_at_call 155; refine C.out.mono ?_; rintro e w1 ⟨rfl, rfl⟩)
    go_ret
    exact ⟨rfl, rfl⟩
  · have h2 : ((u : Int) == x) = false := by simpa using h
    rw [h2] at C
    rw [if_neg h]
    clear h h2
    go_enter Tryz.func86, Tryz.ntmps86
    go_wp2_with fail
    refine wp_loop_rounds 2 ?_
    rw [rounds_succ]
    go_wp2_with (go_at_call 155; refine C.out.mono ?_; rintro e w1 ⟨rfl, rfl⟩)
    rw [rounds_succ]
    go_wp2_with fail
    go_ret
    exact ⟨rfl, rfl⟩

set_option maxHeartbeats 2000000 in
theorem delete154_no (g o c u b : Nat) (x : Int) (w : World) (hc : w.cell? ⟨g, o, none⟩ = some (.int .i64 u)) (hb : Blk w b #[.int .i64 x] 3) (hne : (u : Int) ≠ x) :
    Calls Tryz.prog 154 #[.slice (some ⟨g, o, none⟩) 1 c, .func (.func 155) #[] #[.pointer (some ⟨b, 0, none⟩)]] w fun e w' => e = .returned (.slice (some ⟨g, o, none⟩) 1 c) ∧ w = w' := by
  have C := index86_155 g o c u b x w hc hb
  rw [if_neg hne] at C
  have CH := hid C
  clear C hb hc hne
  go_enter Tryz.func154, Tryz.ntmps154
  go_wp2_with (go_at_call 86; refine CH.out.mono ?_; rintro e w1 ⟨rfl, rfl⟩)
  go_ret
  exact ⟨rfl, rfl⟩

set_option maxRecDepth 100000 in
set_option maxHeartbeats 2000000 in
theorem delete154_yes (g c b u : Nat) (x : Int) (w : World) (hc : w.cell? ⟨g, 0, none⟩ = some (.int .i64 u)) (hf : w.frozen? ⟨g, 0, none⟩ = false) (hb : Blk w b #[.int .i64 x] 3) (hne : (u : Int) = x) (h1c : 1 ≤ c) :
    Calls Tryz.prog 154 #[.slice (some ⟨g, 0, none⟩) 1 c, .func (.func 155) #[] #[.pointer (some ⟨b, 0, none⟩)]] w fun e w' => e = .returned (.slice (some ⟨g, 0, none⟩) 0 c) ∧ w' = w.setCell ⟨g, 0, none⟩ (.int .i64 0) := by
  have hcl : ∀ ty, (Builtin.clear_ #[24] ty #[.slice (some ⟨g, 0, none⟩) 1 c]).run Tryz.prog w = .ok (.tuple #[]) (w.setCell ⟨g, 0, none⟩ (.int .i64 0)) := fun ty => by
    have := Lib.run_clear_slice (P := Tryz.prog) w 24 3 ty (.int .i64 0) Tryz.underlying24 zero3 rfl rfl g 0 1 c (by omega) (fun j hj => by have hj0 : j = 0 := (by omega); subst hj0; rw [Nat.add_zero, hc]; rfl) (fun j hj => by have hj0 : j = 0 := (by omega); subst hj0; exact hf)
    exact this
  have C := index86_155 g 0 c u b x w hc hb
  rw [if_pos hne] at C
  have CH := hid C
  clear C hb hne
  go_enter Tryz.func154, Tryz.ntmps154
  go_wp2_with (go_at_call 86; refine CH.out.mono ?_; rintro e w1 ⟨rfl, rfl⟩)
  refine wp_loop_rounds 1 ?_
  rw [rounds_succ]
  go_wp2_with fail
  go_ret
  exact ⟨rfl, rfl⟩

end Go.Proofs.YtkmpdcckgibkhaaGreat
