/-
  Walks: equal lists, remainders; the simple results of stages 4 and 7.
-/
import Derived.Test.YtkmpdcckgibkhaaGreatQM
import Derived.Test.YtkmpdcckgibkhaaGreatSM
import Derived.Test.YtkmpdcckgibkhaaGreatI
namespace Go.Proofs.YtkmpdcckgibkhaaGreat
open Go.RowKit

set_option maxHeartbeats 400000 in
theorem ints10 (a b : Option Addr) (c d : Nat) (l m : List Int) (w : World) (ha : Ints w a l) (hb : Ints w b m) (hl : l.length ≤ 9223372036854775807) (_hm : m.length ≤ 9223372036854775807) :
    Calls Tryz.prog 10 #[.slice a l.length c, .slice b m.length d] w fun e w' => e = .returned (.bool (l == m)) ∧ Below w.heap.size w w' := by
  by_cases hlen : l.length = m.length
  · have h0 : (((l.length : Nat) : Int) != ((m.length : Nat) : Int)) = false := by simp [hlen]
    have HL := hid hlen; clear hlen
    go_enter Tryz.func10, Tryz.ntmps10
    go_wp2
    go_loopw [5] (fun i wr => ∃ k : Nat, k ≤ l.length ∧ i = .int .i64 k ∧ Below w.heap.size w wr ∧ Hid ((l == m) = (l.drop k == m.drop k))) (fun i _ => l.length - (intOf i).toNat)
    case atStart => exact ⟨0, Nat.zero_le _, rfl, Below.refl _ _, rfl⟩
    case round =>
      obtain ⟨k, hk, rfl, hB, H⟩ := hrel
      by_cases hlt : k < l.length
      · obtain ⟨x, hx, hx2⟩ := list_drop_cons l k hlt
        obtain ⟨y, hy, hy2⟩ := list_drop_cons m k (by have := HL.out; omega)
        obtain ⟨g, o, rfl, hg, hc⟩ := ha.at (by omega)
        obtain ⟨g2, o2, rfl, hg2, hc2⟩ := hb.at (by have := HL.out; omega)
        have q1 := (hB.cell (p := ⟨g, o + k, none⟩) hg).trans (hc k x hx)
        have q2 := (hB.cell (p := ⟨g2, o2 + k, none⟩) hg2).trans (hc2 k y hy)
        have hlt2 : k < m.length := by have := HL.out; omega
        have X2 := hid hx2; have Y2 := hid hy2
        clear hx hy hx2 hy2 hc hc2
        go_wp2
        go_quiet (fail)
        go_wp2
        · go_ret
          have hxy : (x == y) = false := by simpa [bne] using ‹(x != y) = true›
          exact ⟨ret_bool (by rw [H.out, X2.out, Y2.out]; simp [hxy]), below_drewN hB _⟩
        · have hxy : (x == y) = true := by simpa [bne] using ‹(x != y) = false›
          exact ⟨⟨k + 1, by omega, by go_num, below_drewN hB _, by rw [Hid, H.out, X2.out, Y2.out]; simp [hxy]⟩, by simp [intOf]; omega⟩
      · go_wp2
        go_ret
        exact ⟨ret_bool (by rw [H.out, List.drop_eq_nil_of_le (by omega), List.drop_eq_nil_of_le (by have := HL.out; omega)]; rfl), hB⟩
  · have h0 : (((l.length : Nat) : Int) != ((m.length : Nat) : Int)) = true := by simp; omega
    have hne : (l == m) = false := by rw [beq_eq_false_iff_ne]; intro e; exact hlen (by rw [e])
    have HN := hid hne; clear hne hlen
    go_enter Tryz.func10, Tryz.ntmps10
    go_wp2
    go_ret
    exact ⟨ret_bool HN.out.symm, Below.refl _ _⟩


set_option maxHeartbeats 400000 in
theorem mod7 (a b : Int) (w : World) (h : 0 < b) (hb : b ≤ 1000) (ha : -9223372036854775808 ≤ a ∧ a ≤ 9223372036854775807) :
    Calls Tryz.prog 7 #[.int .i64 a, .int .i64 b] w fun e w' => e = .returned (.int .i64 ((a % 18446744073709551616) % b)) ∧ w = w' := by
  have H := hid (mod_eq a b h hb ha)
  have hz : ¬ IntKind.u64.wrap b = 0 := by rw [IntWalk.u64_in _ (by omega)]; omega
  go_enter Tryz.func7, Tryz.ntmps7
  go_wp2
  go_ret
  exact ⟨ret_int (by have := H.out; rw [show IntKind.u64.wrap b = b from IntWalk.u64_in _ (by omega)] at this; exact this), rfl⟩

end Go.Proofs.YtkmpdcckgibkhaaGreat
