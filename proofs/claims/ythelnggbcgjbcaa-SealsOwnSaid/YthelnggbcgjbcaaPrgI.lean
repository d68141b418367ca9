/-
  Walks: a ring opened.
-/
import Derived.Test.YthelnggbcgjbcaaPrgH
namespace Go.Proofs.Ythelnggbcgjbcaa
open Go.RowKit

/-- What opened returns. -/
def RetOpen (l : List UInt8) (cuts : List Int) (w : World) (e : Ending) (w' : World) : Prop := ∃ a c, e = .returned (.tuple #[.string (mkS (openL l cuts)), .slice a (openC cuts).length c]) ∧ Ints w' a (openC cuts) ∧ (a = none → c = 0) ∧ (openC cuts).length ≤ c ∧ Below w.heap.size w w'

set_option maxHeartbeats 1000000 in
theorem opened_any (s : ByteArray) (a : Option Addr) (c : Nat) (l : List Int) (w : World) (hs : s.size ≤ 1000) (ha : Ints w a l) (hlc : l.length ≤ c) (hcn : a = none → c = 0) (hl : l.length ≤ 900) (hc : cutsB s.size 0 l = true) :
    Calls Try.prog 50 #[.string s, .slice a l.length c] w (RetOpen s.data.toList l w) := by
  by_cases hl0 : l.length = 0
  · have hnil : l = [] := List.eq_nil_of_length_eq_zero hl0
    have h0 : ((l.length : Int) == 0) = true := by simp [hnil]
    have HL := hid hnil
    clear hnil hl0
    go_enter Try.func50, Try.ntmps50
    go_wp2
    go_ret2
    rw [HL.out]
    exact ⟨none, 0, rfl, Ints.nil _ _, fun _ => rfl, Nat.le_refl _, Below.refl _ _⟩
  · have h0 : ((l.length : Int) == 0) = false := beq_eq_false_iff_ne.2 (by omega)
    obtain ⟨x, r, hxr⟩ : ∃ x r, l = x :: r := by cases l with | nil => exact absurd rfl hl0 | cons x r => exact ⟨x, r, rfl⟩
    obtain ⟨g, o, rfl, hg, hcell⟩ := ha.at (by omega)
    have q0 : w.cell? ⟨g, o, none⟩ = some (.int .i64 x) := hcell 0 x (by rw [hxr]; rfl)
    have hx := cutsB_ge _ _ _ hc x (by rw [hxr]; simp)
    obtain ⟨xn, rfl⟩ := Int.eq_ofNat_of_zero_le hx.1
    have hlen : l.length = r.length + 1 := by rw [hxr]; rfl
    have HL := hid hxr
    have HN := hid hlen
    have hxs : xn ≤ s.size := by omega
    have hpos : 0 < l.length := by omega
    have hc1 : 1 ≤ l.length := by omega
    have hcc : 1 ≤ c := by omega
    clear hxr hlen h0 hl0
    have h0 : ((l.length : Int) == 0) = false := beq_eq_false_iff_ne.2 (by have := HN.out; omega)
    have hlr : l.length - 1 = r.length := by have := HN.out; omega
    go_enter Try.func50, Try.ntmps50
    go_wp2_with fail
    · have hr0 : r = [] := by have := HN.out; exact List.eq_nil_of_length_eq_zero (by omega)
      have hrl : r.length = 0 := by rw [hr0]; rfl
      have HR0 := hid hr0
      clear hr0 hlr
      go_loop [6, 16] (fun v i => v = .slice none 0 0 ∧ i = .int .i64 0) (fun _ _ => 0)
      case atStart => exact ⟨rfl, rfl⟩
      case round =>
        obtain ⟨rfl, rfl⟩ := hrel
        have hM : ([] : List Int) = openC l := by rw [HL.out, HR0.out]; rfl
        have hstr : s.extract xn s.size ++ s.extract 0 xn = mkS (openL s.data.toList l) := mkS_eq _ _ (by rw [HL.out, data_append, data_extract, data_extract, List.drop_zero, Nat.sub_zero, List.take_of_length_le (l := s.data.toList.drop xn) (by rw [List.length_drop, bytes_len]; omega)]; rfl)
        have HS := hid hstr
        have HX := hid hM
        have hb1 : (s.extract xn s.size).size + (s.extract 0 xn).size ≤ 9223372036854775807 := by simp; omega
        clear hM hstr
        go_wp2
        go_quiet (fail)
        go_wp2
        go_ret2
        rw [HS.out]
        exact ⟨none, 0, by rw [← HX.out]; rfl, by rw [← HX.out]; exact Ints.nil _ _, fun _ => rfl, by rw [← HX.out]; exact Nat.le_refl _, below_drewN (Below.refl _ w) _⟩
    go_loopw [6, 16] (fun v i wr => ∃ (k : Nat) (L : List Int), k ≤ r.length ∧ i = .int .i64 k ∧ Below w.heap.size w wr ∧ wr.ownsRow w.heap.size 3 1 v L.length (L.map (Value.int .i64)) ∧ Hid (L = (r.map (· - (xn : Int))).take k)) (fun _ i _ => r.length - (intOf i).toNat)
    case atStart => exact ⟨0, [], by omega, rfl, Below.refl _ _, World.ownsRow_nil _ _ _ _, rfl⟩
    case round =>
      obtain ⟨k, L, hk, rfl, hB, hown, HM⟩ := hrel
      have hLk : L.length = k := by rw [HM.out]; simp; omega
      have HLk := hid hLk
      have hLb : L.length ≤ 1000 := by have := HN.out; omega
      clear hLk
      obtain ⟨av, cv, rfl, hr⟩ := ownsRow_ints hown
      have q0' := (hB.cell (p := ⟨g, o, none⟩) hg).trans q0
      have hof := ownsRow_facts hown
      have t1 : decide ((k : Int) < (r.length : Int)) = decide (k < r.length) := by rw [decide_eq_decide]; omega
      by_cases hlt : k < r.length
      · obtain ⟨y, hy⟩ : ∃ y, r[k]? = some y := ⟨_, List.getElem?_eq_getElem hlt⟩
        have t2 : decide (k < r.length) = true := by simpa using hlt
        have q1 : wr.cell? ⟨g, o + 1 + k, none⟩ = some (.int .i64 y) := by
          rw [hB.cell (p := ⟨g, o + 1 + k, none⟩) hg, Nat.add_assoc o 1 k, Nat.add_comm 1 k]
          exact hcell (k + 1) y (by rw [HL.out]; simpa using hy)
        have hyb := cutsB_ge _ _ _ hc y (by rw [HL.out]; exact List.mem_cons_of_mem _ (List.mem_of_getElem? hy))
        have HY := hid hy
        clear hy hcell
        go_wp2_with (at_builtin; go_must (refine wpList_app _ rfl (.tmp 20) (.tmp 26) 23 rfl w.heap.size 3 (.int .i64 0) 8 Try.underlying23 Try.info3 rfl _ L.length _ rfl (hown.alloc _) (some ⟨wr.heap.size, 0, none⟩) 1 1 [.int .i64 (y - xn)] rfl rfl (vals_new _ _ _ _ rfl) (fun h => by cases h) (by simp [Value.oneCell']) (by omega) (by omega) (by have := hB.size; simp; omega) ?_))
        intro v' w1 hown' hgrow _
        obtain ⟨a', c', rfl, hr'⟩ := ownsRow_ints (l := L ++ [y - xn]) (by simpa using hown')
        have hB' := below_app (hB.alloc hB.size (.cells #[.int .i64 (y - xn)] 3)) hgrow (hown.alloc _) (by have := hB.size; simp; omega) (Nat.le_refl _)
        go_wp2
        go_roundw
        case rel => exact ⟨k + 1, L ++ [y - xn], by omega, by go_num, hB', by simpa using hown', by rw [Hid, HM.out, List.take_add_one]; simp [HY.out]⟩
        case measure => simp [intOf]; omega
      · have t2 : decide (k < r.length) = false := by simpa using hlt
        have hM : L = openC l := by rw [HM.out, List.take_of_length_le (by simp; omega), HL.out]; rfl
        have hstr : s.extract xn s.size ++ s.extract 0 xn = mkS (openL s.data.toList l) := mkS_eq _ _ (by rw [HL.out, data_append, data_extract, data_extract, List.drop_zero, Nat.sub_zero, List.take_of_length_le (l := s.data.toList.drop xn) (by rw [List.length_drop, bytes_len]; omega)]; rfl)
        have HS := hid hstr
        have HX := hid hM
        have hb1 : (s.extract xn s.size).size + (s.extract 0 xn).size ≤ 9223372036854775807 := by simp; omega
        clear hM hstr
        go_wp2
        go_quiet (fail)
        go_wp2
        go_ret2
        rw [HS.out]
        exact ⟨av, cv, by rw [← HX.out]; rfl, by rw [← HX.out]; exact hr, hof.2.2, by rw [← HX.out]; exact hof.2.1, below_drewN hB _⟩
end Go.Proofs.Ythelnggbcgjbcaa
