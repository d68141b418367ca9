/-
  Walks: the reference's fair cuts of a ring.
-/
import Derived.Test.YthelnggbcgjbcaaRefB
namespace Go.Proofs.Ythelnggbcgjbcaa
open Go.RowKit

/-- Do cuts divide a ring fairly? -/
def fairRingB (l : List UInt8) : List Int → Bool
  | [] => l.isEmpty
  | c :: r => fairB (l.drop c.toNat ++ l.take c.toNat) (r.map (· - c))

theorem cutsB_ge (n : Int) : ∀ (l : List Int) (f : Int), cutsB n f l = true → ∀ x ∈ l, f ≤ x ∧ x < n := by
  intro l
  induction l with
  | nil => intro f _ x hx; simp at hx
  | cons c r ih =>
    intro f h x hx
    simp only [cutsB, Bool.and_eq_true, decide_eq_true_eq] at h
    rcases List.mem_cons.1 hx with rfl | hx
    · exact h.1
    · have := ih _ h.2 x hx; omega

theorem cutsB_sub (n : Int) : ∀ (l : List Int) (f c : Int), cutsB n f l = true → 0 ≤ c → cutsB n (f - c) (l.map (· - c)) = true := by
  intro l
  induction l with
  | nil => intro f c _ _; rfl
  | cons x r ih =>
    intro f c h hc
    simp only [cutsB, Bool.and_eq_true, decide_eq_true_eq] at h
    have := ih (x + 1) c h.2 hc
    simp only [List.map_cons, cutsB, Bool.and_eq_true, decide_eq_true_eq]
    rw [show x + 1 - c = x - c + 1 by omega] at this
    exact ⟨⟨by omega, by omega⟩, this⟩

theorem cutsB_weak (n : Int) (l : List Int) (f g : Int) (h : cutsB n f l = true) (hg : g ≤ f) : cutsB n g l = true := by
  cases l with
  | nil => rfl
  | cons x r =>
    simp only [cutsB, Bool.and_eq_true, decide_eq_true_eq] at h ⊢
    exact ⟨⟨by omega, h.1.2⟩, h.2⟩

set_option maxHeartbeats 400000 in
theorem refFairRing_any (s : ByteArray) (a : Option Addr) (c : Nat) (l : List Int) (w : World) (hs : s.size ≤ 1000) (ha : Ints w a l) (hl : l.length ≤ 1000) (hc : cutsB s.size 0 l = true) (hok : s.data.toList.all okb = true) :
    Calls Try.prog 31 #[.string s, .slice a l.length c] w fun e w' => e = .returned (.bool (fairRingB s.data.toList l)) ∧ Below w.heap.size w w' := by
  by_cases hl0 : l.length = 0
  · have hnil : l = [] := List.eq_nil_of_length_eq_zero hl0
    have h0 : ((l.length : Int) == 0) = true := by simp [hnil]
    have HL := hid hnil
    clear hnil hl0
    go_enter Try.func31, Try.ntmps31
    go_wp2
    go_ret
    exact ⟨ret_bool (by rw [HL.out]; unfold fairRingB; rw [Bool.eq_iff_iff, List.isEmpty_iff, ← List.length_eq_zero_iff, bytes_len]; simp), Below.refl _ _⟩
  · have h0 : ((l.length : Int) == 0) = false := beq_eq_false_iff_ne.2 (by omega)
    obtain ⟨x, r, hxr⟩ : ∃ x r, l = x :: r := by cases l with | nil => exact absurd rfl hl0 | cons x r => exact ⟨x, r, rfl⟩
    obtain ⟨g, o, rfl, hg, hcell⟩ := ha.at (by omega)
    have q0 : w.cell? ⟨g, o, none⟩ = some (.int .i64 x) := hcell 0 x (by rw [hxr]; rfl)
    have hx := cutsB_ge _ _ _ hc x (by rw [hxr]; simp)
    obtain ⟨xn, rfl⟩ := Int.eq_ofNat_of_zero_le hx.1
    have hlen : l.length = r.length + 1 := by rw [hxr]; rfl
    have HL := hid hxr
    have HN := hid hlen
    have hc2 : cutsB s.size 0 (r.map (· - (xn : Int))) = true := by
      rw [hxr] at hc; simp only [cutsB, Bool.and_eq_true, decide_eq_true_eq] at hc
      exact cutsB_weak _ _ _ _ (cutsB_sub _ _ _ xn hc.2 (by omega)) (by omega)
    have hxs : xn ≤ s.size := by omega
    have hpos : 0 < l.length := by omega
    clear hxr hlen h0 hl0
    have h0 : ((l.length : Int) == 0) = false := beq_eq_false_iff_ne.2 (by have := HN.out; omega)
    go_enter Try.func31, Try.ntmps31
    go_wp2
    go_loopw [6, 7] (fun v i wr => ∃ (k : Nat) (L : List Int), k ≤ r.length ∧ i = .int .i64 (k + 1) ∧ Below w.heap.size w wr ∧ wr.ownsRow w.heap.size 3 1 v L.length (L.map (Value.int .i64)) ∧ Hid (L = (r.map (· - (xn : Int))).take k)) (fun _ i _ => l.length - (intOf i).toNat)
    case atStart => exact ⟨0, [], by omega, rfl, Below.refl _ _, World.ownsRow_nil _ _ _ _, rfl⟩
    case round =>
      obtain ⟨k, L, hk, rfl, hB, hown, HM⟩ := hrel
      have hLk : L.length = k := by rw [HM.out]; simp; omega
      have HLk := hid hLk
      have hLb : L.length ≤ 1000 := by have := HN.out; omega
      clear hLk
      obtain ⟨av, cv, rfl, hr⟩ := ownsRow_ints hown
      by_cases hlt : k < r.length
      · obtain ⟨y, hy⟩ : ∃ y, r[k]? = some y := ⟨_, List.getElem?_eq_getElem hlt⟩
        have q1 := (hB.cell (p := ⟨g, o + (k + 1), none⟩) hg).trans (hcell (k + 1) y (by rw [HL.out]; simpa using hy))
        have hlt2 : k + 1 < l.length := by have := HN.out; omega
        have hyb := cutsB_ge _ _ _ hc y (by rw [HL.out]; exact List.mem_cons_of_mem _ (List.mem_of_getElem? hy))
        have HY := hid hy
        clear hy hcell
        go_wp2_with (at_builtin; go_must (refine wpList_app _ rfl (.tmp 23) (.tmp 30) 23 rfl w.heap.size 3 (.int .i64 0) 8 Try.underlying23 Try.info3 rfl _ L.length _ rfl (hown.alloc _) (some ⟨wr.heap.size, 0, none⟩) 1 1 [.int .i64 (y - xn)] rfl rfl (vals_new _ _ _ _ rfl) (fun h => by cases h) (by simp [Value.oneCell']) (by omega) (by omega) (by have := hB.size; simp; omega) ?_))
        intro v' w1 hown' hgrow _
        obtain ⟨a', c', rfl, hr'⟩ := ownsRow_ints (l := L ++ [y - xn]) (by simpa using hown')
        have hB' := below_app (hB.alloc hB.size (.cells #[.int .i64 (y - xn)] 3)) hgrow (hown.alloc _) (by have := hB.size; simp; omega) (Nat.le_refl _)
        go_wp2
        go_roundw
        case rel => exact ⟨k + 1, L ++ [y - xn], by omega, by go_num, hB', by simpa using hown', by rw [Hid, HM.out, List.take_add_one]; simp [HY.out]⟩
        case measure => simp [intOf]; omega
      · have hM : L = r.map (· - (xn : Int)) := by rw [HM.out, List.take_of_length_le (by simp; omega)]
        have hk2 : ¬ k + 1 < l.length := by have := HN.out; omega
        have hcL : cutsB (mkS (s.data.toList.drop xn ++ s.data.toList.take xn)).size 0 L = true := by
          rw [hM, mkS_size, List.length_append, List.length_drop, List.length_take, bytes_len, show ((s.size - xn + min xn s.size : Nat) : Int) = s.size by omega]; exact hc2
        have hokL : (mkS (s.data.toList.drop xn ++ s.data.toList.take xn)).data.toList.all okb = true := by
          rw [List.all_eq_true] at hok ⊢
          intro x hx
          rw [mkS_data] at hx
          rcases List.mem_append.1 hx with hx | hx
          · exact hok x (List.mem_of_mem_drop hx)
          · exact hok x (List.mem_of_mem_take hx)
        have hsz : (mkS (s.data.toList.drop xn ++ s.data.toList.take xn)).size ≤ 1000 := by rw [mkS_size, List.length_append, List.length_drop, List.length_take, bytes_len]; omega
        have hstr : s.extract xn s.size ++ s.extract 0 xn = mkS (s.data.toList.drop xn ++ s.data.toList.take xn) := mkS_eq _ _ (by rw [data_append, data_extract, data_extract, List.drop_zero, Nat.sub_zero, List.take_of_length_le (l := s.data.toList.drop xn) (by rw [List.length_drop, bytes_len]; omega)])
        have hfin : fairRingB s.data.toList l = fairB (mkS (s.data.toList.drop xn ++ s.data.toList.take xn)).data.toList L := by rw [HL.out, hM]; rfl
        have HF := fun W (hi : Ints W av L) => hid (refFair_any (mkS (s.data.toList.drop xn ++ s.data.toList.take xn)) av cv L W hsz hi hLb hcL hokL)
        have HS := hid hstr
        have HX := hid hfin
        have hb1 : (s.extract xn s.size).size + (s.extract 0 xn).size ≤ 9223372036854775807 := by simp; omega
        clear hcL hokL hsz hstr hfin hM
        go_wp2
        go_region_with (go_at_call 27; rw [HS.out]; refine ((HF wr.drew hr).out).mono ?_; rintro e w1 ⟨rfl, hb2⟩)
        all_goals go_wp2
        all_goals go_ret
        all_goals exact ⟨ret_bool (by rw [HX.out]), hB.drew.trans (hb2.mono hB.size)⟩

end Go.Proofs.Ythelnggbcgjbcaa
