/-
  Contracts of the package marks, turned from the texts of the laws of marks (periods, exponents).
-/
import Derived.Test.YtkmpdcckgibkhaaGreatXb
namespace Go.Proofs.YtkmpdcckgibkhaaGreat.Mk
open Go.RowKit
/-- The beginning of k letters is an end of the first n letters, too, but not all of them. -/
def IsB (l : List UInt8) (n k : Nat) : Prop := k < n ∧ ∀ i, i < k → l[n - k + i]? = l[i]?
instance (l : List UInt8) (n k : Nat) : Decidable (IsB l n k) := by unfold IsB; exact inferInstance
theorem IsB.zero {l : List UInt8} {n : Nat} (h : 0 < n) : IsB l n 0 := ⟨h, fun _ h => absurd h (Nat.not_lt_zero _)⟩
theorem IsB.succ {l : List UInt8} {m j : Nat} : IsB l (m + 1) (j + 1) ↔ IsB l m j ∧ l[m]? = l[j]? := by
  constructor
  · intro ⟨h1, h2⟩
    refine ⟨⟨by omega, fun i hi => ?_⟩, ?_⟩
    · have := h2 i (by omega)
      rwa [show m + 1 - (j + 1) + i = m - j + i by omega] at this
    · have := h2 j (by omega)
      rwa [show m + 1 - (j + 1) + j = m by omega] at this
  · intro ⟨⟨h1, h2⟩, h3⟩
    refine ⟨by omega, fun i hi => ?_⟩
    by_cases hij : i < j
    · rw [show m + 1 - (j + 1) + i = m - j + i by omega]; exact h2 i hij
    · rw [show i = j by omega, show m + 1 - (j + 1) + j = m by omega]; exact h3
theorem IsB.inner {l : List UInt8} {m j k : Nat} (hk : IsB l m k) (hj : IsB l m j) (h : j < k) : IsB l k j := by
  refine ⟨h, fun i hi => ?_⟩
  have h1 := hk.2 (k - j + i) (by omega)
  have h2 := hj.2 i hi
  have := hk.1
  rw [show m - k + (k - j + i) = m - j + i by omega] at h1
  rw [← h1, h2]
theorem IsB.outer {l : List UInt8} {m j k : Nat} (hk : IsB l m k) (hj : IsB l k j) : IsB l m j := by
  have h1 := hk.1
  have h2 := hj.1
  refine ⟨by omega, fun i hi => ?_⟩
  have h3 := hk.2 (k - j + i) (by omega)
  rw [show m - k + (k - j + i) = m - j + i by omega] at h3
  rw [h3, hj.2 i hi]
def brdD (l : List UInt8) (n : Nat) : Nat → Nat
  | 0 => 0
  | k + 1 => if IsB l n (k + 1) then k + 1 else brdD l n k
/-- The longest border of the first n letters. -/
def brd (l : List UInt8) (n : Nat) : Nat := brdD l n (n - 1)
theorem brdD_is (l : List UInt8) (n k : Nat) (h : 0 < n) : IsB l n (brdD l n k) := by
  induction k with
  | zero => exact IsB.zero h
  | succ k ih => rw [brdD]; split
                 · assumption
                 · exact ih
theorem brdD_max (l : List UInt8) (n k j : Nat) (hj : IsB l n j) (hk : j ≤ k) : j ≤ brdD l n k := by
  induction k with
  | zero => omega
  | succ k ih =>
    rw [brdD]; split
    · omega
    · rename_i h
      by_cases hjk : j = k + 1
      · subst hjk; exact absurd hj h
      · exact ih (by omega)
theorem brd_is (l : List UInt8) (n : Nat) (h : 0 < n) : IsB l n (brd l n) := brdD_is l n _ h
theorem brd_max (l : List UInt8) (n j : Nat) (hj : IsB l n j) : j ≤ brd l n := brdD_max l n _ j hj (by have := hj.1; omega)
theorem brd_lt (l : List UInt8) (n : Nat) (h : 0 < n) : brd l n < n := (brd_is l n h).1
theorem brd_eq (l : List UInt8) (n k : Nat) (hk : IsB l n k) (hmax : ∀ j, IsB l n j → j ≤ k) : brd l n = k :=
  Nat.le_antisymm (hmax _ (brd_is l n (by have := hk.1; omega))) (brd_max l n k hk)
/-- What the inner loop of the border search keeps: k is a border of the first m letters, and no border of one letter more is longer than k + 1. -/
def Cand (l : List UInt8) (m k : Nat) : Prop := IsB l m k ∧ ∀ j, IsB l (m + 1) j → j ≤ k + 1
theorem Cand.start (l : List UInt8) (m : Nat) (h : 0 < m) : Cand l m (brd l m) := by
  refine ⟨brd_is l m h, fun j hj => ?_⟩
  cases j with
  | zero => omega
  | succ j => have := brd_max l m j (IsB.succ.1 hj).1; omega
theorem Cand.next {l : List UInt8} {m k : Nat} (h : Cand l m k) (hk : 0 < k) (hne : l[k]? ≠ l[m]?) : Cand l m (brd l k) := by
  refine ⟨h.1.outer (brd_is l k hk), fun j hj => ?_⟩
  cases j with
  | zero => omega
  | succ j =>
    obtain ⟨h1, h2⟩ := IsB.succ.1 hj
    have h3 := h.2 _ hj
    have h4 : j ≠ k := fun e => hne (by rw [← e, h2])
    have := brd_max l k j (h.1.inner h1 (by omega))
    omega
theorem Cand.hit {l : List UInt8} {m k : Nat} (h : Cand l m k) (he : l[k]? = l[m]?) : brd l (m + 1) = k + 1 :=
  brd_eq _ _ _ (IsB.succ.2 ⟨h.1, he.symm⟩) h.2
theorem Cand.miss {l : List UInt8} {m k : Nat} (h : Cand l m k) (h0 : k = 0) (hne : l[k]? ≠ l[m]?) : brd l (m + 1) = 0 := by
  refine brd_eq _ _ _ (IsB.zero (by omega)) fun j hj => ?_
  cases j with
  | zero => omega
  | succ j =>
    have h3 := h.2 _ hj
    exact absurd (by rw [show k = j by omega]; exact (IsB.succ.1 hj).2.symm) hne
/-- p is a period of the first n letters. -/
def IsP (l : List UInt8) (n p : Nat) : Prop := 1 ≤ p ∧ p ≤ n ∧ ∀ i, p + i < n → l[p + i]? = l[i]?
theorem isP_iff (l : List UInt8) (n p : Nat) (hn : p ≤ n) : IsP l n p ↔ IsB l n (n - p) := by
  constructor
  · intro ⟨h1, h2, h3⟩
    refine ⟨by omega, fun i hi => ?_⟩
    rw [show n - (n - p) = p by omega]
    exact h3 i (by omega)
  · intro ⟨h1, h2⟩
    refine ⟨by omega, hn, fun i hi => ?_⟩
    have := h2 i (by omega)
    rwa [show n - (n - p) = p by omega] at this
/-- The smallest period of the first n letters. -/
def per (l : List UInt8) (n : Nat) : Nat := n - brd l n
theorem per_is (l : List UInt8) (n : Nat) (h : 0 < n) : IsP l n (per l n) := by
  have := brd_lt l n h
  rw [isP_iff _ _ _ (by unfold per; omega), per, show n - (n - brd l n) = brd l n by omega]
  exact brd_is l n h
theorem per_pos (l : List UInt8) (n : Nat) (h : 0 < n) : 1 ≤ per l n := (per_is l n h).1
theorem per_le (l : List UInt8) (n : Nat) : per l n ≤ n := Nat.sub_le _ _
theorem Tryz.info3 : (Tryz.prog.info? 3).map (fun i => (i.zero, i.size, i.bytes)) = some (some (.int .i64 0), 1, 8) := by kernel_rfl
def perI (l : List UInt8) (n : Nat) : Int := (per l n : Int)
def RetLeast (l : List UInt8) (w : World) (e : Ending) (w' : World) : Prop :=
  ∃ b, e = .returned (.slice (some ⟨b, 0, none⟩) (l.length + 1) (l.length + 1)) ∧ w.heap.size ≤ b ∧ Blk w' b (rowA (perI l) (l.length + 1)) 3 ∧ Below w.heap.size w w'
def upTo (f : Nat → Nat) (n : Nat) : Nat → Int := fun i => if i < n then (f i : Int) else 0
theorem byte_opt (s : ByteArray) (k : Nat) (h : k < s.size) : s.data.toList[k]? = some s[k] := List.getElem?_eq_getElem (l := s.data.toList) h
theorem upTo_one (f : Nat → Nat) (h : f 0 = 0) (i : Nat) : upTo f 1 i = 0 := by
  unfold upTo
  split
  · rw [show i = 0 by omega, h]; rfl
  · rfl
theorem upTo_two (l : List UInt8) (i : Nat) : upTo (brd l) (1 + 1) i = 0 := by
  unfold upTo
  split
  · rcases (show i = 0 ∨ i = 1 by omega) with h | h <;> rw [h] <;> rfl
  · rfl
theorem upTo_put (f : Nat → Nat) (n : Nat) (x : Int) (hx : x = f n) : ∀ i, upTo f (n + 1) i = if i = n then x else upTo f n i := by
  intro i
  unfold upTo
  by_cases h1 : i = n
  · rw [if_pos (by omega), if_pos h1, h1, hx]
  · rw [if_neg h1]
    by_cases h2 : i < n
    · rw [if_pos (by omega), if_pos h2]
    · rw [if_neg (by omega), if_neg h2]
set_option maxHeartbeats 4000000 in
theorem least_any (s : ByteArray) (w : World) (hs : s.size ≤ 1000) :
    Calls Tryz.prog 48 #[.string s] w (RetLeast s.data.toList w) := by
  have hmk := fun W => run_make_row' (P := Tryz.prog) 24 3 (.int .i64 0) 8 Tryz.underlying24 Tryz.info3 rfl .i64 .i64 (s.size + 1) (by omega) (by omega) W
  have hlen : ((s.size : Int) + 1) = ((s.size + 1 : Nat) : Int) := by omega
  have hmk2 : ∀ W : World, (Instr.makeSlice 24 (.int .i64 ((s.size : Int) + 1)) (.int .i64 ((s.size : Int) + 1))).run Tryz.prog W = .ok (.slice (some ⟨W.heap.size, 0, none⟩) (s.size + 1) (s.size + 1)) (W.alloc (.cells (rowA (fun _ => 0) (s.size + 1)) 3)) := by
    intro W; rw [hlen, hmk W, rowA_made]
  clear hmk hlen
  go_enter Tryz.func48, Tryz.ntmps48
  go_wp2_with fail
  obtain ⟨w1, hW⟩ : ∃ w1, w1 = (w.alloc (.cells (rowA (fun _ => 0) (s.size + 1)) 3)).alloc (.cells (rowA (fun _ => 0) (s.size + 1)) 3) := ⟨_, rfl⟩
  have hb1 : Below w.heap.size w w1 := by rw [hW]; exact ((Below.refl _ w).alloc (Nat.le_refl _) _).alloc (by simp) _
  have hA : Blk w1 w.heap.size (rowA (upTo (brd s.data.toList) 1) (s.size + 1)) 3 := by
    have h0 := Blk.new w (rowA (fun _ => 0) (s.size + 1)) 3
    have := h0.alloc (.cells (rowA (fun _ => 0) (s.size + 1)) 3)
    rw [← hW, rowA_congr (f := fun _ => 0) (g := upTo (brd s.data.toList) 1) (fun i _ => (upTo_one _ rfl i).symm)] at this
    exact this
  have hC : Blk w1 (w.heap.size + 1) (rowA (upTo (per s.data.toList) 1) (s.size + 1)) 3 := by
    rw [hW]
    exact Blk.mk' (by simp) (rowA_congr fun i _ => (upTo_one _ rfl i).symm)
  have hsz : (w.alloc (.cells (rowA (fun _ => 0) (s.size + 1)) 3)).heap.size = w.heap.size + 1 := by simp
  try rw [hsz]
  rw [← hW]
  clear hW hsz hmk2
  go_loopw [5] (fun i wr => ∃ n : Nat, 1 ≤ n ∧ n ≤ s.size + 1 ∧ i = .int .i64 n ∧ Below w.heap.size w wr ∧ Blk wr w.heap.size (rowA (upTo (brd s.data.toList) n) (s.size + 1)) 3 ∧ Blk wr (w.heap.size + 1) (rowA (upTo (per s.data.toList) n) (s.size + 1)) 3) (fun i _ => s.size + 1 - (intOf i).toNat)
  case atStart => exact ⟨1, by omega, by omega, rfl, hb1, hA, hC⟩
  case round =>
    obtain ⟨n, hn1, hn, rfl, hb, hA, hC⟩ := hrel
    by_cases hlt : n ≤ s.size
    · by_cases h1 : 1 < n
      · have q1 := hA.rowAt (n - 1) (by omega)
        rw [show upTo (brd s.data.toList) n (n - 1) = (brd s.data.toList (n - 1) : Int) from if_pos (by omega)] at q1
        have hst := hid (Cand.start s.data.toList (n - 1) (by omega))
        have hbl := brd_lt s.data.toList (n - 1) (by omega)
        have hgt : decide ((n : Int) > 1) = true := by simp; omega
        go_wp2_with fail
        go_loopw [6] (fun i wx => ∃ k : Nat, k < n - 1 ∧ i = .int .i64 k ∧ Below w.heap.size w wx ∧ Blk wx w.heap.size (rowA (upTo (brd s.data.toList) n) (s.size + 1)) 3 ∧ Blk wx (w.heap.size + 1) (rowA (upTo (per s.data.toList) n) (s.size + 1)) 3 ∧ Hid (Cand s.data.toList (n - 1) k)) (fun i _ => (intOf i).toNat)
        case atStart => exact ⟨_, hbl, rfl, hb, hA, hC, hst⟩
        case round =>
          obtain ⟨k, hk, rfl, hb2, hA2, hC2, HK⟩ := hrel
          clear hst hbl q1
          have hks : k < s.size := by omega
          have hns : n - 1 < s.size := by omega
          have hwr : IntKind.i64.wrap ((n : Int) - 1) = ((n - 1 : Nat) : Int) := by
            rw [show ((n : Int) - 1) = ((n - 1 : Nat) : Int) by omega]; exact IntWalk.i64_in _ (by omega)
          have q3 := hA2.rowAt n (by omega)
          have q4 := hC2.rowAt n (by omega)
          have q5 := hA2.free n
          have q6 := hC2.free n
          by_cases he : s[k]'hks = s[n - 1]'hns
          · have heq : (((s[k]'hks).toNat : Int) == ((s[n - 1]'hns).toNat : Int)) = true := by rw [he]; simp
            have hne : (((s[k]'hks).toNat : Int) != ((s[n - 1]'hns).toNat : Int)) = false := by rw [he]; simp
            have HB := hid (HK.out.hit (by rw [byte_opt s k (by omega), byte_opt s (n - 1) (by omega), he]))
            rw [show n - 1 + 1 = n by omega] at HB
            clear he HK
            by_cases hk0 : k = 0
            · have hpos : ¬ 0 < k := by omega
              have hgt : decide ((k : Int) > 0) = false := by simp; omega
              have hgt2 : decide (0 < k) = false := by simp; omega
              have HK0 := hid hk0
              clear hk0
              go_wp2
              go_quiet (fail)
              go_wp2
              go_quiet (fail)
              go_wp2
              refine ⟨⟨n + 1, by omega, by omega, by go_num, ((below_drewN hb2 _).setCell (Nat.le_refl _) _).setCell (by simp) _, ?_, ?_⟩, by simp [intOf]; omega⟩
              · refine Blk.other ?_ _ (by simp) _
                exact Blk.rowPut (f := upTo (brd s.data.toList) n) hA2 n _ fun i _ => upTo_put _ _ _ (by rw [HB.out]; simp; try omega) i
              · refine Blk.rowPut (f := upTo (per s.data.toList) n) (Blk.other hC2 _ (by simp) _) n _ fun i _ => upTo_put _ _ _ (by unfold per; rw [HB.out]; omega) i
            · have hgt : decide ((k : Int) > 0) = true := by simp; omega
              have hpos : 0 < k := by omega
              go_wp2
              go_quiet (fail)
              go_wp2
              go_quiet (fail)
              go_wp2
              refine ⟨⟨n + 1, by omega, by omega, by go_num, ((below_drewN hb2 _).setCell (Nat.le_refl _) _).setCell (by simp) _, ?_, ?_⟩, by simp [intOf]; omega⟩
              · refine Blk.other ?_ _ (by simp) _
                exact Blk.rowPut (f := upTo (brd s.data.toList) n) hA2 n _ fun i _ => upTo_put _ _ _ (by rw [HB.out]; simp; try omega) i
              · refine Blk.rowPut (f := upTo (per s.data.toList) n) (Blk.other hC2 _ (by simp) _) n _ fun i _ => upTo_put _ _ _ (by unfold per; rw [HB.out]; omega) i
          · by_cases hk0 : k = 0
            · have hpos : ¬ 0 < k := by omega
              have hgt : decide ((k : Int) > 0) = false := by simp; omega
              have hgt2 : decide (0 < k) = false := by simp; omega
              have heq : (((s[k]'hks).toNat : Int) == ((s[n - 1]'hns).toNat : Int)) = false := by
                simp only [beq_eq_false_iff_ne]; intro h; exact he (UInt8.toNat_inj.1 (by omega))
              have HB := hid (HK.out.miss hk0 (by rw [byte_opt s k (by omega), byte_opt s (n - 1) (by omega)]; simpa using he))
              rw [show n - 1 + 1 = n by omega] at HB
              clear he HK hk0
              go_wp2
              go_quiet (fail)
              go_wp2
              go_quiet (fail)
              go_wp2
              refine ⟨⟨n + 1, by omega, by omega, by go_num, ((below_drewN hb2 _).setCell (Nat.le_refl _) _).setCell (by simp) _, ?_, ?_⟩, by simp [intOf]; omega⟩
              · refine Blk.other ?_ _ (by simp) _
                exact Blk.rowPut (f := upTo (brd s.data.toList) n) hA2 n _ fun i _ => upTo_put _ _ _ (by rw [HB.out]; simp; try omega) i
              · refine Blk.rowPut (f := upTo (per s.data.toList) n) (Blk.other hC2 _ (by simp) _) n _ fun i _ => upTo_put _ _ _ (by unfold per; rw [HB.out]; omega) i
            · have hgt : decide ((k : Int) > 0) = true := by simp; omega
              have hpos : 0 < k := by omega
              have hne : (((s[k]'hks).toNat : Int) != ((s[n - 1]'hns).toNat : Int)) = true := by
                simp only [bne_iff_ne]; intro h; exact he (UInt8.toNat_inj.1 (by omega))
              have q2 := hA2.rowAt k (by omega)
              rw [show upTo (brd s.data.toList) n k = (brd s.data.toList k : Int) from if_pos (by omega)] at q2
              have HN := hid (HK.out.next (by omega) (by rw [byte_opt s k (by omega), byte_opt s (n - 1) (by omega)]; simpa using he))
              have hbl := brd_lt s.data.toList k (by omega)
              clear he HK hk0
              go_wp2
              go_quiet (fail)
              go_wp2
              refine ⟨⟨_, ?_, rfl, below_drewN hb2 _, hA2, hC2, HN⟩, ?_⟩
              · omega
              · simp [intOf]; omega
      · have q3 := hA.rowAt n (by omega)
        have q4 := hC.rowAt n (by omega)
        have q5 := hA.free n
        have q6 := hC.free n
        have hgt : decide ((n : Int) > 1) = false := by simp; omega
        have hu0 : upTo (brd s.data.toList) n n = 0 := by unfold upTo; rw [if_neg (by omega)]
        rw [hu0] at q3
        have HB := hid (show brd s.data.toList n = 0 by rw [show n = 1 by omega]; rfl)
        go_wp2
        refine ⟨⟨n + 1, by omega, by omega, by go_num, hb.setCell (by simp) _, ?_, ?_⟩, by simp [intOf]; omega⟩
        · refine Blk.other ?_ _ (by simp) _
          rw [show n = 1 by omega] at hA ⊢
          rw [← rowA_congr (f := upTo (brd s.data.toList) 1) (fun i _ => by rw [upTo_one _ rfl, upTo_two])]
          exact hA
        · refine Blk.rowPut (f := upTo (per s.data.toList) n) hC n _ fun i _ => upTo_put _ _ _ (by unfold per; rw [HB.out]; omega) i
    · go_wp2
      go_ret
      refine ⟨w.heap.size + 1, rfl, by omega, ?_, hb⟩
      rw [bytes_len, ← rowA_congr (f := upTo (per s.data.toList) n) (fun i hi => by unfold upTo perI; rw [if_pos (by omega)])]
      exact hC
def fracV (num den : Nat) : Value := .agg #[.int .i64 ((num / Nat.gcd num den : Nat) : Int), .int .i64 ((den / Nat.gcd num den : Nat) : Int)]
theorem tmod_nat (a b : Nat) : Int.tmod (a : Int) (b : Int) = ((a % b : Nat) : Int) := by
  rw [Int.tmod_eq_emod_of_nonneg (by omega)]; omega
theorem tdiv_nat (a b : Nat) : Int.tdiv (a : Int) (b : Int) = ((a / b : Nat) : Int) := by
  rw [Int.tdiv_eq_ediv_of_nonneg (by omega)]; omega
theorem wrap_nat (x : Nat) (h : x ≤ 1000000000) : wrap64 (x : Int) = (x : Int) := IntWalk.wrap64_in _ (by omega)
set_option maxHeartbeats 1000000 in
theorem frac_any (num den : Nat) (w : World) (h1 : num ≤ 100000) (h2 : den ≤ 100000) (h3 : 0 < den) :
    Calls Tryz.prog 47 #[.int .i64 num, .int .i64 den] w fun e w' => e = .returned (fracV num den) ∧ Below w.heap.size w w' := by
  go_enter Tryz.func47, Tryz.ntmps47
  go_wp2
  go_loopw [5, 6] (fun x y wr => ∃ a b : Nat, a ≤ 100000 ∧ b ≤ 100000 ∧ 0 < a + b ∧ x = .int .i64 a ∧ y = .int .i64 b ∧ Below w.heap.size w wr ∧ Blk wr w.heap.size #[.int .i64 0, .int .i64 0] 44 ∧ Hid (Nat.gcd a b = Nat.gcd num den)) (fun x y _ => (intOf y).toNat)
  case atStart => exact ⟨num, den, h1, h2, by omega, rfl, rfl, (Below.refl _ w).alloc (Nat.le_refl _) _, Blk.new _ _ _, rfl⟩
  case round =>
    obtain ⟨a, b, ha, hb, hab, rfl, rfl, hB, hA, HG⟩ := hrel
    by_cases h0 : 0 < b
    · have hne : ¬ (b : Int) = 0 := by omega
      have hm := tmod_nat a b
      have hlt := Nat.mod_lt a h0
      go_wp2
      go_quiet (fail)
      go_wp2
      refine ⟨⟨b, a % b, hb, by omega, by omega, rfl, rfl, below_drewN hB _, hA, ?_⟩, ?_⟩
      · rw [Hid, ← HG.out, Nat.gcd_comm a b, Nat.gcd_rec b a, Nat.gcd_comm]
      · simp [intOf]; omega
    · have hb0 : b = 0 := by omega
      subst hb0
      have hg : a = Nat.gcd num den := by rw [← HG.out, Nat.gcd_zero_right]
      have hne : ¬ (a : Int) = 0 := by omega
      have hm := tdiv_nat num a
      have hm2 := tdiv_nat den a
      have hle := Nat.div_le_self num a
      have hle2 := Nat.div_le_self den a
      have HGg := hid hg
      have r0 : wr.cell? ⟨w.heap.size, 0, none⟩ = some (.int .i64 0) := hA.cell 0
      have r1 : wr.cell? ⟨w.heap.size, 1, none⟩ = some (.int .i64 0) := hA.cell 1
      have f0 := hA.free 0
      have f1 := hA.free 1
      clear hg HG hab
      go_wp2
      go_region
      have e1 : wrap64 ((num : Int) / (a : Int)) = ((num / a : Nat) : Int) := by rw [← Int.natCast_ediv]; exact wrap_nat _ (by omega)
      have e2 : wrap64 ((den : Int) / (a : Int)) = ((den / a : Nat) : Int) := by rw [← Int.natCast_ediv]; exact wrap_nat _ (by omega)
      go_wp2
      simp only [e1, e2]
      refine bodyPost_ret (v := .agg #[.int .i64 ((num / a : Nat) : Int), .int .i64 ((den / a : Nat) : Int)]) (by simp [results, Tryz.results47, go_sem, r0, r1]) rfl ⟨?_, ?_⟩
      · rw [fracV, ← HGg.out]
      · exact ((hB.setCell (Nat.le_refl _) _).setCell (Nat.le_refl _) _).drew
def zfrac : Value := .agg #[.int .i64 0, .int .i64 0]
def fullB (l : List UInt8) : Bool := wordB l && !l.isEmpty
def RetExp (l : List UInt8) (w : World) (e : Ending) (w' : World) : Prop :=
  e = .returned (if fullB l then .tuple #[fracV l.length (per l l.length), .int .i64 0] else .tuple #[zfrac, .int .i64 2]) ∧ Below w.heap.size w w'
theorem empty_yes (s : ByteArray) (h : s.size = 0) : s.toList.isEmpty = true := by
  rw [Lib.toList_data, List.eq_nil_of_length_eq_zero (show s.data.toList.length = 0 from h)]; rfl
theorem empty_no (s : ByteArray) (h : ¬ s.size = 0) : s.toList.isEmpty = false := by
  rw [Lib.toList_data]
  cases hl : s.data.toList with
  | nil => exact absurd (by rw [← bytes_len, hl]; rfl) h
  | cons _ _ => rfl
theorem full_no (l : List UInt8) (h : l.length = 0) : fullB l = false := by
  rw [List.eq_nil_of_length_eq_zero h]; simp [fullB]
theorem full_yes (l : List UInt8) (h : ¬ l.length = 0) (hw : wordB l = true) : fullB l = true := by
  rw [fullB, hw]
  cases l with
  | nil => exact absurd rfl h
  | cons _ _ => rfl
theorem full_word (l : List UInt8) (h : wordB l = false) : fullB l = false := by rw [fullB, h]; rfl
set_option maxHeartbeats 1000000 in
theorem Exponent_any (s : ByteArray) (w : World) (hs : s.size ≤ 1000) :
    Calls Tryz.prog 20 #[.string s] w (RetExp s.data.toList w) := by
  have HW := hid (fun W => isWord_any s W)
  have HL := hid (fun W => least_any s W hs)
  by_cases hw : wordB s.data.toList = true
  · rw [hw] at HW
    by_cases h0 : s.size = 0
    · have hfin : RetExp s.data.toList w = fun e w' => e = .returned (.tuple #[zfrac, .int .i64 2]) ∧ Below w.heap.size w w' := by
        unfold RetExp; rw [full_no _ h0]; rfl
      rw [hfin]
      have hse := empty_yes s h0
      clear hfin hw HL h0
      go_enter Tryz.func20, Tryz.ntmps20
      go_wp2_with fail
      refine (HW.out _).mono ?_
      rintro e w1 ⟨rfl, hb⟩
      obtain ⟨r0, r1, f0, f1⟩ := ((Blk.new w _ _).below hb (by simp)).two
      go_wp2_with fail
      refine bodyPost_ret (v := .tuple #[zfrac, .int .i64 2]) (by simp [results, Tryz.results20, go_sem, r0, r1, zfrac]) rfl ⟨rfl, ?_⟩
      exact (((Below.refl _ w).alloc (Nat.le_refl _) _).trans (hb.mono (by simp))).setCell (Nat.le_refl _) _ |>.setCell (Nat.le_refl _) _
    · have hse := empty_no s h0
      have hfin : RetExp s.data.toList w = fun e w' => e = .returned (.tuple #[fracV s.size (per s.data.toList s.size), .int .i64 0]) ∧ Below w.heap.size w w' := by
        unfold RetExp; rw [full_yes _ h0 hw]; rfl
      rw [hfin]
      have hp1 := per_pos s.data.toList s.size (by omega)
      have hp2 := per_le s.data.toList s.size
      have HF := hid (fun W => frac_any s.size (per s.data.toList s.size) W (by omega) (by omega) (by omega))
      clear hfin hw
      go_enter Tryz.func20, Tryz.ntmps20
      go_wp2_with fail
      refine (HW.out _).mono ?_
      rintro e w1 ⟨rfl, hb⟩
      go_wp2_with fail
      refine (HL.out _).mono ?_
      rintro e w2 ⟨b, rfl, hge, hL, hb2⟩
      have q1 := hL.rowAt s.size (by rw [bytes_len]; omega)
      rw [bytes_len]
      rw [show perI s.data.toList s.size = (per s.data.toList s.size : Int) from rfl] at q1
      go_wp2_with fail
      refine (HF.out _).mono ?_
      rintro e w3 ⟨rfl, hb3⟩
      have hB := hb.trans ((hb2.mono hb.size).trans (hb3.mono (Nat.le_trans hb.size hb2.size)))
      obtain ⟨r0, r1, f0, f1⟩ := ((Blk.new w _ _).below hB (by simp)).two
      unfold fracV
      go_wp2_with fail
      refine bodyPost_ret (v := .tuple #[fracV s.size (per s.data.toList s.size), .int .i64 0]) (by simp [results, Tryz.results20, go_sem, r0, r1, fracV]) rfl ⟨rfl, ?_⟩
      exact (((Below.refl _ w).alloc (Nat.le_refl _) _).trans (hB.mono (by simp))).setCell (Nat.le_refl _) _ |>.setCell (Nat.le_refl _) _
  · have hw' : wordB s.data.toList = false := by simpa using hw
    rw [hw'] at HW
    have hfin : RetExp s.data.toList w = fun e w' => e = .returned (.tuple #[zfrac, .int .i64 2]) ∧ Below w.heap.size w w' := by
      unfold RetExp; rw [full_word _ hw']; rfl
    rw [hfin]
    clear hfin hw hw' HL
    go_enter Tryz.func20, Tryz.ntmps20
    go_wp2_with fail
    refine (HW.out _).mono ?_
    rintro e w1 ⟨rfl, hb⟩
    obtain ⟨r0, r1, f0, f1⟩ := ((Blk.new w _ _).below hb (by simp)).two
    go_wp2_with fail
    refine bodyPost_ret (v := .tuple #[zfrac, .int .i64 2]) (by simp [results, Tryz.results20, go_sem, r0, r1, zfrac]) rfl ⟨rfl, ?_⟩
    exact (((Below.refl _ w).alloc (Nat.le_refl _) _).trans (hb.mono (by simp))).setCell (Nat.le_refl _) _ |>.setCell (Nat.le_refl _) _

end Go.Proofs.YtkmpdcckgibkhaaGreat.Mk
