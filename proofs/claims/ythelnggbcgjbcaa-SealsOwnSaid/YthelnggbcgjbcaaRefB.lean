/-
  Walks: the reference's kinds, shares and fair cuts.
-/
import Derived.Test.YthelnggbcgjbcaaRefA
namespace Go.Proofs.Ythelnggbcgjbcaa
open Go.RowKit

def kSum (f : Nat → Nat) : Nat → Nat
  | 0 => 0
  | k + 1 => kSum f k + min (f k) 1

theorem kSum_le (f : Nat → Nat) (k : Nat) : kSum f k ≤ k := by
  induction k with
  | zero => simp [kSum]
  | succ k ih => simp [kSum]; omega

set_option maxHeartbeats 400000 in
theorem refKinds_any (s : ByteArray) (w : World) (hs : s.size ≤ 9223372036854775807) (h : s.data.toList.all okb = true) :
    Calls Try.prog 34 #[.string s] w fun e w' => e = .returned (.int .i64 (kindsN s.data.toList)) ∧ Below w.heap.size w w' := by
  go_enter Try.func34, Try.ntmps34
  go_wp2_with (go_at_call 33; refine (Letters_any s _ hs h).mono ?_; rintro e w1 ⟨rfl, hb⟩)
  obtain ⟨w2, hW⟩ : ∃ w2, w2 = w1.alloc (.cells #[.int .i64 (cn s.data.toList 0), .int .i64 (cn s.data.toList 1), .int .i64 (cn s.data.toList 2), .int .i64 (cn s.data.toList 3)] 22) := ⟨_, rfl⟩
  have H : Blk w2 w1.heap.size (arr4 fun j => cn s.data.toList j) 22 := by rw [hW]; exact Blk.new _ _ _
  have hb2 : Below w.heap.size w w2 := by rw [hW]; exact hb.alloc hb.size _
  rw [← hW]
  clear hW hb
  go_loop [4, 5] (fun n i => ∃ k : Nat, k ≤ 4 ∧ i = .int .i64 k ∧ n = .int .i64 (kSum (cn s.data.toList) k)) (fun _ i => 4 - (intOf i).toNat)
  case atStart => exact ⟨0, by omega, rfl, rfl⟩
  case round =>
    obtain ⟨k, hk, rfl, rfl⟩ := hrel
    by_cases hlt : k < 4
    · have hcc := H.cell4 k hlt
      have hle := kSum_le (cn s.data.toList) k
      have E1 : kSum (cn s.data.toList) (k + 1) = kSum (cn s.data.toList) k + min (cn s.data.toList k) 1 := rfl
      have HE := hid E1
      clear E1
      go_wp2
      · exact ⟨⟨k + 1, by omega, by go_num, by rw [HE.out]; go_num⟩, by simp [intOf]; omega⟩
      · exact ⟨⟨k + 1, by omega, by go_num, by rw [HE.out]; go_num⟩, by simp [intOf]; omega⟩
    · have : k = 4 := by omega
      subst this
      go_wp2
      go_ret
      exact ⟨ret_int (by simp [kSum, kindsN]), hb2⟩

/-- The loop of the reference's Shares: carrier, position, the cuts that are left, what both have. -/
def shLoop (l : List UInt8) : Nat → Nat → List Int → List UInt8 → List UInt8 → List UInt8 × List UInt8
  | 0, fr, [], a, b => (a ++ l.drop fr, b)
  | _ + 1, fr, [], a, b => (a, b ++ l.drop fr)
  | 0, fr, c :: r, a, b => shLoop l 1 c.toNat r (a ++ (l.drop fr).take (c.toNat - fr)) b
  | _ + 1, fr, c :: r, a, b => shLoop l 0 c.toNat r a (b ++ (l.drop fr).take (c.toNat - fr))

def ShRel (l : List UInt8) (n : Nat) (cuts : List Int) (tgt : List UInt8 × List UInt8) (k car fr : Nat) (x y : ByteArray) : Prop :=
  (k ≤ cuts.length ∧ shLoop l car fr (cuts.drop k) x.data.toList y.data.toList = tgt ∧ (∃ p : Int, (fr : Int) ≤ p ∧ cutsB n p (cuts.drop k) = true) ∧ fr ≤ n ∧ x.size + y.size ≤ fr) ∨ (k = cuts.length + 1 ∧ (x.data.toList, y.data.toList) = tgt)

set_option maxHeartbeats 400000 in
theorem refShares_any (s : ByteArray) (a : Option Addr) (c : Nat) (l : List Int) (w : World) (hs : s.size ≤ 1000) (ha : Ints w a l) (hl : l.length ≤ 1000) (hc : cutsB s.size 0 l = true) :
    Calls Try.prog 25 #[.string s, .slice a l.length c] w fun e w' => e = .returned (.tuple #[.string (mkS (shLoop s.data.toList 0 0 l [] []).1), .string (mkS (shLoop s.data.toList 0 0 l [] []).2)]) ∧ Below w.heap.size w w' := by
  go_enter Try.func25, Try.ntmps25
  go_wp2
  go_loopw [7, 8, 9] (fun fr car i wr => ∃ (k f cr : Nat) (x y : ByteArray), i = .int .i64 k ∧ fr = .int .i64 f ∧ car = .int .i64 cr ∧ cr < 2 ∧ k ≤ l.length + 1 ∧ Below w.heap.size w wr ∧ Blk wr w.heap.size #[.string x, .string y] 58 ∧ Hid (ShRel s.data.toList s.size l (shLoop s.data.toList 0 0 l [] []) k cr f x y)) (fun _ _ i _ => l.length + 1 - (intOf i).toNat)
  case atStart => exact ⟨0, 0, 0, _, _, rfl, rfl, rfl, by omega, by omega, (Below.refl _ _).alloc (Nat.le_refl _) _, Blk.new _ _ _, .inl ⟨by omega, rfl, ⟨0, by omega, hc⟩, by omega, Nat.le_refl 0⟩⟩
  case round =>
    obtain ⟨k, f, cr, x, y, rfl, rfl, rfl, hcr, hk, hB, HB, HR⟩ := hrel
    have c0 := HB.cell 0
    have c1 := HB.cell 1
    have f0 := HB.free 0
    have f1 := HB.free 1
    simp only [List.getElem?_toArray, List.getElem?_cons_zero, List.getElem?_cons_succ] at c0 c1
    rcases HR.out with ⟨hkl, hsh, ⟨p, hp, hcb⟩, hf, hxy⟩ | ⟨hkl, hsh⟩
    · by_cases hlt : k < l.length
      · obtain ⟨z, hz, hz2⟩ := list_drop_cons l k hlt
        obtain ⟨g, o, rfl, hg, hcell⟩ := ha.at (by omega)
        have q1 := (hB.cell (p := ⟨g, o + k, none⟩) hg).trans (hcell k z hz)
        rw [hz2] at hcb hsh
        simp only [cutsB, Bool.and_eq_true, decide_eq_true_eq] at hcb
        obtain ⟨zn, rfl⟩ := Int.eq_ofNat_of_zero_le (show 0 ≤ z by omega)
        have b1 : f ≤ zn := by omega
        have b2 : zn < s.size := by omega
        have b3 : zn ≤ s.size := by omega
        have b4 : x.size + (s.extract f zn).size ≤ 9223372036854775807 := by simp; omega
        have b5 : y.size + (s.extract f zn).size ≤ 9223372036854775807 := by simp; omega
        have HS := hid hsh
        have HC := hid hcb
        clear hsh hcb hcell hz hz2 HR
        have zt : ((zn : Int)).toNat = zn := rfl
        have ZT := hid zt
        clear zt
        rcases (show cr = 0 ∨ cr = 1 by omega) with rfl | rfl
        · go_wp2
          go_region
          go_wp2
          refine ⟨⟨k + 1, zn, 1, x ++ s.extract f zn, y, by go_num, rfl, rfl, by omega, by omega, (hB.setCell (Nat.le_refl _) _).drew, HB.set 0 _, .inl ⟨by omega, ?_, ⟨_, by omega, HC.out.2⟩, by omega, ?_⟩⟩, by simp [intOf]; omega⟩
          · rw [← HS.out, shLoop, ZT.out, data_append, data_extract]
          · simp; omega
        · go_wp2
          go_region
          go_wp2
          refine ⟨⟨k + 1, zn, 0, x, y ++ s.extract f zn, by go_num, rfl, rfl, by omega, by omega, (hB.setCell (Nat.le_refl _) _).drew, HB.set 1 _, .inl ⟨by omega, ?_, ⟨_, by omega, HC.out.2⟩, by omega, ?_⟩⟩, by simp [intOf]; omega⟩
          · rw [← HS.out, shLoop, ZT.out, data_append, data_extract]
          · simp; omega
      · have hk2 : k = l.length := by omega
        rw [hk2, List.drop_eq_nil_of_le (Nat.le_refl _)] at hsh
        have HS := hid hsh
        have b4 : x.size + (s.extract f s.size).size ≤ 9223372036854775807 := by simp; omega
        have b5 : y.size + (s.extract f s.size).size ≤ 9223372036854775807 := by simp; omega
        have H2 := hid hk2
        have hde : (s.data.toList.drop f).take (s.size - f) = s.data.toList.drop f := List.take_of_length_le (by rw [List.length_drop, bytes_len]; omega)
        have HD := hid hde
        clear hsh hk2 hcb HR hde
        rcases (show cr = 0 ∨ cr = 1 by omega) with rfl | rfl
        · go_wp2
          go_region
          go_wp2
          refine ⟨⟨k + 1, s.size, 1, x ++ s.extract f s.size, y, by go_num, rfl, rfl, by omega, by omega, (hB.setCell (Nat.le_refl _) _).drew, HB.set 0 _, .inr ⟨by rw [H2.out], ?_⟩⟩, by simp [intOf]; omega⟩
          rw [← HS.out, shLoop, data_append, data_extract, HD.out]
        · go_wp2
          go_region
          go_wp2
          refine ⟨⟨k + 1, s.size, 0, x, y ++ s.extract f s.size, by go_num, rfl, rfl, by omega, by omega, (hB.setCell (Nat.le_refl _) _).drew, HB.set 1 _, .inr ⟨by rw [H2.out], ?_⟩⟩, by simp [intOf]; omega⟩
          rw [← HS.out, shLoop, data_append, data_extract, HD.out]
    · have e1 : x = mkS (shLoop s.data.toList 0 0 l [] []).1 := mkS_eq _ _ (by rw [← hsh])
      have e2 : y = mkS (shLoop s.data.toList 0 0 l [] []).2 := mkS_eq _ _ (by rw [← hsh])
      have HE := hid (And.intro e1 e2)
      have H2 := hid hkl
      have h3 : ¬ k ≤ l.length := by omega
      clear e1 e2 hsh hkl HR
      go_wp2
      go_quiet (fail)
      go_wp2
      go_ret2
      exact ⟨by rw [← HE.out.1, ← HE.out.2]; rfl, below_drewN hB _⟩

theorem shLoop_all (l : List UInt8) (h : l.all okb = true) : ∀ (cuts : List Int) (car fr : Nat) (a b : List UInt8), a.all okb = true → b.all okb = true → (shLoop l car fr cuts a b).1.all okb = true ∧ (shLoop l car fr cuts a b).2.all okb = true := by
  have hd : ∀ n, (l.drop n).all okb = true := fun n => by
    rw [List.all_eq_true] at h ⊢; exact fun x hx => h x (List.mem_of_mem_drop hx)
  have ht : ∀ n m, ((l.drop n).take m).all okb = true := fun n m => by
    have := hd n; rw [List.all_eq_true] at this ⊢; exact fun x hx => this x (List.mem_of_mem_take hx)
  intro cuts
  induction cuts with
  | nil => intro car fr a b ha hb; cases car <;> simp only [shLoop, List.all_append, ha, hb, hd, Bool.and_self, and_self]
  | cons c r ih =>
    intro car fr a b ha hb
    cases car
    · exact ih _ _ _ _ (by rw [List.all_append, ha, ht]; rfl) hb
    · exact ih _ _ _ _ ha (by rw [List.all_append, hb, ht]; rfl)

theorem shLoop_len (l : List UInt8) : ∀ (cuts : List Int) (car fr : Nat) (a b : List UInt8), (shLoop l car fr cuts a b).1.length ≤ a.length + (cuts.length + 1) * l.length ∧ (shLoop l car fr cuts a b).2.length ≤ b.length + (cuts.length + 1) * l.length := by
  intro cuts
  induction cuts with
  | nil => intro car fr a b; cases car <;> simp [shLoop] <;> omega
  | cons c r ih =>
    intro car fr a b
    have e : (r.length + 1 + 1) * l.length = (r.length + 1) * l.length + l.length := by rw [Nat.add_mul, Nat.one_mul]
    have hle : ((l.drop fr).take (c.toNat - fr)).length ≤ l.length := by simp; omega
    cases car
    · have := ih 1 c.toNat (a ++ (l.drop fr).take (c.toNat - fr)) b
      rw [List.length_append] at this
      simp only [shLoop, List.length_cons, e]
      omega
    · have := ih 0 c.toNat a (b ++ (l.drop fr).take (c.toNat - fr))
      rw [List.length_append] at this
      simp only [shLoop, List.length_cons, e]
      omega

theorem shLoop_share (l : List UInt8) : ∀ (cuts : List Int) (fr : Nat) (a b : List UInt8),
    shLoop l 0 fr cuts a b = (a ++ (shareGo l fr cuts).1, b ++ (shareGo l fr cuts).2) ∧ shLoop l 1 fr cuts a b = (a ++ (shareGo l fr cuts).2, b ++ (shareGo l fr cuts).1) := by
  intro cuts
  induction cuts with
  | nil => intro fr a b; simp [shLoop, shareGo]
  | cons c r ih =>
    intro fr a b
    refine ⟨?_, ?_⟩
    · rw [shLoop, (ih _ _ _).2]; simp [shareGo]
    · rw [shLoop, (ih _ _ _).1]; simp [shareGo]

theorem eqi (a b : Int) (w : World) : (Op.equalIn 9999 3 (.int .i64 a) (.int .i64 b)).run Try.prog w = .ok (a == b) w :=
  run_equalIn_int w 9998 3 .i64 .i64 a b Try.underlying3
theorem eq4 (a0 a1 a2 a3 b0 b1 b2 b3 : Int) (w : World) : (Op.equalIn 10000 22 (.agg #[.int .i64 a0, .int .i64 a1, .int .i64 a2, .int .i64 a3]) (.agg #[.int .i64 b0, .int .i64 b1, .int .i64 b2, .int .i64 b3])).run Try.prog w = .ok (a0 == b0 && a1 == b1 && a2 == b2 && a3 == b3) w := by
  have hu : ∀ w, (underlying 22).run Try.prog w = .ok (.array 4 3) w := fun w => Try.runUnderlying22 w
  have hs : ∀ w, (sizeOf 3).run Try.prog w = .ok 1 w := fun w => Try.sizeOf3 w
  have hg : ∀ w, (isAgg 3).run Try.prog w = .ok false w := fun w => Try.isAgg3 w
  rw [show (10000 : Nat) = 9999 + 1 from rfl, Op.equalIn]
  simp [hu, Sem.run_bind, go_sem, hs, List.range'_succ, hg, eqi]
  by_cases h0 : a0 = b0 <;> by_cases h1 : a1 = b1 <;> by_cases h2 : a2 = b2 <;> by_cases h3 : a3 = b3 <;> simp [h0, h1, h2, h3, go_sem]

set_option maxHeartbeats 400000 in
theorem refFair_any (s : ByteArray) (a : Option Addr) (c : Nat) (l : List Int) (w : World) (hs : s.size ≤ 1000) (ha : Ints w a l) (hl : l.length ≤ 1000) (hc : cutsB s.size 0 l = true) (hok : s.data.toList.all okb = true) :
    Calls Try.prog 27 #[.string s, .slice a l.length c] w fun e w' => e = .returned (.bool (fairB s.data.toList l)) ∧ Below w.heap.size w w' := by
  obtain ⟨h1, h2⟩ := shLoop_all s.data.toList hok l 0 0 [] [] rfl rfl
  obtain ⟨l1, l2⟩ := shLoop_len s.data.toList l 0 0 [] []
  have l3 : (l.length + 1) * s.data.toList.length ≤ 1001 * 1000 := Nat.mul_le_mul (by omega) (by rw [bytes_len]; exact hs)
  have hA : (mkS (shLoop s.data.toList 0 0 l [] []).1).size ≤ 9223372036854775807 := by rw [mkS_size]; simp only [List.length_nil] at l1; omega
  have hB : (mkS (shLoop s.data.toList 0 0 l [] []).2).size ≤ 9223372036854775807 := by rw [mkS_size]; simp only [List.length_nil] at l2; omega
  have LA := fun W => hid (Letters_any (mkS (shLoop s.data.toList 0 0 l [] []).1) W hA h1)
  have LB := fun W => hid (Letters_any (mkS (shLoop s.data.toList 0 0 l [] []).2) W hB h2)
  have hf : fairB s.data.toList l = sameB (shLoop s.data.toList 0 0 l [] []).1 (shLoop s.data.toList 0 0 l [] []).2 := by
    rw [(shLoop_share _ _ _ _ _).1]; rfl
  have HF := hid hf
  clear hA hB h1 h2 l1 l2 l3 hf
  have hE := @eq4
  go_enter Try.func27, Try.ntmps27
  go_wp2_with (go_at_call 25; refine (refShares_any s a c l _ hs ha hl hc).mono ?_; rintro e w1 ⟨rfl, hb⟩)
  refine ((LA w1).out).mono ?_
  rintro e w2 ⟨rfl, hb2⟩
  go_wp2_with fail
  refine ((LB w2).out).mono ?_
  rintro e w3 ⟨rfl, hb3⟩
  go_wp2_with fail
  go_ret
  exact ⟨ret_bool (by rw [HF.out, mkS_data, mkS_data, Bool.eq_iff_iff]; simp [sameB]; omega), hb.trans ((hb2.mono hb.size).trans (hb3.mono (Nat.le_trans hb.size hb2.size)))⟩

end Go.Proofs.Ythelnggbcgjbcaa
