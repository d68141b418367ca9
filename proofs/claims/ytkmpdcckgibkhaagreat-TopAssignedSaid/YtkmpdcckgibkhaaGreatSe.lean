/-
  Walks: shares, fair cuts.
-/
import Derived.Test.YtkmpdcckgibkhaaGreatSd
namespace Go.Proofs.YtkmpdcckgibkhaaGreat
open Go.RowKit

/-- What a call returns: a slice of its own that reads as 'l'. -/
def RetOwn (l : List Int) (w : World) (e : Ending) (w' : World) : Prop := ∃ a c, e = .returned (.slice a l.length c) ∧ w'.ownsRow w.heap.size 3 1 (.slice a l.length c) l.length (l.map (Value.int .i64)) ∧ Below w.heap.size w w'

set_option maxHeartbeats 400000 in
theorem clone_any (a : Option Addr) (c : Nat) (l : List Int) (w : World) (ha : Ints w a l) (hn : a = none → l = [] ∧ c = 0) (hl : l.length ≤ 1000) :
    Calls Tryz.prog 84 #[.slice a l.length c] w (RetOwn l w) := by
  have he := fun (w : World) (a : Option Addr) (n c : Nat) => Lib.run_eql_slice_nil (P := Tryz.prog) w 24 3 a n c 0 0 Tryz.underlying24
  cases a with
  | none =>
    obtain ⟨rfl, rfl⟩ := hn rfl
    go_enter Tryz.func84, Tryz.ntmps84
    go_wp2
    go_ret
    exact ⟨none, 0, rfl, World.ownsRow_nil _ _ _ _, Below.refl _ _⟩
  | some ad =>
    have HA := hid ha
    clear ha hn
    go_enter Tryz.func84, Tryz.ntmps84
    go_wp2_with (at_builtin; go_must (refine wpList_app (w.alloc (.cells #[] 3)) rfl (.tmp 5) (.tmp 6) 24 rfl w.heap.size 3 (.int .i64 0) 8 Tryz.underlying24 infoS3 rfl (.slice (some ⟨w.heap.size, 0, none⟩) 0 0) 0 [] rfl ⟨by simp, .inr ⟨w.heap.size, 0, #[], rfl, Nat.le_refl _, Blk.new w _ _, by omega, by simp [maxLen], by simp, by simp⟩⟩ (some ad) l.length c _ rfl (by rw [List.length_map]) (Ints.below HA.out ((Below.refl _ w).alloc (Nat.le_refl _) _) (Nat.le_refl _)) (fun h => by cases h) (ints_one _) (by omega) (by omega) (by simp) ?_))
    intro v' w1 hown hgrow _
    obtain ⟨a', c', rfl, -⟩ := ownsRow_ints (l := l) hown
    have HO := hid hown
    have HG := hid hgrow
    clear hown hgrow
    go_wp2
    go_ret
    refine ⟨a', c', rfl, HO.out, ((Below.refl _ w).alloc (Nat.le_refl _) _).grown HG.out (by simp) ?_⟩
    intro k hk
    simp [Value.ownBlock] at hk; omega

theorem eq4c (a0 a1 a2 a3 b0 b1 b2 b3 : Int) (w : World) : (Op.equalIn 10000 82 (.agg #[.int .i64 a0, .int .i64 a1, .int .i64 a2, .int .i64 a3]) (.agg #[.int .i64 b0, .int .i64 b1, .int .i64 b2, .int .i64 b3])).run Tryz.prog w = .ok (a0 == b0 && a1 == b1 && a2 == b2 && a3 == b3) w := by
  have hu : ∀ w, (underlying 82).run Tryz.prog w = .ok (.array 4 3) w := fun w => Tryz.runUnderlying82 w
  have hs : ∀ w, (sizeOf 3).run Tryz.prog w = .ok 1 w := fun w => Tryz.sizeOf3 w
  have hg : ∀ w, (isAgg 3).run Tryz.prog w = .ok false w := fun w => Tryz.isAgg3 w
  rw [show (10000 : Nat) = 9999 + 1 from rfl, Op.equalIn]
  simp [hu, Sem.run_bind, go_sem, hs, List.range'_succ, hg, eqi]
  by_cases h0 : a0 = b0 <;> by_cases h1 : a1 = b1 <;> by_cases h2 : a2 = b2 <;> by_cases h3 : a3 = b3 <;> simp [h0, h1, h2, h3, go_sem]

/-- The loop of the program's shares, over the cuts and the length. -/
def shL2 (l : List UInt8) : Nat → Nat → List Int → List UInt8 → List UInt8 → List UInt8 × List UInt8
  | _, _, [], a, b => (a, b)
  | 0, fr, c :: r, a, b => shL2 l 1 c.toNat r (a ++ (l.drop fr).take (c.toNat - fr)) b
  | _ + 1, fr, c :: r, a, b => shL2 l 0 c.toNat r a (b ++ (l.drop fr).take (c.toNat - fr))

theorem shL2_eq (l : List UInt8) : ∀ (cuts : List Int) (car fr : Nat) (a b : List UInt8), shL2 l car fr (cuts ++ [(l.length : Int)]) a b = shLoop l car fr cuts a b := by
  intro cuts
  induction cuts with
  | nil => intro car fr a b; cases car <;> simp [shL2, shLoop, List.take_of_length_le]
  | cons c r ih => intro car fr a b; cases car <;> simp [shL2, shLoop, ih]

def ShRel2 (l : List UInt8) (n : Nat) (cuts : List Int) (tgt : List UInt8 × List UInt8) (k car fr : Nat) (x y : ByteArray) : Prop :=
  shL2 l car fr (cuts.drop k) x.data.toList y.data.toList = tgt ∧ (∃ p : Int, (fr : Int) ≤ p ∧ cutsB (n + 1) p (cuts.drop k) = true) ∧ x.size + y.size ≤ fr ∧ car = k % 2

theorem vals_setCell {w : World} {a : Option Addr} {l : List Value} (h : Vals w a l) (p : Addr) (v : Value) (hp : ∀ g o, a = some ⟨g, o, none⟩ → g ≠ p.block) : Vals (w.setCell p v) a l := by
  rcases h with h | ⟨g, o, ha, hg, hc⟩
  · exact .inl h
  · exact .inr ⟨g, o, ha, by simpa [World.setCell] using hg, fun i u hu => (World.cell?_of_block (Below.heap_setCell w p v g (hp g o ha))).trans (hc i u hu)⟩

theorem cutsB_wide (n m : Int) : ∀ (l : List Int) {f : Int}, cutsB n f l = true → n ≤ m → cutsB m f l = true := by
  intro l
  induction l with
  | nil => intro f _ _; rfl
  | cons c r ih =>
    intro f h hm
    simp only [cutsB, Bool.and_eq_true, decide_eq_true_eq] at h ⊢
    exact ⟨⟨h.1.1, by omega⟩, ih h.2 hm⟩

set_option maxHeartbeats 400000 in
theorem shares_any (s : ByteArray) (a : Option Addr) (c : Nat) (l : List Int) (w : World) (hs : s.size ≤ 1000) (ha : Ints w a l) (hn : a = none → c = 0) (hlc : l.length ≤ c) (hl : l.length ≤ 900) (hc : cutsB s.size 0 l = true) :
    Calls Tryz.prog 71 #[.string s, .slice a l.length c] w fun e w' => e = .returned (.tuple #[.string (mkS (shLoop s.data.toList 0 0 l [] []).1), .string (mkS (shLoop s.data.toList 0 0 l [] []).2)]) ∧ Below w.heap.size w w' := by
  have CL := hid (clone_any a c l (w.alloc (.cells #[.string ⟨#[]⟩, .string ⟨#[]⟩] 162)) (ha.below ((Below.refl _ w).alloc (Nat.le_refl _) _) (Nat.le_refl _)) (fun h => by have := hn h; exact ⟨List.eq_nil_of_length_eq_zero (by omega), this⟩) (by omega))
  have HCU := hid hc
  clear ha hn hc
  go_enter Tryz.func71, Tryz.ntmps71
  go_wp2_with fail
  refine CL.out.mono ?_
  rintro e w1 ⟨a1, c1, rfl, hown, hb1⟩
  have HB1 : Blk w1 w.heap.size #[.string ⟨#[]⟩, .string ⟨#[]⟩] 162 := (Blk.new w _ _).below hb1 (by simp)
  have HO1 := hid (show w1.ownsRow (w.heap.size + 1) 3 1 (.slice a1 l.length c1) l.length (l.map (Value.int .i64)) from by simpa using hown)
  have hw1 : w.heap.size + 1 ≤ w1.heap.size := by have := hb1.size; simpa using this
  have hbw : Below w.heap.size w w1 := ((Below.refl _ w).alloc (Nat.le_refl _) _).trans (hb1.mono (by simp))
  have HBX := hid HB1
  clear hown hb1 HB1
  go_wp2_with (at_builtin; go_must (refine wpList_app (w1.alloc (.cells #[.int .i64 s.size] 3)) rfl (.tmp 11) (.tmp 14) 24 rfl (w.heap.size + 1) 3 (.int .i64 0) 8 Tryz.underlying24 infoS3 rfl (.slice a1 l.length c1) l.length _ rfl (HO1.out.alloc _) (some ⟨w1.heap.size, 0, none⟩) 1 1 [.int .i64 s.size] rfl rfl (vals_new _ _ _ _ rfl) (fun h => by cases h) (by simp [Value.oneCell']) (by omega) (by omega) (by simp; omega) ?_))
  intro v2 w2 hown2 hg2 _
  obtain ⟨L, hL⟩ : ∃ L, L = l ++ [(s.size : Int)] := ⟨_, rfl⟩
  have hown2' : w2.ownsRow (w.heap.size + 1) 3 1 v2 L.length (L.map (Value.int .i64)) := by rw [hL]; simpa using hown2
  obtain ⟨a2, c2, rfl, hr2⟩ := ownsRow_ints (l := L) hown2'
  have hb2 : Below w.heap.size w w2 := below_app (hbw.alloc (by omega) _) hg2 (HO1.out.alloc _) (by simp; omega) (by omega)
  have hB2 : Blk w2 w.heap.size #[.string ⟨#[]⟩, .string ⟨#[]⟩] 162 := by
    refine (hg2.block w.heap.size (by simp; omega) (fun e => ?_)).trans (HBX.out.alloc _)
    have := (HO1.out.lt _ e.symm).1
    omega
  have HB2 := hid hB2
  have HL := hid hL
  have hLl : L.length ≤ 1000 := by rw [hL]; simp; omega
  have HR2 := hid hr2
  have hOL := hown2'
  clear hown2 hown2' hg2 hB2 hL hr2
  have hA2 : ∀ g o, a2 = some ⟨g, o, none⟩ → g ≠ w.heap.size := fun g o e => by have := (hOL.lt g (by rw [e]; rfl)).1; omega
  have HA2 := hid hA2
  clear hA2 hOL
  go_wp2
  go_loopw [7, 17] (fun fr i wr => ∃ (k f : Nat) (x y : ByteArray), i = .int .i64 k ∧ fr = .int .i64 f ∧ k ≤ L.length ∧ Below w.heap.size w wr ∧ Blk wr w.heap.size #[.string x, .string y] 162 ∧ Hid (Ints wr a2 L ∧ ShRel2 s.data.toList s.size L (shL2 s.data.toList 0 0 L [] []) k (k % 2) f x y)) (fun _ i _ => L.length - (intOf i).toNat)
  case atStart =>
    refine ⟨0, 0, _, _, rfl, rfl, by omega, hb2, HB2.out, HR2.out, rfl, ⟨0, by omega, ?_⟩, Nat.le_refl 0, rfl⟩
    rw [HL.out]
    exact cutsB_snoc _ _ _ _ (cutsB_wide _ _ _ HCU.out (by omega)) (fun x hx => (cutsB_ge _ _ _ HCU.out x hx).2) (by omega) (by omega)
  case round =>
    obtain ⟨k, f, x, y, rfl, rfl, hk, hB, HB, HR⟩ := hrel
    have c0 := HB.cell 0
    have c1' := HB.cell 1
    have f0 := HB.free 0
    have f1 := HB.free 1
    simp only [List.getElem?_toArray, List.getElem?_cons_zero, List.getElem?_cons_succ] at c0 c1'
    have HBB := hid HB
    clear HB
    by_cases hlt : k < L.length
    · obtain ⟨z, hz, hz2⟩ := list_drop_cons L k hlt
      obtain ⟨hri, hsh, ⟨p, hp, hcb⟩, hxy, _⟩ := HR.out
      obtain ⟨g, o, rfl, hg, hcell⟩ := hri.at (by omega)
      have q1 := hcell k z hz
      rw [hz2] at hcb hsh
      simp only [cutsB, Bool.and_eq_true, decide_eq_true_eq] at hcb
      obtain ⟨zn, rfl⟩ := Int.eq_ofNat_of_zero_le (show 0 ≤ z by omega)
      have b1 : f ≤ zn := by omega
      have b3 : zn ≤ s.size := by omega
      have bx : x.size ≤ 1000 := by omega
      have by_ : y.size ≤ 1000 := by omega
      have b4 : x.size + (s.extract f zn).size ≤ 9223372036854775807 := by simp; omega
      have b5 : y.size + (s.extract f zn).size ≤ 9223372036854775807 := by simp; omega
      have HS := hid hsh
      have HC := hid hcb
      have HXY := hid hxy
      have zt : ((zn : Int)).toNat = zn := rfl
      have ZT := hid zt
      clear hsh hcb hcell hz hz2 hri hxy zt
      rcases (show k % 2 = 0 ∨ k % 2 = 1 by omega) with hk2 | hk2
      · have hk3 : (k : Int) % 2 = 0 := by omega
        have hk4 : (k + 1) % 2 = 1 := by omega
        have HK2 := hid hk2
        have HK4 := hid hk4
        clear hk2 hk4
        go_wp2
        go_region
        go_wp2
        refine ⟨⟨k + 1, zn, x ++ s.extract f zn, y, by go_num, rfl, by omega, (hB.setCell (Nat.le_refl _) _).drew, HBB.out.set 0 _, vals_setCell HR.out.1 _ _ HA2.out, ?_, ⟨_, by omega, HC.out.2⟩, ?_, rfl⟩, by simp [intOf]; omega⟩
        · have := HS.out
          rw [HK2.out] at this
          rw [← this, HK4.out, shL2, ZT.out, data_append, data_extract]
        · have := HXY.out; simp; omega
      · have hk3 : (k : Int) % 2 = 1 := by omega
        have hk4 : (k + 1) % 2 = 0 := by omega
        have HK2 := hid hk2
        have HK4 := hid hk4
        clear hk2 hk4
        go_wp2
        go_region
        go_wp2
        refine ⟨⟨k + 1, zn, x, y ++ s.extract f zn, by go_num, rfl, by omega, (hB.setCell (Nat.le_refl _) _).drew, HBB.out.set 1 _, vals_setCell HR.out.1 _ _ HA2.out, ?_, ⟨_, by omega, HC.out.2⟩, ?_, rfl⟩, by simp [intOf]; omega⟩
        · have := HS.out
          rw [HK2.out] at this
          rw [← this, HK4.out, shL2, ZT.out, data_append, data_extract]
        · have := HXY.out; simp; omega
    · obtain ⟨_, hsh, _⟩ := HR.out
      rw [List.drop_eq_nil_of_le (by omega)] at hsh
      have hsh2 : (x.data.toList, y.data.toList) = shLoop s.data.toList 0 0 l [] [] := by
        rw [← shL2_eq, bytes_len, ← HL.out, ← hsh]
        rcases (show k % 2 = 0 ∨ k % 2 = 1 by omega) with h | h <;> rw [h] <;> rfl
      have e1 : x = mkS (shLoop s.data.toList 0 0 l [] []).1 := mkS_eq _ _ (by rw [← hsh2])
      have e2 : y = mkS (shLoop s.data.toList 0 0 l [] []).2 := mkS_eq _ _ (by rw [← hsh2])
      have HE := hid (And.intro e1 e2)
      clear e1 e2 hsh hsh2 HR
      go_wp2
      go_quiet (fail)
      go_wp2
      go_ret2
      exact ⟨by rw [← HE.out.1, ← HE.out.2]; rfl, below_drewN hB _⟩

set_option maxHeartbeats 400000 in
theorem isFair_any (s : ByteArray) (a : Option Addr) (c : Nat) (l : List Int) (w : World) (hs : s.size ≤ 1000) (ha : Ints w a l) (hn : a = none → c = 0) (hlc : l.length ≤ c) (hl : l.length ≤ 900) (hc : cutsB s.size 0 l = true) (hok : s.data.toList.all okb = true) :
    Calls Tryz.prog 40 #[.string s, .slice a l.length c] w fun e w' => e = .returned (.bool (fairB s.data.toList l)) ∧ Below w.heap.size w w' := by
  obtain ⟨h1, h2⟩ := shLoop_all s.data.toList hok l 0 0 [] [] rfl rfl
  obtain ⟨l1, l2⟩ := shLoop_len s.data.toList l 0 0 [] []
  have l3 : (l.length + 1) * s.data.toList.length ≤ 901 * 1000 := Nat.mul_le_mul (by omega) (by rw [bytes_len]; exact hs)
  have hA : (mkS (shLoop s.data.toList 0 0 l [] []).1).size ≤ 1000000 := by rw [mkS_size]; simp only [List.length_nil] at l1; omega
  have hB : (mkS (shLoop s.data.toList 0 0 l [] []).2).size ≤ 1000000 := by rw [mkS_size]; simp only [List.length_nil] at l2; omega
  have LA := fun W => hid (of_any (mkS (shLoop s.data.toList 0 0 l [] []).1) W hA h1)
  have LB := fun W => hid (of_any (mkS (shLoop s.data.toList 0 0 l [] []).2) W hB h2)
  have hf : fairB s.data.toList l = sameB (shLoop s.data.toList 0 0 l [] []).1 (shLoop s.data.toList 0 0 l [] []).2 := by
    rw [(shLoop_share _ _ _ _ _).1]; rfl
  have HF := hid hf
  have SH := hid (shares_any s a c l w hs ha hn hlc hl hc)
  clear hA hB h1 h2 l1 l2 l3 hf
  have hE := @eq4c
  go_enter Tryz.func40, Tryz.ntmps40
  go_wp2_with fail
  refine SH.out.mono ?_
  rintro e w1 ⟨rfl, hb⟩
  go_wp2_with fail
  refine ((LA w1).out).mono ?_
  rintro e w2 ⟨rfl, hb2⟩
  go_wp2_with fail
  refine ((LB w2).out).mono ?_
  rintro e w3 ⟨rfl, hb3⟩
  go_wp2_with fail
  go_ret
  exact ⟨ret_bool (by rw [HF.out, mkS_data, mkS_data, Bool.eq_iff_iff]; simp [sameB]; omega), hb.trans ((hb2.mono hb.size).trans (hb3.mono (Nat.le_trans hb.size hb2.size)))⟩
end Go.Proofs.YtkmpdcckgibkhaaGreat
