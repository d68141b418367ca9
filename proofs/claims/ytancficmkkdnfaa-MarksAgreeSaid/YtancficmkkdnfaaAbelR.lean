/-
  Walks: how often letters occur, the reference's first abelian square.
-/
import Derived.Test.YtancficmkkdnfaaAbel
import Derived.Deep.RegionLaw
namespace Go.Proofs.Ytancficmkkdnfaa
open Go.RowKit
attribute [local go_sem] Oper.semAt_some

set_option maxHeartbeats 400000 in
theorem Counts_any (s : ByteArray) (w : World) (hs : s.size ≤ 1000000) (h : overB 4 s.data.toList = true) :
    Calls Try.prog 65 #[.string s] w fun e w' => e = .returned (cnS s) ∧ Below w.heap.size w w' := by
  go_enter Try.func65, Try.ntmps65
  go_wp2
  go_loopw [4] (fun i wr => ∃ k : Nat, k ≤ s.size ∧ i = .int .i64 k ∧ Below w.heap.size w wr ∧ Blk wr w.heap.size (arr4 fun _ => 0) 83 ∧ 
     Blk wr (w.heap.size + 1) (arr4 fun j => cn (s.data.toList.take k) j) 83) (fun i _ => s.size - (intOf i).toNat)
  case atStart => 
    exact ⟨0, Nat.zero_le _, rfl, ((Below.refl _ _).alloc (Nat.le_refl _) _).alloc (by simp) _, (Blk.new w _ _).alloc _, Blk.mk' (by simp) (by simp [arr4, cn])⟩
  case round =>
    obtain ⟨k, hk, rfl, hB, R, H⟩ := hrel
    by_cases hlt : k < s.size
    · have hl := overB_mem h (byte_mem s k hlt)
      have hb1 := cn_le (s.data.toList.take k) (s[k].toNat - 97)
      have hb2 : (s.data.toList.take k).length ≤ k := List.length_take_le _ _
      have hcc := H.cell4 (s[k].toNat - 97) (by omega)
      have hff := H.free (s[k].toNat - 97)
      generalize hv : cn (s.data.toList.take k) (s[k].toNat - 97) = v at *
      have HV := hid hv
      clear hv
      go_wp2
      refine ⟨⟨k + 1, by omega, by go_num, hB.setCell (Nat.le_succ _) _, R.other _ (by simp) _, H.store4 _ _ (by omega) ?_⟩, by simp [intOf]; omega⟩
      intro i hi
      rw [take_succ_bytes s k hlt, cn_snoc]
      split
      · rename_i he; rw [if_pos (by omega), ← HV.out, show i = s[k].toNat - 97 by omega]; simp
      · rename_i he; rw [if_neg (by omega)]; simp
    · rw [take_all_bytes s k (by omega)] at H
      obtain ⟨q0, q1, q2, q3, -⟩ := H.all4
      obtain ⟨r0, r1, r2, r3, f0, f1, f2, f3⟩ := R.all4
      go_wp2
      refine bodyPost_ret (v := cnS s) (by simp [results, Try.results65, go_sem, r0, r1, r2, r3, cnS]) rfl ⟨rfl, ?_⟩
      exact (((hB.setCell (Nat.le_refl _) _).setCell (Nat.le_refl _) _).setCell (Nat.le_refl _) _).setCell (Nat.le_refl _) _

def RetAb (l : List UInt8) (w : World) (e : Ending) (w' : World) : Prop := e = .returned (.tuple #[.int .i64 (at0 (ab l)), .int .i64 (at1 (ab l)), .bool (ab l).isSome]) ∧ Below w.heap.size w w'

set_option maxRecDepth 10000 in
set_option maxHeartbeats 4000000 in
theorem refAbelian_any (s : ByteArray) (w : World) (hs : s.size ≤ 1000000) (h : overB 4 s.data.toList = true) :
    Calls Try.prog 51 #[.string s] w (RetAb s.data.toList w) := by
  have CT := fun (t : ByteArray) (W : World) (h1 : t.size ≤ 1000000) (h2 : overB 4 t.data.toList = true) => hid (Counts_any t W h1 h2)
  replace CT := hid CT
  have HO := hid (show ∀ a b, b ≤ s.size → (s.extract a b).size ≤ 1000000 ∧ overB 4 (s.extract a b).data.toList = true from fun a b hb => ⟨by rw [ByteArray.size_extract]; omega, by rw [data_extract]; exact overB_take (overB_drop h _) _⟩)
  have hE := bin83
  have hG := guard83
  clear h
  go_enter Try.func51, Try.ntmps51
  go_wp2
  go_loopw [5] (fun i wr => ∃ k : Nat, k ≤ s.size ∧ i = .int .i64 k ∧ Below w.heap.size w wr ∧ Hid (ab s.data.toList = abO (s.data.toList.drop k) k)) (fun i _ => s.size - (intOf i).toNat)
  case atStart => exact ⟨0, Nat.zero_le _, rfl, Below.refl _ _, rfl⟩
  case round =>
    obtain ⟨k, hk, rfl, hb, H⟩ := hrel
    by_cases hlt : k < s.size
    · go_wp2_with fail
      go_loopw [6] (fun i wx => ∃ p : Nat, p ≤ s.size + 1 ∧ 1 ≤ p ∧ i = .int .i64 p ∧ Below w.heap.size w wx ∧ Hid (abI (s.data.toList.drop k) 1 = abI (s.data.toList.drop k) p)) (fun i _ => s.size + 1 - (intOf i).toNat)
      case atStart => exact ⟨1, by omega, by omega, rfl, hb, rfl⟩
      case round =>
        obtain ⟨p, hp, hp1, rfl, hb2, H2⟩ := hrel
        by_cases hle : k + 2 * p ≤ s.size
        · have e1 : sameS (s.extract k (k + p)) (s.extract (k + p) (k + 2 * p)) = sameB ((s.data.toList.drop k).take p) (((s.data.toList.drop k).drop p).take p) := by
            unfold sameS; rw [data_extract, data_extract, List.drop_drop, show k + p - k = p by omega, show k + 2 * p - (k + p) = p by omega]
          have HB := hid hb2
          have W1 : IntKind.i64.wrap ((k : Int) + (p : Int)) = (k : Int) + p := IntWalk.i64_in _ (by omega)
          have W2 : IntKind.i64.wrap (2 * (p : Int)) = 2 * (p : Int) := IntWalk.i64_in _ (by omega)
          have W3 : IntKind.i64.wrap ((k : Int) + 2 * (p : Int)) = (k : Int) + 2 * (p : Int) := IntWalk.i64_in _ (by omega)
          have z1 : (0 : Int) ≤ (k : Int) + p := by omega
          have z2 : (k : Int) + p ≤ (s.size : Int) := by omega
          have z3 : (k : Int) ≤ (k : Int) + p := by omega
          have z4 : ((k : Int) + p).toNat = k + p := by omega
          have z5 : (0 : Int) ≤ (k : Int) + 2 * p := by omega
          have z6 : (k : Int) + 2 * p ≤ (s.size : Int) := by omega
          have z7 : (k : Int) + p ≤ (k : Int) + 2 * p := by omega
          have z8 : ((k : Int) + 2 * p).toNat = k + 2 * p := by omega
          have O1 := hid (HO.out k (k + p) (by omega))
          have O2 := hid (HO.out (k + p) (k + 2 * p) (by omega))
          cases he : sameB ((s.data.toList.drop k).take p) (((s.data.toList.drop k).drop p).take p) with
          | true =>
            rw [he] at e1
            have hfin : ab s.data.toList = some (k, p) := by
              rw [H.out, abO_some _ _ p]; rw [H2.out, abI_yes _ _ (by rw [List.length_drop, bytes_len]; omega) he]
            have HF := hid hfin
            clear hfin he hb2
            go_wp2_with fail
            go_region_with (first | (go_at_call 65; refine ((CT.out _ _ ?_ ?_).out).mono ?_; exact O1.out.1; exact O1.out.2; rintro e w1 ⟨rfl, hb1⟩) | (go_at_call 65; refine ((CT.out _ _ ?_ ?_).out).mono ?_; exact O2.out.1; exact O2.out.2; rintro e w9 ⟨rfl, hb9⟩))
            have h1 := HB.out.drew.trans (hb1.mono HB.out.drew.size)
            have h2 := h1.trans (hb9.mono h1.size)
            go_wp2
            refine bodyPost_ret (results_tmp3 rfl _ _ _) rfl ?_
            exact ⟨by rw [HF.out]; rfl, h2⟩
          | false =>
            rw [he] at e1
            have hfin : abI (s.data.toList.drop k) 1 = abI (s.data.toList.drop k) (p + 1) := by
              rw [H2.out, abI_no _ _ (by rw [List.length_drop, bytes_len]; omega) he]
            have HF := hid hfin
            clear hfin he hb2
            go_wp2_with fail
            go_region_with (first | (go_at_call 65; refine ((CT.out _ _ ?_ ?_).out).mono ?_; exact O1.out.1; exact O1.out.2; rintro e w1 ⟨rfl, hb1⟩) | (go_at_call 65; refine ((CT.out _ _ ?_ ?_).out).mono ?_; exact O2.out.1; exact O2.out.2; rintro e w9 ⟨rfl, hb9⟩))
            have h1 := HB.out.drew.trans (hb1.mono HB.out.drew.size)
            have h2 := h1.trans (hb9.mono h1.size)
            go_wp2
            exact ⟨⟨p + 1, by omega, by omega, by go_num, h2, HF⟩, by simp [intOf]; omega⟩
        · have hfin : ab s.data.toList = abO (s.data.toList.drop (k + 1)) (k + 1) := by
            rw [H.out, abO_none _ _ (by rw [bytes_len]; exact hlt)]
            rw [H2.out, abI_end _ _ (by rw [List.length_drop, bytes_len]; omega)]
          have HF := hid hfin
          clear hfin
          go_wp2
          exact ⟨⟨k + 1, by omega, by go_num, hb2, HF⟩, by simp [intOf]; omega⟩
    · have hfin : ab s.data.toList = none := by rw [H.out, List.drop_eq_nil_of_le (by rw [bytes_len]; omega)]; rfl
      have HF := hid hfin
      clear hfin
      go_wp2
      refine bodyPost_ret (results_tmp3 rfl _ _ _) rfl ?_
      exact ⟨by rw [HF.out]; rfl, hb⟩
end Go.Proofs.Ytancficmkkdnfaa
