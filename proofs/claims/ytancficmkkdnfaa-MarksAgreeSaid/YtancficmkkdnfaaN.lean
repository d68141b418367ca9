/-
  Walks: mod, tame, free, back.
-/
import Derived.Test.YtancficmkkdnfaaM
namespace Go.Proofs.Ytancficmkkdnfaa
open Go.RowKit

theorem Try.info5 : (Try.prog.info? 5).map (fun i => (i.zero, i.size, i.bytes)) = some (some (.int .u8 0), 1, 1) := by kernel_rfl
theorem mod_eq (a b : Int) (h : 0 < b) (hb : b ≤ 1000) (_ha : -9223372036854775808 ≤ a ∧ a ≤ 9223372036854775807) : wrap64 ((IntKind.u64.wrap a).tmod (IntKind.u64.wrap b)) = (a % 18446744073709551616) % b := by
  have h1 : IntKind.u64.wrap b = b := IntWalk.u64_in _ (by omega)
  have h2 : IntKind.u64.wrap a = a % 18446744073709551616 := by simp [IntKind.wrap, IntKind.bits, IntKind.signed]
  rw [h1, h2, IntWalk.rem_in _ _ (by omega)]
  exact IntWalk.wrap64_in _ (by have := Int.emod_nonneg (a % 18446744073709551616) (show b ≠ 0 by omega); have := Int.emod_lt_of_pos (a % 18446744073709551616) h; omega)
set_option maxHeartbeats 400000 in
theorem mod_any' (a b : Int) (w : World) (h : 0 < b) (hb : b ≤ 1000) (ha : -9223372036854775808 ≤ a ∧ a ≤ 9223372036854775807) :
    Calls Try.prog 28 #[.int .i64 a, .int .i64 b] w fun e w' => e = .returned (.int .i64 ((a % 18446744073709551616) % b)) ∧ w = w' := by
  have H := hid (mod_eq a b h hb ha)
  have hz : ¬ IntKind.u64.wrap b = 0 := by rw [IntWalk.u64_in _ (by omega)]; omega
  go_enter Try.func28, Try.ntmps28
  go_wp2
  go_ret
  exact ⟨ret_int (by have := H.out; rw [show IntKind.u64.wrap b = b from IntWalk.u64_in _ (by omega)] at this; exact this), rfl⟩
/-- A number below n. -/
def modN (a : Int) (n : Nat) : Nat := ((a % 18446744073709551616) % (n : Int)).toNat
theorem modN_lt (a : Int) (n : Nat) (h : 0 < n) : modN a n < n := by
  unfold modN
  have := Int.emod_nonneg (a % 18446744073709551616) (show (n : Int) ≠ 0 by omega)
  have := Int.emod_lt_of_pos (a % 18446744073709551616) (show 0 < (n : Int) by omega)
  omega
theorem mod_any (a : Int) (n : Nat) (w : World) (h : 0 < n) (hb : n ≤ 1000) (ha : -9223372036854775808 ≤ a ∧ a ≤ 9223372036854775807) :
    Calls Try.prog 28 #[.int .i64 a, .int .i64 n] w fun e w' => e = .returned (.int .i64 (modN a n)) ∧ w = w' := by
  refine (mod_any' a n w (by omega) (by omega) ha).mono ?_
  rintro e w' ⟨rfl, hw⟩
  refine ⟨ret_int ?_, hw⟩
  unfold modN
  have := Int.emod_nonneg (a % 18446744073709551616) (show (n : Int) ≠ 0 by omega)
  omega

/-- A letter made of any byte. -/
def tamC (k : Nat) (c : UInt8) : UInt8 := UInt8.ofNat (97 + c.toNat % k)
def tameL (most k : Nat) (l : List UInt8) : List UInt8 := (l.take most).map (tamC k)
theorem tamC_nat (k : Nat) (c : UInt8) (hk : 1 ≤ k) (hk2 : k ≤ 20) : (tamC k c).toNat = 97 + c.toNat % k := by
  have := Nat.mod_lt c.toNat (show k > 0 by omega)
  rw [tamC, UInt8.toNat_ofNat', Nat.mod_eq_of_lt (by omega)]
theorem tame_over (most k : Nat) (l : List UInt8) (hk : 1 ≤ k) (hk2 : k ≤ 20) : overB k (tameL most k l) = true := by
  rw [overB, List.all_eq_true]
  intro x hx
  obtain ⟨c, _, rfl⟩ := List.mem_map.1 hx
  rw [okk_iff, tamC_nat k c hk hk2]
  have := Nat.mod_lt c.toNat (show k > 0 by omega)
  omega
theorem tame_len (most k : Nat) (l : List UInt8) : (tameL most k l).length ≤ most := by
  rw [tameL, List.length_map, List.length_take]; omega

set_option maxHeartbeats 1000000 in
theorem tame_any (s : ByteArray) (most k : Nat) (w : World) (hk : 1 ≤ k) (hk2 : k ≤ 4) (hm : most ≤ 1000) (hs : s.size ≤ 9223372036854775807) :
    Calls Try.prog 27 #[.string s, .int .i64 most, .int .i64 k] w fun e w' => e = .returned (.string (mkS (tameL most k s.data.toList))) ∧ Below w.heap.size w w' := by
  go_enter Try.func27, Try.ntmps27
  go_wp2
  go_loopw [7, 8] (fun v i wr => ∃ (j : Nat) (L : List UInt8), j ≤ s.size ∧ j ≤ most ∧ i = .int .i64 j ∧ Below w.heap.size w wr ∧ wr.ownsRow w.heap.size 5 1 v L.length (L.map u8v) ∧ L.length = j ∧ Hid (L = (s.data.toList.take j).map (tamC k))) (fun _ i _ => s.size - (intOf i).toNat)
  case atStart => exact ⟨0, [], by omega, by omega, rfl, Below.refl _ _, World.ownsRow_nil _ _ _ _, rfl, rfl⟩
  case round =>
    obtain ⟨j, L, hj, hjm, rfl, hB, hown, hL, HL⟩ := hrel
    have HLj := hid hL
    have hLb : L.length ≤ 1000 := by omega
    clear hL
    by_cases hlt : j < s.size ∧ j < most
    · obtain ⟨hlt1, hlt2⟩ := hlt
      have hkw : IntKind.u8.wrap (k : Int) = (k : Int) := IntWalk.u8_in _ (by omega)
      have hmod : Int.tmod (s[j].toNat : Int) (k : Int) = ((s[j].toNat % k : Nat) : Int) := tmod_nat _ _
      have hml := Nat.mod_lt s[j].toNat (show k > 0 by omega)
      have hX : ∀ X : Int, X = 97 + ((s[j].toNat % k : Nat) : Int) → L.map u8v ++ [.int .u8 X] = (L ++ [tamC k s[j]]).map u8v := by
        rintro _ rfl
        simp only [List.map_append, List.map_cons, List.map_nil, u8v]
        rw [tamC_nat k _ hk (by omega)]
        congr 3
      have HX := hid hX
      obtain ⟨r, hr⟩ : ∃ r, r = s[j].toNat % k := ⟨_, rfl⟩
      rw [← hr] at hmod hml HX
      have HR := hid hr
      clear hX hr
      go_wp2_with (at_builtin; go_must (refine wpList_app _ rfl (.tmp 20) (.tmp 30) 66 rfl w.heap.size 5 (.int .u8 0) 1 Try.underlying66 Try.info5 rfl _ L.length _ rfl (hown.alloc _) (some ⟨wr.heap.size, 0, none⟩) 1 1 [.int .u8 _] rfl rfl (vals_new _ _ _ _ rfl) (fun h => by cases h) (by simp [Value.oneCell']) (by omega) (by omega) (by have := hB.size; simp; omega) ?_))
      intro v' w1 hown' hgrow _
      rw [HX.out _ rfl] at hown'
      have hB' := below_app (hB.alloc hB.size _) hgrow (hown.alloc _) (by have := hB.size; simp; omega) (Nat.le_refl _)
      go_wp2
      go_roundw
      case rel => exact ⟨j + 1, L ++ [tamC k s[j]], by omega, by omega, by go_num, hB', by simpa using hown', by simp [HLj.out], by rw [Hid, take_succ_bytes s j hlt1, HL.out, List.map_append]; rfl⟩
      case measure => simp [intOf]; omega
    · have hend : L = tameL most k s.data.toList := by
        rw [HL.out, tameL]
        by_cases h : j < s.size
        · rw [show most = j by omega]
        · rw [take_all_bytes s j (by omega), List.take_of_length_le (by rw [bytes_len]; omega)]
      obtain ⟨a1, c1, rfl, hv1, -⟩ := ownsRow_vals hown
      have hlen : (L.map u8v).length = L.length := List.length_map ..
      have hn1 := (ownsRow_facts hown).2
      have hnil : a1 = none → L = [] := fun h => List.eq_nil_of_length_eq_zero (by have := hn1.2 h; have := hn1.1; omega)
      have hcv := run_strB (P := Try.prog) 66 9 5 Try.underlying66 Try.underlying5 Try.underlying9 wr a1 c1 L hv1 hnil
      have HF := hid hend
      clear hn1 hnil hown hv1 hend
      rw [hlen]
      clear hlen
      have hjd : decide ((j : Int) < (s.size : Int)) = decide (j < s.size) := by rw [decide_eq_decide]; omega
      by_cases h1 : j < s.size
      · have h2 : ¬ j < most := fun h => hlt ⟨h1, h⟩
        go_wp2
        go_ret
        exact ⟨ret_str (by rw [HF.out]), hB⟩
      · go_wp2
        go_ret
        exact ⟨ret_str (by rw [HF.out]), hB⟩

theorem extract_one (s : ByteArray) (k : Nat) (h : k < s.size) : s.extract k (k + 1) = mkS [s[k]] := by
  refine mkS_eq _ _ ?_
  rw [data_extract, show k + 1 - k = 1 by omega, bytes_drop s k h]; rfl

set_option maxHeartbeats 1000000 in
theorem back_any (s : ByteArray) (w : World) (hs : s.size ≤ 1000) :
    Calls Try.prog 49 #[.string s] w fun e w' => e = .returned (.string (mkS s.data.toList.reverse)) ∧ w = w' := by
  go_enter Try.func49, Try.ntmps49
  go_wp2
  go_loop [3, 4] (fun v i => ∃ (k : Nat) (t : ByteArray), k ≤ s.size ∧ i = .int .i64 k ∧ v = .string t ∧ t.size = k ∧ Hid (t = mkS (s.data.toList.take k).reverse)) (fun _ i => s.size - (intOf i).toNat)
  case atStart => exact ⟨0, _, by omega, rfl, rfl, rfl, rfl⟩
  case round =>
    obtain ⟨k, t, hk, rfl, rfl, ht, HT⟩ := hrel
    by_cases hlt : k < s.size
    · have e1 := extract_one s k hlt
      obtain ⟨x, hx⟩ : ∃ x, x = s.extract k (k + 1) := ⟨_, rfl⟩
      have hx2 := hx.symm
      have hxs : x.size = 1 := by rw [hx, e1]; rfl
      have hsz : x.size + t.size ≤ 9223372036854775807 := by omega
      have hnew : x ++ t = mkS (s.data.toList.take (k + 1)).reverse := by
        rw [hx, e1, HT.out, mkS_append, take_succ_bytes s k hlt, List.reverse_append]; rfl
      have hns : (x ++ t).size = k + 1 := by rw [ByteArray.size_append]; omega
      have HN := hid hnew
      have HNS := hid hns
      clear e1 hx hxs hnew hns ht
      go_wp2
      go_round
      case rel => exact ⟨k + 1, x ++ t, by omega, by go_num, rfl, HNS.out, HN⟩
      case measure => simp [intOf]; omega
    · have hfin : t = mkS s.data.toList.reverse := by rw [HT.out, take_all_bytes s k (by omega)]
      have HF := hid hfin
      clear hfin ht
      go_wp2
      go_ret
      exact ⟨ret_str (by rw [HF.out]), rfl⟩

/-- The longest beginning that is square-free. -/
def freeN (l : List UInt8) : Nat → Nat → Nat
  | 0, n => n
  | f + 1, n => if n < l.length ∧ freeB (l.take (n + 1)) = true then freeN l f (n + 1) else n
def freeL (l : List UInt8) : List UInt8 := l.take (freeN l l.length 0)
theorem freeN_le (l : List UInt8) : ∀ (f n : Nat), n ≤ l.length → freeN l f n ≤ l.length := by
  intro f
  induction f with
  | zero => intro n h; exact h
  | succ f ih =>
    intro n h
    rw [freeN]
    split
    · rename_i h1; exact ih (n + 1) h1.1
    · exact h
theorem freeN_free (l : List UInt8) : ∀ (f n : Nat), freeB (l.take n) = true → freeB (l.take (freeN l f n)) = true := by
  intro f
  induction f with
  | zero => intro n h; exact h
  | succ f ih =>
    intro n h
    rw [freeN]
    split
    · rename_i h1; exact ih (n + 1) h1.2
    · exact h
theorem freeN_stop (l : List UInt8) : ∀ (f n : Nat), l.length ≤ n + f → n ≤ l.length → freeN l f n < l.length → freeB (l.take (freeN l f n + 1)) = false := by
  intro f
  induction f with
  | zero => intro n h h0 h1; rw [freeN] at h1; omega
  | succ f ih =>
    intro n h h0 h1
    rw [freeN] at h1 ⊢
    by_cases hc : n < l.length ∧ freeB (l.take (n + 1)) = true
    · rw [if_pos hc] at h1 ⊢
      exact ih (n + 1) (by omega) (by omega) h1
    · rw [if_neg hc] at h1 ⊢
      cases hb : freeB (l.take (n + 1)) with
      | false => rfl
      | true => exact absurd ⟨h1, hb⟩ hc
theorem freeL_free (l : List UInt8) : freeB (freeL l) = true := freeN_free l _ 0 rfl
theorem freeL_take (l : List UInt8) : ∃ n, n ≤ l.length ∧ freeL l = l.take n ∧ (n < l.length → freeB (l.take (n + 1)) = false) :=
  ⟨_, freeN_le l _ 0 (Nat.zero_le _), rfl, freeN_stop l _ 0 (by omega) (Nat.zero_le _)⟩

set_option maxHeartbeats 1000000 in
theorem free_fn (s : ByteArray) (w : World) (hs : s.size ≤ 1000) :
    Calls Try.prog 38 #[.string s] w fun e w' => e = .returned (.string (mkS (freeL s.data.toList))) ∧ Below w.heap.size w w' := by
  go_enter Try.func38, Try.ntmps38
  go_wp2
  go_loopw [3] (fun i wr => ∃ k : Nat, k ≤ s.size ∧ i = .int .i64 k ∧ Below w.heap.size w wr ∧ Hid (freeN s.data.toList s.data.toList.length 0 = freeN s.data.toList (s.data.toList.length - k) k)) (fun i _ => s.size - (intOf i).toNat)
  case atStart => exact ⟨0, by omega, rfl, Below.refl _ _, rfl⟩
  case round =>
    obtain ⟨k, hk, rfl, hB, HK⟩ := hrel
    have hfin : ∀ t : ByteArray, t = s.extract 0 k → freeN s.data.toList s.data.toList.length 0 = k → t = mkS (freeL s.data.toList) := fun t ht h => by
      rw [ht]
      refine mkS_eq _ _ ?_
      rw [data_extract, freeL, h]; simp
    have HFIN := hid hfin
    clear hfin
    by_cases hlt : k < s.size
    · obtain ⟨x, hx⟩ : ∃ x, x = s.extract 0 (k + 1) := ⟨_, rfl⟩
      have hx2 := hx.symm
      have hxd : x.data.toList = s.data.toList.take (k + 1) := by rw [hx, data_extract]; simp
      have HN := hid (refFree_any x wr (by rw [hx, ByteArray.size_extract]; omega))
      have hxb : freeB x.data.toList = freeB (s.data.toList.take (k + 1)) := by rw [hxd]
      rw [hxb] at HN
      have hst := HK.out
      rw [show s.data.toList.length - k = (s.data.toList.length - (k + 1)) + 1 by rw [bytes_len]; omega, freeN] at hst
      have HST := hid hst
      clear hst hx hxd hxb
      cases hb : freeB (s.data.toList.take (k + 1)) with
      | true =>
        rw [hb] at HN
        have hst2 := HST.out
        rw [if_pos ⟨by rw [bytes_len]; exact hlt, hb⟩] at hst2
        have HST2 := hid hst2
        clear hst2 hb
        go_wp2_with fail
        refine HN.out.mono ?_
        rintro e w1 ⟨rfl, hb1⟩
        go_wp2_with fail
        exact ⟨⟨k + 1, by omega, by go_num, hB.trans (hb1.mono hB.size), HST2⟩, by simp [intOf]; omega⟩
      | false =>
        rw [hb] at HN
        have hst2 := HST.out
        rw [if_neg (by rw [hb]; simp)] at hst2
        have HST2 := hid hst2
        clear hst2 hb
        go_wp2_with fail
        refine HN.out.mono ?_
        rintro e w1 ⟨rfl, hb1⟩
        go_wp2_with fail
        go_ret
        exact ⟨ret_str (HFIN.out _ rfl HST2.out), hB.trans (hb1.mono hB.size)⟩
    · have hst := HK.out
      rw [show s.data.toList.length - k = 0 by rw [bytes_len]; omega, freeN] at hst
      have HST2 := hid hst
      clear hst
      go_wp2_with fail
      go_ret
      exact ⟨ret_str (HFIN.out _ rfl HST2.out), hB⟩
end Go.Proofs.Ytancficmkkdnfaa
