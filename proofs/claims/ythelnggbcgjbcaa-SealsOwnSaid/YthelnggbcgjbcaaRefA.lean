/-
  Walks: the first functions of the reference and of the statements.
-/
import Derived.Test.YthelnggbcgjbcaaRows
import Derived.Test.YthelnggbcgjbcaaBase
import Derived.Test.YthelnggbcgjbcaaPure
namespace Go.Proofs.Ythelnggbcgjbcaa
open Go.RowKit
set_option maxHeartbeats 400000 in
theorem within_any (a b c : Int) (w : World) :
    Calls Try.prog 52 #[.int .i64 a, .int .i64 b, .int .i64 c] w fun e w' => e = .returned (.bool (decide (b ≤ a) && decide (a ≤ c))) ∧ w = w' := by
  by_cases h : b ≤ a
  · go_enter Try.func52, Try.ntmps52
    go_wp2
    go_ret; exact ⟨ret_bool (by simp [h]), rfl⟩
  · have hd : decide (b ≤ a) = false := by simpa using h
    go_enter Try.func52, Try.ntmps52
    go_wp2
    all_goals (go_ret; exact ⟨ret_bool (by simp [h]), rfl⟩)

set_option maxHeartbeats 400000 in
theorem refChain_any (s : ByteArray) (w : World) (h : s.size ≤ 9223372036854775807) :
    Calls Try.prog 23 #[.string s] w fun e w' => e = .returned (.bool (chainB s.data.toList)) ∧ w = w' := by
  go_enter Try.func23, Try.ntmps23
  go_wp2
  go_loop [3] (fun i => ∃ k : Nat, k ≤ s.size ∧ i = .int .i64 k ∧ Hid (chainB s.data.toList = ((s.data.toList.drop k).all okb && decide (s.size ≤ 24)))) (fun i => s.size - (intOf i).toNat)
  case atStart => exact ⟨0, Nat.zero_le _, rfl, rfl⟩
  case round =>
    obtain ⟨k, hk, rfl, H⟩ := hrel
    by_cases hlt : k < s.size
    · have H2 := hid (bytes_drop s k hlt)
      go_wp2
      · go_ret
        exact ⟨ret_bool (by rw [H.out, H2.out]; rw [all_bad _ _ (by omega)]; rfl), rfl⟩
      · exact ⟨⟨k + 1, by omega, by go_num, by rw [Hid, H.out, H2.out, all_ok _ _ (by omega)]⟩, by simp [intOf]; omega⟩
      · go_ret
        exact ⟨ret_bool (by rw [H.out, H2.out, all_bad _ _ (by omega)]; rfl), rfl⟩
    · go_wp2
      go_ret
      exact ⟨ret_bool (by rw [H.out, bytes_drop_end s k (by omega)]; simp; omega), rfl⟩
set_option maxHeartbeats 400000 in
theorem ints_any (a b : Option Addr) (c d : Nat) (l m : List Int) (w : World) (ha : Ints w a l) (hb : Ints w b m) (hl : l.length ≤ 9223372036854775807) (_hm : m.length ≤ 9223372036854775807) :
    Calls Try.prog 17 #[.slice a l.length c, .slice b m.length d] w fun e w' => e = .returned (.bool (l == m)) ∧ Below w.heap.size w w' := by
  by_cases hlen : l.length = m.length
  · have h0 : (((l.length : Nat) : Int) != ((m.length : Nat) : Int)) = false := by simp [hlen]
    have HL := hid hlen; clear hlen
    go_enter Try.func17, Try.ntmps17
    go_wp2
    go_loopw [5] (fun i wr => ∃ k : Nat, k ≤ l.length ∧ i = .int .i64 k ∧ Below w.heap.size w wr ∧ Hid ((l == m) = (l.drop k == m.drop k))) (fun i _ => l.length - (intOf i).toNat)
    case atStart => exact ⟨0, Nat.zero_le _, rfl, Below.refl _ _, rfl⟩
    case round =>
      obtain ⟨k, hk, rfl, hB, H⟩ := hrel
      by_cases hlt : k < l.length
      · obtain ⟨x, hx, hx2⟩ := list_drop_cons l k hlt
        obtain ⟨y, hy, hy2⟩ := list_drop_cons m k (by have := HL.out; omega)
        obtain ⟨g, o, rfl, hg, hc⟩ := ha.at (by omega)
        obtain ⟨g2, o2, rfl, hg2, hc2⟩ := hb.at (by have := HL.out; omega)
        have q1 := (hB.cell (p := ⟨g, o + k, none⟩) hg).trans (hc k x hx)
        have q2 := (hB.cell (p := ⟨g2, o2 + k, none⟩) hg2).trans (hc2 k y hy)
        have hlt2 : k < m.length := by have := HL.out; omega
        have X2 := hid hx2; have Y2 := hid hy2
        clear hx hy hx2 hy2 hc hc2
        go_wp2
        go_quiet (fail)
        go_wp2
        · go_ret
          have hxy : (x == y) = false := by simpa [bne] using ‹(x != y) = true›
          exact ⟨ret_bool (by rw [H.out, X2.out, Y2.out]; simp [hxy]), below_drewN hB _⟩
        · have hxy : (x == y) = true := by simpa [bne] using ‹(x != y) = false›
          exact ⟨⟨k + 1, by omega, by go_num, below_drewN hB _, by rw [Hid, H.out, X2.out, Y2.out]; simp [hxy]⟩, by simp [intOf]; omega⟩
      · go_wp2
        go_ret
        exact ⟨ret_bool (by rw [H.out, List.drop_eq_nil_of_le (by omega), List.drop_eq_nil_of_le (by have := HL.out; omega)]; rfl), hB⟩
  · have h0 : (((l.length : Nat) : Int) != ((m.length : Nat) : Int)) = true := by simp; omega
    have hne : (l == m) = false := by rw [beq_eq_false_iff_ne]; intro e; exact hlen (by rw [e])
    have HN := hid hne; clear hne hlen
    go_enter Try.func17, Try.ntmps17
    go_wp2
    go_ret
    exact ⟨ret_bool HN.out.symm, Below.refl _ _⟩


theorem mod_eq (a b : Int) (h : 0 < b) (hb : b ≤ 1000) (_ha : -9223372036854775808 ≤ a ∧ a ≤ 9223372036854775807) : wrap64 ((IntKind.u64.wrap a).tmod (IntKind.u64.wrap b)) = (a % 18446744073709551616) % b := by
  have h1 : IntKind.u64.wrap b = b := IntWalk.u64_in _ (by omega)
  have h2 : IntKind.u64.wrap a = a % 18446744073709551616 := by simp [IntKind.wrap, IntKind.bits, IntKind.signed]
  rw [h1, h2, IntWalk.rem_in _ _ (by omega)]
  exact IntWalk.wrap64_in _ (by have := Int.emod_nonneg (a % 18446744073709551616) (show b ≠ 0 by omega); have := Int.emod_lt_of_pos (a % 18446744073709551616) h; omega)

set_option maxHeartbeats 400000 in
theorem mod_any (a b : Int) (w : World) (h : 0 < b) (hb : b ≤ 1000) (ha : -9223372036854775808 ≤ a ∧ a ≤ 9223372036854775807) :
    Calls Try.prog 14 #[.int .i64 a, .int .i64 b] w fun e w' => e = .returned (.int .i64 ((a % 18446744073709551616) % b)) ∧ w = w' := by
  have H := hid (mod_eq a b h hb ha)
  have hz : ¬ IntKind.u64.wrap b = 0 := by rw [IntWalk.u64_in _ (by omega)]; omega
  go_enter Try.func14, Try.ntmps14
  go_wp2
  go_ret
  exact ⟨ret_int (by have := H.out; rw [show IntKind.u64.wrap b = b from IntWalk.u64_in _ (by omega)] at this; exact this), rfl⟩

set_option maxHeartbeats 400000 in
theorem short_any (s : ByteArray) (w : World) (hs : s.size ≤ 9223372036854775807) :
    Calls Try.prog 19 #[.string s] w fun e w' => e = .returned (.string (s.extract 0 (min s.size 25))) ∧ w = w' := by
  go_enter Try.func19, Try.ntmps19
  go_wp2
  · go_ret
    exact ⟨by rw [Nat.min_eq_right (by omega)]; rfl, rfl⟩
  · go_ret
    exact ⟨by rw [Nat.min_eq_left (by omega), ByteArray.extract_zero_size]; rfl, rfl⟩


theorem letter_lt (s : ByteArray) (k : Nat) (h : s.data.toList.all okb = true) (hk : k < s.size) : 97 ≤ s[k].toNat ∧ s[k].toNat ≤ 100 := by
  rw [List.all_eq_true] at h
  exact (okb_iff _).1 (h s[k] (byte_mem s k hk))

set_option maxHeartbeats 400000 in
theorem Letters_any (s : ByteArray) (w : World) (hs : s.size ≤ 9223372036854775807) (h : s.data.toList.all okb = true) :
    Calls Try.prog 33 #[.string s] w fun e w' => e = .returned (.agg #[.int .i64 (cn s.data.toList 0), .int .i64 (cn s.data.toList 1), .int .i64 (cn s.data.toList 2), .int .i64 (cn s.data.toList 3)]) ∧ Below w.heap.size w w' := by
  go_enter Try.func33, Try.ntmps33
  go_wp2
  go_loopw [4] (fun i wr => ∃ k : Nat, k ≤ s.size ∧ i = .int .i64 k ∧ Below w.heap.size w wr ∧ Blk wr w.heap.size (arr4 fun _ => 0) 22 ∧ 
     Blk wr (w.heap.size + 1) (arr4 fun j => cn (s.data.toList.take k) j) 22) (fun i _ => s.size - (intOf i).toNat)
  case atStart => 
    exact ⟨0, Nat.zero_le _, rfl, ((Below.refl _ _).alloc (Nat.le_refl _) _).alloc (by simp) _, (Blk.new w _ _).alloc _, Blk.mk' (by simp) (by simp [arr4, cn])⟩
  case round =>
    obtain ⟨k, hk, rfl, hB, R, H⟩ := hrel
    by_cases hlt : k < s.size
    · have hl := letter_lt s k h hlt
      have hb1 := cn_le (s.data.toList.take k) (s[k].toNat - 97)
      have hb2 : (s.data.toList.take k).length ≤ k := List.length_take_le _ _
      have hcc := H.cell4 (s[k].toNat - 97) (by omega)
      have hff := H.free (s[k].toNat - 97)
      generalize hv : cn (s.data.toList.take k) (s[k].toNat - 97) = v at *
      have HV := hid hv
      clear hv
      go_wp2
      refine ⟨⟨k + 1, by omega, by go_num, hB.setCell (Nat.le_succ _) _, R.other _ (by simp) _, H.store4 _ _ (by omega) ?_⟩, by simp [intOf]; omega⟩
      intro i hi
      rw [take_succ_bytes s k hlt, cn_snoc]
      split
      · rename_i he; rw [if_pos (by omega), ← HV.out, show i = s[k].toNat - 97 by omega]; simp
      · rename_i he; rw [if_neg (by omega)]; simp
    · rw [take_all_bytes s k (by omega)] at H
      obtain ⟨q0, q1, q2, q3, -⟩ := H.all4
      obtain ⟨r0, r1, r2, r3, f0, f1, f2, f3⟩ := R.all4
      go_wp2
      refine bodyPost_ret (v := .agg #[.int .i64 (cn s.data.toList 0), .int .i64 (cn s.data.toList 1), .int .i64 (cn s.data.toList 2), .int .i64 (cn s.data.toList 3)]) (by simp [results, Try.results33, go_sem, r0, r1, r2, r3]) rfl ⟨rfl, ?_⟩
      exact (((hB.setCell (Nat.le_refl _) _).setCell (Nat.le_refl _) _).setCell (Nat.le_refl _) _).setCell (Nat.le_refl _) _


theorem Try.info3 : (Try.prog.info? 3).map (fun i => (i.zero, i.size, i.bytes)) = some (some (.int .i64 0), 1, 8) := by kernel_rfl

set_option maxHeartbeats 400000 in
theorem list_any (a : Option Addr) (c : Nat) (l : List Int) (w : World) (ha : Ints w a l) (hc : l.length ≤ c) (hn : a = none → c = 0) (hl : l.length ≤ 9223372036854775807) :
    Calls Try.prog 20 #[.slice a l.length c] w (RetInts (l.take 30) w) := by
  have hT : Ints w a (l.take 30) := ha.take 30
  have hz : a = none → l.length = 0 ∧ c = 0 := fun h => by have := hn h; omega
  have HN := hid hz
  clear hn hz
  have hm : (l.take 30).length = min 30 l.length := List.length_take
  have HM := hid hm
  clear hm
  by_cases h0 : 30 < l.length
  · go_enter Try.func20, Try.ntmps20
    go_wp2_with (at_builtin; go_must (refine wpList_app _ rfl (.tmp 4) (.tmp 9) 23 rfl w.heap.size 3 (.int .i64 0) 8 Try.underlying23 Try.info3 rfl _ 0 [] rfl (World.ownsRow_nil _ _ _ _) a 30 c _ rfl ?_ hT ?_ (ints_one _) (by omega) (by omega) (Nat.le_refl _) ?_))
    · rw [List.length_map, HM.out]; omega
    · intro h; have := (HN.out h); omega
    · intro v' w1 hown hgrow _
      obtain ⟨a', c', rfl, hr⟩ := ownsRow_ints (l := l.take 30) (by simpa using hown)
      go_wp2
      go_ret
      exact ⟨a', c', rfl, hr, (Below.refl _ w).grown hgrow (Nat.le_refl _) (by simp [Value.ownBlock])⟩
  · go_enter Try.func20, Try.ntmps20
    go_wp2_with (at_builtin; go_must (refine wpList_app _ rfl (.tmp 4) (.tmp 9) 23 rfl w.heap.size 3 (.int .i64 0) 8 Try.underlying23 Try.info3 rfl _ 0 [] rfl (World.ownsRow_nil _ _ _ _) a l.length c _ rfl ?_ hT ?_ (ints_one _) (by omega) (by omega) (Nat.le_refl _) ?_))
    · rw [List.length_map, HM.out]; omega
    · exact HN.out
    · intro v' w1 hown hgrow _
      obtain ⟨a', c', rfl, hr⟩ := ownsRow_ints (l := l.take 30) (by simpa using hown)
      go_wp2
      go_ret
      exact ⟨a', c', rfl, hr, (Below.refl _ w).grown hgrow (Nat.le_refl _) (by simp [Value.ownBlock])⟩

set_option maxHeartbeats 400000 in
theorem refEven_any (s : ByteArray) (w : World) (hs : s.size ≤ 9223372036854775807) (h : s.data.toList.all okb = true) :
    Calls Try.prog 26 #[.string s] w fun e w' => e = .returned (.bool (evenB s.data.toList)) ∧ Below w.heap.size w w' := by
  go_enter Try.func26, Try.ntmps26
  go_wp2_with (go_at_call 33; refine (Letters_any s _ hs h).mono ?_; rintro e w1 ⟨rfl, hb⟩)
  all_goals (go_ret; exact ⟨ret_bool (by rw [Bool.eq_iff_iff]; simp [evenB]; omega), hb.alloc hb.size _⟩)

def cutsLoop (n first : Int) : Option Int → List Int → Bool
  | _, [] => true
  | none, c :: r => decide (first ≤ c) && decide (c < n) && cutsLoop n first (some c) r
  | some p, c :: r => decide (first ≤ c) && decide (c < n) && decide (p < c) && cutsLoop n first (some c) r

def pv (l : List Int) (k : Nat) : Option Int := if k = 0 then none else l[k - 1]?
theorem pv_succ (l : List Int) (k : Nat) (x : Int) (h : l[k]? = some x) : pv l (k + 1) = some x := by simp [pv, h]

set_option maxHeartbeats 400000 in
theorem refCuts_any (s : ByteArray) (a : Option Addr) (c : Nat) (l : List Int) (f : Int) (w : World) (_hs : s.size ≤ 9223372036854775807) (ha : Ints w a l) (hl : l.length ≤ 9223372036854775807) :
    Calls Try.prog 24 #[.string s, .slice a l.length c, .int .i64 f] w fun e w' => e = .returned (.bool (cutsLoop s.size f none l)) ∧ Below w.heap.size w w' := by
  go_enter Try.func24, Try.ntmps24
  go_wp2
  go_loopw [7] (fun i wr => ∃ k : Nat, k ≤ l.length ∧ i = .int .i64 k ∧ Below w.heap.size w wr ∧ Hid (cutsLoop s.size f none l = cutsLoop s.size f (pv l k) (l.drop k))) (fun i _ => l.length - (intOf i).toNat)
  case atStart => exact ⟨0, Nat.zero_le _, rfl, Below.refl _ _, rfl⟩
  case round =>
    obtain ⟨k, hk, rfl, hB, H⟩ := hrel
    by_cases hlt : k < l.length
    · obtain ⟨x, hx, hx2⟩ := list_drop_cons l k hlt
      obtain ⟨g, o, rfl, hg, hc⟩ := ha.at (by omega)
      have q1 := (hB.cell (p := ⟨g, o + k, none⟩) hg).trans (hc k x hx)
      have X1 := hid hx
      have X2 := hid hx2
      clear hx hx2
      by_cases h1 : x < f
      · have d1 : decide (x < f) = true := by simpa using h1
        have hfin : cutsLoop s.size f none l = false := by rw [H.out, X2.out]; unfold cutsLoop; cases pv l k <;> simp <;> omega
        have HF := hid hfin
        clear hc h1 hfin
        go_wp2
        go_quiet (fail)
        go_wp2
        go_ret
        exact ⟨ret_bool HF.out.symm, below_drewN hB _⟩
      · have d1 : decide (x < f) = false := by simpa using h1
        by_cases h2 : (s.size : Int) ≤ x
        · have d2 : decide ((s.size : Int) ≤ x) = true := by simpa using h2
          have hfin : cutsLoop s.size f none l = false := by rw [H.out, X2.out]; unfold cutsLoop; cases pv l k <;> simp <;> omega
          have HF := hid hfin
          clear hc h1 h2 hfin
          go_wp2
          go_quiet (fail)
          go_wp2
          go_ret
          exact ⟨ret_bool HF.out.symm, below_drewN hB _⟩
        · have d2 : decide ((s.size : Int) ≤ x) = false := by simpa using h2
          by_cases h3 : k = 0
          · have hfin : cutsLoop s.size f none l = cutsLoop s.size f (pv l (k+1)) (l.drop (k + 1)) := by
              rw [H.out, X2.out, pv_succ l k x X1.out, h3]; simp [cutsLoop, pv]; omega
            have HF := hid hfin
            have d3 : decide (0 < (k : Int)) = false := by simp [h3]
            have d3' : decide (0 < k) = false := by simp [h3]
            have H3 := hid h3
            clear hc h1 h2 hfin h3
            go_wp2
            go_quiet (fail)
            go_wp2
            go_roundw
            case rel => exact ⟨k + 1, by omega, by go_num, below_drewN hB _, HF⟩
            case measure => simp [intOf]; omega
          · have d3 : decide (0 < (k : Int)) = true := by simp; omega
            have d3' : decide (0 < k) = true := by simp; omega
            obtain ⟨p, hp⟩ : ∃ p, l[k - 1]? = some p := ⟨_, List.getElem?_eq_getElem (by omega)⟩
            have q2 := (hB.cell (p := ⟨g, o + (k - 1), none⟩) hg).trans (hc (k - 1) p hp)
            have hpv : pv l k = some p := by simp [pv, h3, hp]
            by_cases h4 : x ≤ p
            · have d4 : decide (x ≤ p) = true := by simpa using h4
              have hfin : cutsLoop s.size f none l = false := by rw [H.out, X2.out, hpv]; simp [cutsLoop]; omega
              have HF := hid hfin
              have k0 : 1 ≤ k := by omega
              clear hc h1 h2 h3 h4 hfin hpv hp
              go_wp2
              go_quiet (fail)
              go_wp2
              go_ret
              exact ⟨ret_bool HF.out.symm, below_drewN hB _⟩
            · have d4 : decide (x ≤ p) = false := by simpa using h4
              have hfin : cutsLoop s.size f none l = cutsLoop s.size f (pv l (k+1)) (l.drop (k + 1)) := by
                rw [H.out, X2.out, pv_succ l k x X1.out, hpv]; simp [cutsLoop]; omega
              have HF := hid hfin
              have k0 : 1 ≤ k := by omega
              clear hc h1 h2 h3 h4 hfin hpv hp
              go_wp2
              go_quiet (fail)
              go_wp2
              go_roundw
              case rel => exact ⟨k + 1, by omega, by go_num, below_drewN hB _, HF⟩
              case measure => simp [intOf]; omega
    · have hfin : cutsLoop s.size f none l = true := by rw [H.out, List.drop_eq_nil_of_le (by omega)]; unfold cutsLoop; cases pv l k <;> rfl
      have HF := hid hfin
      clear hfin
      go_wp2
      go_ret
      exact ⟨ret_bool HF.out.symm, hB⟩
end Go.Proofs.Ythelnggbcgjbcaa
