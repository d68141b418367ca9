/-
  Contracts of the package clock, turned from the texts of the laws of clock (machines, sets, maps).
-/
import Derived.Test.YtkmpdcckgibkhaaGreatYa
import Derived.Deep.LoopGhost
import Derived.Deep.Matrix
import Derived.Deep.RegionLaw
import Derived.Laws.Bits64b
import Derived.Laws.BitsLemmas
import Derived.OpenShut
import Derived.ProofKit
import Derived.WalkKit
import Derived.WalkMore
namespace Go.Proofs.YtkmpdcckgibkhaaGreat.Ck
open Go.RowKit Go.ChangeMaps

def o1 (x : Int) : Int := IntKind.u64.wrap (bits .and .u64 (x / 2) 6148914691236517205 + bits .and .u64 x 6148914691236517205)
def o2 (x : Int) : Int := IntKind.u64.wrap (bits .and .u64 (x / 4) 3689348814741910323 + bits .and .u64 x 3689348814741910323)
def o3 (x : Int) : Int := bits .and .u64 (IntKind.u64.wrap (x / 16 + x)) 1085102592571150095
def o4 (x : Int) : Int := IntKind.u64.wrap (x + x / 256)
def o5 (x : Int) : Int := IntKind.u64.wrap (x + x / 65536)
def o6 (x : Int) : Int := IntKind.u64.wrap (x + x / 4294967296)
def o7 (x : Int) : Int := bits .and .i64 (wrap64 x) 127
theorem oc_key : ∀ x : Nat, x < 512 → 0 ≤ o1 (x : Int) ∧ 0 ≤ o2 (o1 (x : Int)) ∧ 0 ≤ o3 (o2 (o1 (x : Int))) ∧ 0 ≤ o4 (o3 (o2 (o1 (x : Int)))) ∧ 0 ≤ o5 (o4 (o3 (o2 (o1 (x : Int))))) ∧ 0 ≤ o6 (o5 (o4 (o3 (o2 (o1 (x : Int)))))) ∧ o7 (o6 (o5 (o4 (o3 (o2 (o1 (x : Int))))))) = (sizeN x : Int) := by decide +kernel
theorem oc_steps (x : Nat) (hx : x < 512) : ∃ a1 a2 a3 a4 a5 a6 : Nat, o1 x = a1 ∧ o2 a1 = a2 ∧ o3 a2 = a3 ∧ o4 a3 = a4 ∧ o5 a4 = a5 ∧ o6 a5 = a6 ∧ o7 a6 = sizeN x := by
  obtain ⟨h1, h2, h3, h4, h5, h6, h7⟩ := oc_key x hx
  obtain ⟨a1, e1⟩ := Int.eq_ofNat_of_zero_le h1
  rw [e1] at h2 h3 h4 h5 h6 h7
  obtain ⟨a2, e2⟩ := Int.eq_ofNat_of_zero_le h2
  rw [e2] at h3 h4 h5 h6 h7
  obtain ⟨a3, e3⟩ := Int.eq_ofNat_of_zero_le h3
  rw [e3] at h4 h5 h6 h7
  obtain ⟨a4, e4⟩ := Int.eq_ofNat_of_zero_le h4
  rw [e4] at h5 h6 h7
  obtain ⟨a5, e5⟩ := Int.eq_ofNat_of_zero_le h5
  rw [e5] at h6 h7
  obtain ⟨a6, e6⟩ := Int.eq_ofNat_of_zero_le h6
  rw [e6] at h7
  exact ⟨a1, a2, a3, a4, a5, a6, e1, e2, e3, e4, e5, e6, h7⟩
theorem listN_len (x : Nat) : (listN x).length ≤ 9 := Nat.le_trans (List.length_filter_le _ _) (by simp)
theorem within_any (n lo hi : Int) (w : World) : Calls Tryz.prog 105 #[.int .i64 n, .int .i64 lo, .int .i64 hi] w fun e w' => e = .returned (.bool (decide (lo ≤ n) && decide (n ≤ hi))) ∧ w = w' := by
  go_enter Tryz.func105, Tryz.ntmps105
  go_wp2
  all_goals (go_ret; exact ⟨ret_bool (by rw [Bool.eq_iff_iff]; simp; omega), rfl⟩)
/-- Is a number no state? -/
def badQ (n : Nat) (q : Int) : Bool := !(decide (0 ≤ q) && decide (q ≤ (n : Int) - 1))
def RetIdx (b : Bool) (w : World) (e : Ending) (w' : World) : Prop := ∃ r : Int, e = .returned (.int .i64 r) ∧ decide (0 ≤ r) = b ∧ w = w'
set_option maxHeartbeats 400000 in
theorem in77_any (q : Int) (n b : Nat) (w : World) (hn : n ≤ 1000) (hc : w.cell? ⟨b, 0, none⟩ = some (.int .i64 n)) :
    Calls Tryz.prog 107 #[.int .i64 q, .pointer (some ⟨b, 0, none⟩)] w fun e w' => e = .returned (.bool (badQ n q)) ∧ w = w' := by
  go_enter Tryz.func107, Tryz.ntmps107
  go_wp2_with (go_at_call 105; refine (within_any _ _ _ _).mono ?_; rintro e w1 ⟨rfl, rfl⟩)
  go_ret
  refine ⟨ret_bool ?_, rfl⟩
  rw [Bool.eq_iff_iff]; simp [badQ]
set_option maxHeartbeats 400000 in
theorem index86_any (a : Option Addr) (c : Nat) (r : List Int) (n b : Nat) (w : World) (hn : n ≤ 1000) (hr : Ints w a r) (hl : r.length ≤ 1000000) (hc : w.cell? ⟨b, 0, none⟩ = some (.int .i64 n)) :
    Calls Tryz.prog 86 #[.slice a r.length c, .func (.func 107) #[] #[.pointer (some ⟨b, 0, none⟩)]] w (RetIdx (r.any (badQ n)) w) := by
  have HR := hid hr
  have HC := fun q => hid (in77_any q n b w hn hc)
  replace HC := hid HC
  clear hr hc
  go_enter Tryz.func86, Tryz.ntmps86
  go_wp2
  go_loop [8] (fun i => ∃ k : Nat, k ≤ r.length ∧ i = .int .i64 k ∧ Hid (r.any (badQ n) = (r.drop k).any (badQ n))) (fun i => r.length - (intOf i).toNat)
  case atStart => exact ⟨0, by omega, rfl, rfl⟩
  case round =>
    obtain ⟨k, hk, rfl, H⟩ := hrel
    by_cases hlt : k < r.length
    · obtain ⟨x, hx, hd⟩ := list_drop_cons r k hlt
      obtain ⟨g, o, rfl, hg, hcell⟩ := HR.out.at (by omega)
      have q1 := hcell k x hx
      have HX := hid hd
      clear hcell hx hd
      cases hb : badQ n x with
      | true =>
        have C1 := HC.out x
        rw [hb] at C1
        have hfin : r.any (badQ n) = true := by rw [H.out, HX.out]; simp [hb]
        have HF := hid hfin
        clear hfin hb
        go_wp2_with (go_at_call 107; refine C1.out.mono ?_; rintro e w1 ⟨rfl, rfl⟩)
        go_ret
        exact ⟨k, rfl, by rw [HF.out]; simp, rfl⟩
      | false =>
        have C1 := HC.out x
        rw [hb] at C1
        have hfin : r.any (badQ n) = (r.drop (k + 1)).any (badQ n) := by rw [H.out, HX.out]; simp [hb]
        have HF := hid hfin
        clear hfin hb
        go_wp2_with (go_at_call 107; refine C1.out.mono ?_; rintro e w1 ⟨rfl, rfl⟩)
        go_round
        case rel => exact ⟨k + 1, by omega, by go_num, HF⟩
        case measure => simp [intOf]; omega
    · have hfin : r.any (badQ n) = false := by rw [H.out, List.drop_eq_nil_of_le (by omega)]; rfl
      have HF := hid hfin
      clear hfin
      go_wp2
      go_ret
      exact ⟨-1, rfl, by rw [HF.out]; rfl, rfl⟩
set_option maxHeartbeats 400000 in
theorem contains76_any (a : Option Addr) (c : Nat) (r : List Int) (n b : Nat) (w : World) (hn : n ≤ 1000) (hr : Ints w a r) (hl : r.length ≤ 1000000) (hc : w.cell? ⟨b, 0, none⟩ = some (.int .i64 n)) :
    Calls Tryz.prog 54 #[.slice a r.length c, .func (.func 107) #[] #[.pointer (some ⟨b, 0, none⟩)]] w fun e w' => e = .returned (.bool (r.any (badQ n))) ∧ w = w' := by
  have HI := hid (index86_any a c r n b w hn hr hl hc)
  clear hr hc
  go_enter Tryz.func54, Tryz.ntmps54
  go_wp2_with (go_at_call 86; refine HI.out.mono ?_; rintro e w1 ⟨r, rfl, hr, rfl⟩; have HR := hid hr; clear hr)
  go_ret
  exact ⟨ret_bool HR.out, rfl⟩
/-- Is a list no row of a machine? -/
def badR (n : Nat) (r : List Int) : Bool := (r.length != n) || r.any (badQ n)
set_option maxRecDepth 20000 in
set_option maxHeartbeats 400000 in
theorem in75_any (a : Option Addr) (c : Nat) (r : List Int) (n b : Nat) (w : World) (hn : n ≤ 1000) (hr : Ints w a r) (hl : r.length ≤ 1000000) (hc : w.cell? ⟨b, 0, none⟩ = some (.int .i64 n)) :
    Calls Tryz.prog 106 #[.slice a r.length c, .pointer (some ⟨b, 0, none⟩)] w fun e w' => e = .returned (.bool (badR n r)) ∧ w = w' := by
  have HI := hid (contains76_any a c r n b w hn hr hl hc)
  clear hr
  by_cases h : n = r.length
  · subst h
    have d1 : ((r.length : Int) != (r.length : Int)) = false := by simp
    have hfin : badR r.length r = r.any (badQ r.length) := by unfold badR; simp
    have HF := hid hfin
    clear hfin
    go_enter Tryz.func106, Tryz.ntmps106
    go_wp2_with (go_at_call 54; refine HI.out.mono ?_; rintro e w1 ⟨rfl, rfl⟩)
    go_ret
    exact ⟨ret_bool HF.out.symm, rfl⟩
  · have d1 : ((r.length : Int) != (n : Int)) = true := by simp; omega
    have hfin : badR n r = true := by unfold badR; simp; exact .inl fun e => h e.symm
    have HF := hid hfin
    clear hfin
    go_enter Tryz.func106, Tryz.ntmps106
    go_wp2_with fail
    go_ret
    exact ⟨ret_bool HF.out.symm, rfl⟩
set_option maxHeartbeats 400000 in
theorem index85_any (a : Option Addr) (c : Nat) (X : List (List Int)) (n b : Nat) (w : World) (hn : n ≤ 1000) (hr : RowsAt w a X) (hl : X.length ≤ 1000000) (hl2 : ∀ r ∈ X, r.length ≤ 1000000) (hc : w.cell? ⟨b, 0, none⟩ = some (.int .i64 n)) :
    Calls Tryz.prog 85 #[.slice a X.length c, .func (.func 106) #[] #[.pointer (some ⟨b, 0, none⟩)]] w (RetIdx (X.any (badR n)) w) := by
  have HR := hid hr
  have HC := hid hc
  have HL2 := hid hl2
  clear hr hc hl2
  go_enter Tryz.func85, Tryz.ntmps85
  go_wp2
  go_loop [8] (fun i => ∃ k : Nat, k ≤ X.length ∧ i = .int .i64 k ∧ Hid (X.any (badR n) = (X.drop k).any (badR n))) (fun i => X.length - (intOf i).toNat)
  case atStart => exact ⟨0, by omega, rfl, rfl⟩
  case round =>
    obtain ⟨k, hk, rfl, H⟩ := hrel
    by_cases hlt : k < X.length
    · obtain ⟨x, hx, hd⟩ := list_drop_cons X k hlt
      obtain ⟨g, o, b1, c1, rfl, hg, q1, hin, -, -⟩ := HR.out.at k x hx
      have C1 := hid (in75_any b1 c1 x n b w hn hin (HL2.out x (List.mem_of_getElem? hx)) HC.out)
      have HX := hid hd
      clear hin hx hd
      cases hb : badR n x with
      | true =>
        rw [hb] at C1
        have hfin : X.any (badR n) = true := by rw [H.out, HX.out]; simp [hb]
        have HF := hid hfin
        clear hfin hb
        go_wp2_with (go_at_call 106; refine C1.out.mono ?_; rintro e w1 ⟨rfl, rfl⟩)
        go_ret
        exact ⟨k, rfl, by rw [HF.out]; simp, rfl⟩
      | false =>
        rw [hb] at C1
        have hfin : X.any (badR n) = (X.drop (k + 1)).any (badR n) := by rw [H.out, HX.out]; simp [hb]
        have HF := hid hfin
        clear hfin hb
        go_wp2_with (go_at_call 106; refine C1.out.mono ?_; rintro e w1 ⟨rfl, rfl⟩)
        go_round
        case rel => exact ⟨k + 1, by omega, by go_num, HF⟩
        case measure => simp [intOf]; omega
    · have hfin : X.any (badR n) = false := by rw [H.out, List.drop_eq_nil_of_le (by omega)]; rfl
      have HF := hid hfin
      clear hfin
      go_wp2
      go_ret
      exact ⟨-1, rfl, by rw [HF.out]; rfl, rfl⟩
set_option maxHeartbeats 400000 in
theorem contains74_any (a : Option Addr) (c : Nat) (X : List (List Int)) (n b : Nat) (w : World) (hn : n ≤ 1000) (hr : RowsAt w a X) (hl : X.length ≤ 1000000) (hl2 : ∀ r ∈ X, r.length ≤ 1000000) (hc : w.cell? ⟨b, 0, none⟩ = some (.int .i64 n)) :
    Calls Tryz.prog 52 #[.slice a X.length c, .func (.func 106) #[] #[.pointer (some ⟨b, 0, none⟩)]] w fun e w' => e = .returned (.bool (X.any (badR n))) ∧ w = w' := by
  have HI := hid (index85_any a c X n b w hn hr hl hl2 hc)
  clear hr hc
  go_enter Tryz.func52, Tryz.ntmps52
  go_wp2_with (go_at_call 85; refine HI.out.mono ?_; rintro e w1 ⟨r, rfl, hr, rfl⟩; have HR := hid hr; clear hr)
  go_ret
  exact ⟨ret_bool HR.out, rfl⟩
theorem machineB_eq (X : List (List Int)) : machineB X = (decide (1 ≤ X.length) && decide (X.length ≤ 4) && (decide (1 ≤ (X.headD []).length) && decide ((X.headD []).length ≤ 9)) && !X.any (badR (X.headD []).length)) := by
  rw [Bool.eq_iff_iff]
  unfold machineB badR badQ
  generalize (X.headD []).length = n
  simp only [Bool.and_eq_true, decide_eq_true_eq, List.all_eq_true, beq_iff_eq, Bool.not_eq_true', List.any_eq_false, Bool.or_eq_true, bne_iff_ne, List.any_eq_true, not_or, Classical.not_not, not_exists, not_and]
  constructor
  · rintro ⟨⟨⟨⟨h1, h2⟩, h3⟩, h4⟩, h5⟩
    refine ⟨⟨⟨h1, h2⟩, h3, h4⟩, fun r hr => ⟨(h5 r hr).1, fun q hq => ?_⟩⟩
    have := (h5 r hr).2 q hq
    simp; omega
  · rintro ⟨⟨⟨h1, h2⟩, h3, h4⟩, h5⟩
    refine ⟨⟨⟨⟨h1, h2⟩, h3⟩, h4⟩, fun r hr => ⟨(h5 r hr).1, fun q hq => ?_⟩⟩
    have := (h5 r hr).2 q hq
    simp at this; omega
set_option maxRecDepth 20000 in
set_option maxHeartbeats 400000 in
theorem isMachine_any (a : Option Addr) (c : Nat) (X : List (List Int)) (w : World) (hr : RowsAt w a X) (hl : X.length ≤ 1000) (hl2 : ∀ r ∈ X, r.length ≤ 1000) :
    Calls Tryz.prog 72 #[.slice a X.length c] w fun e w' => e = .returned (.bool (machineB X)) ∧ Below w.heap.size w w' := by
  have hfin := machineB_eq X
  have HF := hid hfin
  clear hfin
  have HR := hid hr
  clear hr
  by_cases h1 : 1 ≤ X.length ∧ X.length ≤ 4
  · have hw1 : (decide ((1 : Int) ≤ (X.length : Int)) && decide ((X.length : Int) ≤ 4)) = true := by simp; omega
    have hx : X[0]? = some (X.headD []) := by
      cases X with
      | nil => simp at h1
      | cons r X => rfl
    obtain ⟨g, o, b1, c1, rfl, hg, q1, hin, -, -⟩ := HR.out.at 0 _ hx
    obtain ⟨n, hn⟩ : ∃ n, n = (X.headD []).length := ⟨_, rfl⟩
    have hn1 : n ≤ 1000 := by rw [hn]; exact hl2 _ (List.mem_of_getElem? hx)
    rw [← hn] at q1 HF
    rw [Nat.add_zero] at q1
    have hal : Below w.heap.size w (w.alloc (.cells #[.int .i64 (n : Int)] 3)) := (Below.refl _ w).alloc (Nat.le_refl _) _
    have C := hid (contains74_any (some ⟨g, o, none⟩) c X n w.heap.size (w.alloc (.cells #[.int .i64 (n : Int)] 3)) hn1 (HR.out.below hal (Nat.le_refl _)) (by omega) (fun r h => by have := hl2 r h; omega) ((Blk.new w _ 3).cell 0))
    have HAL := hid hal
    clear hal hin hx hn hl2
    have W1 := within_any (X.length : Int) 1 4
    rw [hw1] at W1
    have W1 := fun w => hid (W1 w)
    have W2 := fun w => hid (within_any (n : Int) 1 9 w)
    by_cases h2 : 1 ≤ n ∧ n ≤ 9
    · have hw2 : (decide ((1 : Int) ≤ (n : Int)) && decide ((n : Int) ≤ 9)) = true := by simp; omega
      rw [hw2] at W2
      have hm : machineB X = !X.any (badR n) := by rw [HF.out]; simp; omega
      have HM := hid hm
      clear hm HF hw1 hw2
      go_enter Tryz.func72, Tryz.ntmps72
      go_wp2_with fail
      refine (W1 _).out.mono ?_
      rintro e w1 ⟨rfl, rfl⟩
      go_wp2_with fail
      refine (W2 _).out.mono ?_
      rintro e w1 ⟨rfl, rfl⟩
      go_wp2_with fail
      refine C.out.mono ?_
      rintro e w1 ⟨rfl, rfl⟩
      go_wp2_with fail
      go_ret
      exact ⟨ret_bool HM.out.symm, HAL.out⟩
    · have hw2 : (decide ((1 : Int) ≤ (n : Int)) && decide ((n : Int) ≤ 9)) = false := by simp; omega
      rw [hw2] at W2
      have hm : machineB X = false := by rw [HF.out]; simp; omega
      have HM := hid hm
      clear hm HF hw1 hw2
      go_enter Tryz.func72, Tryz.ntmps72
      go_wp2_with fail
      refine (W1 _).out.mono ?_
      rintro e w1 ⟨rfl, rfl⟩
      go_wp2_with fail
      refine (W2 _).out.mono ?_
      rintro e w1 ⟨rfl, rfl⟩
      go_wp2_with fail
      go_ret
      exact ⟨ret_bool HM.out.symm, HAL.out⟩
  · have hw1 : (decide ((1 : Int) ≤ (X.length : Int)) && decide ((X.length : Int) ≤ 4)) = false := by simp; omega
    have hm : machineB X = false := by rw [HF.out]; simp; omega
    have HM := hid hm
    have W1 := within_any (X.length : Int) 1 4
    rw [hw1] at W1
    have W1 := fun w => hid (W1 w)
    clear hm HF hw1
    go_enter Tryz.func72, Tryz.ntmps72
    go_wp2_with fail
    refine (W1 _).out.mono ?_
    rintro e w1 ⟨rfl, rfl⟩
    go_wp2_with fail
    go_ret
    exact ⟨ret_bool HM.out.symm, Below.refl _ _⟩
set_option maxHeartbeats 400000 in
theorem press_any (a : Option Addr) (c : Nat) (M : List (List Nat)) (s b : Nat) (w : World) (hM : OkM M) (hr : RowsAt w a (intM M)) (hs : s < 512) (hb : b < M.length) :
    Calls Tryz.prog 108 #[.slice a M.length c, .int .i64 s, .int .i64 b] w fun e w' => e = .returned (.int .i64 (press M s b : Nat)) ∧ w = w' := by
  have hx : (intM M)[b]? = some ((M.getD b []).map fun (x : Nat) => (x : Int)) := by
    simp [intM, List.getD, List.getElem?_eq_getElem hb]
  obtain ⟨g, o, b1, c1, rfl, hg, q1, hin, -, -⟩ := hr.at b _ hx
  have hlt := hM.lt _ (getD_mem hb)
  have hrl := hM.row _ (getD_mem hb)
  have hn9 := hM.n9
  have hfin : press M s b = prF s (M.getD b []) 0 0 := rfl
  have HF := hid hfin
  generalize M.getD b [] = row at *
  rw [List.length_map] at q1
  have HIN := hid hin
  have HLT := hid hlt
  clear hfin hin hlt hx hr hM
  go_enter Tryz.func108, Tryz.ntmps108
  go_wp2_with fail
  go_loop [7, 15] (fun v i => ∃ (k out : Nat), k ≤ row.length ∧ i = .int .i64 k ∧ v = .int .i64 out ∧ out < 512 ∧ Hid (press M s b = prF s (row.drop k) k out)) (fun _ i => row.length - (intOf i).toNat)
  case atStart => exact ⟨0, 0, by omega, rfl, rfl, by omega, HF.out⟩
  case round =>
    obtain ⟨k, out, hk, rfl, rfl, ho, H⟩ := hrel
    by_cases hlt : k < row.length
    · obtain ⟨x, hx, hd⟩ := list_drop_cons row k hlt
      have hxl := HLT.out x (List.mem_of_getElem? hx)
      obtain ⟨g2, o2, rfl, hg2, hcell⟩ := HIN.out.at (by rw [List.length_map]; omega)
      have q2 := hcell k (x : Int) (by rw [List.getElem?_map, hx]; rfl)
      have HX := hid hd
      clear hcell hx hd
      cases ht : s.testBit k with
      | true =>
        have d1 := bit_yes s k hs ht
        have d2 := or_pow out x ho (by omega)
        have ho2 := or_small out (2 ^ x) ho (pow_small x (by omega))
        have hfin : press M s b = prF s (row.drop (k + 1)) (k + 1) (out ||| 2 ^ x) := by rw [H.out, HX.out, prF, if_pos ht]
        have HF2 := hid hfin
        clear hfin ht
        go_wp2_with fail
        exact ⟨⟨k + 1, out ||| 2 ^ x, by omega, by go_num, rfl, ho2, HF2⟩, by simp [intOf]; omega⟩
      | false =>
        have d1 := bit_no s k hs ht
        have hfin : press M s b = prF s (row.drop (k + 1)) (k + 1) out := by rw [H.out, HX.out, prF, if_neg (by rw [ht]; simp)]
        have HF2 := hid hfin
        clear hfin ht
        go_wp2_with fail
        exact ⟨⟨k + 1, out, by omega, by go_num, rfl, ho, HF2⟩, by simp [intOf]; omega⟩
    · have hfin : press M s b = out := by rw [H.out, List.drop_eq_nil_of_le (by omega)]; rfl
      have HF2 := hid hfin
      clear hfin
      go_wp2_with fail
      go_ret
      exact ⟨ret_int (by rw [HF2.out]), rfl⟩
set_option maxHeartbeats 400000 in
theorem all_any (a : Option Addr) (c : Nat) (M : List (List Nat)) (w : World) (hM : OkM M) (hr : RowsAt w a (intM M)) :
    Calls Tryz.prog 74 #[.slice a M.length c] w fun e w' => e = .returned (.int .i64 (2 ^ nst M - 1 : Nat)) ∧ w = w' := by
  have h1 := hM.b1
  have hx : (intM M)[0]? = some ((M.getD 0 []).map fun (x : Nat) => (x : Int)) := by
    simp [intM, List.getD, List.getElem?_eq_getElem (show 0 < M.length by omega)]
  obtain ⟨g, o, b1, c1, rfl, hg, q1, hin, -, -⟩ := hr.at 0 _ hx
  have hrl := hM.row _ (getD_mem (M := M) (b := 0) (by omega))
  have hn9 := hM.n9
  rw [List.length_map, hrl, Nat.add_zero] at q1
  generalize nst M = n at *
  have d1 := pow_wrap n
  have e1 : IntKind.i64.wrap ((2 : Int) ^ n) = ((2 ^ n : Nat) : Int) := by
    have h1 : (2 : Nat) ^ n ≤ 2 ^ 9 := Nat.pow_le_pow_right (by omega) hn9
    rw [← pow_cast]
    generalize 2 ^ n = y at h1
    exact IntWalk.i64_in _ (by have : (2 : Nat) ^ 9 = 512 := rfl; omega)
  have h512 : (2 : Nat) ^ n ≤ 512 := Nat.pow_le_pow_right (by omega) hn9
  have hpos : 0 < (2 : Nat) ^ n := Nat.two_pow_pos n
  have e2 : wrap64 ((2 : Int) ^ n - 1) = ((2 ^ n - 1 : Nat) : Int) := by
    rw [← pow_cast]
    generalize 2 ^ n = y at h512 hpos
    rw [IntWalk.wrap64_in _ (by omega)]; omega
  clear hr hx hrl d1 hin
  go_enter Tryz.func74, Tryz.ntmps74
  go_wp2_with fail
  go_ret
  exact ⟨ret_int e2, rfl⟩
set_option maxHeartbeats 400000 in
theorem oc64_any (x : Nat) (w : World) (hx : x < 512) : Calls Tryz.prog 138 #[.int .u64 x] w fun e w' => e = .returned (.int .i64 (sizeN x)) ∧ w = w' := by
  obtain ⟨a1, a2, a3, a4, a5, a6, e1, e2, e3, e4, e5, e6, e7⟩ := oc_steps x hx
  unfold o1 at e1
  unfold o2 at e2
  unfold o3 at e3
  unfold o4 at e4
  unfold o5 at e5
  unfold o6 at e6
  unfold o7 at e7
  generalize sizeN x = S at *
  go_enter Tryz.func138, Tryz.ntmps138
  go_wp2_with fail
  go_ret
  exact ⟨rfl, rfl⟩
set_option maxHeartbeats 400000 in
theorem oc_any (x : Nat) (w : World) (hx : x < 512) : Calls Tryz.prog 110 #[.int .u64 x] w fun e w' => e = .returned (.int .i64 (sizeN x)) ∧ w = w' := by
  have C := fun w => hid (oc64_any x w hx)
  go_enter Tryz.func110, Tryz.ntmps110
  go_wp2_with fail
  refine (C _).out.mono ?_
  rintro e w1 ⟨rfl, rfl⟩
  go_wp2_with fail
  go_ret
  exact ⟨rfl, rfl⟩
set_option maxHeartbeats 400000 in
theorem size_any (x : Nat) (w : World) (hx : x < 512) : Calls Tryz.prog 76 #[.int .i64 x] w fun e w' => e = .returned (.int .i64 (sizeN x)) ∧ w = w' := by
  have C := fun w => hid (oc_any x w hx)
  have e1 : IntKind.u64.wrap (x : Int) = x := IntWalk.u64_in _ (by omega)
  go_enter Tryz.func76, Tryz.ntmps76
  go_wp2_with fail
  refine (C _).out.mono ?_
  rintro e w1 ⟨rfl, rfl⟩
  go_wp2_with fail
  go_ret
  exact ⟨rfl, rfl⟩
/-- A row of a machine. -/
theorem row_at {w : World} {a : Option Addr} {M : List (List Nat)} (hM : OkM M) (hr : RowsAt w a (intM M)) (b : Nat) (hb : b < M.length) :
    ∃ g o b1 c1, a = some ⟨g, o, none⟩ ∧ g < w.heap.size ∧ w.cell? ⟨g, o + b, none⟩ = some (.slice b1 (nst M) c1) ∧ Ints w b1 ((M.getD b []).map fun (x : Nat) => (x : Int)) := by
  have hx : (intM M)[b]? = some ((M.getD b []).map fun (x : Nat) => (x : Int)) := by
    simp [intM, List.getD, List.getElem?_eq_getElem hb]
  obtain ⟨g, o, b1, c1, ha, hg, q1, hin, -, -⟩ := hr.at b _ hx
  rw [List.length_map, hM.row _ (getD_mem hb)] at q1
  exact ⟨g, o, b1, c1, ha, hg, q1, hin⟩
/-- i letters from both ends have changed their places. -/
def RevAt (l cur : List UInt8) (i : Nat) : Prop := cur.length = l.length ∧ ∀ k, k < l.length → cur[k]? = if k < i ∨ l.length < k + 1 + i then l[l.length - 1 - k]? else l[k]?
theorem RevAt.next {l cur : List UInt8} {i : Nat} {x y : UInt8} (h : RevAt l cur i) (hi : i + (i + 1) < l.length) (hx : cur[i]? = some x) (hy : cur[l.length - 1 - i]? = some y) : RevAt l ((cur.set i y).set (l.length - 1 - i) x) (i + 1) := by
  obtain ⟨h1, h2⟩ := h
  have hxl := h2 i (by omega)
  rw [if_neg (by omega), hx] at hxl
  have hyl := h2 (l.length - 1 - i) (by omega)
  rw [if_neg (by omega), hy] at hyl
  refine ⟨by simp [h1], fun k hk => ?_⟩
  rw [List.getElem?_set, List.length_set]
  by_cases e1 : l.length - 1 - i = k
  · rw [if_pos e1, if_pos (by omega), if_pos (by omega), ← e1, show l.length - 1 - (l.length - 1 - i) = i by omega]; exact hxl
  · rw [if_neg e1, List.getElem?_set]
    by_cases e2 : i = k
    · subst e2
      rw [if_pos rfl, if_pos (by omega), if_pos (by omega)]; exact hyl
    · rw [if_neg e2, h2 k hk]
      by_cases h3 : k < i ∨ l.length < k + 1 + i
      · rw [if_pos h3, if_pos (by omega)]
      · rw [if_neg h3, if_neg (by omega)]
theorem RevAt.done {l cur : List UInt8} {i : Nat} (h : RevAt l cur i) (hi : l.length ≤ i + (i + 1)) : cur = l.reverse := by
  obtain ⟨h1, h2⟩ := h
  apply List.ext_getElem?
  intro k
  rcases Nat.lt_or_ge k l.length with hk | hk
  · rw [h2 k hk, List.getElem?_reverse hk]
    split
    · rfl
    · rw [show l.length - 1 - k = k by omega]
  · rw [List.getElem?_eq_none (by omega), List.getElem?_eq_none (by simp; omega)]
set_option maxRecDepth 20000 in
set_option maxHeartbeats 4000000 in
theorem reverse_any (a : Option Addr) (c base : Nat) (l : List UInt8) (w : World) (hl : l.length ≤ 1000000) (hown : w.ownsRow base 5 1 (.slice a l.length c) l.length (l.map u8v)) :
    Calls Tryz.prog 109 #[.slice a l.length c] w fun e w' => e = .returned (.tuple #[]) ∧ w'.ownsRow base 5 1 (.slice a l.length c) l.length (l.reverse.map u8v) ∧ Below base w w' := by
  by_cases h0 : l.length = 0
  · have : l = [] := List.eq_nil_of_length_eq_zero h0
    subst this
    have HO := hid hown
    clear hown
    go_enter Tryz.func109, Tryz.ntmps109
    go_wp2_with fail
    go_loopw [2, 3] (fun i j W => i = .int .i64 0 ∧ j = .int .i64 (-1) ∧ W = w) (fun _ _ _ => 0)
    case atStart => exact ⟨rfl, rfl, rfl⟩
    case round =>
      obtain ⟨rfl, rfl, rfl⟩ := hrel
      go_wp2_with fail
      exact bodyPost_end (results_none rfl _ _ _) rfl ⟨rfl, HO.out, Below.refl _ _⟩
  · obtain ⟨g, c', he, hgb, hg, -⟩ : ∃ g c', Value.slice a l.length c = .slice (some ⟨g, 0, none⟩) l.length c' ∧ base ≤ g ∧ g < w.heap.size ∧ True := by
      rcases hown.2 with ⟨_, h⟩ | ⟨g, cap, cur, hv, hb, hg, _⟩
      · omega
      · exact ⟨g, cap, hv, hb, lt_of_block hg, trivial⟩
    cases he
    have HO := hid hown
    clear hown
    go_enter Tryz.func109, Tryz.ntmps109
    go_wp2_with fail
    go_loopw [2, 3] (fun iv jv W => ∃ (i : Nat) (cur : List UInt8), iv = .int .i64 i ∧ jv = .int .i64 ((l.length : Int) - 1 - i) ∧ i ≤ l.length ∧ cur.length = l.length ∧ W.ownsRow base 5 1 (.slice (some ⟨g, 0, none⟩) l.length c) l.length (cur.map u8v) ∧ Below base w W ∧ Hid (RevAt l cur i)) (fun iv _ _ => l.length - (intOf iv).toNat)
    case atStart =>
      refine ⟨0, l, rfl, by go_num, by omega, rfl, HO.out, Below.refl _ _, rfl, fun k hk => ?_⟩
      rw [if_neg (by omega)]
    case round =>
      obtain ⟨i, cur, rfl, rfl, hi, hcl, hown, hB, HR⟩ := hrel
      by_cases hlt : i + (i + 1) < l.length
      · obtain ⟨x, hx⟩ : ∃ x, cur[i]? = some x := ⟨_, List.getElem?_eq_getElem (by omega)⟩
        obtain ⟨y, hy⟩ : ∃ y, cur[l.length - 1 - i]? = some y := ⟨_, List.getElem?_eq_getElem (by omega)⟩
        have q1 : wr.cell? ⟨g, i, none⟩ = some (.int .u8 (x.toNat : Int)) := by
          rw [hown.cellAt i (by omega), List.getElem?_map, hx]; rfl
        have q2 : wr.cell? ⟨g, l.length - 1 - i, none⟩ = some (.int .u8 (y.toNat : Int)) := by
          rw [hown.cellAt (l.length - 1 - i) (by omega), List.getElem?_map, hy]; rfl
        have f1 := hown.frozenAt i
        have f2 := hown.frozenAt (l.length - 1 - i)
        have hst := (((hown.stored i (u8v y)).1).stored (l.length - 1 - i) (u8v x)).1
        have hst2 := (((hown.stored (l.length - 1 - i) (u8v x)).1).stored i (u8v y)).1
        have HST := hid hst
        have HST2 := hid hst2
        have HRN := hid (HR.out.next hlt hx hy)
        obtain ⟨j, hj⟩ : ∃ j, j = l.length - 1 - i := ⟨_, rfl⟩
        have hji : (l.length : Int) - 1 - (i : Int) = (j : Int) := by omega
        rw [← hj] at q2 f2 HST HST2 HRN
        rw [hji]
        have hjl : j < l.length := by omega
        have hij : i ≠ j := by omega
        have d1 : decide ((i : Int) < (j : Int)) = true := decide_eq_true (by omega)
        have d2 : decide (i < j) = true := decide_eq_true (by omega)
        have HOW := hid hown
        have HBB := hid hB
        have HJ := hid hj
        clear hst hst2 hx hy hown hB hj hji
        go_wp2_with fail
        go_region
        have hB2 : Below base w (((wr.setCell ⟨g, i, none⟩ (.int .u8 (y.toNat : Int))).setCell ⟨g, j, none⟩ (.int .u8 (x.toNat : Int))).drew) := ((HBB.out.setCell hgb _).setCell hgb _).drew
        have HB2 := hid hB2
        clear hB2 q1 q2 f1 f2
        go_wp2_with fail
        have hj := HJ.out
        refine ⟨⟨i + 1, (cur.set i y).set j x, by go_num, ?_, by omega, by simp [hcl], ?_, HB2.out, HRN⟩, by simp [intOf]; omega⟩
        · congr 1; omega
        · rw [List.map_set, List.map_set]; exact HST.out
      · have hfin := HR.out.done (by omega)
        have d1 : decide ((i : Int) < (l.length : Int) - 1 - i) = false := decide_eq_false (by omega)
        have hO : wr.ownsRow base 5 1 (.slice (some ⟨g, 0, none⟩) l.length c) l.length (l.reverse.map u8v) := by rw [← hfin]; exact hown
        have HO2 := hid hO
        have HB := hid hB
        clear hfin hown hB hO
        go_wp2_with fail
        exact bodyPost_end (results_none rfl _ _ _) rfl ⟨rfl, HO2.out, HB.out⟩
theorem kt75 : KT Tryz.prog 123 natV where
  check em a w := MapKept.run_checkKey Tryz.underlying123 (show MapKept.IsKey (.int .i64) (.int .i64 (a : Int)) from rfl) em 9999
  find a l w := MapKept.run_findKey Tryz.underlying123 (find_nat a l 0)
  same a := by simp [natV, Instr.sameBits]
/-- A step, as the program keeps it. -/
def stepV (e : Ent) : Value := .agg #[.int .i64 (e.frm : Int), .int .u8 (e.btn : Int)]
def knownL (L : List Ent) : List (Nat × Value) := L.map fun e => (e.set, stepV e)
theorem known_none (L : List Ent) (y : Nat) : ∀ (i : Nat), L.any (fun e => e.set == y) = false → fnd y (knownL L) i = none := by
  induction L with
  | nil => intro i _; rfl
  | cons e L ih =>
    intro i h
    simp only [List.any_cons, Bool.or_eq_false_iff, beq_eq_false_iff_ne] at h
    simp only [knownL, List.map_cons, fnd]
    rw [if_neg (fun e => h.1 e.symm)]
    exact ih _ h.2
theorem known_some {L : List Ent} (hn : (L.map (·.set)).Nodup) : ∀ (j i : Nat) (e : Ent), L[j]? = some e → fnd e.set (knownL L) i = some (i + j, stepV e) := by
  induction L with
  | nil => intro j i e h; simp at h
  | cons x L ih =>
    intro j i e h
    rw [List.map_cons, List.nodup_cons] at hn
    simp only [knownL, List.map_cons, fnd]
    cases j with
    | zero => simp only [List.getElem?_cons_zero, Option.some.injEq] at h; subst h; simp
    | succ j =>
      simp only [List.getElem?_cons_succ] at h
      have hne : e.set ≠ x.set := fun he => hn.1 (by rw [← he]; exact List.mem_map_of_mem (List.mem_of_getElem? h))
      rw [if_neg hne]
      have := ih hn.2 j (i + 1) e h
      rw [show i + 1 + j = i + (j + 1) by omega] at this
      exact this
theorem zero100 (w : World) : (zeroValue 164).run Tryz.prog w = .ok (.agg #[.int .i64 0, .int .u8 0]) w := by kernel_rfl
theorem look_new {w : World} {bm : Nat} {L : List Ent} (h : MapIs natV w bm (knownL L)) (y : Nat) (hy : L.any (fun e => e.set == y) = false) :
    (Instr.lookup 165 (.map (some bm)) (.int .i64 (y : Int)) true).run Tryz.prog w = .ok (.tuple #[.agg #[.int .i64 0, .int .u8 0], .bool false]) w := by
  have := h.look kt75 Tryz.underlying165 (zero100 w) y true
  unfold get at this
  rw [known_none L y 0 hy] at this
  exact this
theorem look_old {w : World} {bm : Nat} {L : List Ent} (h : MapIs natV w bm (knownL L)) (hn : (L.map (·.set)).Nodup) (j : Nat) (e : Ent) (he : L[j]? = some e) (c : Bool) :
    (Instr.lookup 165 (.map (some bm)) (.int .i64 (e.set : Int)) c).run Tryz.prog w = .ok (if c then .tuple #[stepV e, .bool true] else stepV e) w := by
  have := h.look kt75 Tryz.underlying165 (zero100 w) e.set c
  unfold get at this
  rw [known_some hn j 0 e he] at this
  cases c <;> exact this
theorem store_new {w : World} {bm : Nat} {L : List Ent} (h : MapIs natV w bm (knownL L)) (e : Ent) (hy : L.any (fun x => x.set == e.set) = false) :
    ∃ w', (Instr.mapUpdate 165 (.map (some bm)) (.int .i64 (e.set : Int)) (.agg #[.int .i64 (e.frm : Int), .int .u8 (e.btn : Int)])).run Tryz.prog w = .ok () w' ∧ MapIs natV w' bm (knownL (L ++ [e])) ∧ ∃ o, w' = setBlock w bm o := by
  obtain ⟨w', h1, h2, h3⟩ := h.store kt75 Tryz.underlying165 e.set (stepV e)
  refine ⟨w', h1, ?_, h3⟩
  rw [ents_fnd_none e.set (knownL L) 0 (known_none L _ 0 hy)] at h2
  simpa [knownL] using h2
theorem any_old {L : List Ent} {y : Nat} (h : L.any (fun e => e.set == y) = true) : ∃ (j : Nat) (e : Ent), L[j]? = some e ∧ e.set = y := by
  obtain ⟨e, he, hy⟩ := List.any_eq_true.1 h
  obtain ⟨j, hj⟩ := List.getElem?_of_mem he
  exact ⟨j, e, hj, beq_iff_eq.1 hy⟩
theorem prF_ge (s : Nat) : ∀ (r : List Nat) (q out : Nat), out ≠ 0 → prF s r q out ≠ 0 := by
  intro r
  induction r with
  | nil => intro q out h; exact h
  | cons p r ih =>
    intro q out h
    rw [prF]
    refine ih _ _ ?_
    split
    · intro h2
      have := Nat.left_le_or (n := out) (m := 2 ^ p)
      omega
    · exact h
theorem prF_ne (s : Nat) : ∀ (r : List Nat) (q out i : Nat), i < r.length → s.testBit (q + i) = true → prF s r q out ≠ 0 := by
  intro r
  induction r with
  | nil => intro q out i h; simp at h
  | cons p r ih =>
    intro q out i hi ht
    rw [prF]
    cases i with
    | zero =>
      rw [Nat.add_zero] at ht
      rw [if_pos ht]
      refine prF_ge s r _ _ ?_
      intro h2
      have := Nat.right_le_or (n := out) (m := 2 ^ p)
      have := Nat.two_pow_pos p
      omega
    | succ i => exact ih _ _ i (by simpa using hi) (by rw [show q + 1 + i = q + (i + 1) by omega]; exact ht)
theorem press_ne {M : List (List Nat)} (hM : OkM M) {s b : Nat} (hs : s ≠ 0) (h2 : s < 2 ^ nst M) (hb : b < M.length) : press M s b ≠ 0 := by
  obtain ⟨i, hi⟩ := Nat.exists_testBit_of_ne_zero hs
  have hin : i < nst M := by
    rcases Nat.lt_or_ge i (nst M) with h | h
    · exact h
    · rw [Nat.testBit_lt_two_pow (Nat.lt_of_lt_of_le h2 (Nat.pow_le_pow_right (by omega) h))] at hi; cases hi
  refine prF_ne s _ 0 0 i ?_ (by rw [Nat.zero_add]; exact hi)
  rw [hM.row _ (getD_mem hb)]; exact hin
theorem Good.ne {M : List (List Nat)} {s : Nat} {L : List Ent} (h : Good M s L) (hM : OkM M) (hs : s ≠ 0) : ∀ (i : Nat) (e : Ent), L[i]? = some e → e.set ≠ 0 := by
  intro i
  induction i using Nat.strongRecOn with
  | _ i ih =>
    intro e he
    rcases Nat.eq_zero_or_pos i with h0 | h0
    · subst h0; rw [h.head] at he; cases he; exact hs
    · obtain ⟨j, p, h1, h2, -, -, h3, h4, h5⟩ := h.par i e he h0
      rw [h5]
      exact press_ne hM (ih j h1 p h2) (h.lt p (List.mem_of_getElem? h2)) (by omega)
end Go.Proofs.YtkmpdcckgibkhaaGreat.Ck
