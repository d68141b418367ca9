/-
  Walks: Image.
-/
import Derived.Test.YthlgdakdjikjhaaDoorU
import Derived.Test.YthlgdakdjikjhaaDoorT
namespace Go.Proofs.YthlgdakdjikjhaaDoor
open Go.RowKit Go.ChangeMaps
attribute [local go_sem] Oper.semAt_some

/-- What Image returns. -/
def RetG (ok : Bool) (L : List Nat) (w : World) (e : Ending) (w' : World) : Prop :=
  (ok = true ∧ ∃ a c, e = .returned (.tuple #[.slice a L.length c, .int .i64 0]) ∧ Hid (w'.ownsRow w.heap.size 3 1 (.slice a L.length c) L.length (L.map natV)) ∧ Below w.heap.size w w') ∨
  (ok = false ∧ e = .returned (.tuple #[.slice none 0 0, .int .i64 2]) ∧ Below w.heap.size w w')
theorem RetG.bad {L : List Nat} {w w' : World} (h : Below w.heap.size w w') {ok : Bool} (hk : ok = false) : RetG ok L w (.returned (.tuple #[.slice none 0 0, .int .i64 2])) w' := .inr ⟨hk, rfl, h⟩

set_option maxRecDepth 100000 in
set_option maxHeartbeats 4000000 in
theorem Image_any (a : Option Addr) (c : Nat) (M : List (List Nat)) (a1 : Option Addr) (c1 : Nat) (l : List Int) (s : ByteArray) (w : World) (hM : OkM M) (hr : RowsAt w a (intM M)) (h1 : Ints w a1 l) (hl1 : l.length ≤ 1000) (hs : s.size ≤ maxLen) (hG : Glob w) :
    Calls Tryd.prog 35 #[.slice a M.length c, .slice a1 l.length c1, .string s] w (RetG (setB (nst M) l && wordB M.length s.data.toList) (listN (imgW M (numL l) s.data.toList)) w) := by
  have hmx : maxLen ≤ 9223372036854775807 := by decide
  have HW := hid (isM_yes a c M w hM hr)
  have S1 := hid (fun (W : World) (hb : Below w.heap.size w W) => set_any a c M a1 c1 l W hM (hr.below hb (Nat.le_refl _)) (h1.below hb (Nat.le_refl _)) hl1)
  have PR := hid (fun (y b : Nat) (W : World) (hb : Below w.heap.size w W) (hy : y < 512) (hbl : b < M.length) => press_any a c M y b W hM (hr.below hb (Nat.le_refl _)) hy hbl)
  have HP := hid (fun (y b : Nat) => lt512 hM (press_lt hM y b))
  have LS := hid (fun (y : Nat) (W : World) (hb : Below w.heap.size w W) (hy : y < 512) => list_any y W (hG.next hb) hy)
  have HN := hid (fun h => lt512 hM (num_lt (n := nst M) (l := l) h).1)
  have hm4 := hM.b4
  have hm1 := hM.b1
  generalize numL l = t at *
  generalize setB (nst M) l = sb at *
  generalize l.length = n1 at *
  clear hM hr h1 hG
  have HWB := hid (show wordB M.length s.data.toList = (s.data.toList.all (letB M.length) && decide (s.size ≤ 1000)) from rfl)
  cases sb with
  | false =>
    simp only [setRV, Bool.false_eq_true, if_false] at S1
    go_enter Tryd.func35, Tryd.ntmps35
    go_wp2_with fail
    refine HW.out.mono ?_
    rintro e w1 ⟨rfl, hb1⟩
    have HB1 := hid hb1
    clear hb1
    go_wp2_with fail
    refine (S1.out w1 HB1.out).mono ?_
    rintro e w2 ⟨rfl, rfl⟩
    go_wp2_with fail
    refine bodyPost_ret (results_tmp2 rfl _ _ _) rfl ?_
    exact RetG.bad HB1.out rfl
  | true =>
    simp only [setRV, if_true] at S1
    have ht := HN.out rfl
    by_cases hsz : s.size ≤ 1000
    · have d1 : decide ((s.size : Int) > 1000) = false := decide_eq_false (by omega)
      go_enter Tryd.func35, Tryd.ntmps35
      go_wp2_with fail
      refine HW.out.mono ?_
      rintro e w1 ⟨rfl, hb1⟩
      have HB1 := hid hb1
      clear hb1
      go_wp2_with fail
      refine (S1.out w1 HB1.out).mono ?_
      rintro e w2 ⟨rfl, rfl⟩
      go_wp2_with fail
      go_loop [8, 30] (fun sv iv => ∃ i y : Nat, i ≤ s.size ∧ iv = .int .i64 i ∧ sv = .int .i64 y ∧ y < 512 ∧ Hid (imgW M t s.data.toList = imgW M y (s.data.toList.drop i)) ∧ Hid (s.data.toList.all (letB M.length) = (s.data.toList.drop i).all (letB M.length))) (fun _ iv => s.size - (intOf iv).toNat)
      case atStart => exact ⟨0, t, by omega, rfl, rfl, ht, by rw [Hid, List.drop_zero], by rw [Hid, List.drop_zero]⟩
      case round =>
        obtain ⟨i, y, hi, rfl, rfl, hy, H, HA⟩ := hrel
        by_cases hlt : i < s.size
        · have hd := bytes_drop s i hlt
          have hc := s[i].toNat_lt
          obtain ⟨ch, hch⟩ : ∃ ch, ch = s[i] := ⟨_, rfl⟩
          rw [← hch] at hd hc
          have hcn : ((s[i].toNat : Nat) : Int) = (ch.toNat : Int) := by rw [hch]
          have HD := hid hd
          have HCH := hid hch
          clear hd hch
          have dl : decide ((i : Int) < (s.size : Int)) = true := decide_eq_true (by omega)
          by_cases hlet : letB M.length ch = true
          · have hall := (letB_iff _ _).1 hlet
            have hfin : imgW M t s.data.toList = imgW M (press M y (ch.toNat - 97)) (s.data.toList.drop (i + 1)) := by
              rw [H.out, HD.out, imgW_cons]
            have hfa : s.data.toList.all (letB M.length) = (s.data.toList.drop (i + 1)).all (letB M.length) := by
              rw [HA.out, HD.out, List.all_cons, hlet, Bool.true_and]
            have e1 : ((ch.toNat : Int) - 97) = ((ch.toNat - 97 : Nat) : Int) := by omega
            obtain ⟨d, hdd⟩ : ∃ d, d = ch.toNat - 97 := ⟨_, rfl⟩
            rw [← hdd] at e1 hfin
            have hd4 : d < M.length := by omega
            have CC := hid (PR.out y d w1 HB1.out hy hd4)
            have W1 := within_any (d : Int) 0 ((M.length : Int) - 1) w1
            rw [show (decide ((0 : Int) ≤ (d : Int)) && decide ((d : Int) ≤ (M.length : Int) - 1)) = true by simp; omega] at W1
            have W1 := hid W1
            have hz5 := HP.out y d
            obtain ⟨z, hz⟩ : ∃ z, z = press M y d := ⟨_, rfl⟩
            rw [← hz] at CC hfin hz5
            have HF := hid hfin
            have HFA := hid hfa
            clear hfin hfa hdd hz hall hlet
            go_wp2_with fail
            refine W1.out.mono ?_
            rintro e w2 ⟨rfl, rfl⟩
            go_wp2_with fail
            refine CC.out.mono ?_
            rintro e w2 ⟨rfl, rfl⟩
            go_wp2_with fail
            exact ⟨⟨i + 1, z, by omega, by go_num, rfl, hz5, HF, HFA⟩, by simp [intOf]; omega⟩
          · have hlet : letB M.length ch = false := by simpa using hlet
            have hfa : s.data.toList.all (letB M.length) = false := by
              rw [HA.out, HD.out, List.all_cons, hlet, Bool.false_and]
            have hno : ¬ (97 ≤ ch.toNat ∧ ch.toNat < 97 + M.length) := fun h => by
              rw [(letB_iff _ _).2 h] at hlet; cases hlet
            have W1 := within_any ((ch.toNat : Int) - 97) 0 ((M.length : Int) - 1) w1
            rw [show (decide ((0 : Int) ≤ (ch.toNat : Int) - 97) && decide ((ch.toNat : Int) - 97 ≤ (M.length : Int) - 1)) = false by simp; omega] at W1
            have W1 := hid W1
            have HFA := hid hfa
            clear hfa hno hlet
            go_wp2_with fail
            refine W1.out.mono ?_
            rintro e w2 ⟨rfl, rfl⟩
            go_wp2_with fail
            refine bodyPost_ret (results_tmp2 rfl _ _ _) rfl ?_
            exact RetG.bad HB1.out (by rw [HWB.out, HFA.out]; rfl)
        · have hfa : s.data.toList.all (letB M.length) = true := by
            rw [HA.out, bytes_drop_end s i (by omega)]; rfl
          have hfin : imgW M t s.data.toList = y := by
            rw [H.out, bytes_drop_end s i (by omega)]; rfl
          have HFA := hid hfa
          have HF := hid hfin
          have LY := hid (LS.out y w1 HB1.out hy)
          have dl : decide ((i : Int) < (s.size : Int)) = false := decide_eq_false (by omega)
          clear hfa hfin
          go_wp2_with fail
          refine LY.out.mono ?_
          rintro e w2 ⟨a', c', rfl, ho, hb2⟩
          have HO := hid (own_base ho.out HB1.out.size)
          have HB2 := hid (HB1.out.trans (hb2.mono HB1.out.size))
          clear ho hb2
          go_wp2_with fail
          refine bodyPost_ret (results_tmp2 rfl _ _ _) rfl ?_
          refine .inl ⟨by rw [HWB.out, HFA.out, decide_eq_true hsz]; rfl, ?_⟩
          rw [HF.out]
          exact ⟨a', c', rfl, HO, HB2.out⟩
    · have d1 : decide ((s.size : Int) > 1000) = true := decide_eq_true (by omega)
      have hfa : wordB M.length s.data.toList = false := by
        rw [HWB.out, decide_eq_false hsz, Bool.and_false]
      have HFA := hid hfa
      clear hfa
      go_enter Tryd.func35, Tryd.ntmps35
      go_wp2_with fail
      refine HW.out.mono ?_
      rintro e w1 ⟨rfl, hb1⟩
      have HB1 := hid hb1
      clear hb1
      go_wp2_with fail
      refine (S1.out w1 HB1.out).mono ?_
      rintro e w2 ⟨rfl, rfl⟩
      go_wp2_with fail
      refine bodyPost_ret (results_tmp2 rfl _ _ _) rfl ?_
      exact RetG.bad HB1.out (by rw [HFA.out]; rfl)

theorem Image_no (a : Option Addr) (c : Nat) (X : List (List Int)) (v1 v2 : Value) (w : World) (hr : RowsAt w a X) (hl : X.length ≤ 1000) (hl2 : ∀ r ∈ X, r.length ≤ 1000) (hm : machineB X = false) :
    Calls Tryd.prog 35 #[.slice a X.length c, v1, v2] w fun e w' => e = .returned (.tuple #[.slice none 0 0, .int .i64 2]) ∧ Below w.heap.size w w' := by
  have HW := hid (isMachine_any a c X w hr hl hl2)
  rw [hm] at HW
  clear hm hr hl2
  go_enter Tryd.func35, Tryd.ntmps35
  go_wp2_with fail
  refine HW.out.mono ?_
  rintro e w1 ⟨rfl, hb1⟩
  go_wp2_with fail
  refine bodyPost_ret (results_tmp2 rfl _ _ _) rfl ?_
  exact ⟨rfl, hb1⟩
end Go.Proofs.YthlgdakdjikjhaaDoor
