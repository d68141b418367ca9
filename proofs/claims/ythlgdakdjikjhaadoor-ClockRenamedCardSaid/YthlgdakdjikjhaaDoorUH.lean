/-
  Texts merged: W, LawImages, X, Forms, St.
-/
import Derived.Test.YthlgdakdjikjhaaDoorUG
import Derived.Test.YthlgdakdjikjhaaDoorUF
import Derived.Test.YthlgdakdjikjhaaDoorUA
/-
  Walks: Image.
-/
namespace Go.Proofs.YthlgdakdjikjhaaDoor
open Go.RowKit Go.ChangeMaps
attribute [local go_sem] Oper.semAt_some

/-- What Image returns. -/
def RetG (ok : Bool) (L : List Nat) (w : World) (e : Ending) (w' : World) : Prop :=
  (ok = true ∧ ∃ a c, e = .returned (.tuple #[.slice a L.length c, .int .i64 0]) ∧ Hid (w'.ownsRow w.heap.size 3 1 (.slice a L.length c) L.length (L.map natV)) ∧ Below w.heap.size w w') ∨
  (ok = false ∧ e = .returned (.tuple #[.slice none 0 0, .int .i64 2]) ∧ Below w.heap.size w w')
theorem RetG.bad {L : List Nat} {w w' : World} (h : Below w.heap.size w w') {ok : Bool} (hk : ok = false) : RetG ok L w (.returned (.tuple #[.slice none 0 0, .int .i64 2])) w' := .inr ⟨hk, rfl, h⟩

set_option maxRecDepth 100000 in
set_option maxHeartbeats 4000000 in
theorem Image_any (a : Option Addr) (c : Nat) (M : List (List Nat)) (a1 : Option Addr) (c1 : Nat) (l : List Int) (s : ByteArray) (w : World) (hM : OkM M) (hr : RowsAt w a (intM M)) (h1 : Ints w a1 l) (hl1 : l.length ≤ 1000) (_hs : s.size ≤ maxLen) (hG : Glob w) :
    Calls Tryd.prog 35 #[.slice a M.length c, .slice a1 l.length c1, .string s] w (RetG (setB (nst M) l && wordB M.length s.data.toList) (listN (imgW M (numL l) s.data.toList)) w) := by
  have hmx : maxLen ≤ 9223372036854775807 := by decide
  have HW := hid (isM_yes a c M w hM hr)
  have S1 := hid (fun (W : World) (hb : Below w.heap.size w W) => set_any a c M a1 c1 l W hM (hr.below hb (Nat.le_refl _)) (h1.below hb (Nat.le_refl _)) hl1)
  have PR := hid (fun (y b : Nat) (W : World) (hb : Below w.heap.size w W) (hy : y < 512) (hbl : b < M.length) => press_any a c M y b W hM (hr.below hb (Nat.le_refl _)) hy hbl)
  have HP := hid (fun (y b : Nat) => lt512 hM (press_lt hM y b))
  have LS := hid (fun (y : Nat) (W : World) (hb : Below w.heap.size w W) (hy : y < 512) => list_any y W (hG.next hb) hy)
  have HN := hid (fun h => lt512 hM (num_lt (n := nst M) (l := l) h).1)
  have hm4 := hM.b4
  have hm1 := hM.b1
  generalize numL l = t at *
  generalize setB (nst M) l = sb at *
  generalize l.length = n1 at *
  clear hM hr h1 hG
  have HWB := hid (show wordB M.length s.data.toList = (s.data.toList.all (letB M.length) && decide (s.size ≤ 1000)) from rfl)
  cases sb with
  | false =>
    simp only [setRV, Bool.false_eq_true, if_false] at S1
    go_enter Tryd.func35, Tryd.ntmps35
    go_wp2_with fail
    refine HW.out.mono ?_
    rintro e w1 ⟨rfl, hb1⟩
    have HB1 := hid hb1
    clear hb1
    go_wp2_with fail
    refine (S1.out w1 HB1.out).mono ?_
    rintro e w2 ⟨rfl, rfl⟩
    go_wp2_with fail
    refine bodyPost_ret (results_tmp2 rfl _ _ _) rfl ?_
    exact RetG.bad HB1.out rfl
  | true =>
    simp only [setRV, if_true] at S1
    have ht := HN.out rfl
    by_cases hsz : s.size ≤ 1000
    · have d1 : decide ((s.size : Int) > 1000) = false := decide_eq_false (by omega)
      go_enter Tryd.func35, Tryd.ntmps35
      go_wp2_with fail
      refine HW.out.mono ?_
      rintro e w1 ⟨rfl, hb1⟩
      have HB1 := hid hb1
      clear hb1
      go_wp2_with fail
      refine (S1.out w1 HB1.out).mono ?_
      rintro e w2 ⟨rfl, rfl⟩
      go_wp2_with fail
      go_loop [8, 30] (fun sv iv => ∃ i y : Nat, i ≤ s.size ∧ iv = .int .i64 i ∧ sv = .int .i64 y ∧ y < 512 ∧ Hid (imgW M t s.data.toList = imgW M y (s.data.toList.drop i)) ∧ Hid (s.data.toList.all (letB M.length) = (s.data.toList.drop i).all (letB M.length))) (fun _ iv => s.size - (intOf iv).toNat)
      case atStart => exact ⟨0, t, by omega, rfl, rfl, ht, by rw [Hid, List.drop_zero], by rw [Hid, List.drop_zero]⟩
      case round =>
        obtain ⟨i, y, hi, rfl, rfl, hy, H, HA⟩ := hrel
        by_cases hlt : i < s.size
        · have hd := bytes_drop s i hlt
          have hc := s[i].toNat_lt
          obtain ⟨ch, hch⟩ : ∃ ch, ch = s[i] := ⟨_, rfl⟩
          rw [← hch] at hd hc
          have hcn : ((s[i].toNat : Nat) : Int) = (ch.toNat : Int) := by rw [hch]
          have HD := hid hd
          have HCH := hid hch
          clear hd hch
          have dl : decide ((i : Int) < (s.size : Int)) = true := decide_eq_true (by omega)
          by_cases hlet : letB M.length ch = true
          · have hall := (letB_iff _ _).1 hlet
            have hfin : imgW M t s.data.toList = imgW M (press M y (ch.toNat - 97)) (s.data.toList.drop (i + 1)) := by
              rw [H.out, HD.out, imgW_cons]
            have hfa : s.data.toList.all (letB M.length) = (s.data.toList.drop (i + 1)).all (letB M.length) := by
              rw [HA.out, HD.out, List.all_cons, hlet, Bool.true_and]
            have e1 : ((ch.toNat : Int) - 97) = ((ch.toNat - 97 : Nat) : Int) := by omega
            obtain ⟨d, hdd⟩ : ∃ d, d = ch.toNat - 97 := ⟨_, rfl⟩
            rw [← hdd] at e1 hfin
            have hd4 : d < M.length := by omega
            have CC := hid (PR.out y d w1 HB1.out hy hd4)
            have W1 := within_any (d : Int) 0 ((M.length : Int) - 1) w1
            rw [show (decide ((0 : Int) ≤ (d : Int)) && decide ((d : Int) ≤ (M.length : Int) - 1)) = true by simp; omega] at W1
            have W1 := hid W1
            have hz5 := HP.out y d
            obtain ⟨z, hz⟩ : ∃ z, z = press M y d := ⟨_, rfl⟩
            rw [← hz] at CC hfin hz5
            have HF := hid hfin
            have HFA := hid hfa
            clear hfin hfa hdd hz hall hlet
            go_wp2_with fail
            refine W1.out.mono ?_
            rintro e w2 ⟨rfl, rfl⟩
            go_wp2_with fail
            refine CC.out.mono ?_
            rintro e w2 ⟨rfl, rfl⟩
            go_wp2_with fail
            exact ⟨⟨i + 1, z, by omega, by go_num, rfl, hz5, HF, HFA⟩, by simp [intOf]; omega⟩
          · have hlet : letB M.length ch = false := by simpa using hlet
            have hfa : s.data.toList.all (letB M.length) = false := by
              rw [HA.out, HD.out, List.all_cons, hlet, Bool.false_and]
            have hno : ¬ (97 ≤ ch.toNat ∧ ch.toNat < 97 + M.length) := fun h => by
              rw [(letB_iff _ _).2 h] at hlet; cases hlet
            have W1 := within_any ((ch.toNat : Int) - 97) 0 ((M.length : Int) - 1) w1
            rw [show (decide ((0 : Int) ≤ (ch.toNat : Int) - 97) && decide ((ch.toNat : Int) - 97 ≤ (M.length : Int) - 1)) = false by simp; omega] at W1
            have W1 := hid W1
            have HFA := hid hfa
            clear hfa hno hlet
            go_wp2_with fail
            refine W1.out.mono ?_
            rintro e w2 ⟨rfl, rfl⟩
            go_wp2_with fail
            refine bodyPost_ret (results_tmp2 rfl _ _ _) rfl ?_
            exact RetG.bad HB1.out (by rw [HWB.out, HFA.out]; rfl)
        · have hfa : s.data.toList.all (letB M.length) = true := by
            rw [HA.out, bytes_drop_end s i (by omega)]; rfl
          have hfin : imgW M t s.data.toList = y := by
            rw [H.out, bytes_drop_end s i (by omega)]; rfl
          have HFA := hid hfa
          have HF := hid hfin
          have LY := hid (LS.out y w1 HB1.out hy)
          have dl : decide ((i : Int) < (s.size : Int)) = false := decide_eq_false (by omega)
          clear hfa hfin
          go_wp2_with fail
          refine LY.out.mono ?_
          rintro e w2 ⟨a', c', rfl, ho, hb2⟩
          have HO := hid (own_base ho.out HB1.out.size)
          have HB2 := hid (HB1.out.trans (hb2.mono HB1.out.size))
          clear ho hb2
          go_wp2_with fail
          refine bodyPost_ret (results_tmp2 rfl _ _ _) rfl ?_
          refine .inl ⟨by rw [HWB.out, HFA.out, decide_eq_true hsz]; rfl, ?_⟩
          rw [HF.out]
          exact ⟨a', c', rfl, HO, HB2.out⟩
    · have d1 : decide ((s.size : Int) > 1000) = true := decide_eq_true (by omega)
      have hfa : wordB M.length s.data.toList = false := by
        rw [HWB.out, decide_eq_false hsz, Bool.and_false]
      have HFA := hid hfa
      clear hfa
      go_enter Tryd.func35, Tryd.ntmps35
      go_wp2_with fail
      refine HW.out.mono ?_
      rintro e w1 ⟨rfl, hb1⟩
      have HB1 := hid hb1
      clear hb1
      go_wp2_with fail
      refine (S1.out w1 HB1.out).mono ?_
      rintro e w2 ⟨rfl, rfl⟩
      go_wp2_with fail
      refine bodyPost_ret (results_tmp2 rfl _ _ _) rfl ?_
      exact RetG.bad HB1.out (by rw [HFA.out]; rfl)

theorem Image_no (a : Option Addr) (c : Nat) (X : List (List Int)) (v1 v2 : Value) (w : World) (hr : RowsAt w a X) (hl : X.length ≤ 1000) (hl2 : ∀ r ∈ X, r.length ≤ 1000) (hm : machineB X = false) :
    Calls Tryd.prog 35 #[.slice a X.length c, v1, v2] w fun e w' => e = .returned (.tuple #[.slice none 0 0, .int .i64 2]) ∧ Below w.heap.size w w' := by
  have HW := hid (isMachine_any a c X w hr hl hl2)
  rw [hm] at HW
  clear hm hr hl2
  go_enter Tryd.func35, Tryd.ntmps35
  go_wp2_with fail
  refine HW.out.mono ?_
  rintro e w1 ⟨rfl, hb1⟩
  go_wp2_with fail
  refine bodyPost_ret (results_tmp2 rfl _ _ _) rfl ?_
  exact ⟨rfl, hb1⟩
end Go.Proofs.YthlgdakdjikjhaaDoor
/-
  The law ClockImages, walked.
-/
namespace Go.Proofs.YthlgdakdjikjhaaDoor
open Go.RowKit Go.ChangeMaps
attribute [local go_sem] Oper.semAt_some

theorem retN_ints {l : List Nat} {w w' : World} {a : Option Addr} {c : Nat} (h : w'.ownsRow w.heap.size 3 1 (.slice a l.length c) l.length (l.map natV)) : Ints w' a (l.map fun (x : Nat) => (x : Int)) := by
  have := (own_vals h).1
  unfold Ints
  rw [natV_ints]
  exact this
theorem short_len (s : ByteArray) : (s.extract 0 (min s.size 1001)).size ≤ 1001 := by rw [ByteArray.size_extract]; omega

theorem extract_all (s : ByteArray) : s.extract 0 s.size = s := by
  apply ByteArray.ext
  simp

set_option maxRecDepth 100000 in
set_option maxHeartbeats 4000000 in
theorem images_walk (a0 : Option Addr) (len0 cap0 : Nat) (X : List (List Int)) (a1 : Option Addr) (len1 cap1 : Nat) (z1 : List Int) (s0 : ByteArray) (w : World) (hG : Glob w) (w0 : IsRows w a0 len0 cap0 X) (w1 : IsRow .i64 w a1 len1 cap1 z1) (w2 : s0.size ≤ maxLen) :
    Calls Tryd.prog 8 #[.slice a0 len0 cap0, .slice a1 len1 cap1, .string s0] w fun e w' => e = .returned (.bool true) ∧ Below w.heap.size w w' := by
  obtain ⟨rfl, hl, -, hr, hl2⟩ := w0
  have hmx : maxLen ≤ 9223372036854775807 := by decide
  have hmx2 : 1001 ≤ maxLen := by decide
  obtain ⟨k1, e1, n1, c1, m1⟩ := w1.ints
  have HG := hid hG
  have TB := hid (table_any a0 cap0 X w hr hl fun r h => (hl2 r h).1)
  have L1 := hid (fun (W : World) (hb : Below w.heap.size w W) => listc_any a1 cap1 (z1.take len1) W (k1.below hb (Nat.le_refl _)) (by omega) n1 (by omega))
  rw [e1] at L1
  have hTl := tabL_len X
  have hTr := tabL_rows X
  have hl1 : ((z1.take len1).take 11).length ≤ 11 := by rw [List.length_take]; omega
  have hsz := short_len s0
  have hmin : (min (s0.size : Int) 1001).toNat = min s0.size 1001 := by omega
  have hmin2 : (min (s0.size : Int) 1001) = ((min s0.size 1001 : Nat) : Int) := by omega
  have hmle : min s0.size 1001 ≤ s0.size := by omega
  obtain ⟨s, hs⟩ : ∃ s, s = s0.extract 0 (min s0.size 1001) := ⟨_, rfl⟩
  rw [← hs] at hsz
  have HS1 := hid (fun (h : (1001 : Int) < (s0.size : Int)) => show s0.extract 0 1001 = s by rw [hs, show min s0.size 1001 = 1001 by omega])
  have HS2 := hid (fun (h : ¬ (1001 : Int) < (s0.size : Int)) => show s0 = s by rw [hs, show min s0.size 1001 = s0.size by omega]; exact (extract_all s0).symm)
  generalize tabL X = T at *
  generalize (z1.take len1).take 11 = l1 at *
  clear hG hr hl hl2 w1 k1 e1 n1 c1 m1 hs
  go_enter Tryd.func8, Tryd.ntmps8
  go_wp2_with fail
  refine TB.out.mono ?_
  rintro e v1 ⟨b0, d0, rfl, ht⟩
  have HB1 := hid ht.out.below
  obtain ⟨-, hrt, -, -⟩ := ht.out.rows
  have HRT1 := hid hrt
  clear hrt ht TB
  go_wp2_with fail
  refine (L1.out v1 HB1.out).mono ?_
  rintro e v3 ⟨b1, d1, rfl, ho1, hb2⟩
  have HI1 := hid (retI_ints ho1.out).1
  have HB3 := hid (HB1.out.trans (hb2.mono HB1.out.size))
  have HRT := hid (HRT1.out.below hb2 (Nat.le_refl _))
  clear ho1 hb2 L1 HRT1 HB1
  have RM := hid (fun W (hb : Below v3.heap.size v3 W) => refMachine_any b0 d0 T W (HRT.out.below hb (Nat.le_refl _)) (by omega) (fun r h => by have := hTr r h; omega))
  cases hm : machineB T with
  | false =>
    have MN := hid (Image_no b0 d0 T (.slice b1 l1.length d1) (.string s) v3 HRT.out (by omega) (fun r h => by have := hTr r h; omega) hm)
    rw [hm] at RM
    clear hm hTr
    go_wp2_with fail
    all_goals
      first | rw [HS1.out (by assumption)] | rw [HS2.out (by assumption)]
      refine MN.out.mono ?_
      rintro e v4 ⟨rfl, hb4⟩
      have B4 := hid (HB3.out.trans (hb4.mono HB3.out.size))
      have RM4 := hid (RM.out v4 hb4)
      clear hb4
      go_wp2_with fail
      refine RM4.out.mono ?_
      rintro e v5 ⟨rfl, rfl⟩
      go_wp2_with fail
      refine (awake_any _ (HG.out.next B4.out)).mono ?_
      rintro e w9 ⟨rfl, hb9⟩
      have B9 := hid (B4.out.trans (hb9.mono B4.out.size))
      clear hb9
      go_wp2_with fail
      go_ret
      exact ⟨rfl, B9.out⟩
  | true =>
    obtain ⟨M, rfl, hM⟩ := machine_ok T hm
    rw [hm, intM_length] at RM
    rw [intM_length]
    have RS1 := hid (fun W (hb : Below v3.heap.size v3 W) => refSet_any b0 d0 M b1 d1 l1 W hM (HRT.out.below hb (Nat.le_refl _)) (HI1.out.below hb (Nat.le_refl _)) (by omega))
    have IMG := hid (Image_any b0 d0 M b1 d1 l1 s v3 hM HRT.out HI1.out (by omega) (by omega) (HG.out.next HB3.out))
    have RW := hid (fun W => refWord_any b0 M.length d0 s W (by omega) (by have := hM.b4; omega))
    have NUM1 := hid (fun W (hb : Below v3.heap.size v3 W) h => refNumber_any b1 d1 (nst M) l1 W hM.n9 (HI1.out.below hb (Nat.le_refl _)) (by omega) h)
    have NLT := hid (fun h => lt512 hM (num_lt (n := nst M) (l := l1) h).1)
    have ILT := hid (fun h => lt512 hM (imgW_lt hM s.data.toList _ (num_lt (n := nst M) (l := l1) h).1))
    have RI := hid (fun W (hb : Below v3.heap.size v3 W) h hw => refImage_any b0 d0 M (numL l1) s W hM (HRT.out.below hb (Nat.le_refl _)) (lt512 hM (num_lt (n := nst M) (l := l1) h).1) (by omega) hw)
    have WAL := hid (fun (h : wordB M.length s.data.toList = true) => show s.data.toList.all (letB M.length) = true by unfold wordB at h; rw [Bool.and_eq_true] at h; exact h.1)
    clear hm hTr hM
    generalize setB (nst M) l1 = s1 at *
    generalize hn1 : l1.length = n1 at *
    generalize wordB M.length s.data.toList = s2 at *
    clear hn1
    cases s1 with
    | false =>
      rw [Bool.false_and] at IMG
      go_wp2_with fail
      all_goals
        first | rw [HS1.out (by assumption)] | rw [HS2.out (by assumption)]
        refine IMG.out.mono ?_
        rintro e v4 hret
        obtain ⟨-, rfl, hb4⟩ : false = false ∧ e = .returned (.tuple #[.slice none 0 0, .int .i64 2]) ∧ Below v3.heap.size v3 v4 := by
          rcases hret with ⟨h, -⟩ | h
          · simp at h
          · exact ⟨rfl, h.2⟩
        have B4 := hid (HB3.out.trans (hb4.mono HB3.out.size))
        have HB4 := hid hb4
        clear hb4
        go_wp2_with fail
        refine (RM.out v4 HB4.out).mono ?_
        rintro e v5 ⟨rfl, rfl⟩
        go_wp2_with fail
        refine (RS1.out v4 HB4.out).mono ?_
        rintro e v5 ⟨rfl, hb5⟩
        have B5 := hid (B4.out.trans (hb5.mono B4.out.size))
        clear hb5
        go_wp2_with fail
        refine (awake_any _ (HG.out.next B5.out)).mono ?_
        rintro e w9 ⟨rfl, hb9⟩
        have B9 := hid (B5.out.trans (hb9.mono B5.out.size))
        clear hb9
        go_wp2_with fail
        go_ret
        exact ⟨rfl, B9.out⟩
    | true =>
      rw [Bool.true_and] at IMG
      cases s2 with
      | false =>
        go_wp2_with fail
        all_goals
          first | rw [HS1.out (by assumption)] | rw [HS2.out (by assumption)]
          refine IMG.out.mono ?_
          rintro e v4 hret
          obtain ⟨-, rfl, hb4⟩ : false = false ∧ e = .returned (.tuple #[.slice none 0 0, .int .i64 2]) ∧ Below v3.heap.size v3 v4 := by
            rcases hret with ⟨h, -⟩ | h
            · simp at h
            · exact ⟨rfl, h.2⟩
          have B4 := hid (HB3.out.trans (hb4.mono HB3.out.size))
          have HB4 := hid hb4
          clear hb4
          go_wp2_with fail
          refine (RM.out v4 HB4.out).mono ?_
          rintro e v5 ⟨rfl, rfl⟩
          go_wp2_with fail
          refine (RS1.out v4 HB4.out).mono ?_
          rintro e v5 ⟨rfl, hb5⟩
          have B5 := hid (B4.out.trans (hb5.mono B4.out.size))
          clear hb5
          go_wp2_with fail
          refine (RW.out v5).mono ?_
          rintro e v6 ⟨rfl, rfl⟩
          go_wp2_with fail
          refine (awake_any _ (HG.out.next B5.out)).mono ?_
          rintro e w9 ⟨rfl, hb9⟩
          have B9 := hid (B5.out.trans (hb9.mono B5.out.size))
          clear hb9
          go_wp2_with fail
          go_ret
          exact ⟨rfl, B9.out⟩
      | true =>
        have NW := hid (WAL.out rfl)
        have IL := ILT.out rfl
        obtain ⟨y, hy⟩ : ∃ y, y = imgW M (numL l1) s.data.toList := ⟨_, rfl⟩
        rw [← hy] at IMG IL RI
        have RIY := hid (fun W (hb : Below v3.heap.size v3 W) => RI.out W hb (by trivial) NW.out)
        have RLY := hid (fun W => refList_any y W IL)
        have hLl : (listN y).length ≤ 1000000 := Nat.le_trans (listN_len y) (by decide)
        have INT := hid (fun b b' d d' W h h' => ints_any b b' d d' ((listN y).map fun (x : Nat) => (x : Int)) ((listN y).map fun (x : Nat) => (x : Int)) W h h' (by rw [List.length_map]; exact hLl))
        rw [List.length_map] at INT
        clear hy hLl RI
        go_wp2_with fail
        all_goals
          first | rw [HS1.out (by assumption)] | rw [HS2.out (by assumption)]
          refine IMG.out.mono ?_
          rintro e v4 hret
          rcases hret with ⟨-, b4, d4, rfl, ho4, hb4⟩ | ⟨h, -⟩
          case inr => simp at h
          have I4 := hid (retN_ints ho4.out)
          have B4 := hid (HB3.out.trans (hb4.mono HB3.out.size))
          have HB4 := hid hb4
          clear hb4 ho4
          go_wp2_with fail
          refine (RM.out v4 HB4.out).mono ?_
          rintro e v5 ⟨rfl, rfl⟩
          go_wp2_with fail
          refine (RS1.out v4 HB4.out).mono ?_
          rintro e v5 ⟨rfl, hb5⟩
          have B5 := hid (B4.out.trans (hb5.mono B4.out.size))
          have HB5 := hid (HB4.out.trans (hb5.mono HB4.out.size))
          have I5 := hid (I4.out.below hb5 (Nat.le_refl _))
          clear hb5 I4
          go_wp2_with fail
          refine (RW.out v5).mono ?_
          rintro e v6 ⟨rfl, rfl⟩
          go_wp2_with fail
          refine (NUM1.out v5 HB5.out (by trivial)).mono ?_
          rintro e v6 ⟨rfl, rfl⟩
          go_wp2_with fail
          refine (RIY.out v5 HB5.out).mono ?_
          rintro e v6 ⟨rfl, rfl⟩
          go_wp2_with fail
          refine (RLY.out v5).mono ?_
          rintro e v7 ⟨b7, d7, rfl, ho7, hb7⟩
          have I7 := hid (retN_ints ho7.out)
          have I57 := hid (I5.out.below hb7 (Nat.le_refl _))
          have B7 := hid (B5.out.trans (hb7.mono B5.out.size))
          clear hb7 ho7
          go_wp2_with fail
          refine (INT.out b4 b7 d4 d7 v7 I57.out I7.out).mono ?_
          rintro e v8 ⟨rfl, hb8⟩
          have B8 := hid (B7.out.trans (hb8.mono B7.out.size))
          clear hb8
          go_wp2_with fail
          refine (awake_any _ (HG.out.next B8.out)).mono ?_
          rintro e w9 ⟨rfl, hb9⟩
          have B9 := hid (B8.out.trans (hb9.mono B8.out.size))
          clear hb9
          go_wp2_with fail
          go_ret
          exact ⟨rfl, B9.out⟩
end Go.Proofs.YthlgdakdjikjhaaDoor
/-
  Walks: the law's words, sets of states, and order of words.
-/
namespace Go.Proofs.YthlgdakdjikjhaaDoor
open Go.RowKit Go.ChangeMaps
attribute [local go_sem] Oper.semAt_some

theorem word_step (ch : UInt8) (n : Nat) (h1 : 1 ≤ n) (h4 : n ≤ 4) : (97 + (wrap64 (ch.toNat : Int)).tmod (n : Int)) % 256 = ((letK n ch).toNat : Int) := by
  have hr := Nat.mod_lt ch.toNat (show n > 0 by omega)
  have hc := ch.toNat_lt
  rw [letK_nat n ch h1 h4, IntWalk.wrap64_in _ ⟨by omega, by omega⟩, show Int.tmod (ch.toNat : Int) (n : Int) = ((ch.toNat % n : Nat) : Int) from rfl]
  omega
set_option maxHeartbeats 1000000 in
theorem word_any (a : Option Addr) (n c : Nat) (s : ByteArray) (most : Nat) (w : World) (hs : s.size ≤ maxLen) (h1 : 1 ≤ n) (h4 : n ≤ 4) (hm : most ≤ 100) :
    Calls Tryd.prog 38 #[.slice a n c, .string s, .int .i64 most] w fun e w' => e = .returned (.string (mkS (mkWord n (s.data.toList.take most)))) ∧ Below w.heap.size w w' := by
  have hmx : maxLen ≤ 9223372036854775807 := by decide
  go_enter Tryd.func38, Tryd.ntmps38
  go_wp2_with fail
  go_loopw [7, 8] (fun v iv wr => ∃ i : Nat, i ≤ s.size ∧ i ≤ most ∧ iv = .int .i64 i ∧ Below w.heap.size w wr ∧ Hid (wr.ownsRow w.heap.size 5 1 v i ((mkWord n (s.data.toList.take i)).map u8v))) (fun _ iv _ => most - (intOf iv).toNat)
  case atStart => exact ⟨0, by omega, by omega, rfl, Below.refl _ _, World.ownsRow_nil _ _ _ _⟩
  case round =>
    obtain ⟨i, hi, him, rfl, hB, HO⟩ := hrel
    by_cases h : i < s.size ∧ i < most
    · obtain ⟨k1, k2⟩ := h
      have d1 : decide ((i : Int) < (s.size : Int)) = true := decide_eq_true (by omega)
      have d2 : decide ((i : Int) < (most : Int)) = true := decide_eq_true (by omega)
      have hst : mkWord n (s.data.toList.take (i + 1)) = mkWord n (s.data.toList.take i) ++ [letK n s[i]] := by
        rw [take_succ_bytes s i k1]; simp [mkWord]
      obtain ⟨ch, hch⟩ : ∃ ch, ch = s[i] := ⟨_, rfl⟩
      rw [← hch] at hst
      have hcn : ((s[i].toNat : Nat) : Int) = (ch.toNat : Int) := by rw [hch]
      have hln := word_step ch n h1 h4
      have hX : (mkWord n (s.data.toList.take i)).map u8v ++ [.int .u8 ((97 + (wrap64 (ch.toNat : Int)).tmod (n : Int)) % 256)] = (mkWord n (s.data.toList.take (i + 1))).map u8v := by
        rw [hst, List.map_append, List.map_singleton, u8v, ← hln]
      have HX := hid hX
      have HCH := hid hch
      have dn : ((n : Int) == 0) = false := beq_eq_false_iff_ne.2 (by omega)
      have HLN := hid hln
      clear hX hst hch hln
      go_wp2_with (at_builtin; go_must (refine wpList_app _ rfl (.tmp 20) (.tmp 30) 90 rfl w.heap.size 5 (.int .u8 0) 1 Tryd.underlying90 Tryd.info5 rfl _ i _ rfl (HO.out.alloc _) (some ⟨wr.heap.size, 0, none⟩) 1 1 [.int .u8 _] rfl rfl (vals_new _ _ _ _ rfl) (fun h => by cases h) (by simp [Value.oneCell']) (by omega) (by omega) (by have := hB.size; simp; omega) ?_))
      intro v' w1 hown' hgrow _
      rw [HX.out] at hown'
      have hB' := below_app (hB.alloc hB.size _) hgrow (HO.out.alloc _) (by have := hB.size; simp; omega) (Nat.le_refl _)
      have HO' := hid hown'
      clear hown' hgrow HX
      go_wp2_with fail
      exact ⟨⟨i + 1, by omega, by omega, by go_num, hB', HO'⟩, by simp [intOf]; omega⟩
    · have hfin : s.data.toList.take i = s.data.toList.take most := by
        rcases (show i = most ∨ s.size ≤ i by omega) with h6 | h6
        · rw [h6]
        · rw [take_all_bytes s i h6, take_all_bytes s most (by omega)]
      have hlen : (mkWord n (s.data.toList.take most)).length = i := by
        rw [← hfin, mkWord, List.length_map, List.length_take, bytes_len]; omega
      rw [hfin] at HO
      obtain ⟨L, hL⟩ : ∃ L, L = mkWord n (s.data.toList.take most) := ⟨_, rfl⟩
      rw [← hL] at HO hlen
      have HL := hid hL
      clear hL
      obtain ⟨a1, c1, rfl, hv, -⟩ := ownsRow_vals HO.out
      have hml : (L.map u8v).length = i := by rw [List.length_map, hlen]
      rw [hml] at HO ⊢
      obtain ⟨-, hic, hnc⟩ := ownsRow_facts HO.out
      have hcv : (convert 90 9 (.slice a1 i c1)).run Tryd.prog wr = .ok (.string (mkS L)) wr := by
        have := run_strB (P := Tryd.prog) 90 9 5 Tryd.underlying90 Tryd.underlying5 Tryd.underlying9 wr a1 c1 L hv (fun h => by
          have h2 := hnc h
          exact List.eq_nil_of_length_eq_zero (by omega))
        rw [hlen] at this
        exact this
      have HBW := hid hB
      clear hfin hlen hv hic hnc hml
      rcases (show ¬ i < s.size ∨ (i < s.size ∧ ¬ i < most) by omega) with k1 | ⟨k0, k1⟩
      · have d1 : decide ((i : Int) < (s.size : Int)) = false := decide_eq_false (by omega)
        go_wp2_with fail
        go_ret
        exact ⟨ret_str (by rw [HL.out]), HBW.out⟩
      · have d1 : decide ((i : Int) < (s.size : Int)) = true := decide_eq_true (by omega)
        have d2 : decide ((i : Int) < (most : Int)) = false := decide_eq_false (by omega)
        go_wp2_with fail
        go_ret
        exact ⟨ret_str (by rw [HL.out]), HBW.out⟩

instance (a b : List UInt8) : Decidable (ltW a b) := by unfold ltW; infer_instance
theorem op_lt (x y : List UInt8) : Op.bytesLess (mkS x).data.toList (mkS y).data.toList = decide (x < y) := bytesLess_lt x y
theorem op_lt' (x y : List UInt8) : Op.bytesLess (mkS x).toList (mkS y).toList = decide (x < y) := by
  rw [Lib.toList_data, Lib.toList_data]; exact bytesLess_lt x y
theorem later_gen (x y : ByteArray) (w : World) : Calls Tryd.prog 42 #[.string x, .string y] w fun e w' => e = .returned (.bool (decide (ltW y.data.toList x.data.toList))) ∧ w = w' := by
  rcases Nat.lt_trichotomy y.size x.size with h | h | h
  · have d1 : decide ((x.size : Int) > (y.size : Int)) = true := decide_eq_true (by omega)
    have d3 : decide (y.size < x.size) = true := decide_eq_true (by omega)
    have hf : ltW y.data.toList x.data.toList := .inl h
    have HF := hid (decide_eq_true hf)
    clear hf h
    go_enter Tryd.func42, Tryd.ntmps42
    go_wp2_with fail
    go_ret
    exact ⟨ret_bool HF.out.symm, rfl⟩
  · have d1 : decide ((x.size : Int) > (y.size : Int)) = false := decide_eq_false (by omega)
    have d3 : decide (y.size < x.size) = false := decide_eq_false (by omega)
    have d2 : ((x.size : Int) == (y.size : Int)) = true := beq_iff_eq.2 (by omega)
    have hf : (!Op.bytesLess x.toList y.toList && !x.toList == y.toList) = decide (ltW y.data.toList x.data.toList) := by
      rw [Lib.toList_data, Lib.toList_data, bytesLess_lt, Bool.eq_iff_iff]
      rw [← bytes_len, ← bytes_len] at h
      generalize x.data.toList = x at *
      generalize y.data.toList = y at *
      simp only [Bool.and_eq_true, Bool.not_eq_true', decide_eq_false_iff_not, beq_eq_false_iff_ne, decide_eq_true_eq]
      constructor
      · rintro ⟨h1, h2⟩
        refine .inr ⟨h, ?_⟩
        rcases List.le_total x y with h3 | h3
        · exact absurd (List.le_antisymm h3 (List.not_lt.1 h1)) h2
        · exact List.not_le.1 fun h4 => h2 (List.le_antisymm h4 h3)
      · intro h1
        rcases h1 with h1 | ⟨-, h1⟩
        · omega
        · exact ⟨fun h2 => List.lt_asymm h1 h2, fun h2 => by subst h2; exact List.lt_irrefl _ h1⟩
    have HF := hid hf
    clear hf h
    go_enter Tryd.func42, Tryd.ntmps42
    go_wp2_with fail
    go_ret
    exact ⟨ret_bool HF.out, rfl⟩
  · have d1 : decide ((x.size : Int) > (y.size : Int)) = false := decide_eq_false (by omega)
    have d3 : decide (y.size < x.size) = false := decide_eq_false (by omega)
    have d2 : ((x.size : Int) == (y.size : Int)) = false := beq_eq_false_iff_ne.2 (by omega)
    have hf : ¬ ltW y.data.toList x.data.toList := by
      rw [← bytes_len, ← bytes_len] at h
      rintro (h1 | ⟨h1, -⟩) <;> omega
    have HF := hid (decide_eq_false hf)
    clear hf h
    go_enter Tryd.func42, Tryd.ntmps42
    go_wp2_with fail
    go_ret
    exact ⟨ret_bool HF.out.symm, rfl⟩
theorem later_any (x y : List UInt8) (w : World) : Calls Tryd.prog 42 #[.string (mkS x), .string (mkS y)] w fun e w' => e = .returned (.bool (decide (ltW y x))) ∧ w = w' := later_gen (mkS x) (mkS y) w
end Go.Proofs.YthlgdakdjikjhaaDoor
/-
  Shared words for the walks of the laws: forms of results.
-/
namespace Go.Proofs.YthlgdakdjikjhaaDoor
open Go.RowKit Go.ChangeMaps

theorem reset_form (r : Option Ent) : ∃ (s : List UInt8) (q e : Int), resetV r = .tuple #[.string (mkS s), .int .i64 q, .int .i64 e] ∧ ∀ x, r = some x → s = x.word ∧ e = 0 ∧ q = lowN x.set := by
  cases r with
  | none => exact ⟨[], 0, 6, rfl, fun x h => by cases h⟩
  | some x => exact ⟨x.word, _, 0, rfl, fun y h => by cases h; exact ⟨rfl, rfl, rfl⟩⟩
theorem merge_form (r : Option Ent) : ∃ (s : List UInt8) (e : Int), mergeV r = .tuple #[.string (mkS s), .int .i64 e] ∧ ∀ x, r = some x → s = x.word ∧ e = 0 := by
  cases r with
  | none => exact ⟨[], 6, rfl, fun x h => by cases h⟩
  | some x => exact ⟨x.word, 0, rfl, fun y h => by cases h; exact ⟨rfl, rfl⟩⟩
theorem isRows_below {w w' : World} {a : Option Addr} {len cap : Nat} {X : List (List Int)} (h : IsRows w a len cap X) (hb : Below w.heap.size w w') : IsRows w' a len cap X := by
  obtain ⟨h1, h2, h3, h4, h5⟩ := h
  exact ⟨h1, h2, h3, h4.below hb (Nat.le_refl _), h5⟩
theorem num_single (P : Nat) : numL [(P : Int)] = 2 ^ P := by
  show 0 + 2 ^ ((P : Int).toNat) = 2 ^ P
  rw [Nat.zero_add, Int.toNat_natCast]
theorem set_single {n P : Nat} (h : P < n) : setB n [(P : Int)] = true := by
  show (okQ n none (P : Int) && true) = true
  rw [Bool.and_true]
  exact (okQ_iff _ _ _).2 ⟨by omega, by omega, fun x hx => by cases hx⟩
theorem list_ne {x : Nat} (h : x < 512) (h0 : x ≠ 0) : castL (listN x) ≠ [] := by
  intro e
  have h1 := sizeN_pos x h h0
  have h2 := castL_len (listN x)
  rw [e] at h2
  simp [sizeN] at h1
  simp at h2
  omega

theorem wordB_ok {k : Nat} {u : List UInt8} (h : u.all (letB k) = true) (hl : u.length ≤ 1000) : wordB k u = true := by
  unfold wordB
  rw [h, decide_eq_true hl]; rfl
/-- 'Image' of a set that is one, under a word that is one. -/
theorem Image_ok (a : Option Addr) (c : Nat) (M : List (List Nat)) (a1 : Option Addr) (c1 : Nat) (L : List Nat) (u : List UInt8) (w : World) (hM : OkM M) (hr : RowsAt w a (intM M)) (h1 : Ints w a1 (castL L)) (hL : L.length ≤ 9) (hs : setB (nst M) (castL L) = true) (hu : u.all (letB M.length) = true) (hul : u.length ≤ 1000) (hG : Glob w) :
    Calls Tryd.prog 35 #[.slice a M.length c, .slice a1 L.length c1, .string (mkS u)] w fun e w' => ∃ a' c', e = .returned (.tuple #[.slice a' (listN (imgW M (numL (castL L)) u)).length c', .int .i64 0]) ∧ Hid (Ints w' a' (castL (listN (imgW M (numL (castL L)) u)))) ∧ Hid (w'.ownsRow w.heap.size 3 1 (.slice a' (listN (imgW M (numL (castL L)) u)).length c') (listN (imgW M (numL (castL L)) u)).length ((listN (imgW M (numL (castL L)) u)).map natV)) ∧ Below w.heap.size w w' := by
  have hmx : 1000 ≤ maxLen := by decide
  have h := Image_any a c M a1 c1 (castL L) (mkS u) w hM hr h1 (by rw [castL_len]; omega) (by rw [mkS_size]; omega) hG
  rw [castL_len, mkS_data, hs, wordB_ok hu hul] at h
  refine h.mono ?_
  rintro e w' (⟨-, a', c', rfl, ho, hb⟩ | ⟨h, -⟩)
  · exact ⟨a', c', rfl, retN_ints ho, ho, hb⟩
  · simp at h
end Go.Proofs.YthlgdakdjikjhaaDoor
/-
  Walks: states, a set made of a list.
-/
namespace Go.Proofs.YthlgdakdjikjhaaDoor
open Go.RowKit Go.ChangeMaps
attribute [local go_sem] Oper.semAt_some

theorem inP_zero (n : Nat) (l : List Int) (q : Nat) : inP n l q 0 = (decide (l.length = 0) && decide (q = 0)) := by
  unfold inP; rw [List.take_zero, List.any_nil, Bool.or_false]
theorem inP_succ (n : Nat) (l : List Int) (q j : Nat) {z : Int} (h : l[j]? = some z) : inP n l q (j + 1) = (inP n l q j || (modN z n == q)) := by
  obtain ⟨hj, rfl⟩ := List.getElem?_eq_some_iff.1 h
  unfold inP
  rw [List.take_succ_eq_append_getElem hj, List.any_append, Bool.or_assoc]
  simp
theorem inP_end (n : Nat) (l : List Int) (q j : Nat) (h : l.length ≤ j) (h2 : j ≤ 20) : inP n l q 20 = inP n l q j := by
  unfold inP
  rw [List.take_of_length_le h, List.take_of_length_le (by omega)]
def stL (n : Nat) (l : List Int) (q : Nat) : List Nat := (List.range q).filter fun q => inP n l q 20
theorem stL_succ (n : Nat) (l : List Int) (q : Nat) : stL n l (q + 1) = stL n l q ++ (if inP n l q 20 then [q] else []) := by
  unfold stL
  rw [List.range_succ, List.filter_append, List.filter_cons, List.filter_nil]
theorem stL_len (n : Nat) (l : List Int) (q : Nat) : (stL n l q).length ≤ q := by
  have := List.length_filter_le (fun q => inP n l q 20) (List.range q)
  rw [List.length_range] at this
  exact this
theorem nat_eq (a b : Nat) : ((a : Int) == (b : Int)) = (a == b) := by rw [Bool.eq_iff_iff]; simp; omega

set_option maxRecDepth 100000 in
set_option maxHeartbeats 4000000 in
theorem states_any (a : Option Addr) (c : Nat) (M : List (List Nat)) (a1 : Option Addr) (c1 : Nat) (l : List Int) (w : World) (hM : OkM M) (hr : RowsAt w a (intM M)) (hl : Ints w a1 l) (hll : l.length ≤ maxLen) (hbd : ∀ n ∈ l, -9223372036854775808 ≤ n ∧ n ≤ 9223372036854775807) :
    Calls Tryd.prog 39 #[.slice a M.length c, .slice a1 l.length c1] w (RetN (statesL (nst M) l) w) := by
  have hmx : maxLen ≤ 9223372036854775807 := by decide
  have hn9 := hM.n9
  have hn1 := hM.n1
  have hm1 := hM.b1
  obtain ⟨g, o, b1, c1', rfl, hg, q1⟩ := head_at hM hr
  have HS := hid (show statesL (nst M) l = stL (nst M) l (nst M) from rfl)
  generalize nst M = n at *
  have HI := hid hl
  have HBD := hid hbd
  obtain ⟨len, hlen⟩ : ∃ len, len = l.length := ⟨_, rfl⟩
  have HLEN := hid hlen
  rw [← hlen] at hll ⊢
  clear hM hr hl hbd hlen
  go_enter Tryd.func39, Tryd.ntmps39
  go_wp2_with fail
  go_loopw [5, 6] (fun v i wr => ∃ (q : Nat) (L : List Nat), q ≤ n ∧ i = .int .i64 q ∧ L.length ≤ q ∧ Hid (L = stL n l q) ∧ Below w.heap.size w wr ∧ wr.ownsRow w.heap.size 3 1 v L.length (L.map natV)) (fun _ i _ => n - (intOf i).toNat)
  case atStart => exact ⟨0, [], by omega, rfl, by simp, rfl, Below.refl _ _, World.ownsRow_nil _ _ _ _⟩
  case round =>
    obtain ⟨q, L, hq, rfl, hLq, HL, hB, hown⟩ := hrel
    have q5 := (hB.cell (p := ⟨g, o, none⟩) hg).trans q1
    have HB := hid hB
    have HO := hid hown
    clear hB hown
    by_cases hqn : q < n
    · have d0 : decide (q < n) = true := decide_eq_true hqn
      obtain ⟨wo, rfl⟩ : ∃ wo : World, wo = wr := ⟨_, rfl⟩
      obtain ⟨x0, hx0⟩ : ∃ x0, x0 = inP n l q 0 := ⟨_, rfl⟩
      have hx1 := hx0
      rw [inP_zero, ← HLEN.out] at hx1
      have HX0 := hid hx0
      clear hx0
      rcases (show (len = 0 ∧ q = 0 ∧ x0 = true) ∨ (len = 0 ∧ 0 < q ∧ x0 = false) ∨ (0 < len ∧ x0 = false) by
        rcases Nat.eq_zero_or_pos len with h | h <;> rcases Nat.eq_zero_or_pos q with h2 | h2 <;> simp_all <;> omega) with ⟨h1, h2, rfl⟩ | ⟨h1, h2, rfl⟩ | ⟨h1, rfl⟩
      rotate_left 1
      rotate_left 1
      all_goals clear hx1
      · have e1 : ((len : Int) == 0) = false := beq_eq_false_iff_ne.2 (by omega)
        go_wp2_with fail
        go_loopw [7, 8] (fun b jv W => ∃ (j : Nat) (x : Bool), j ≤ len ∧ j ≤ 20 ∧ jv = .int .i64 j ∧ b = .bool x ∧ Hid (x = inP n l q j) ∧ Below wo.heap.size wo W) (fun _ jv _ => 20 - (intOf jv).toNat)
        case atStart => exact ⟨0, _, by omega, by omega, rfl, rfl, HX0, Below.refl _ _⟩
        case round =>
          obtain ⟨j, x, hj, hj20, rfl, rfl, HX, hBW⟩ := hrel
          have HBI := hid hBW
          have HBW := hid (HB.out.trans (hBW.mono HB.out.size))
          have HO2 := hid (ownsRow_low HO.out hBW (Nat.le_refl _))
          have q6 := (HBW.out.cell (p := ⟨g, o, none⟩) hg).trans q1
          clear hBW
          by_cases hjl : j < len
          · by_cases hj2 : j < 20
            · have dj : decide (j < len) = true := decide_eq_true hjl
              have dj2 : decide ((j : Int) < 20) = true := decide_eq_true (by omega)
              obtain ⟨z, hz, -⟩ := list_drop_cons l j (by rw [← HLEN.out]; exact hjl)
              have HZ := hid hz
              have hbz := HBD.out z (List.mem_of_getElem? hz)
              clear hz
              cases x with
              | true =>
                have HN := hid (show true = inP n l q (j + 1) by rw [inP_succ n l q j HZ.out, ← HX.out]; rfl)
                go_wp2_with fail
                go_quiet (fail)
                have HB2 := hid (below_drewN HBI.out nq)
                go_wp2_with fail
                exact ⟨⟨j + 1, true, by omega, by omega, by go_num, rfl, HN, HB2.out⟩, by simp [intOf]; omega⟩
              | false =>
                have HN := hid (show (modN z n == q) = inP n l q (j + 1) by rw [inP_succ n l q j HZ.out, ← HX.out, Bool.false_or])
                obtain ⟨g2, o2, rfl, hg2, hcell⟩ := HI.out.at (by rw [← HLEN.out]; omega)
                have q7 := (HBW.out.cell (p := ⟨g2, o2 + j, none⟩) hg2).trans (hcell j z HZ.out)
                have e5 := nat_eq (modN z n) q
                have C := hid (fun (W : World) => mod_any z n W (by omega) (by omega) hbz |>.mono (R' := fun e w' => e = .returned (.int .i64 (modN z n)) ∧ w' = W) fun e w' h => ⟨h.1, h.2.symm⟩)
                generalize modN z n = r at *
                clear hcell
                go_wp2_with fail
                go_quiet (exact Calls.quiet_of_same (C.out _))
                have HB2 := hid (below_drewN HBI.out nq)
                go_wp2_with fail
                exact ⟨⟨j + 1, r == q, by omega, by omega, by go_num, rfl, HN, HB2.out⟩, by simp [intOf]; omega⟩
            · have hj0 : j = 20 := by omega
              subst hj0
              have dj : decide (20 < len) = true := decide_eq_true hjl
              have HE := hid (show x = inP n l q 20 from HX.out)
              clear HX
              cases x with
              | true =>
                have hX : L.map natV ++ [.int .i64 (q : Int)] = (L ++ [q]).map natV := by rw [List.map_append]; rfl
                have HST := hid (show L ++ [q] = stL n l (q + 1) by rw [stL_succ, ← HE.out, HL.out]; rfl)
                have HX2 := hid hX
                clear hX
                go_wp2_with (at_builtin; go_must (refine wpList_app _ rfl (.tmp 49) (.tmp 51) 38 rfl w.heap.size 3 (.int .i64 0) 8 Tryd.underlying38 Tryd.info3 rfl _ L.length _ rfl (HO2.out.alloc _) (some ⟨wr.heap.size, 0, none⟩) 1 1 [.int .i64 _] rfl rfl (vals_new _ _ _ _ rfl) (fun h => by cases h) (by simp [Value.oneCell']) (by omega) (by omega) (by have := HBW.out.size; simp; omega) ?_))
                intro v' w1 hown' hgrow _
                rw [HX2.out] at hown'
                have hB' := below_app (HBW.out.alloc HBW.out.size _) hgrow (HO2.out.alloc _) (by have := HBW.out.size; simp; omega) (Nat.le_refl _)
                have HO' := hid hown'
                have HB' := hid hB'
                clear hown' hgrow hB'
                go_wp2_with fail
                exact ⟨⟨q + 1, L ++ [q], by omega, by go_num, by simp; omega, HST, HB'.out, by simpa using HO'.out⟩, by simp [intOf]; omega⟩
              | false =>
                have HST := hid (show L = stL n l (q + 1) by rw [stL_succ, ← HE.out, ← HL.out]; exact (List.append_nil _).symm)
                go_wp2_with fail
                exact ⟨⟨q + 1, L, by omega, by go_num, by omega, HST, HBW.out, HO2.out⟩, by simp [intOf]; omega⟩
          · have dj : decide (j < len) = false := decide_eq_false hjl
            have HE := hid (show x = inP n l q 20 by rw [inP_end n l q j (by rw [← HLEN.out]; omega) hj20]; exact HX.out)
            clear HX
            cases x with
            | true =>
              have hX : L.map natV ++ [.int .i64 (q : Int)] = (L ++ [q]).map natV := by rw [List.map_append]; rfl
              have HST := hid (show L ++ [q] = stL n l (q + 1) by rw [stL_succ, ← HE.out, HL.out]; rfl)
              have HX2 := hid hX
              clear hX
              go_wp2_with (at_builtin; go_must (refine wpList_app _ rfl (.tmp 49) (.tmp 51) 38 rfl w.heap.size 3 (.int .i64 0) 8 Tryd.underlying38 Tryd.info3 rfl _ L.length _ rfl (HO2.out.alloc _) (some ⟨wr.heap.size, 0, none⟩) 1 1 [.int .i64 _] rfl rfl (vals_new _ _ _ _ rfl) (fun h => by cases h) (by simp [Value.oneCell']) (by omega) (by omega) (by have := HBW.out.size; simp; omega) ?_))
              intro v' w1 hown' hgrow _
              rw [HX2.out] at hown'
              have hB' := below_app (HBW.out.alloc HBW.out.size _) hgrow (HO2.out.alloc _) (by have := HBW.out.size; simp; omega) (Nat.le_refl _)
              have HO' := hid hown'
              have HB' := hid hB'
              clear hown' hgrow hB'
              go_wp2_with fail
              exact ⟨⟨q + 1, L ++ [q], by omega, by go_num, by simp; omega, HST, HB'.out, by simpa using HO'.out⟩, by simp [intOf]; omega⟩
            | false =>
              have HST := hid (show L = stL n l (q + 1) by rw [stL_succ, ← HE.out, ← HL.out]; exact (List.append_nil _).symm)
              go_wp2_with fail
              exact ⟨⟨q + 1, L, by omega, by go_num, by omega, HST, HBW.out, HO2.out⟩, by simp [intOf]; omega⟩
      · subst h1
        have e1 : ((0 : Int) == 0) = true := rfl
        have HLQ := hid hLq
        subst h2
        have e2 : ((0 : Int) == 0) = true := rfl
        clear d0
        have d0 : (0 : Int) < n := by omega
        go_wp2_with fail
        go_loopw [7, 8] (fun b jv W => ∃ (j : Nat) (x : Bool), j ≤ 0 ∧ j ≤ 20 ∧ jv = .int .i64 j ∧ b = .bool x ∧ Hid (x = inP n l 0 j) ∧ Below wo.heap.size wo W) (fun _ jv _ => 20 - (intOf jv).toNat)
        case atStart => exact ⟨0, _, by omega, by omega, rfl, rfl, HX0, Below.refl _ _⟩
        case round =>
          obtain ⟨j, x, hj, hj20, rfl, rfl, HX, hBW⟩ := hrel
          have HBI := hid hBW
          have HBW := hid (HB.out.trans (hBW.mono HB.out.size))
          have HO2 := hid (ownsRow_low HO.out hBW (Nat.le_refl _))
          have q6 := (HBW.out.cell (p := ⟨g, o, none⟩) hg).trans q1
          clear hBW
          have hjl : ¬ j < 0 := by omega
          have dj : decide (j < 0) = false := decide_eq_false hjl
          have HE := hid (show x = inP n l 0 20 by rw [inP_end n l 0 j (by rw [← HLEN.out]; omega) hj20]; exact HX.out)
          clear HX
          cases x with
          | true =>
            have hX : L.map natV ++ [.int .i64 0] = (L ++ [0]).map natV := by rw [List.map_append]; rfl
            have HST := hid (show L ++ [0] = stL n l (0 + 1) by rw [stL_succ, ← HE.out, HL.out]; rfl)
            have HX2 := hid hX
            clear hX
            go_wp2_with (at_builtin; go_must (refine wpList_app _ rfl (.tmp 49) (.tmp 51) 38 rfl w.heap.size 3 (.int .i64 0) 8 Tryd.underlying38 Tryd.info3 rfl _ L.length _ rfl (HO2.out.alloc _) (some ⟨wr.heap.size, 0, none⟩) 1 1 [.int .i64 _] rfl rfl (vals_new _ _ _ _ rfl) (fun h => by cases h) (by simp [Value.oneCell']) (by omega) (by omega) (by have := HBW.out.size; simp; omega) ?_))
            intro v' w1 hown' hgrow _
            rw [HX2.out] at hown'
            have hB' := below_app (HBW.out.alloc HBW.out.size _) hgrow (HO2.out.alloc _) (by have := HBW.out.size; simp; omega) (Nat.le_refl _)
            have HO' := hid hown'
            have HB' := hid hB'
            clear hown' hgrow hB'
            go_wp2_with fail
            exact ⟨⟨0 + 1, L ++ [0], by omega, rfl, by have := HLQ.out; rw [List.length_append, List.length_singleton]; omega, HST, HB'.out, by simpa using HO'.out⟩, by simp [intOf]; omega⟩
          | false =>
            have HST := hid (show L = stL n l (0 + 1) by rw [stL_succ, ← HE.out, ← HL.out]; exact (List.append_nil _).symm)
            go_wp2_with fail
            exact ⟨⟨0 + 1, L, by omega, rfl, by omega, HST, HBW.out, HO2.out⟩, by simp [intOf]; omega⟩
      · subst h1
        have e1 : ((0 : Int) == 0) = true := rfl
        have e2 : ((q : Int) == 0) = false := beq_eq_false_iff_ne.2 (by omega)
        go_wp2_with fail
        go_loopw [7, 8] (fun b jv W => ∃ (j : Nat) (x : Bool), j ≤ 0 ∧ j ≤ 20 ∧ jv = .int .i64 j ∧ b = .bool x ∧ Hid (x = inP n l q j) ∧ Below wo.heap.size wo W) (fun _ jv _ => 20 - (intOf jv).toNat)
        case atStart => exact ⟨0, _, by omega, by omega, rfl, rfl, HX0, Below.refl _ _⟩
        case round =>
          obtain ⟨j, x, hj, hj20, rfl, rfl, HX, hBW⟩ := hrel
          have HBI := hid hBW
          have HBW := hid (HB.out.trans (hBW.mono HB.out.size))
          have HO2 := hid (ownsRow_low HO.out hBW (Nat.le_refl _))
          have q6 := (HBW.out.cell (p := ⟨g, o, none⟩) hg).trans q1
          clear hBW
          have hjl : ¬ j < 0 := by omega
          have dj : decide (j < 0) = false := decide_eq_false hjl
          have HE := hid (show x = inP n l q 20 by rw [inP_end n l q j (by rw [← HLEN.out]; omega) hj20]; exact HX.out)
          clear HX
          cases x with
          | true =>
            have hX : L.map natV ++ [.int .i64 (q : Int)] = (L ++ [q]).map natV := by rw [List.map_append]; rfl
            have HST := hid (show L ++ [q] = stL n l (q + 1) by rw [stL_succ, ← HE.out, HL.out]; rfl)
            have HX2 := hid hX
            clear hX
            go_wp2_with (at_builtin; go_must (refine wpList_app _ rfl (.tmp 49) (.tmp 51) 38 rfl w.heap.size 3 (.int .i64 0) 8 Tryd.underlying38 Tryd.info3 rfl _ L.length _ rfl (HO2.out.alloc _) (some ⟨wr.heap.size, 0, none⟩) 1 1 [.int .i64 _] rfl rfl (vals_new _ _ _ _ rfl) (fun h => by cases h) (by simp [Value.oneCell']) (by omega) (by omega) (by have := HBW.out.size; simp; omega) ?_))
            intro v' w1 hown' hgrow _
            rw [HX2.out] at hown'
            have hB' := below_app (HBW.out.alloc HBW.out.size _) hgrow (HO2.out.alloc _) (by have := HBW.out.size; simp; omega) (Nat.le_refl _)
            have HO' := hid hown'
            have HB' := hid hB'
            clear hown' hgrow hB'
            go_wp2_with fail
            exact ⟨⟨q + 1, L ++ [q], by omega, by go_num, by simp; omega, HST, HB'.out, by simpa using HO'.out⟩, by simp [intOf]; omega⟩
          | false =>
            have HST := hid (show L = stL n l (q + 1) by rw [stL_succ, ← HE.out, ← HL.out]; exact (List.append_nil _).symm)
            go_wp2_with fail
            exact ⟨⟨q + 1, L, by omega, by go_num, by omega, HST, HBW.out, HO2.out⟩, by simp [intOf]; omega⟩
    · have d0 : decide (q < n) = false := decide_eq_false hqn
      have hqe : q = n := by omega
      subst hqe
      obtain ⟨a2, c2, rfl, -, -⟩ := ownsRow_vals HO.out
      have hll : (L.map natV).length = L.length := List.length_map ..
      rw [hll] at HO ⊢
      have HE := hid (show L = statesL q l by rw [HS.out, HL.out])
      clear hll
      go_wp2_with fail
      go_ret
      exact ⟨a2, c2, by rw [← HE.out]; rfl, by rw [← HE.out]; exact HO, HB.out⟩
end Go.Proofs.YthlgdakdjikjhaaDoor
