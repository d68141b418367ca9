/-
  The law ClockImages, walked.
-/
import Derived.Test.YthlgdakdjikjhaaDoorW
import Derived.Test.YthlgdakdjikjhaaDoorLawLeads
namespace Go.Proofs.YthlgdakdjikjhaaDoor
open Go.RowKit Go.ChangeMaps
attribute [local go_sem] Oper.semAt_some

theorem retN_ints {l : List Nat} {w w' : World} {a : Option Addr} {c : Nat} (h : w'.ownsRow w.heap.size 3 1 (.slice a l.length c) l.length (l.map natV)) : Ints w' a (l.map fun (x : Nat) => (x : Int)) := by
  have := (own_vals h).1
  unfold Ints
  rw [natV_ints]
  exact this
theorem short_len (s : ByteArray) : (s.extract 0 (min s.size 1001)).size ≤ 1001 := by rw [ByteArray.size_extract]; omega

theorem extract_all (s : ByteArray) : s.extract 0 s.size = s := by
  apply ByteArray.ext
  simp

set_option maxRecDepth 100000 in
set_option maxHeartbeats 4000000 in
theorem images_walk (a0 : Option Addr) (len0 cap0 : Nat) (X : List (List Int)) (a1 : Option Addr) (len1 cap1 : Nat) (z1 : List Int) (s0 : ByteArray) (w : World) (hG : Glob w) (w0 : IsRows w a0 len0 cap0 X) (w1 : IsRow .i64 w a1 len1 cap1 z1) (w2 : s0.size ≤ maxLen) :
    Calls Tryd.prog 8 #[.slice a0 len0 cap0, .slice a1 len1 cap1, .string s0] w fun e w' => e = .returned (.bool true) ∧ Below w.heap.size w w' := by
  obtain ⟨rfl, hl, -, hr, hl2⟩ := w0
  have hmx : maxLen ≤ 9223372036854775807 := by decide
  have hmx2 : 1001 ≤ maxLen := by decide
  obtain ⟨k1, e1, n1, c1, m1⟩ := w1.ints
  have HG := hid hG
  have TB := hid (table_any a0 cap0 X w hr hl fun r h => (hl2 r h).1)
  have L1 := hid (fun (W : World) (hb : Below w.heap.size w W) => listc_any a1 cap1 (z1.take len1) W (k1.below hb (Nat.le_refl _)) (by omega) n1 (by omega))
  rw [e1] at L1
  have hTl := tabL_len X
  have hTr := tabL_rows X
  have hl1 : ((z1.take len1).take 11).length ≤ 11 := by rw [List.length_take]; omega
  have hsz := short_len s0
  have hmin : (min (s0.size : Int) 1001).toNat = min s0.size 1001 := by omega
  have hmin2 : (min (s0.size : Int) 1001) = ((min s0.size 1001 : Nat) : Int) := by omega
  have hmle : min s0.size 1001 ≤ s0.size := by omega
  obtain ⟨s, hs⟩ : ∃ s, s = s0.extract 0 (min s0.size 1001) := ⟨_, rfl⟩
  rw [← hs] at hsz
  have HS1 := hid (fun (h : (1001 : Int) < (s0.size : Int)) => show s0.extract 0 1001 = s by rw [hs, show min s0.size 1001 = 1001 by omega])
  have HS2 := hid (fun (h : ¬ (1001 : Int) < (s0.size : Int)) => show s0 = s by rw [hs, show min s0.size 1001 = s0.size by omega]; exact (extract_all s0).symm)
  generalize tabL X = T at *
  generalize (z1.take len1).take 11 = l1 at *
  clear hG hr hl hl2 w1 k1 e1 n1 c1 m1 hs
  go_enter Tryd.func8, Tryd.ntmps8
  go_wp2_with fail
  refine TB.out.mono ?_
  rintro e v1 ⟨b0, d0, rfl, ht⟩
  have HB1 := hid ht.out.below
  obtain ⟨-, hrt, -, -⟩ := ht.out.rows
  have HRT1 := hid hrt
  clear hrt ht TB
  go_wp2_with fail
  refine (L1.out v1 HB1.out).mono ?_
  rintro e v3 ⟨b1, d1, rfl, ho1, hb2⟩
  have HI1 := hid (retI_ints ho1.out).1
  have HB3 := hid (HB1.out.trans (hb2.mono HB1.out.size))
  have HRT := hid (HRT1.out.below hb2 (Nat.le_refl _))
  clear ho1 hb2 L1 HRT1 HB1
  have RM := hid (fun W (hb : Below v3.heap.size v3 W) => refMachine_any b0 d0 T W (HRT.out.below hb (Nat.le_refl _)) (by omega) (fun r h => by have := hTr r h; omega))
  cases hm : machineB T with
  | false =>
    have MN := hid (Image_no b0 d0 T (.slice b1 l1.length d1) (.string s) v3 HRT.out (by omega) (fun r h => by have := hTr r h; omega) hm)
    rw [hm] at RM
    clear hm hTr
    go_wp2_with fail
    all_goals
      first | rw [HS1.out (by assumption)] | rw [HS2.out (by assumption)]
      refine MN.out.mono ?_
      rintro e v4 ⟨rfl, hb4⟩
      have B4 := hid (HB3.out.trans (hb4.mono HB3.out.size))
      have RM4 := hid (RM.out v4 hb4)
      clear hb4
      go_wp2_with fail
      refine RM4.out.mono ?_
      rintro e v5 ⟨rfl, rfl⟩
      go_wp2_with fail
      refine (awake_any _ (HG.out.next B4.out)).mono ?_
      rintro e w9 ⟨rfl, hb9⟩
      have B9 := hid (B4.out.trans (hb9.mono B4.out.size))
      clear hb9
      go_wp2_with fail
      go_ret
      exact ⟨rfl, B9.out⟩
  | true =>
    obtain ⟨M, rfl, hM⟩ := machine_ok T hm
    rw [hm, intM_length] at RM
    rw [intM_length]
    have RS1 := hid (fun W (hb : Below v3.heap.size v3 W) => refSet_any b0 d0 M b1 d1 l1 W hM (HRT.out.below hb (Nat.le_refl _)) (HI1.out.below hb (Nat.le_refl _)) (by omega))
    have IMG := hid (Image_any b0 d0 M b1 d1 l1 s v3 hM HRT.out HI1.out (by omega) (by omega) (HG.out.next HB3.out))
    have RW := hid (fun W => refWord_any b0 M.length d0 s W (by omega) (by have := hM.b4; omega))
    have NUM1 := hid (fun W (hb : Below v3.heap.size v3 W) h => refNumber_any b1 d1 (nst M) l1 W hM.n9 (HI1.out.below hb (Nat.le_refl _)) (by omega) h)
    have NLT := hid (fun h => lt512 hM (num_lt (n := nst M) (l := l1) h).1)
    have ILT := hid (fun h => lt512 hM (imgW_lt hM s.data.toList _ (num_lt (n := nst M) (l := l1) h).1))
    have RI := hid (fun W (hb : Below v3.heap.size v3 W) h hw => refImage_any b0 d0 M (numL l1) s W hM (HRT.out.below hb (Nat.le_refl _)) (lt512 hM (num_lt (n := nst M) (l := l1) h).1) (by omega) hw)
    have WAL := hid (fun (h : wordB M.length s.data.toList = true) => show s.data.toList.all (letB M.length) = true by unfold wordB at h; rw [Bool.and_eq_true] at h; exact h.1)
    clear hm hTr hM
    generalize setB (nst M) l1 = s1 at *
    generalize hn1 : l1.length = n1 at *
    generalize wordB M.length s.data.toList = s2 at *
    clear hn1
    cases s1 with
    | false =>
      rw [Bool.false_and] at IMG
      go_wp2_with fail
      all_goals
        first | rw [HS1.out (by assumption)] | rw [HS2.out (by assumption)]
        refine IMG.out.mono ?_
        rintro e v4 hret
        obtain ⟨-, rfl, hb4⟩ : false = false ∧ e = .returned (.tuple #[.slice none 0 0, .int .i64 2]) ∧ Below v3.heap.size v3 v4 := by
          rcases hret with ⟨h, -⟩ | h
          · simp at h
          · exact ⟨rfl, h.2⟩
        have B4 := hid (HB3.out.trans (hb4.mono HB3.out.size))
        have HB4 := hid hb4
        clear hb4
        go_wp2_with fail
        refine (RM.out v4 HB4.out).mono ?_
        rintro e v5 ⟨rfl, rfl⟩
        go_wp2_with fail
        refine (RS1.out v4 HB4.out).mono ?_
        rintro e v5 ⟨rfl, hb5⟩
        have B5 := hid (B4.out.trans (hb5.mono B4.out.size))
        clear hb5
        go_wp2_with fail
        refine (awake_any _ (HG.out.next B5.out)).mono ?_
        rintro e w9 ⟨rfl, hb9⟩
        have B9 := hid (B5.out.trans (hb9.mono B5.out.size))
        clear hb9
        go_wp2_with fail
        go_ret
        exact ⟨rfl, B9.out⟩
    | true =>
      rw [Bool.true_and] at IMG
      cases s2 with
      | false =>
        go_wp2_with fail
        all_goals
          first | rw [HS1.out (by assumption)] | rw [HS2.out (by assumption)]
          refine IMG.out.mono ?_
          rintro e v4 hret
          obtain ⟨-, rfl, hb4⟩ : false = false ∧ e = .returned (.tuple #[.slice none 0 0, .int .i64 2]) ∧ Below v3.heap.size v3 v4 := by
            rcases hret with ⟨h, -⟩ | h
            · simp at h
            · exact ⟨rfl, h.2⟩
          have B4 := hid (HB3.out.trans (hb4.mono HB3.out.size))
          have HB4 := hid hb4
          clear hb4
          go_wp2_with fail
          refine (RM.out v4 HB4.out).mono ?_
          rintro e v5 ⟨rfl, rfl⟩
          go_wp2_with fail
          refine (RS1.out v4 HB4.out).mono ?_
          rintro e v5 ⟨rfl, hb5⟩
          have B5 := hid (B4.out.trans (hb5.mono B4.out.size))
          clear hb5
          go_wp2_with fail
          refine (RW.out v5).mono ?_
          rintro e v6 ⟨rfl, rfl⟩
          go_wp2_with fail
          refine (awake_any _ (HG.out.next B5.out)).mono ?_
          rintro e w9 ⟨rfl, hb9⟩
          have B9 := hid (B5.out.trans (hb9.mono B5.out.size))
          clear hb9
          go_wp2_with fail
          go_ret
          exact ⟨rfl, B9.out⟩
      | true =>
        have NW := hid (WAL.out rfl)
        have IL := ILT.out rfl
        obtain ⟨y, hy⟩ : ∃ y, y = imgW M (numL l1) s.data.toList := ⟨_, rfl⟩
        rw [← hy] at IMG IL RI
        have RIY := hid (fun W (hb : Below v3.heap.size v3 W) => RI.out W hb (by trivial) NW.out)
        have RLY := hid (fun W => refList_any y W IL)
        have hLl : (listN y).length ≤ 1000000 := Nat.le_trans (listN_len y) (by decide)
        have INT := hid (fun b b' d d' W h h' => ints_any b b' d d' ((listN y).map fun (x : Nat) => (x : Int)) ((listN y).map fun (x : Nat) => (x : Int)) W h h' (by rw [List.length_map]; exact hLl))
        rw [List.length_map] at INT
        clear hy hLl RI
        go_wp2_with fail
        all_goals
          first | rw [HS1.out (by assumption)] | rw [HS2.out (by assumption)]
          refine IMG.out.mono ?_
          rintro e v4 hret
          rcases hret with ⟨-, b4, d4, rfl, ho4, hb4⟩ | ⟨h, -⟩
          case inr => simp at h
          have I4 := hid (retN_ints ho4.out)
          have B4 := hid (HB3.out.trans (hb4.mono HB3.out.size))
          have HB4 := hid hb4
          clear hb4 ho4
          go_wp2_with fail
          refine (RM.out v4 HB4.out).mono ?_
          rintro e v5 ⟨rfl, rfl⟩
          go_wp2_with fail
          refine (RS1.out v4 HB4.out).mono ?_
          rintro e v5 ⟨rfl, hb5⟩
          have B5 := hid (B4.out.trans (hb5.mono B4.out.size))
          have HB5 := hid (HB4.out.trans (hb5.mono HB4.out.size))
          have I5 := hid (I4.out.below hb5 (Nat.le_refl _))
          clear hb5 I4
          go_wp2_with fail
          refine (RW.out v5).mono ?_
          rintro e v6 ⟨rfl, rfl⟩
          go_wp2_with fail
          refine (NUM1.out v5 HB5.out (by trivial)).mono ?_
          rintro e v6 ⟨rfl, rfl⟩
          go_wp2_with fail
          refine (RIY.out v5 HB5.out).mono ?_
          rintro e v6 ⟨rfl, rfl⟩
          go_wp2_with fail
          refine (RLY.out v5).mono ?_
          rintro e v7 ⟨b7, d7, rfl, ho7, hb7⟩
          have I7 := hid (retN_ints ho7.out)
          have I57 := hid (I5.out.below hb7 (Nat.le_refl _))
          have B7 := hid (B5.out.trans (hb7.mono B5.out.size))
          clear hb7 ho7
          go_wp2_with fail
          refine (INT.out b4 b7 d4 d7 v7 I57.out I7.out).mono ?_
          rintro e v8 ⟨rfl, hb8⟩
          have B8 := hid (B7.out.trans (hb8.mono B7.out.size))
          clear hb8
          go_wp2_with fail
          refine (awake_any _ (HG.out.next B8.out)).mono ?_
          rintro e w9 ⟨rfl, hb9⟩
          have B9 := hid (B8.out.trans (hb9.mono B8.out.size))
          clear hb9
          go_wp2_with fail
          go_ret
          exact ⟨rfl, B9.out⟩
end Go.Proofs.YthlgdakdjikjhaaDoor
