/-
  The law ClockLeads, walked.
-/
import Derived.Test.YthlgdakdjikjhaaDoorV
namespace Go.Proofs.YthlgdakdjikjhaaDoor
open Go.RowKit Go.ChangeMaps
attribute [local go_sem] Oper.semAt_some

theorem retI_ints {l : List Int} {w w' : World} {a : Option Addr} {c : Nat} (h : w'.ownsRow w.heap.size 3 1 (.slice a l.length c) l.length (l.map (Value.int .i64))) : Ints w' a l ∧ (a = none → c = 0) ∧ l.length ≤ c := by
  obtain ⟨a', c', e, k⟩ := ownsRow_ints h
  cases e
  exact ⟨k, (ownsRow_facts h).2.2, (ownsRow_facts h).2.1⟩

set_option maxRecDepth 100000 in
set_option maxHeartbeats 4000000 in
theorem leads_walk (a0 : Option Addr) (len0 cap0 : Nat) (X : List (List Int)) (a1 : Option Addr) (len1 cap1 : Nat) (z1 : List Int) (a2 : Option Addr) (len2 cap2 : Nat) (z2 : List Int) (w : World) (hG : Glob w) (w0 : IsRows w a0 len0 cap0 X) (w1 : IsRow .i64 w a1 len1 cap1 z1) (w2 : IsRow .i64 w a2 len2 cap2 z2) :
    Calls Tryd.prog 7 #[.slice a0 len0 cap0, .slice a1 len1 cap1, .slice a2 len2 cap2] w fun e w' => e = .returned (.bool true) ∧ Below w.heap.size w w' := by
  obtain ⟨rfl, hl, -, hr, hl2⟩ := w0
  have hmx : maxLen ≤ 9223372036854775807 := by decide
  obtain ⟨k1, e1, n1, c1, m1⟩ := w1.ints
  obtain ⟨k2, e2, n2, c2, m2⟩ := w2.ints
  have HG := hid hG
  have TB := hid (table_any a0 cap0 X w hr hl fun r h => (hl2 r h).1)
  have L1 := hid (fun (W : World) (hb : Below w.heap.size w W) => listc_any a1 cap1 (z1.take len1) W (k1.below hb (Nat.le_refl _)) (by omega) n1 (by omega))
  have L2 := hid (fun (W : World) (hb : Below w.heap.size w W) => listc_any a2 cap2 (z2.take len2) W (k2.below hb (Nat.le_refl _)) (by omega) n2 (by omega))
  rw [e1] at L1
  rw [e2] at L2
  have hTl := tabL_len X
  have hTr := tabL_rows X
  have hl1 : ((z1.take len1).take 11).length ≤ 11 := by rw [List.length_take]; omega
  have hl2' : ((z2.take len2).take 11).length ≤ 11 := by rw [List.length_take]; omega
  generalize tabL X = T at *
  generalize (z1.take len1).take 11 = l1 at *
  generalize (z2.take len2).take 11 = l2 at *
  clear hG hr hl hl2 w1 w2 k1 e1 n1 c1 m1 k2 e2 n2 c2 m2 hmx
  go_enter Tryd.func7, Tryd.ntmps7
  go_wp2_with fail
  refine TB.out.mono ?_
  rintro e v1 ⟨b0, d0, rfl, ht⟩
  have HB1 := hid ht.out.below
  obtain ⟨-, hrt, -, -⟩ := ht.out.rows
  have HRT1 := hid hrt
  clear hrt ht TB
  go_wp2_with fail
  refine (L1.out v1 HB1.out).mono ?_
  rintro e v2 ⟨b1, d1, rfl, ho1, hb2⟩
  have I1 := hid (retI_ints ho1.out).1
  have HB2 := hid (HB1.out.trans (hb2.mono HB1.out.size))
  have HRT2 := hid (HRT1.out.below hb2 (Nat.le_refl _))
  clear ho1 hb2 L1
  go_wp2_with fail
  refine (L2.out v2 HB2.out).mono ?_
  rintro e v3 ⟨b2, d2, rfl, ho2, hb3⟩
  have HI2 := hid (retI_ints ho2.out).1
  have HI1 := hid (I1.out.below hb3 (Nat.le_refl _))
  have HB3 := hid (HB2.out.trans (hb3.mono HB2.out.size))
  have HRT := hid (HRT2.out.below hb3 (Nat.le_refl _))
  clear ho2 hb3 L2 I1 HRT1 HRT2 HB1 HB2
  have RM := hid (fun W (hb : Below v3.heap.size v3 W) => refMachine_any b0 d0 T W (HRT.out.below hb (Nat.le_refl _)) (by omega) (fun r h => by have := hTr r h; omega))
  cases hm : machineB T with
  | false =>
    have MN := hid (Lead_no b0 d0 T (.slice b1 l1.length d1) (.slice b2 l2.length d2) v3 HRT.out (by omega) (fun r h => by have := hTr r h; omega) hm)
    rw [hm] at RM
    clear hm hTr
    go_wp2_with fail
    refine MN.out.mono ?_
    rintro e v4 ⟨rfl, hb4⟩
    have B4 := hid (HB3.out.trans (hb4.mono HB3.out.size))
    have RM4 := hid (RM.out v4 hb4)
    clear hb4
    go_wp2_with fail
    refine RM4.out.mono ?_
    rintro e v5 ⟨rfl, rfl⟩
    go_wp2_with fail
    refine (awake_any _ (HG.out.next B4.out)).mono ?_
    rintro e w9 ⟨rfl, hb9⟩
    have B9 := hid (B4.out.trans (hb9.mono B4.out.size))
    clear hb9
    go_wp2_with fail
    go_ret
    exact ⟨rfl, B9.out⟩
  | true =>
    obtain ⟨M, rfl, hM⟩ := machine_ok T hm
    rw [hm, intM_length] at RM
    rw [intM_length]
    have RS1 := hid (fun W (hb : Below v3.heap.size v3 W) => refSet_any b0 d0 M b1 d1 l1 W hM (HRT.out.below hb (Nat.le_refl _)) (HI1.out.below hb (Nat.le_refl _)) (by omega))
    have RS2 := hid (fun W (hb : Below v3.heap.size v3 W) => refSet_any b0 d0 M b2 d2 l2 W hM (HRT.out.below hb (Nat.le_refl _)) (HI2.out.below hb (Nat.le_refl _)) (by omega))
    have BAD := hid (fun h => Lead_bad b0 d0 M b1 d1 l1 b2 d2 l2 v3 hM HRT.out HI1.out HI2.out (by omega) (by omega) h)
    have YES := hid (fun h1 h2 h3 h4 => Lead_yes b0 d0 M b1 d1 l1 b2 d2 l2 v3 hM HRT.out HI1.out HI2.out (by omega) (by omega) h1 h2 h3 h4)
    have NUM1 := hid (fun W (hb : Below v3.heap.size v3 W) h => refNumber_any b1 d1 (nst M) l1 W hM.n9 (HI1.out.below hb (Nat.le_refl _)) (by omega) h)
    have NUM2 := hid (fun W (hb : Below v3.heap.size v3 W) h => refNumber_any b2 d2 (nst M) l2 W hM.n9 (HI2.out.below hb (Nat.le_refl _)) (by omega) h)
    have RL := hid (fun W (hb : Below v3.heap.size v3 W) h => refLead_any b0 d0 M (numL l1) (numL l2) W hM (HRT.out.below hb (Nat.le_refl _)) h)
    have NLT := hid (fun h => (num_lt (n := nst M) (l := l1) h).1)
    have HNE1 := hid (fun (h : l1.length ≠ 0) => (fun e => h (by rw [e]; rfl) : l1 ≠ []))
    have HNE2 := hid (fun (h : l2.length ≠ 0) => (fun e => h (by rw [e]; rfl) : l2 ≠ []))
    clear hm hTr hM
    generalize setB (nst M) l1 = s1 at *
    generalize setB (nst M) l2 = s2 at *
    generalize hn1 : l1.length = n1 at *
    generalize hn2 : l2.length = n2 at *
    clear hn1 hn2
    cases s1 with
    | false =>
      have LD := hid (BAD.out (.inr (.inr (.inl rfl))))
      go_wp2_with fail
      refine LD.out.mono ?_
      rintro e v4 ⟨rfl, hb4⟩
      have B4 := hid (HB3.out.trans (hb4.mono HB3.out.size))
      have HB4 := hid hb4
      clear hb4
      go_wp2_with fail
      refine (RM.out v4 HB4.out).mono ?_
      rintro e v5 ⟨rfl, rfl⟩
      go_wp2_with fail
      refine (RS1.out v4 HB4.out).mono ?_
      rintro e v5 ⟨rfl, hb5⟩
      have B5 := hid (B4.out.trans (hb5.mono B4.out.size))
      have HB5 := hid (HB4.out.trans (hb5.mono HB4.out.size))
      clear hb5
      go_wp2_with fail
      refine (awake_any _ (HG.out.next B5.out)).mono ?_
      rintro e w9 ⟨rfl, hb9⟩
      have B9 := hid (B5.out.trans (hb9.mono B5.out.size))
      clear hb9
      go_wp2_with fail
      go_ret
      exact ⟨rfl, B9.out⟩
    | true =>
      cases s2 with
      | false =>
        have LD := hid (BAD.out (.inr (.inr (.inr rfl))))
        go_wp2_with fail
        refine LD.out.mono ?_
        rintro e v4 ⟨rfl, hb4⟩
        have B4 := hid (HB3.out.trans (hb4.mono HB3.out.size))
        have HB4 := hid hb4
        clear hb4
        go_wp2_with fail
        refine (RM.out v4 HB4.out).mono ?_
        rintro e v5 ⟨rfl, rfl⟩
        go_wp2_with fail
        refine (RS1.out v4 HB4.out).mono ?_
        rintro e v5 ⟨rfl, hb5⟩
        have B5 := hid (B4.out.trans (hb5.mono B4.out.size))
        have HB5 := hid (HB4.out.trans (hb5.mono HB4.out.size))
        clear hb5
        go_wp2_with fail
        refine (RS2.out v5 HB5.out).mono ?_
        rintro e v6 ⟨rfl, hb6⟩
        have B6 := hid (B5.out.trans (hb6.mono B5.out.size))
        clear hb6
        go_wp2_with fail
        refine (awake_any _ (HG.out.next B6.out)).mono ?_
        rintro e w9 ⟨rfl, hb9⟩
        have B9 := hid (B6.out.trans (hb9.mono B6.out.size))
        clear hb9
        go_wp2_with fail
        go_ret
        exact ⟨rfl, B9.out⟩
      | true =>
        by_cases h1 : n1 = 0
        · have x1 : ((n1 : Int) == 0) = true := beq_iff_eq.2 (by omega)
          have LD0 := BAD.out (.inl h1)
          have LD := hid LD0
          clear LD0
          clear h1
          go_wp2_with fail
          refine LD.out.mono ?_
          rintro e v4 ⟨rfl, hb4⟩
          have B4 := hid (HB3.out.trans (hb4.mono HB3.out.size))
          have HB4 := hid hb4
          clear hb4
          go_wp2_with fail
          refine (RM.out v4 HB4.out).mono ?_
          rintro e v5 ⟨rfl, rfl⟩
          go_wp2_with fail
          refine (RS1.out v4 HB4.out).mono ?_
          rintro e v5 ⟨rfl, hb5⟩
          have B5 := hid (B4.out.trans (hb5.mono B4.out.size))
          have HB5 := hid (HB4.out.trans (hb5.mono HB4.out.size))
          clear hb5
          go_wp2_with fail
          refine (RS2.out v5 HB5.out).mono ?_
          rintro e v6 ⟨rfl, hb6⟩
          have B6 := hid (B5.out.trans (hb6.mono B5.out.size))
          clear hb6
          go_wp2_with fail
          refine (awake_any _ (HG.out.next B6.out)).mono ?_
          rintro e w9 ⟨rfl, hb9⟩
          have B9 := hid (B6.out.trans (hb9.mono B6.out.size))
          clear hb9
          go_wp2_with fail
          go_ret
          exact ⟨rfl, B9.out⟩
        · have x1 : ((n1 : Int) == 0) = false := beq_eq_false_iff_ne.2 (by omega)
          by_cases h2 : n2 = 0
          · have x2 : ((n2 : Int) == 0) = true := beq_iff_eq.2 (by omega)
            have LD0 := BAD.out (.inr (.inl h2))
            have LD := hid LD0
            clear LD0
            clear h1 h2
            go_wp2_with fail
            refine LD.out.mono ?_
            rintro e v4 ⟨rfl, hb4⟩
            have B4 := hid (HB3.out.trans (hb4.mono HB3.out.size))
            have HB4 := hid hb4
            clear hb4
            go_wp2_with fail
            refine (RM.out v4 HB4.out).mono ?_
            rintro e v5 ⟨rfl, rfl⟩
            go_wp2_with fail
            refine (RS1.out v4 HB4.out).mono ?_
            rintro e v5 ⟨rfl, hb5⟩
            have B5 := hid (B4.out.trans (hb5.mono B4.out.size))
            have HB5 := hid (HB4.out.trans (hb5.mono HB4.out.size))
            clear hb5
            go_wp2_with fail
            refine (RS2.out v5 HB5.out).mono ?_
            rintro e v6 ⟨rfl, hb6⟩
            have B6 := hid (B5.out.trans (hb6.mono B5.out.size))
            clear hb6
            go_wp2_with fail
            refine (awake_any _ (HG.out.next B6.out)).mono ?_
            rintro e w9 ⟨rfl, hb9⟩
            have B9 := hid (B6.out.trans (hb9.mono B6.out.size))
            clear hb9
            go_wp2_with fail
            go_ret
            exact ⟨rfl, B9.out⟩
          · have x2 : ((n2 : Int) == 0) = false := beq_eq_false_iff_ne.2 (by omega)
            have YS := YES.out (HNE1.out h1) (HNE2.out h2) rfl rfl
            have HNL := hid (NLT.out rfl)
            clear h1 h2
            cases hf : firstE M (numL l1) (eqB (numL l2))
            all_goals
              rw [hf] at YS RL
              simp only [mergeV, Option.isSome_none, Option.isSome_some] at YS RL
              have YS := hid YS
              clear hf
              go_wp2_with fail
              refine YS.out.mono ?_
              rintro e v4 ⟨rfl, hb4⟩
              have B4 := hid (HB3.out.trans (hb4.mono HB3.out.size))
              have HB4 := hid hb4
              clear hb4
              go_wp2_with fail
              refine (RM.out v4 HB4.out).mono ?_
              rintro e v5 ⟨rfl, rfl⟩
              go_wp2_with fail
              refine (RS1.out v4 HB4.out).mono ?_
              rintro e v5 ⟨rfl, hb5⟩
              have B5 := hid (B4.out.trans (hb5.mono B4.out.size))
              have HB5 := hid (HB4.out.trans (hb5.mono HB4.out.size))
              clear hb5
              go_wp2_with fail
              refine (RS2.out v5 HB5.out).mono ?_
              rintro e v6 ⟨rfl, hb6⟩
              have B6 := hid (B5.out.trans (hb6.mono B5.out.size))
              have HB6 := hid (HB5.out.trans (hb6.mono HB5.out.size))
              clear hb6
              go_wp2_with fail
              refine (NUM1.out v6 HB6.out (by trivial)).mono ?_
              rintro e v7 ⟨rfl, rfl⟩
              go_wp2_with fail
              refine (NUM2.out v6 HB6.out (by trivial)).mono ?_
              rintro e v7 ⟨rfl, rfl⟩
              go_wp2_with fail
              refine (RL.out v6 HB6.out HNL.out).mono ?_
              rintro e v8 ⟨wd, rfl, hwd, hb8⟩
              have B8 := hid (B6.out.trans (hb8.mono B6.out.size))
              clear hb8
              first
                | (have hwd2 := hwd.out _ rfl; subst hwd2)
                | skip
              clear hwd
              go_wp2_with fail
              refine (awake_any _ (HG.out.next B8.out)).mono ?_
              rintro e w9 ⟨rfl, hb9⟩
              have B9 := hid (B8.out.trans (hb9.mono B8.out.size))
              clear hb9
              go_wp2_with fail
              go_ret
              exact ⟨rfl, B9.out⟩
end Go.Proofs.YthlgdakdjikjhaaDoor
