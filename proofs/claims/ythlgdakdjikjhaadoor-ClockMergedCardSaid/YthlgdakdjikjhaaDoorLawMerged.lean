/-
  The law ClockMerged, walked.
-/
import Derived.Test.YthlgdakdjikjhaaDoorS
import Derived.Test.YthlgdakdjikjhaaDoorT
import Derived.Test.YthlgdakdjikjhaaDoorMeet
namespace Go.Proofs.YthlgdakdjikjhaaDoor
open Go.RowKit Go.ChangeMaps
attribute [local go_sem] Oper.semAt_some

/-- All pairs ahead of (p, q) can be led together. -/
def okTo (M : List (List Nat)) (p q : Nat) : Prop := ∀ p' q', q' ≤ p' → p' < nst M → (p' < p ∨ (p' = p ∧ q' < q)) → (firstE M (pairN p' q') oneB).isSome = true
theorem okTo_start (M : List (List Nat)) : okTo M 0 0 := fun p' q' _ _ h => by omega
theorem okTo_step {M : List (List Nat)} {p q : Nat} (hp : p < nst M) (hq : q ≤ p) : okTo M p (q + 1) ↔ okTo M p q ∧ (firstE M (pairN p q) oneB).isSome = true := by
  constructor
  · intro h
    exact ⟨fun p' q' h1 h2 h3 => h p' q' h1 h2 (by omega), h p q hq hp (by omega)⟩
  · rintro ⟨h, h0⟩ p' q' h1 h2 h3
    by_cases he : p' = p ∧ q' = q
    · obtain ⟨rfl, rfl⟩ := he; exact h0
    · exact h p' q' h1 h2 (by omega)
theorem okTo_row {M : List (List Nat)} {p : Nat} : okTo M (p + 1) 0 ↔ okTo M p (p + 1) := by
  constructor
  · intro h p' q' h1 h2 h3; exact h p' q' h1 h2 (by omega)
  · intro h p' q' h1 h2 h3; exact h p' q' h1 h2 (by omega)
theorem okTo_all {M : List (List Nat)} (hM : OkM M) : okTo M (nst M) 0 ↔ (firstE M (allS M) oneB).isSome = true := by
  rw [← reset_iff hM]
  constructor
  · intro h p q h1 h2; exact h p q h1 h2 (by omega)
  · intro h p' q' h1 h2 _; exact h p' q' h1 h2

set_option maxRecDepth 100000 in
set_option maxHeartbeats 8000000 in
theorem merged_walk (a0 : Option Addr) (len0 cap0 : Nat) (X : List (List Int)) (w : World) (hG : Glob w) (w0 : IsRows w a0 len0 cap0 X) :
    Calls Tryd.prog 6 #[.slice a0 len0 cap0] w fun e w' => e = .returned (.bool true) ∧ Below w.heap.size w w' := by
  have hX := w0
  obtain ⟨rfl, -⟩ := w0
  have HG := hid hG
  have TM := hid (tame_any a0 cap0 X w hX)
  clear hG hX
  go_enter Tryd.func6, Tryd.ntmps6
  go_wp2_with fail
  refine TM.out.mono ?_
  rintro e w1 ⟨M, a, c, hM, rfl, ht⟩
  obtain ⟨-, hr, -, -⟩ := ht.out.rows
  have hl := intM_length M
  have HB1 := hid ht.out.below
  obtain ⟨g, o, b1, c1, rfl, hg, q0⟩ := head_at hM hr
  have hn9 := hM.n9
  have hb4 := hM.b4
  have hm1 := hM.b1
  have R := hid (Reset_yes (some ⟨g, o, none⟩) c M w1 hM hr (HG.out.next HB1.out))
  have MG := hid (fun (p q : Nat) (W : World) (hp : p < nst M) (hq : q < nst M) (hb : Below w1.heap.size w1 W) => Merge_yes (some ⟨g, o, none⟩) c M p q W hM (hr.below hb (Nat.le_refl _)) hp hq)
  have IM := hid (fun (x : Nat) (l : List UInt8) (W : World) (hx : x < 512) (hl : l.length ≤ 511) (hal : l.all (letB M.length) = true) (hb : Below w1.heap.size w1 W) =>
    refImage_any (some ⟨g, o, none⟩) c M x (mkS l) W hM (hr.below hb (Nat.le_refl _)) hx (by rw [mkS_size]; exact Nat.le_trans hl (by decide)) hal)
  have FW := hid (fun (p q : Nat) (x : Ent) (hp : p < nst M) (hq : q < nst M) (h : firstE M (pairN p q) oneB = some x) => firstE_word hM (pairN_lt hp hq) h)
  have SELF := hid (fun (p : Nat) (hp : p < nst M) => pair_self hM hp)
  have ALL := hid (okTo_all hM)
  have P5 := hid (fun (p q : Nat) (hp : p < nst M) (hq : q < nst M) => lt512 hM (pairN_lt hp hq))
  have SET5 := hid (fun (p q : Nat) (l : List UInt8) (hp : p < nst M) (hq : q < nst M) => lt512 hM (imgW_lt hM l _ (pairN_lt hp hq)))
  have HS := hid (fun (p q : Nat) (hp : p < nst M) (hq : q ≤ p) => okTo_step (M := M) hp hq)
  obtain ⟨r, hrr⟩ : ∃ r, r = firstE M (allS M) oneB := ⟨_, rfl⟩
  rw [← hrr] at R ALL
  obtain ⟨n, hn⟩ : ∃ n, n = nst M := ⟨_, rfl⟩
  rw [← hn] at q0 hn9 MG FW SELF P5 SET5 HS ALL
  clear ht hr hM hrr hn
  cases r
  all_goals
    simp only [resetV, Option.isSome_none, Option.isSome_some] at R ALL
    go_wp2_with fail
    refine R.out.mono ?_
    rintro e w2 ⟨rfl, hb2⟩
    have HB2 := hid hb2
    clear hb2
    go_wp2_with fail
    go_loopw [8, 9] (fun av pv W => ∃ (b : Bool) (p : Nat), av = .bool b ∧ pv = .int .i64 p ∧ p ≤ n ∧ Below w1.heap.size w1 W ∧ Hid (b = true ↔ okTo M p 0)) (fun _ pv _ => n - (intOf pv).toNat)
    case atStart => exact ⟨true, 0, rfl, rfl, by omega, HB2.out, ⟨fun _ => okTo_start M, fun _ => rfl⟩⟩
    case round =>
      obtain ⟨b, p, rfl, rfl, hp, hB, HI⟩ := hrel
      by_cases hpn : p < n
      · go_wp2_with fail
        go_loopw [8, 10] (fun av qv W => ∃ (b : Bool) (q : Nat), av = .bool b ∧ qv = .int .i64 q ∧ q ≤ p + 1 ∧ Below w1.heap.size w1 W ∧ Hid (b = true ↔ okTo M p q)) (fun _ qv _ => p + 1 - (intOf qv).toNat)
        case atStart => exact ⟨b, 0, rfl, rfl, by omega, hB, HI⟩
        case round =>
          obtain ⟨b2, q, rfl, rfl, hq, hB2, HI2⟩ := hrel
          by_cases hqp : q ≤ p
          · have hstep := HS.out p q hpn hqp
            have M1 := MG.out p q wr hpn (by omega) hB2
            have M2 := fun (W : World) (hb : Below w1.heap.size w1 W) => MG.out q p W (by omega) hpn hb
            rw [pairN_comm q p] at M2
            cases hf : firstE M (pairN p q) oneB with
            | none =>
              have hne : ¬ p = q := fun e => by
                subst e
                rw [SELF.out p hpn] at hf; cases hf
              have hfin : false = true ↔ okTo M p (q + 1) := by rw [hstep, hf]; simp
              rw [hf] at M1 M2
              simp only [mergeV] at M1 M2
              have HF := hid hfin
              have M1 := hid M1
              have M2 := hid M2
              have dqp : decide ((q : Int) ≤ (p : Int)) = true := decide_eq_true (by omega)
              have dpq : ((p : Int) == (q : Int)) = false := beq_eq_false_iff_ne.2 (by omega)
              clear hf hstep hfin
              go_wp2_with fail
              refine M1.out.mono ?_
              rintro e w3 ⟨rfl, hb3⟩
              have HB3 := hid (hB2.trans (hb3.mono hB2.size))
              clear hb3
              go_wp2_with fail
              refine (M2.out w3 HB3.out).mono ?_
              rintro e w4 ⟨rfl, hb4'⟩
              have HB4 := hid (HB3.out.trans (hb4'.mono HB3.out.size))
              clear hb4'
              go_wp2_with fail
              exact ⟨⟨false, q + 1, rfl, by go_num, by omega, HB4.out, HF⟩, by simp [intOf]; omega⟩
            | some x =>
              obtain ⟨k1, k2, k3, k4⟩ := FW.out p q x hpn (by omega) hf
              have hone : sizeN x.set = 1 := by simpa [oneB] using k3
              have hfin : b2 = true ↔ okTo M p (q + 1) := by rw [hstep, hf, HI2.out]; simp
              rw [hf] at M1 M2
              simp only [mergeV] at M1 M2
              have hx5 := P5.out p q hpn (by omega)
              have hs5 : x.set < 512 := by
                rw [← k2]; exact SET5.out p q x.word hpn (by omega)
              have IMG := hid (fun (W : World) (hb : Below w1.heap.size w1 W) => IM.out (pairN p q) x.word W hx5 k4 k1 hb)
              have WRD := hid (fun (W : World) => refWord_any (some ⟨g, o, none⟩) M.length c (mkS x.word) W (by rw [mkS_size]; exact Nat.le_trans k4 (by decide)) (by omega))
              have SZ := hid (fun (W : World) => refSize_any x.set W hs5)
              rw [mkS_data, show wordB M.length x.word = true by unfold wordB; rw [k1, decide_eq_true (by omega)]; rfl] at WRD
              rw [mkS_data, k2] at IMG
              rw [hone] at SZ
              have d0 := pair_bits p q (by omega) (by omega)
              have HF := hid hfin
              have M1 := hid M1
              have M2 := hid M2
              have HBW := hid hB2
              have hself : p = q → x.word = [] := fun e => by
                subst e
                rw [SELF.out p hpn] at hf
                rw [← Option.some.inj hf]
              have hemp : (p = q ∧ mkS x.word = ⟨#[]⟩ ∧ ((p : Int) == (q : Int)) = true) ∨ (¬ p = q ∧ ((p : Int) == (q : Int)) = false) := by
                by_cases e : p = q
                · exact .inl ⟨e, by rw [hself e]; rfl, by rw [e]; simp⟩
                · exact .inr ⟨e, beq_eq_false_iff_ne.2 (by omega)⟩
              have dqp : decide ((q : Int) ≤ (p : Int)) = true := decide_eq_true (by omega)
              obtain ⟨str, hstr⟩ : ∃ str, str = mkS x.word := ⟨_, rfl⟩
              rw [← hstr] at M1 M2 WRD IMG hemp
              generalize pairN p q = pq at *
              generalize x.set = xs at *
              clear hf hstep hfin hself k1 k2 k3 k4 hone hs5 hB2 hstr
              rcases hemp with ⟨h1, h2, h3⟩ | ⟨h1, h3⟩
              all_goals
                try subst h2
                clear h1
                go_wp2_with fail
                refine M1.out.mono ?_
                rintro e w3 ⟨rfl, hb3⟩
                have HB3 := hid (HBW.out.trans (hb3.mono HBW.out.size))
                clear hb3
                go_wp2_with fail
                refine (M2.out w3 HB3.out).mono ?_
                rintro e w4 ⟨rfl, hb4'⟩
                have HB4 := hid (HB3.out.trans (hb4'.mono HB3.out.size))
                clear hb4'
                go_wp2_with fail
                refine wp_region_still_tail 13 (by kernel_rfl) (by kernel_rfl) ?_
                simp only [List.take_succ_cons, List.take_zero, List.drop_succ_cons, List.drop_zero]
                repeat still_step
                still_call ((WRD.out _).mono fun _ _ h => ⟨h.1, h.2.symm⟩)
                repeat still_step
                still_call ((IMG.out _ HB4.out.drew).mono fun _ _ h => ⟨h.1, h.2.symm⟩)
                repeat still_step
                refine wpStill_nil ?_
                change wpList _ _ _ _ _ w4.drew
                go_wp2_with fail
                refine (SZ.out _).mono ?_
                rintro e wz ⟨rfl, hbz⟩
                have HBZ := hid (HB4.out.drew.trans (hbz.mono HB4.out.size))
                clear hbz
                go_wp2_with fail
                exact ⟨⟨b2, q + 1, rfl, by go_num, by omega, HBZ.out, HF⟩, by simp [intOf]; omega⟩
          · have hqe : q = p + 1 := by omega
            have hfin : b2 = true ↔ okTo M (p + 1) 0 := by rw [HI2.out, hqe, okTo_row]
            have HF := hid hfin
            have dqp : decide ((q : Int) ≤ (p : Int)) = false := decide_eq_false (by omega)
            clear hfin
            go_wp2_with fail
            exact ⟨⟨b2, p + 1, rfl, by go_num, by omega, hB2, HF⟩, by simp [intOf]; omega⟩
      · have hpe : p = n := by omega
        subst hpe
        have hb := HI.out.trans ALL.out
        have HBW := hid hB
        cases b
        all_goals first
          | (exfalso; revert hb; simp; done)
          | skip
        clear hb hB
        go_wp2_with fail
        refine (awake_any _ (HG.out.next (HB1.out.trans (HBW.out.mono HB1.out.size)))).mono ?_
        rintro e w9 ⟨rfl, hb9⟩
        have B9 := hid ((HB1.out.trans (HBW.out.mono HB1.out.size)).trans (hb9.mono (HB1.out.trans (HBW.out.mono HB1.out.size)).size))
        clear hb9
        go_wp2_with fail
        go_ret
        exact ⟨rfl, B9.out⟩
end Go.Proofs.YthlgdakdjikjhaaDoor
