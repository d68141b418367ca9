/-
  Walks: a table's permanent, the rounds.
-/
import Derived.Test.YtkmpdcckgibkhaaGreatH
namespace Go.Proofs.YtkmpdcckgibkhaaGreat
open Go.RowKit Go.ChangeMaps

theorem wrapN (x : Nat) (h : x ≤ 1660753125) : wrap64 (x : Int) = x := IntWalk.wrap64_in _ (by omega)
theorem wrapMul (n y p : Nat) (h : p = n * y) (hp : p ≤ 1660753125) : wrap64 ((n : Int) * (y : Int)) = (p : Int) := by
  rw [← Int.natCast_mul, ← h]; exact wrapN p hp
theorem wrapMul2 (n y p : Nat) (h : p = n * y) (hp : p ≤ 1660753125) : IntKind.i64.wrap ((n : Int) * (y : Int)) = (p : Int) := by
  rw [← Int.natCast_mul, ← h, IntKind.wrap_i64]; omega
theorem wrapAdd (n y : Nat) (h : n ≤ 166075312500) (hp : y ≤ 1660753125) : wrap64 ((n : Int) + (y : Int)) = (n : Int) + (y : Int) := IntWalk.wrap64_in _ (by omega)
theorem wrapAdd2 (n y : Nat) (h : n ≤ 166075312500) (hp : y ≤ 1660753125) : IntKind.i64.wrap ((n : Int) + (y : Int)) = (n : Int) + (y : Int) := by
  rw [IntKind.wrap_i64]; omega

set_option maxRecDepth 100000 in
set_option maxHeartbeats 8000000 in
theorem permanent_ok (a : Option Addr) (c : Nat) (X : List (List Int)) (w : World) (hr : RowsAt w a X) (hs : Square X) (h5 : X.length ≤ 5) :
    Calls Tryz.prog 11 #[.slice a X.length c] w (RetB (.tuple #[.int .i64 (permC X.length X 0 : Nat), .int .i64 0]) w) := by
  have C0 := hid (isTable_ok a c X w hr hs)
  have HR := hid hr
  have HSQ := hid hs
  clear hr hs
  obtain ⟨N, hN⟩ : ∃ N, N = X.length := ⟨_, rfl⟩
  have hn5 : N ≤ 5 := by omega
  obtain ⟨T, hT⟩ : ∃ T, T = permC N X 0 := ⟨_, rfl⟩
  have HT := hid hT
  have hmm := @run_makeMap Tryz.prog
  rw [← hN] at C0 ⊢
  rw [← hT]
  have HN := hid hN
  clear hT hN h5
  go_enter Tryz.func11, Tryz.ntmps11
  go_wp2_with fail
  refine C0.out.mono ?_
  rintro e w1 ⟨rfl, hb⟩
  obtain ⟨w4, hst, hM, o, ho⟩ := (MapIs.made (enc := natV) w1).store kt3 Tryz.underlying55 0 (.int .i64 1)
  rw [show natV 0 = .int .i64 0 from rfl] at hst
  have hb4 : Below w.heap.size w w4 := by rw [ho]; exact setBlock_below (hb.alloc hb.size _) hb.size _
  have HM := hid hM
  have hsz4 : w1.heap.size < w4.heap.size := hM.lt
  have hge := hb.size
  clear ho hM
  go_wp2_with fail
  have hput : put (0 : Nat) (.int .i64 1) [] = vl [(0, 1)] := rfl
  rw [hput] at HM
  clear hput hst hmm
  have hmm := @run_makeMap Tryz.prog
  go_loopw [4, 19] (fun mv iv wr => ∃ (i bm : Nat) (M : List (Nat × Nat)), i ≤ N ∧ iv = .int .i64 i ∧ mv = .map (some bm) ∧ Below w.heap.size w wr ∧ w.heap.size ≤ bm ∧ Hid (MapIs natV wr bm (vl M)) ∧ Hid (wsum (permC N (X.drop i)) M = T ∧ wsum (fun _ => 1) M ≤ 45 ^ i ∧ (M.map (·.1)).Nodup ∧ ∀ x ∈ M.map (·.1), x < 2 ^ N)) (fun _ iv _ => N - (intOf iv).toNat)
  case atStart =>
    refine ⟨0, w1.heap.size, [(0, 1)], by omega, rfl, rfl, hb4, hge, HM, ?_, ?_, ?_, ?_⟩
    · rw [HT.out]; simp [wsum]
    · simp [wsum]
    · simp
    · intro x hx; simp at hx; subst hx; exact Nat.two_pow_pos N
  case round =>
    obtain ⟨i, bm, M, hi, rfl, rfl, hB, hgb, HM, HI⟩ := hrel
    by_cases hlt : i < N
    · have hbm : bm < wr.heap.size := HM.out.lt
      have hdr : decide ((i : Int) < (N : Int)) = true := by simpa using hlt
      obtain ⟨r, hx, hd⟩ := list_drop_cons X i (by rw [← HN.out]; exact hlt)
      obtain ⟨g, og, b1, c1, rfl, hg, q1, hin, -, -⟩ := HR.out.at i r hx
      have k1 := (hB.cell (p := ⟨g, og + i, none⟩) hg).trans q1
      have hrl := HSQ.out.2 r (List.mem_of_getElem? hx)
      have HX := hid hd
      have HRL := hid hrl
      have hrn : r.length = N := by rw [hrl.1]; exact HN.out.symm
      have HIN := hid hin
      clear q1 hx hd hin hrl
      have hrg := (MapIs.alloc HM.out (.map #[] 0)).range Tryz.underlying55
      rw [vl_len] at hrg
      have HMN := hid (MapIs.made (enc := natV) wr)
      go_wp2_with fail
      obtain ⟨bn, hbn⟩ : ∃ bn, bn = wr.heap.size := ⟨_, rfl⟩
      have hri : (wr.alloc (.map #[] 0)).heap.size = bn + 1 := by rw [hbn]; simp
      have hIt0 := IterAt.made (wr.alloc (.map #[] 0)) bm M.length
      rw [hri] at hIt0
      have hMm0 := MapIs.alloc (MapIs.alloc HM.out (.map #[] 0)) (.mapIter (some bm) M.length #[] M.length)
      have hMn0 := MapIs.alloc HMN.out (.mapIter (some bm) M.length #[] M.length)
      have hB0 : Below w.heap.size w ((wr.alloc (.map #[] 0)).alloc (.mapIter (some bm) M.length #[] M.length)) := (hB.alloc hB.size _).alloc (by have := hB.size; simp; omega) _
      have hgn : w.heap.size ≤ bn := by rw [hbn]; exact hB.size
      rw [← hbn] at hMn0 hbm ⊢
      have HIt0 := hid hIt0
      have HMm0 := hid hMm0
      have HMn0 := hid hMn0
      clear hIt0 hMm0 hMn0 hrg HMN hri hmm hbn k1
      go_loopw [26] (fun _ wx => ∃ (seen : Array Nat) (M2 : List (Nat × Nat)), Below w.heap.size w wx ∧ Hid (MapIs natV wx bm (vl M)) ∧ Hid (IterAt wx (bn + 1) bm M.length seen) ∧ Hid (MapIs natV wx bn (vl M2)) ∧ Hid (seen.toList.Nodup ∧ ∀ j ∈ seen.toList, j < M.length) ∧
        Hid (wsum (permC N (X.drop (i + 1))) M2 = isum (permC N (X.drop i)) M seen.toList ∧ wsum (fun _ => 1) M2 ≤ 45 * isum (fun _ => 1) M seen.toList ∧ (M2.map (·.1)).Nodup ∧ ∀ x ∈ M2.map (·.1), x < 2 ^ N)) (fun _ wx => M.length - seenN wx (bn + 1))
      case atStart => exact ⟨#[], [], hB0, HMm0, HIt0, HMn0, ⟨by simp, by simp⟩, ⟨rfl, by simp [wsum], by simp, by simp⟩⟩
      case round =>
        obtain ⟨seen, M2, hB3, HMi, HIt, HMn, HSn, HI2⟩ := hrel
        have hnxt := MapIs.next (P := Tryz.prog) HMi.out (by rw [vl_len]; exact HIt.out) 0
        rw [vl_len] at hnxt
        rcases hnxt with ⟨hall, hnx⟩ | ⟨j, x, v, w6, hj, hnj, hget, hw6, hnx, hIt6, hMi6, hent⟩
        · have hI3 : wsum (permC N (X.drop (i + 1))) M2 = T ∧ wsum (fun _ => 1) M2 ≤ 45 ^ (i + 1) ∧ (M2.map (·.1)).Nodup ∧ ∀ x ∈ M2.map (·.1), x < 2 ^ N := by
            obtain ⟨i1, i2, i3, i4⟩ := HI2.out
            obtain ⟨t1, t2, t3, t4⟩ := HI.out
            rw [isum_seen _ _ _ HSn.out.1 HSn.out.2 hall] at i1 i2
            refine ⟨by rw [i1, t1], ?_, i3, i4⟩
            rw [Nat.pow_succ]; omega
          have HI3 := hid hI3
          clear hI3 hall
          go_wp2_with fail
          go_roundw
          case rel => exact ⟨i + 1, bn, M2, by omega, by go_num, rfl, hB3, hgn, HMn, HI3⟩
          case measure => simp [intOf]; omega
        · obtain ⟨n, rfl, hMi⟩ : ∃ n : Nat, v = .int .i64 (n : Int) ∧ M[j]? = some (x, n) := by
            simp only [vl, List.getElem?_map] at hget
            cases hm : M[j]? with
            | none => rw [hm] at hget; cases hget
            | some q => rw [hm] at hget; simp at hget; exact ⟨q.2, hget.2.symm, by rw [← hget.1]⟩
          have hxN := HI.out.2.2.2 x (List.mem_map_of_mem (f := (·.1)) (List.mem_of_getElem? hMi))
          have hp2 := pow2_5 N hn5
          have HMi2 := hid hMi
          simp only [natV] at hnx hent
          have hB6 : Below w.heap.size w w6 := by
            obtain ⟨w0, h0, rfl⟩ := hw6
            refine setBlock_below ?_ (by omega) _
            rcases h0 with rfl | rfl
            · exact hB3
            · exact hB3.drew
          have hMn6 : MapIs natV w6 bn (vl M2) := by
            obtain ⟨w0, h0, rfl⟩ := hw6
            refine MapIs.other ?_ (by omega) _
            rcases h0 with rfl | rfl
            · exact HMn.out
            · exact HMn.out
          have hn6 : bn < w6.heap.size := hMn6.lt
          have hn6' : bn + 1 < w6.heap.size := hIt6.lt
          have HIt6 := hid hIt6
          have HMi6 := hid hMi6
          have HMn6 := hid hMn6
          clear hMi hget hw6 hIt6 hMi6 hMn6
          have hnle : n ≤ 184528125 := by
            have h1 := isum_le M [j] (by simp) (by simpa using hj)
            simp [isum, HMi2.out] at h1
            have h2 := HI.out.2.1
            have h3 := pow45 i (by omega)
            omega
          have htot : 45 * isum (fun _ => 1) M seen.toList ≤ 8303765625 := by
            have h2 := HI.out.2.1
            have h3 := pow45 i (by omega)
            have h4 := isum_le M seen.toList HSn.out.1 HSn.out.2
            omega
          go_wp2_with fail
          go_loopw [33] (fun kv wx => ∃ (k : Nat) (M3 : List (Nat × Nat)), k ≤ N ∧ kv = .int .i64 k ∧ Below w.heap.size w wx ∧ Hid (MapIs natV wx bm (vl M)) ∧ Hid (IterAt wx (bn + 1) bm M.length (seen.push j)) ∧ Hid (MapIs natV wx bn (vl M3)) ∧
            Hid (wsum (permC N (X.drop (i + 1))) M3 + n * rowS (permC N (X.drop (i + 1))) x (r.drop k) k = isum (permC N (X.drop i)) M seen.toList + n * rowS (permC N (X.drop (i + 1))) x r 0 ∧ wsum (fun _ => 1) M3 ≤ 45 * isum (fun _ => 1) M seen.toList + n * (9 * k) ∧ (M3.map (·.1)).Nodup ∧ ∀ x ∈ M3.map (·.1), x < 2 ^ N)) (fun kv _ => N - (intOf kv).toNat)
          case atStart =>
            refine ⟨0, M2, by omega, rfl, hB6, HMi6, HIt6, HMn6, ?_, ?_, HI2.out.2.2.1, HI2.out.2.2.2⟩
            · rw [HI2.out.1]; rfl
            · have := HI2.out.2.1; omega
          case round =>
            obtain ⟨k, M3, hk, rfl, hB7, HMi7, HIt7, HMn7, HI7⟩ := hrel
            by_cases hks : k < N
            · have dk : decide ((k : Int) < (N : Int)) = true := by simpa using hks
              obtain ⟨y, hy, hyd⟩ := list_drop_cons r k (by rw [hrn]; exact hks)
              have hy9 := HRL.out.2 y (List.mem_of_getElem? hy)
              obtain ⟨g2, o2, rfl, hg2, hc2⟩ := HIN.out.at (by rw [hrn]; omega)
              have q2 := (hB7.cell (p := ⟨g2, o2 + k, none⟩) hg2).trans (hc2 k y hy)
              obtain ⟨yn, rfl⟩ := Int.eq_ofNat_of_zero_le hy9.1
              have HYD := hid hyd
              clear hc2 hy hyd
              have hx512 : x < 512 := by omega
              by_cases hy0 : 0 < yn
              · have dy : decide ((0 : Int) < (yn : Int)) = true := by simpa using hy0
                cases hbit : x.testBit k with
                | true =>
                  have fb := free_no x k hx512 hbit
                  have hinv : wsum (permC N (X.drop (i + 1))) M3 + n * rowS (permC N (X.drop (i + 1))) x (r.drop (k + 1)) (k + 1) = isum (permC N (X.drop i)) M seen.toList + n * rowS (permC N (X.drop (i + 1))) x r 0 := by
                    have := HI7.out.1
                    rw [HYD.out, rowS, if_neg (by rw [hbit]; simp), Nat.zero_add] at this
                    exact this
                  have hle : n * (9 * (k + 1)) = n * (9 * k) + n * 9 := by rw [Nat.mul_add, Nat.mul_add]
                  have HINV := hid (And.intro hinv (show wsum (fun _ => 1) M3 ≤ 45 * isum (fun _ => 1) M seen.toList + n * (9 * (k + 1)) by have := HI7.out.2.1; omega))
                  clear hinv hle htot hnle
                  go_wp2_with fail
                  go_roundw
                  case rel => exact ⟨k + 1, M3, by omega, by go_num, hB7, HMi7, HIt7, HMn7, HINV.out.1, HINV.out.2, HI7.out.2.2.1, HI7.out.2.2.2⟩
                  case measure => simp [intOf]; omega
                | false =>
                  have fb := free_yes x k hx512 hbit
                  have hop := or_pow x k hx512 (by omega)
                  obtain ⟨z, hz⟩ : ∃ z, z = x ||| 2 ^ k := ⟨_, rfl⟩
                  rw [← hz] at hop
                  have HZ := hid hz
                  clear hz
                  have hlk := HMn7.out.look kt3 Tryz.underlying55 (zero3 wr) z false
                  obtain ⟨w8, hup, hM8, o8, ho8⟩ := HMn7.out.store kt3 Tryz.underlying55 z (.int .i64 ((cntM z M3 + n * yn : Nat) : Int))
                  rw [get_vl] at hlk
                  simp only [natV] at hlk hup
                  have hcl := cntM_le z M3
                  have hk45 : n * (9 * k) ≤ n * 45 := Nat.mul_le_mul_left _ (by omega)
                  have hny : n * yn ≤ n * 9 := Nat.mul_le_mul_left _ (by omega)
                  have hcle := HI7.out.2.1
                  have hcb : cntM z M3 ≤ 166075312500 := by omega
                  obtain ⟨cz, hcz⟩ : ∃ cz, cz = cntM z M3 := ⟨_, rfl⟩
                  obtain ⟨pn, hpn⟩ : ∃ pn, pn = n * yn := ⟨_, rfl⟩
                  have hpb : pn ≤ 1660753125 := by omega
                  rw [← hcz] at hlk hup hcb
                  rw [← hpn] at hup
                  rw [Int.natCast_add] at hup
                  have hpe : wrap64 ((n : Int) * (yn : Int)) = (pn : Int) := wrapMul n yn pn hpn hpb
                  have hse : wrap64 ((cz : Int) + (pn : Int)) = (cz : Int) + (pn : Int) := wrapAdd cz pn hcb hpb
                  have hse2 : IntKind.i64.wrap ((cz : Int) + (pn : Int)) = (cz : Int) + (pn : Int) := wrapAdd2 cz pn hcb hpb
                  have hpe2 : IntKind.i64.wrap ((n : Int) * (yn : Int)) = (pn : Int) := wrapMul2 n yn pn hpn hpb
                  have HF := hid (And.intro hcz (And.intro hpn (And.intro hk45 (And.intro hny (And.intro hcle hcl)))))
                  have HW := hid (And.intro hM8 ho8)
                  clear hcz hpn hk45 hny hcle hcl hM8 ho8 htot hnle
                  clear hpb hcb
                  go_wp2_with fail
                  obtain ⟨e1, e2, e3, e4, e5, e6⟩ := HF.out
                  obtain ⟨hM8', ho8'⟩ := HW.out
                  rw [put_vl] at hM8'
                  have hk7 := addM_keys z (n * yn) M3 HI7.out.2.2.1
                  have hzN : z < 2 ^ N := by rw [HZ.out]; exact Nat.or_lt_two_pow hxN (Nat.pow_lt_pow_right (by omega) hks)
                  have hinv := HI7.out.1
                  rw [HYD.out, rowS, if_pos ⟨by omega, hbit⟩, Int.toNat_natCast, ← HZ.out, Nat.mul_add, ← Nat.mul_assoc] at hinv
                  refine ⟨⟨k + 1, addM z (n * yn) M3, by omega, by go_num, ?_, ?_, ?_, hM8', ?_, ?_, hk7.1, ?_⟩, by simp [intOf]; omega⟩
                  · rw [ho8']; exact setBlock_below hB7 hgn _
                  · rw [ho8']; exact HMi7.out.other (by omega) _
                  · rw [ho8']; exact HIt7.out.other (by omega) _
                  · rw [wsum_add]; omega
                  · rw [wsum_add, show n * (9 * (k + 1)) = n * (9 * k) + n * 9 by rw [Nat.mul_add, Nat.mul_add]]; omega
                  · intro x' hx'
                    rcases hk7.2 x' hx' with rfl | h
                    · exact hzN
                    · exact HI7.out.2.2.2 x' h
              · have hy00 : yn = 0 := by omega
                subst hy00
                have dy : decide ((0 : Int) < ((0 : Nat) : Int)) = false := by simp
                have hinv : wsum (permC N (X.drop (i + 1))) M3 + n * rowS (permC N (X.drop (i + 1))) x (r.drop (k + 1)) (k + 1) = isum (permC N (X.drop i)) M seen.toList + n * rowS (permC N (X.drop (i + 1))) x r 0 := by
                  have := HI7.out.1
                  rw [HYD.out, rowS, if_neg (by simp), Nat.zero_add] at this
                  exact this
                have hle : n * (9 * (k + 1)) = n * (9 * k) + n * 9 := by rw [Nat.mul_add, Nat.mul_add]
                have HINV := hid (And.intro hinv (show wsum (fun _ => 1) M3 ≤ 45 * isum (fun _ => 1) M seen.toList + n * (9 * (k + 1)) by have := HI7.out.2.1; omega))
                clear hinv hle htot hnle
                go_wp2_with fail
                go_roundw
                case rel => exact ⟨k + 1, M3, by omega, by go_num, hB7, HMi7, HIt7, HMn7, HINV.out.1, HINV.out.2, HI7.out.2.2.1, HI7.out.2.2.2⟩
                case measure => simp [intOf]; omega
            · have hnd : (seen.push j).toList.Nodup ∧ ∀ j' ∈ (seen.push j).toList, j' < M.length := by
                rw [Array.toList_push]
                refine ⟨List.nodup_append.2 ⟨HSn.out.1, by simp, ?_⟩, ?_⟩
                · intro a ha b hb e
                  simp at hb
                  subst hb e
                  exact hnj ha
                · intro j' hj'
                  rcases List.mem_append.1 hj' with hj' | hj'
                  · exact HSn.out.2 j' hj'
                  · simp at hj'; omega
              have hlen := nodup_len M.length _ hnd.1 hnd.2
              rw [Array.toList_push, List.length_append, List.length_singleton, Array.length_toList] at hlen
              have hke : k = N := by omega
              have hinv : wsum (permC N (X.drop (i + 1))) M3 = isum (permC N (X.drop i)) M (seen.push j).toList ∧ wsum (fun _ => 1) M3 ≤ 45 * isum (fun _ => 1) M (seen.push j).toList ∧ (M3.map (·.1)).Nodup ∧ ∀ x ∈ M3.map (·.1), x < 2 ^ N := by
                obtain ⟨j1, j2, j3, j4⟩ := HI7.out
                refine ⟨?_, ?_, j3, j4⟩
                · rw [hke, show r.drop N = [] by rw [← hrn]; exact List.drop_length, rowS, Nat.mul_zero, Nat.add_zero] at j1
                  rw [j1, Array.toList_push, isum_append]
                  simp only [isum, HMi2.out, Nat.add_zero]
                  rw [HX.out]; rfl
                · rw [Array.toList_push, isum_append]
                  simp only [isum, HMi2.out, Nat.add_zero, Nat.mul_one]
                  have : n * (9 * k) ≤ n * 45 := Nat.mul_le_mul_left _ (by omega)
                  omega
              have HINV := hid hinv
              have HND := hid hnd
              have hse1 := HIt.out.seenN
              have hse2 := HIt7.out.seenN
              rw [Array.size_push] at hse2
              have HSE1 := hid hse1
              have HSE2 := hid hse2
              clear hinv hnd hse1 hse2 htot hnle
              go_wp2
              go_roundw
              case rel => exact ⟨seen.push j, M3, hB7, HMi7, HIt7, HMn7, HND, HINV⟩
              case measure => rw [HSE1.out, HSE2.out]; omega
    · have hie : i = N := by omega
      have hpw := pow_wrap N (by omega)
      have hp2 := pow2_5 N hn5
      have hp1 := Nat.two_pow_pos N
      have hfin : cntM (2 ^ N - 1) M = T := by
        obtain ⟨t1, -, t3, -⟩ := HI.out
        rw [cntM_full _ _ t3, ← t1, hie, HN.out, List.drop_length]
        rfl
      have hlk := HM.out.look kt3 Tryz.underlying55 (zero3 wr) (2 ^ N - 1) false
      rw [get_vl, hfin] at hlk
      simp only [natV] at hlk
      obtain ⟨pp, hpp⟩ : ∃ pp, pp = 2 ^ N := ⟨_, rfl⟩
      rw [← hpp] at hpw hp2 hp1 hlk
      rw [Int.natCast_sub (by omega), show ((1 : Nat) : Int) = 1 from rfl] at hlk
      have hdr : decide ((i : Int) < (N : Int)) = false := by simpa using hlt
      clear hfin hpp hmm
      go_wp2_with fail
      go_ret2
      exact ⟨rfl, hB⟩

end Go.Proofs.YtkmpdcckgibkhaaGreat
