/-
  Walks: the fewest cuts of a ring.
-/
import Derived.Test.YthelnggbcgjbcaaPrgI
namespace Go.Proofs.Ythelnggbcgjbcaa
open Go.RowKit
attribute [local go_sem] Oper.semAt_some

theorem fairRingP_eq (l : List UInt8) (hok : l.all okb = true) (x : List Int) : fairRingP l x = fairRingB l x := by
  cases x with
  | nil =>
    show fairB l [] = l.isEmpty
    cases l with
    | nil => rfl
    | cons c r =>
      simp only [List.all_cons, Bool.and_eq_true] at hok
      have hc := (okb_iff c).1 hok.1
      have : ∀ j, cn (c :: r) j = cn r j + if c.toNat = 97 + j then 1 else 0 := fun j => cn_cons r c j
      have h0 : ∀ j, cn [] j = 0 := fun j => rfl
      rw [show (c :: r).isEmpty = false from rfl]
      simp only [fairB, shareGo, List.drop_zero, sameB, this, h0, Bool.and_eq_false_iff, beq_eq_false_iff_ne]
      by_cases h1 : c.toNat = 97
      · simp [h1]
      by_cases h2 : c.toNat = 98
      · simp [h2]
      by_cases h3 : c.toNat = 99
      · simp [h3]
      have h4 : c.toNat = 100 := by omega
      simp [h4]
  | cons c r => rfl

theorem open_ok (l : List UInt8) (hok : l.all okb = true) (x : List Int) (hx : cutsB l.length 0 x = true) :
    (openL l x).length = l.length ∧ (openL l x).all okb = true ∧ cutsB l.length 0 (openC x) = true ∧ (openC x).length ≤ x.length := by
  cases x with
  | nil => exact ⟨rfl, hok, rfl, Nat.le_refl _⟩
  | cons c r =>
    simp only [cutsB, Bool.and_eq_true, decide_eq_true_eq] at hx
    refine ⟨?_, ?_, ?_, by simp [openC]⟩
    · simp only [openL, List.length_append, List.length_drop, List.length_take]; omega
    · rw [List.all_eq_true] at hok ⊢
      intro y hy
      rcases List.mem_append.1 hy with hy | hy
      · exact hok y (List.mem_of_mem_drop hy)
      · exact hok y (List.mem_of_mem_take hy)
    · exact cutsB_weak _ _ _ _ (cutsB_sub _ _ _ c hx.2 hx.1.1) (by omega)

set_option maxHeartbeats 1000000 in
theorem ring_odd (s : ByteArray) (w : World) (hs : s.size ≤ 1000) (h : evenChainB s.data.toList = false) :
    Calls Try.prog 28 #[.string s] w (RetCutsO [] 2 w) := by
  have H := hid h
  clear h
  go_enter Try.func28, Try.ntmps28
  go_wp2_with fail
  refine (isEven_any s _ (by omega)).mono ?_
  rintro e w1 ⟨rfl, hb⟩
  rw [H.out]
  have hlb := (LB.new w s (.slice none 0 0) 0).below hb (by simp)
  have hbw : Below w.heap.size w w1 := ((((Below.refl _ w).alloc (Nat.le_refl _) _).alloc (by simp) _).alloc (by simp; omega) _).trans (hb.mono (by simp; omega))
  obtain ⟨q0, q1, q2, f1, f2⟩ := hlb.facts
  have HLB := hid hlb
  clear hlb hb
  go_wp2
  obtain ⟨-, r1, r2, -⟩ := (HLB.out.put (.slice none 0 0) 2).facts
  refine bodyPost_ret (v := .tuple #[.slice none 0 0, .int .i64 2]) (by simp [results, Try.results28, go_sem, r1, r2]) rfl ⟨none, 0, rfl, Ints.nil _ _, fun _ => rfl, Nat.le_refl _, ?_, OwnR.nil _ _⟩
  exact (hbw.setCell (by simp) _).setCell (by simp; omega) _

/-- Cuts that divide a ring, tried by their number. -/
def ringT (l : List UInt8) : Option (List Int) := tryN (firstB true l) [0, 2, 4]
theorem tryR (g : Nat → Option (List Int)) (j : Nat) (h : j < 3) : tryN g ([0, 2, 4].drop j) = (g (2 * j)).or (tryN g ([0, 2, 4].drop (j + 1))) := by
  match j, h with
  | 0, _ => rfl
  | 1, _ => rfl
  | 2, _ => rfl

set_option maxHeartbeats 4000000 in
theorem ring_evenO (s : ByteArray) (w : World) (hs : s.size ≤ 900) (h : evenChainB s.data.toList = true) :
    Calls Try.prog 28 #[.string s] w (RetCutsO ((ringT s.data.toList).getD []) 0 w) := by
  have hok : s.data.toList.all okb = true := by simp [evenChainB, chainB] at h; simpa using h.1.1
  have H := hid h
  have HO := hid hok
  clear h hok
  obtain ⟨g, hg⟩ : ∃ g, g = firstB true s.data.toList := ⟨_, rfl⟩
  obtain ⟨R, hR⟩ : ∃ R, R = (ringT s.data.toList).getD [] := ⟨_, rfl⟩
  rw [← hR]
  rw [ringT, ← hg] at hR
  obtain ⟨T, hT⟩ : ∃ T, T = [0, 2, 4] := ⟨_, rfl⟩
  rw [← hT] at hR
  have HG := hid hg
  have HRR := hid hR
  have HT := hid hT
  have htry : ∀ j, j < 3 → tryN g (T.drop j) = (g (2 * j)).or (tryN g (T.drop (j + 1))) := by rw [hT]; exact tryR g
  have HTT := hid htry
  clear hg hR hT htry
  refine (callsIn_wide (n := 0)).1 (callsIn_of_wp_marks Try.func28 rfl trivial ?_ rfl)
  simp only [Try.ntmps28, List.size_toArray, List.length_cons, List.length_nil, Nat.reduceAdd, Nat.reduceSub, Array.replicate_succ, Array.replicate_zero, List.push_toArray, List.append_toArray, List.nil_append, List.cons_append]
  gi_wp2_with fail
  refine ⟨trivial, rfl, (callsIn_wide.2 (isEven_any s _ (by omega))).mono ?_⟩
  rintro e w1 ⟨rfl, hb⟩
  rw [H.out]
  have hlb := (LB.new w s (.slice none 0 0) 0).below hb (by simp)
  have hbw : Below w.heap.size w w1 := ((((Below.refl _ w).alloc (Nat.le_refl _) _).alloc (by simp) _).alloc (by simp; omega) _).trans (hb.mono (by simp; omega))
  have hsz1 : w.heap.size + 1 + 1 < w1.heap.size := by have := hb.size; simp at this; omega
  obtain ⟨q0, q1, q2, f1, f2⟩ := hlb.facts
  have HLB := hid hlb
  clear hlb hb
  gi_wp2_with fail
  refine wpIn_loop_ghost_k (fun m a W => ∃ (n j : Nat) (ds : List Deferred) (u9 u10 u11 u12 u13 u14 u15 u16 : Value), j ≤ 3 ∧ m + j = 3 ∧ a = { tmps := #[.string s, .pointer (some { block := w.heap.size, off := 0 }), .pointer (some { block := w.heap.size + 1, off := 0 }), .pointer (some { block := w.heap.size + 1 + 1, off := 0 }), .int .i64 n, undef, .string s, .bool true, .bool false, u9, u10, u11, u12, u13, u14, u15, u16, undef, undef, undef, undef, undef, undef, undef, undef], defers := ds } ∧ Hid (n = 2 * j ∧ MB w.heap.size W.heap.size (w.heap.size + 1 + 1 + 1) ds s (.slice none 0 0) 0 w W ∧ tryN g T = tryN g (T.drop j)))
    3 ?_ ?_
  · exact ⟨0, 0, [], _, _, _, _, _, _, _, _, by omega, rfl, rfl, hid ⟨rfl, ⟨HLB.out, MarksOk.nil _ _, by simp, by omega, by omega, hbw⟩, rfl⟩⟩
  rintro m _ W ⟨n, j, ds, u9, u10, u11, u12, u13, u14, u15, u16, hj3, hm, rfl, HR⟩ J K2 hJ hK2
  obtain ⟨q0, q1, q2, f1, f2⟩ := HR.out.2.1.lb.facts
  have hWw : w.heap.size + 1 + 1 < W.heap.size := HR.out.2.1.nl
  have t4 : (decide ((n : Int) ≤ 4)) = decide (n ≤ 4) := by rw [decide_eq_decide]; omega
  have hn6 : n ≤ 6 := by have := HR.out.1; omega
  by_cases hk : n ≤ 4
  · have hj : j < 3 := by have := HR.out.1; omega
    have t1 : decide (n ≤ 4) = true := by simpa using hk
    have hsz0 : 0 ≤ s.size := Nat.zero_le _
    gi_wp2_with fail
    refine ⟨trivial, rfl, (callsIn_wide.2 (lists_any (n : Int) 0 (s.size : Int) W)).mono ?_⟩
    rintro e W1 ⟨rfl, hW1⟩
    have hB1 : Blk W1 W.heap.size #[.int .i64 n] 3 := by rw [← hW1]; exact ((Blk.new W _ _).alloc _).alloc _
    have hB2 : Blk W1 (W.heap.size + 1) #[.int .i64 ((0 : Nat) : Int)] 3 := by rw [← hW1]; exact (Blk.mk' (by simp) rfl : Blk _ _ _ _).alloc _
    have hB3 : Blk W1 (W.heap.size + 1 + 1) #[.int .i64 s.size] 3 := by rw [← hW1]; exact Blk.mk' (by simp) rfl
    have hsz : W1.heap.size = W.heap.size + 3 := by rw [← hW1]; simp
    have hb1 : Below W.heap.size W W1 := by rw [← hW1]; exact (((Below.refl _ W).alloc (Nat.le_refl _) _).alloc (by simp) _).alloc (by simp; omega) _
    have H1 := hid hB1
    have H2 := hid hB2
    have H3 := hid hB3
    have HSZ := hid hsz
    have HMB := hid (HR.out.2.1.step hb1)
    have HJ := hid hJ
    clear hW1 q0 q1 q2 f1 f2 hJ HLB hbw hB1 hB2 hB3 hsz hb1 hsz0
    gi_wp2_with fail
    refine wp_range (gf := 58) (lb := #[.pointer (some ⟨W.heap.size, 0, none⟩), .pointer (some ⟨W.heap.size + 1 + 1, 0, none⟩), .pointer (some ⟨W.heap.size + 1, 0, none⟩)]) rfl Try.call58 (ArgL (w.heap.size + 1 + 1 + 1)) (nxt s.size n 0 []) (fun b => b = w.heap.size + 1 ∨ b = w.heap.size + 1 + 1) ?_ (argL_put _) ?_
      (LeI (fairRingB s.data.toList) w.heap.size (W1.heap.size + 1) (w.heap.size + 1 + 1 + 1) ds s w) (LeX (fairRingB s.data.toList) w.heap.size (W1.heap.size + 1) (w.heap.size + 1 + 1 + 1) ds s w (nxt s.size n 0 [])) ?_ ?_ ?_
      (fun v => { tmps := #[.string s, .pointer (some { block := w.heap.size, off := 0 }), .pointer (some { block := w.heap.size + 1, off := 0 }), .pointer (some { block := w.heap.size + 1 + 1, off := 0 }), .int .i64 n, v, .string s, .bool true, .bool false, .int .i64 n, .bool true, u11, u12, .int .i64 n, .string s, .int .i64 s.size, .func (.func 58) #[] #[.pointer (some { block := W.heap.size, off := 0 }), .pointer (some { block := W.heap.size + 1 + 1, off := 0 }), .pointer (some { block := W.heap.size + 1, off := 0 })], v, undef, undef, undef, undef, undef, undef, undef], defers := [] }) ?_ ?_ ?_ ?_
    · rintro b (rfl | rfl) <;> (rw [HSZ.out]; omega)
    · intro W2 hW2 hb2
      refine lists_iter (w.heap.size + 1 + 1 + 1) n 0 s.size _ _ _ _ W2 (by omega) (by omega) (by omega) (by have := hb2.size; rw [HSZ.out] at this; omega) ⟨H1.out.below hb2 (by rw [HSZ.out]; omega), ?_⟩ ⟨H3.out.below hb2 (by rw [HSZ.out]; omega), ?_⟩ (H2.out.below hb2 (by rw [HSZ.out]; omega))
      · rw [HSZ.out]; omega
      · rw [HSZ.out]; omega
    · exact LeI_firm _ _ _ _ _ _ _ (by rw [HSZ.out]; omega)
    · exact LeX_firm _ _ _ _ _ _ _ _ (by rw [HSZ.out]; omega)
    · intro W2 hb2
      exact ⟨(HMB.out.step hb2).up (by rw [HSZ.out]; omega), .inl rfl, .inr rfl, by simp⟩
    · intro v W2 K3 hK
      gi_wp2
      exact hK
    · rintro pre x post v C W2 hx ⟨h1, h2, h3, h4⟩ ⟨a, cp, rfl, hi, hn, hcp, hown⟩ hsz2 hC ⟨r, hr⟩
      have hmem : x ∈ nxt s.size n 0 [] := by rw [hx]; simp
      obtain ⟨hl1, hl2⟩ : x.length = n ∧ cutsB s.size 0 x = true := nxt_ok s.size n 0 x hmem (Nat.zero_le _)
      obtain ⟨q0, q1, q2, f1, f2⟩ := h1.lb.facts
      have hlt := h1.lb.e.lt
      obtain ⟨o1, o2, o3, o4⟩ := open_ok s.data.toList HO.out x hl2
      have HOWN := hid hown
      have HI := hid hi
      have HC := hid hC
      have HX := hid hx
      have HR2 := hid hr
      have HM := hid h1
      have HP4 := hid h4
      have HO1 := hid o1
      have HO2 := hid o2
      have HO3 := hid o3
      have HO4 := hid o4
      have HMEM := hid hmem
      have hl4 : x.length ≤ 5 := by omega
      obtain ⟨xl, hxl⟩ : ∃ xl, xl = x.length := ⟨_, rfl⟩
      have HXL := hid hxl
      rw [← hxl]
      clear hown hi hC hx hr h1 h4 hmem hl1 hxl q1 q2 f1 f2 o1 o2 o3 o4
      gi_wp2_with fail
      refine ⟨trivial, rfl, CallsIn.inRound _ ((callsIn_wide.2 (by rw [HXL.out]; exact opened_any s a cp x W2 (by omega) HI.out hcp hn (by omega) hl2)).mono ?_)⟩
      rintro e W3 ⟨a3, c3, rfl, hi3, hn3, hc3, hb3⟩
      have hlo : (openC x).length ≤ 900 := by have := HO4.out; omega
      have HM3 := hid (HM.out.step hb3)
      have HK3 := hid (KeepsX.of_below (M := C) hb3)
      have HI3 := hid hi3
      have hix := HI.out.below hb3 (Nat.le_refl _)
      have HIX := hid hix
      have HOWN3 := hid (HOWN.out.heap fun g _ _ hg _ => hb3.block g hg)
      have hl3 : ∃ r, W3.heap[W1.heap.size + 1]? = some (Obj.loop r) := ⟨r, (hb3.block _ (lt_of_block HR2.out)).trans HR2.out⟩
      have HL3 := hid hl3
      clear hb3 hi3 hl3 hix
      gi_wp2_with fail
      have hfa : ∀ W, Ints W a3 (openC x) → Calls Try.prog 46 #[.string (mkS (openL s.data.toList x)), .slice a3 (openC x).length c3] W fun e w' => e = .returned (.bool (fairRingB s.data.toList x)) ∧ Below W.heap.size W w' := by
        intro W hW
        have e1 : (mkS (openL s.data.toList x)).size = s.size := by rw [mkS_size, HO1.out, bytes_len]
        rw [← fairRingP_eq _ HO.out]
        have := isFair_any (mkS (openL s.data.toList x)) a3 c3 (openC x) W (by rw [e1]; omega) hW hn3 hc3 (by omega) (by rw [e1, ← bytes_len]; exact HO3.out) (by rw [mkS_data]; exact HO2.out)
        rw [mkS_data] at this
        exact this
      refine ⟨trivial, rfl, CallsIn.inRound _ ((callsIn_wide.2 (hfa W3 HI3.out)).mono ?_)⟩
      rintro e W4 ⟨rfl, hb4⟩
      clear hfa
      obtain ⟨b, hb⟩ : ∃ b, b = fairRingB s.data.toList x := ⟨_, rfl⟩
      rw [← hb]
      have HB := hid hb
      have HM4 := hid (HM3.out.step hb4)
      have HK4 := hid (HK3.out.trans (KeepsX.of_below (M := C) hb4))
      have HI4 := hid (HIX.out.below hb4 (Nat.le_refl _))
      have HOWN4 := hid (HOWN3.out.heap fun g _ _ hg _ => hb4.block g hg)
      have hl4 : ∃ r, W4.heap[W1.heap.size + 1]? = some (Obj.loop r) := by
        obtain ⟨r, hr⟩ := HL3.out
        exact ⟨r, (hb4.block _ (lt_of_block hr)).trans hr⟩
      have HL4 := hid hl4
      obtain ⟨q0, q1, q2, f1, f2⟩ := HM4.out.lb.facts
      clear hb hb4 hl4
      cases b
      · gi_wp2_with fail
        refine ⟨C, Grew.refl HK4.out (fun k hk => (HC.out k hk).1), HM4.out, h2, h3, ?_⟩
        intro y hy
        rcases List.mem_append.1 hy with hy | hy
        · exact HP4.out y hy
        · cases List.mem_singleton.1 hy; exact HB.out.symm
      · gi_wp2_with fail
        have hk4 : KeepsX C W2 ((W4.setCell ⟨w.heap.size + 1, 0, none⟩ (.slice a xl cp)).setCell ⟨w.heap.size + 1 + 1, 0, none⟩ (.int .i64 0)) := (HK4.out.trans (KeepsX.setCell _ h2)).trans (KeepsX.setCell _ h3)
        refine ⟨C, Grew.refl hk4 (fun k hk => (HC.out k hk).1), rfl, a, cp, x, ?_, ?_, hn, hcp, ?_, ?_⟩
        · rw [← HXL.out]; exact HM4.out.put (Nat.le_refl _) _ _
        · obtain ⟨r, hr⟩ := HL4.out
          refine ValsX.of (r := r) (HM4.out.lb.ints HI4.out _) ?_
          have := HM4.out.nl
          exact (Below.heap_setCell _ _ _ _ (by simp; omega)).trans ((Below.heap_setCell _ _ _ _ (by simp; omega)).trans hr)
        · rw [HX.out, List.find?_append, List.find?_eq_none.2 (fun y hy => by simp [HP4.out y hy])]
          simp [← HB.out]
        · obtain ⟨r, hr⟩ := HL4.out
          have := HM4.out.nl
          refine OwnX.of (r := r) (HOWN4.out.heap fun g _ hg _ _ => ?_) ?_
          · exact (Below.heap_setCell _ _ _ _ (by simp; omega)).trans (Below.heap_setCell _ _ _ _ (by simp; omega))
          · exact (Below.heap_setCell _ _ _ _ (by simp; omega)).trans ((Below.heap_setCell _ _ _ _ (by simp; omega)).trans hr)
    · rintro C W2 hsz2 ⟨h1, h2, h3, h4⟩ hD
      have HM := hid h1
      have HD := hid hD
      have H4 := hid h4
      clear h1 h2 h3 hD h4
      gi_wp2_with fail
      have hfn : g (2 * j) = none := by
        rw [HG.out, firstB, List.find?_eq_none, ← HR.out.1]
        intro y hy
        rw [bytes_len] at hy
        simpa [testB] using H4.out y hy
      have hD1 : w.heap.size + 1 + 1 + 1 ≤ W1.heap.size := by rw [HSZ.out]; omega
      have hD2 : ∀ k, { target := Target.collected k, args := #[] } ∈ ds → k ≠ W1.heap.size := fun D hD => by
        have := HMB.out.lt D hD
        rw [HSZ.out]; omega
      refine Handed.intro (m - 1) (by omega) (HJ.out _ _ _ ⟨n + 2, j + 1, _, _, _, _, _, _, _, _, _, by omega, by omega, rfl, hid ⟨by have := HR.out.1; omega, HM.out.cons hD1 HD.out hD2 (by omega) (by omega), ?_⟩⟩)
      rw [HR.out.2.2, HTT.out _ hj, hfn]; rfl
    · rintro c pre x post C W2 hsz2 hx ⟨rfl, a, cp, y, hm, hv, hn, hcp, hf, hox⟩ hD
      have HM := hid hm
      have HD := hid hD
      have HV := hid hv
      have HX := hid hx
      have HF := hid hf
      have HOX := hid hox
      clear hm hv hD hx hf hox
      gi_wp2_with fail
      have hgk : R = y := by
        rw [HRR.out, HR.out.2.2, HTT.out _ hj, HG.out, firstB, bytes_len, ← HR.out.1]
        exact or_some HF.out
      have hD1 : w.heap.size + 1 + 1 + 1 ≤ W1.heap.size := by rw [HSZ.out]; omega
      have hD2 : ∀ k, { target := Target.collected k, args := #[] } ∈ ds → k ≠ W1.heap.size := fun D hD => by
        have := HMB.out.lt D hD
        rw [HSZ.out]; omega
      subst hgk
      exact (HM.out.cons hD1 HD.out hD2 (Nat.le_refl _) (by omega)).leave rfl (by omega) (fun w' r1 r2 => by simp [results, Try.results28, go_sem, r1, r2]) HV.out.1 hn hcp HOX.out.1
  · have t1 : decide (n ≤ 4) = false := by simpa using hk
    have h0 : R = [] := by
      rw [HRR.out, HR.out.2.2, show j = 3 by have := HR.out.1; omega, HT.out]; rfl
    have HP := hid (HR.out.2.1.put (Nat.le_refl _) (.slice none 0 0) 0)
    gi_wp2_with fail
    subst h0
    refine HP.out.leave (x := []) rfl (by simp [World.setCell]; omega) (fun w' r1 r2 => by simp [results, Try.results28, go_sem, r1, r2]) (Ints.nil _ _) (fun _ => rfl) (Nat.le_refl _) (OwnR.nil _ _)
theorem ring_even (s : ByteArray) (w : World) (hs : s.size ≤ 900) (h : evenChainB s.data.toList = true) :
    Calls Try.prog 28 #[.string s] w (RetCuts ((ringT s.data.toList).getD []) 0 w) := (ring_evenO s w hs h).mono fun _ _ h => h.ret
end Go.Proofs.Ythelnggbcgjbcaa
