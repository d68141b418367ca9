/-
  Contracts of the package clock, turned from the texts of the laws of clock (search, rank).
-/
import Derived.Test.YtkmpdcckgibkhaaGreatYb
namespace Go.Proofs.YtkmpdcckgibkhaaGreat.Ck
open Go.RowKit Go.ChangeMaps
attribute [local go_sem] Oper.semAt_some

theorem own_same {w w' : World} {base e size n : Nat} {v : Value} {xs : List Value} (h : w.ownsRow base e size v n xs) (hq : ∀ q, v.ownBlock = some q → w'.heap[q]? = w.heap[q]?) : w'.ownsRow base e size v n xs := by
  obtain ⟨h1, h2⟩ := h
  refine ⟨h1, ?_⟩
  rcases h2 with h | ⟨g, cap, cur, hv, hb, hg, h3⟩
  · exact .inl h
  · exact .inr ⟨g, cap, cur, hv, hb, (hq g (by rw [hv]; rfl)).trans hg, h3⟩
/-- What a called function leaves of the memory from B on. -/
def KeptAbove (B : Nat) (w w' : World) : Prop := w.heap.size ≤ w'.heap.size ∧ ∀ k, B ≤ k → k < w.heap.size → w'.heap[k]? = w.heap[k]?
theorem KeptAbove.of_below {B : Nat} {w w' : World} (h : Below w.heap.size w w') : KeptAbove B w w' := ⟨h.size, fun k _ hk => h.block k hk⟩
def setV (e : Ent) : Value := natV e.set
/-- The search, ahead of entry i. -/
structure SS (M : List (List Nat)) (s : Nat) (wt : Nat → Bool) (J : List Nat → World → Prop) (w0 : World) (i : Nat) (L : List Ent) (qv : Value) (W : World) : Prop where
  good : Good M s L
  le : i ≤ L.length
  eq : reach M s = bfsF M (513 - i) i L
  none : ∀ j e, j < i → L[j]? = some e → wt e.set = false
  map : MapIs natV W w0.heap.size (knownL L)
  own : W.ownsRow (w0.heap.size + 1) 123 1 qv L.length (L.map setV)
  j : J ((L.take i).map (·.set)) W
/-- The search within entry i, ahead of button b. -/
structure SI (M : List (List Nat)) (s : Nat) (wt : Nat → Bool) (J : List Nat → World → Prop) (w0 : World) (i : Nat) (x : Ent) (b : Nat) (L : List Ent) (qv : Value) (W : World) : Prop where
  good : Good M s L
  at_ : L[i]? = some x
  eq : reach M s = bfsF M (513 - (i + 1)) (i + 1) (growF M x (M.length - b) b L)
  none : ∀ j e, j < i + 1 → L[j]? = some e → wt e.set = false
  map : MapIs natV W w0.heap.size (knownL L)
  own : W.ownsRow (w0.heap.size + 1) 123 1 qv L.length (L.map setV)
  j : J ((L.take (i + 1)).map (·.set)) W
theorem Tryz.info5 : (Tryz.prog.info? 5).map (fun i => (i.zero, i.size, i.bytes)) = some (some (.int .u8 0), 1, 1) := by kernel_rfl
theorem field1 (a b : Int) (w : World) : (Instr.field 164 (.agg #[.int .i64 a, .int .u8 b]) 1).run Tryz.prog w = .ok (.int .u8 b) w := by kernel_rfl
theorem field0 (a b : Int) (w : World) : (Instr.field 164 (.agg #[.int .i64 a, .int .u8 b]) 0).run Tryz.prog w = .ok (.int .i64 a) w := by kernel_rfl
theorem Tryz.info123 : (Tryz.prog.info? 123).map (fun i => (i.zero, i.size, i.bytes)) = some (some (.int .i64 0), 1, 8) := by kernel_rfl
theorem own_at {w : World} {base e n : Nat} {v : Value} {xs : List Value} (h : w.ownsRow base e 1 v n xs) (hn : 0 < n) : ∃ g c, v = .slice (some ⟨g, 0, none⟩) n c ∧ base ≤ g ∧ g < w.heap.size ∧ ∀ j u, xs[j]? = some u → w.cell? ⟨g, j, none⟩ = some u := by
  obtain ⟨h1, h2⟩ := h
  rcases h2 with ⟨_, h0⟩ | ⟨g, cap, cur, hv, hb, hg, _, _, hs, ht⟩
  · omega
  · refine ⟨g, cap, hv, hb, lt_of_block hg, fun j u hu => ?_⟩
    rw [cell_of_row w g j cur e (0, 0) hg]
    rw [← ht, List.getElem?_take] at hu
    split at hu
    · simpa using hu
    · cases hu
theorem SS.pre {M : List (List Nat)} {s : Nat} {wt : Nat → Bool} {J : List Nat → World → Prop} {w0 W w2 : World} {i : Nat} {L : List Ent} {qv : Value} {x : Ent} (h : SS M s wt J w0 i L qv W) (hM : OkM M) (hx : L[i]? = some x) (hw : wt x.set = false) (hJ : J ((L.take i).map (·.set) ++ [x.set]) w2) (hk : KeptAbove w0.heap.size W w2) : SI M s wt J w0 i x 0 L qv w2 := by
  have hl := h.good.len hM
  have hil := (List.getElem?_eq_some_iff.1 hx).1
  refine ⟨h.good, hx, ?_, ?_, ?_, ?_, ?_⟩
  · rw [h.eq, show 513 - i = (513 - (i + 1)) + 1 by omega, bfsF_step hx, Nat.sub_zero]
  · intro j e hj he
    rcases Nat.lt_or_ge j i with h1 | h1
    · exact h.none j e h1 he
    · have : j = i := by omega
      subst this; rw [hx] at he; cases he; exact hw
  · exact (hk.2 _ (Nat.le_refl _) h.map.lt).trans h.map
  · exact own_same h.own fun q hq => by
      have := h.own.lt q hq
      exact hk.2 q (by omega) this.2
  · rw [show (L.take (i + 1)).map (·.set) = (L.take i).map (·.set) ++ [x.set] by rw [List.take_add_one, hx, List.map_append]; rfl]; exact hJ
theorem SI.old {M : List (List Nat)} {s : Nat} {wt : Nat → Bool} {J : List Nat → World → Prop} {w0 W : World} {i b : Nat} {L : List Ent} {qv : Value} {x : Ent} (h : SI M s wt J w0 i x b L qv W) (hb : b < M.length) (ha : L.any (fun e => e.set == press M x.set b) = true)
    (JS : ∀ pre W W', Below w0.heap.size W W' → J pre W → J pre W') (hs : w0.heap.size ≤ W.heap.size) (o : Obj) : SI M s wt J w0 i x (b + 1) L qv (W.alloc o) := by
  refine ⟨h.good, h.at_, ?_, h.none, h.map.alloc _, h.own.alloc _, JS _ _ _ ((Below.refl _ W).alloc hs _) h.j⟩
  rw [h.eq, show M.length - b = (M.length - (b + 1)) + 1 by omega, growF, grow1, if_pos ha]
theorem SI.new {M : List (List Nat)} {s : Nat} {wt : Nat → Bool} {J : List Nat → World → Prop} {w0 W W' : World} {i b : Nat} {L : List Ent} {qv qv' : Value} {x : Ent} (h : SI M s wt J w0 i x b L qv W) (hM : OkM M) (hb : b < M.length) (ha : L.any (fun e => e.set == press M x.set b) = false)
    (JS : ∀ pre W W', Below w0.heap.size W W' → J pre W → J pre W') (hm : MapIs natV W' w0.heap.size (knownL (L ++ [⟨press M x.set b, x.word ++ [UInt8.ofNat (97 + b)], x.set, 97 + b⟩])))
    (ho : W'.ownsRow (w0.heap.size + 1) 123 1 qv' (L.length + 1) (L.map setV ++ [natV (press M x.set b)])) (hB : Below w0.heap.size W W') : SI M s wt J w0 i x (b + 1) (L ++ [⟨press M x.set b, x.word ++ [UInt8.ofNat (97 + b)], x.set, 97 + b⟩]) qv' W' := by
  have hg := h.good.grow1 hM h.at_ hb
  rw [grow1, if_neg (by rw [ha]; simp)] at hg
  have hil := (List.getElem?_eq_some_iff.1 h.at_).1
  refine ⟨hg, app_at h.at_, ?_, ?_, hm, ?_, ?_⟩
  · rw [h.eq, show M.length - b = (M.length - (b + 1)) + 1 by omega, growF, grow1, if_neg (by rw [ha]; simp)]
  · intro j e hj he
    rw [List.getElem?_append_left (by omega)] at he
    exact h.none j e hj he
  · rw [List.length_append, List.map_append]; exact ho
  · rw [List.take_append_of_le_length (by omega)]; exact JS _ _ _ hB h.j
theorem SI.post {M : List (List Nat)} {s : Nat} {wt : Nat → Bool} {J : List Nat → World → Prop} {w0 W : World} {i : Nat} {L : List Ent} {qv : Value} {x : Ent} (h : SI M s wt J w0 i x M.length L qv W) : SS M s wt J w0 (i + 1) L qv W := by
  have hil := (List.getElem?_eq_some_iff.1 h.at_).1
  refine ⟨h.good, by omega, ?_, h.none, h.map, h.own, h.j⟩
  rw [h.eq, Nat.sub_self, growF]
theorem SS.found {M : List (List Nat)} {s : Nat} {wt : Nat → Bool} {J : List Nat → World → Prop} {w0 W : World} {i : Nat} {L : List Ent} {qv : Value} {x : Ent} (h : SS M s wt J w0 i L qv W) (hx : L[i]? = some x) (hw : wt x.set = true) : (reach M s).find? (fun e => wt e.set) = some x := by
  obtain ⟨T, hT⟩ := bfsF_app M (513 - i) i L
  rw [h.eq, hT, List.find?_append]
  have : L.find? (fun e => wt e.set) = some x := by
    rw [List.find?_eq_some_iff_getElem]
    obtain ⟨h1, h2⟩ := List.getElem?_eq_some_iff.1 hx
    refine ⟨hw, i, h1, h2, fun j hj => ?_⟩
    rw [h.none j L[j] hj (List.getElem?_eq_getElem (by omega))]; rfl
  rw [this]; rfl
theorem SS.none_at {M : List (List Nat)} {s : Nat} {wt : Nat → Bool} {J : List Nat → World → Prop} {w0 W : World} {i : Nat} {L : List Ent} {qv : Value} (h : SS M s wt J w0 i L qv W) (hi : L.length ≤ i) : (reach M s).find? (fun e => wt e.set) = Option.none ∧ (L.take i).map (·.set) = (reach M s).map (·.set) := by
  have he : reach M s = L := by rw [h.eq, bfsF_end hi]
  refine ⟨?_, by rw [he, List.take_of_length_le hi]⟩
  rw [he, List.find?_eq_none]
  intro e hm
  obtain ⟨j, hj⟩ := List.getElem?_of_mem hm
  rw [h.none j e (by have := (List.getElem?_eq_some_iff.1 hj).1; omega) hj]; simp
/-- Where a set stands in the table. -/
def idxV (L : List Ent) (v : Value) : Nat := match fnd (intOf v).toNat (knownL L) 0 with | some p => p.1 | Option.none => 0
theorem idxV_at {L : List Ent} (hn : (L.map (·.set)).Nodup) {j : Nat} {e : Ent} (h : L[j]? = some e) : idxV L (.int .i64 (e.set : Int)) = j := by
  unfold idxV
  rw [show (intOf (.int .i64 (e.set : Int))).toNat = e.set by simp [intOf], known_some hn j 0 e h]; simp
set_option maxRecDepth 20000 in
set_option maxHeartbeats 8000000 in
theorem search_any (M : List (List Nat)) (s : Nat) (fid : Nat) (bd : Array Value) (wt : Nat → Bool) (J : List Nat → World → Prop) (a : Option Addr) (c : Nat) (w : World)
    (hM : OkM M) (hs : s < 2 ^ nst M) (h0 : s ≠ 0) (hJ0 : J [] w)
    (EN : ∀ args W, (callFunc fid args).run Tryz.prog W = .ok (.enter fid args) W)
    (JM : ∀ pre W, J pre W → RowsAt W a (intM M))
    (JS : ∀ pre W W', Below w.heap.size W W' → J pre W → J pre W')
    (CW : ∀ pre q W, q < 512 → J pre W → w.heap.size ≤ W.heap.size → Calls Tryz.prog fid (#[.int .i64 (q : Int)] ++ bd) W fun e w' => e = .returned (.bool (wt q)) ∧ J (pre ++ [q]) w' ∧ KeptAbove w.heap.size W w') :
    Calls Tryz.prog 73 #[.slice a M.length c, .int .i64 s, .func (.func fid) #[] bd] w fun e w' =>
      ∃ vis, J vis w' ∧ match (reach M s).find? (fun e => wt e.set) with
        | some x => e = .returned (.tuple #[.string (mkS x.word), .int .i64 x.set, .bool true])
        | none => e = .returned (.tuple #[.string ⟨#[]⟩, .int .i64 0, .bool false]) ∧ vis = (reach M s).map (·.set) := by
  have hs5 : s < 512 := Nat.lt_of_lt_of_le hs (Nat.pow_le_pow_right (n := 2) (by omega) hM.n9)
  have hm4 := hM.b4
  have hm1 := hM.b1
  have HM := hid hM
  have HJM := hid JM
  have HJS := hid JS
  have HCW := hid CW
  -- the first entries
  obtain ⟨w1, hst, hM1, o1, ho1⟩ := store_new (w := w.alloc (.map #[] 0)) (bm := w.heap.size) (L := []) (MapIs.made (enc := natV) w) ⟨s, [], 0, 0⟩ rfl
  have hb1 : Below w.heap.size w w1 := by rw [ho1]; exact setBlock_below ((Below.refl _ w).alloc (Nat.le_refl _) _) (Nat.le_refl _) _
  have hsz1 : w1.heap.size = w.heap.size + 1 := by rw [ho1]; simp [setBlock]
  have HM1 := hid hM1
  have HB1 := hid hb1
  have hst2 : (Instr.mapUpdate 165 (.map (some w.heap.size)) (.int .i64 (s : Int)) (.agg #[.int .i64 0, .int .u8 0])).run Tryz.prog (w.alloc (.map #[] 0)) = .ok () w1 := hst
  have HJ0 := hid hJ0
  clear hst hM JM JS CW hM1 hb1 ho1 hJ0
  have hz := zero100
  have hmm := @run_makeMap Tryz.prog
  go_enter Tryz.func73, Tryz.ntmps73
  go_wp2_with fail
  go_step3
  go_wp2_with fail
  go_step3
  go_wp2_with fail
  go_loopw [10, 11, 12] (fun qv fv iv W => ∃ (i : Nat) (L : List Ent), fv = .int .i64 0 ∧ iv = .int .i64 i ∧ i ≤ 512 ∧ Hid (SS M s wt J w i L qv W)) (fun _ _ iv _ => 513 - (intOf iv).toNat)
  case atStart =>
    refine ⟨0, [⟨s, [], 0, 0⟩], rfl, rfl, by omega, Good.start M s hs, by simp, rfl, fun j e hj => by omega, HM1.out.alloc _, ?_, ?_⟩
    · refine ⟨rfl, .inr ⟨w.heap.size + 1, 1, #[.int .i64 (s : Int)], rfl, Nat.le_refl _, ?_, Nat.le_refl _, by decide, rfl, rfl⟩⟩
      rw [← hsz1]; exact Blk.new w1 _ _
    · exact HJS.out _ _ _ (HB1.out.alloc (by omega) _) HJ0.out
  case round =>
    obtain ⟨i, L, rfl, rfl, hi5, HS⟩ := hrel
    have hL5 := HS.out.good.len HM.out
    have hbm := HS.out.map.lt
    by_cases hlt : i < L.length
    · obtain ⟨x, hx⟩ : ∃ x, L[i]? = some x := ⟨_, List.getElem?_eq_getElem hlt⟩
      have hx5 : x.set < 512 := Nat.lt_of_lt_of_le (HS.out.good.lt x (List.mem_of_getElem? hx)) (Nat.pow_le_pow_right (n := 2) (by omega) HM.out.n9)
      obtain ⟨g, cq, rfl, hgb, hg, hcell⟩ := own_at HS.out.own (by omega)
      have q1 := hcell i (natV x.set) (by rw [List.getElem?_map, hx]; rfl)
      unfold natV at q1
      have C1 := HCW.out _ x.set wr hx5 HS.out.j (by omega)
      have HX := hid hx
      clear hcell hx hst2 hz hmm
      cases hwt : wt x.set with
      | true =>
        rw [hwt] at C1
        have C1 := hid C1
        have HFD := hid (HS.out.found HX.out hwt)
        have hxne := HS.out.good.ne HM.out h0 i x HX.out
        have d0 : ((x.set : Int) == 0) = false := beq_eq_false_iff_ne.2 (by omega)
        clear hwt
        go_wp2_with fail
        refine C1.out.mono ?_
        rintro e w2 ⟨rfl, hJ2, hk2⟩
        have HJ2 := hid hJ2
        have HMP := hid (show MapIs natV w2 w.heap.size (knownL L) from (hk2.2 _ (Nat.le_refl _) hbm).trans HS.out.map)
        have q2 : w2.cell? ⟨g, i, none⟩ = some (.int .i64 (x.set : Int)) := (World.cell?_of_block (hk2.2 g (by omega) hg)).trans q1
        have hsz2 : w.heap.size ≤ w2.heap.size := by have := hk2.1; omega
        clear hJ2 hk2 C1 q1
        go_wp2_with fail
        go_loopw [17, 18] (fun v xv W => ∃ (j : Nat) (e : Ent) (B : List UInt8), L[j]? = some e ∧ xv = .int .i64 (e.set : Int) ∧ B.length + j ≤ 512 ∧ Below w2.heap.size w2 W ∧ W.ownsRow w2.heap.size 5 1 v B.length (B.map u8v) ∧ Hid (x.word = e.word ++ B.reverse)) (fun _ xv _ => idxV L xv)
        case atStart => exact ⟨i, x, [], HX.out, rfl, by simp; omega, Below.refl _ _, World.ownsRow_nil _ _ _ _, by rw [Hid]; simp⟩
        case round =>
          obtain ⟨j, e, B, hj, rfl, hBj, hB, hown, HW⟩ := hrel
          have LK := look_old (HMP.out.below hB (by have := HMP.out.lt; omega)) HS.out.good.nodup j e hj false
          simp only [stepV, Bool.false_eq_true, if_false] at LK
          have HJX := hid (idxV_at HS.out.good.nodup hj)
          rcases Nat.eq_zero_or_pos j with h0j | h0j
          · subst h0j
            have he0 : e = ⟨s, [], 0, 0⟩ := by
              have := HS.out.good.head
              rw [hj] at this; exact Option.some.inj this
            subst he0
            have hxw : x.word = B.reverse := by rw [HW.out]; rfl
            have HXW := hid hxw
            obtain ⟨a1, c1, rfl, -, -⟩ := ownsRow_vals hown
            rw [List.length_map] at hown ⊢
            have RV := hid (reverse_any a1 c1 w2.heap.size B wr (by omega) hown)
            have HB := hid hB
            clear hj hxw hown hB
            go_wp2_with fail
            refine RV.out.mono ?_
            rintro e w6 ⟨rfl, ho6, hb6⟩
            have hv6 := ownsRow_vals ho6
            obtain ⟨a3, c3, he3, hv6, -⟩ := hv6
            rw [List.length_map, List.length_reverse] at he3
            cases he3
            have hnil : a1 = Option.none → B.reverse = [] := fun h => by
              have h7 := ownsRow_facts ho6
              have := h7.2.2 h
              have h8 : B.length = 0 := by omega
              rw [List.eq_nil_of_length_eq_zero h8]; rfl
            have hcv := run_strB (P := Tryz.prog) 71 9 5 Tryz.underlying71 Tryz.underlying5 Tryz.underlying9 w6 a1 c1 B.reverse hv6 hnil
            rw [List.length_reverse] at hcv
            have HJ6 := hid (HJS.out _ _ _ ((HB.out.mono hsz2).trans (hb6.mono hsz2)) HJ2.out)
            clear ho6 hb6 hv6 hnil RV LK
            go_wp2_with fail
            rw [Exit.noGoto_ret]
            refine bodyPost_ret (results_tmp3 rfl _ _ _) rfl ?_
            refine ⟨_, HJ6.out, ?_⟩
            rw [HFD.out]
            simp only [HXW.out]
            rfl
          · obtain ⟨j2, p, h1, h2, h3, h4, h5, h6, -⟩ := HS.out.good.par j e hj h0j
            have hbt : (UInt8.ofNat e.btn).toNat = e.btn := by
              rw [UInt8.toNat_ofNat']; omega
            have dbt : ((e.btn : Int) == 0) = false := beq_eq_false_iff_ne.2 (by omega)
            have hX : B.map u8v ++ [.int .u8 (e.btn : Int)] = (B ++ [UInt8.ofNat e.btn]).map u8v := by rw [List.map_append, List.map_singleton, u8v, hbt]
            have hW2 : x.word = p.word ++ (B ++ [UInt8.ofNat e.btn]).reverse := by rw [HW.out, h4, List.append_assoc, List.reverse_append]; rfl
            have LKW := hid (fun (W : World) (hb : Below w2.heap.size wr W) => by
              have := look_old (HMP.out.below (hB.trans hb) (by have := HMP.out.lt; omega)) HS.out.good.nodup j e hj false
              simpa only [stepV, Bool.false_eq_true, if_false, h3] using this)
            rw [h3] at LK
            have hf1 := field1
            have hf0 := field0
            have HX2 := hid hX
            have HW2 := hid hW2
            have HP := hid h2
            have HLT := hid h1
            clear hX hW2 hbt h3 h4 h5 h6 h2 hj h1
            go_wp2_with (at_builtin; go_must (refine wpList_app _ rfl (.tmp 88) (.tmp 93) 71 rfl w2.heap.size 5 (.int .u8 0) 1 Tryz.underlying71 Tryz.info5 rfl _ B.length _ rfl (hown.alloc _) (some ⟨wr.heap.size, 0, none⟩) 1 1 [.int .u8 _] rfl rfl (vals_new _ _ _ _ rfl) (fun h => by cases h) (by simp [Value.oneCell']) (by omega) (by omega) (by have := hB.size; simp; omega) ?_))
            intro v' w6 hown' hgrow _
            rw [HX2.out] at hown'
            have hB6 := below_app ((Below.refl w2.heap.size wr).alloc (by have := hB.size; omega) _) hgrow (hown.alloc _) (by have := hB.size; simp; omega) (Nat.le_refl _)
            have LK6 := LKW.out w6 hB6
            have HB6 := hid (hB.trans hB6)
            have HO6 := hid hown'
            clear hown' hgrow hown hB6 hB LK
            go_wp2_with fail
            have h1 := HLT.out
            refine ⟨⟨j2, p, B ++ [UInt8.ofNat e.btn], HP.out, rfl, by simp; omega, HB6.out, by simpa using HO6.out, HW2⟩, ?_⟩
            rw [HJX.out, idxV_at HS.out.good.nodup HP.out]; exact h1
      | false =>
        rw [hwt] at C1
        have C1 := hid C1
        have HWT := hid hwt
        clear hwt
        go_wp2_with fail
        refine C1.out.mono ?_
        rintro e w2 ⟨rfl, hJ2, hk2⟩
        have HSI := hid (HS.out.pre HM.out HX.out HWT.out hJ2 hk2)
        have HSZ := hid (show w.heap.size ≤ w2.heap.size by have := hk2.1; omega)
        clear hJ2 hk2 C1 q1
        go_wp2_with fail
        go_loopw [10, 43] (fun qv bv W => ∃ (b : Nat) (L' : List Ent), bv = .int .i64 b ∧ b ≤ M.length ∧ w.heap.size ≤ W.heap.size ∧ Hid (SI M s wt J w i x b L' qv W)) (fun _ bv _ => M.length - (intOf bv).toNat)
        case atStart => exact ⟨0, L, rfl, by omega, HSZ.out, HSI⟩
        case round =>
          obtain ⟨b, L', rfl, hb, hszw, HI⟩ := hrel
          have hL5' := HI.out.good.len HM.out
          have hbmw := HI.out.map.lt
          by_cases hlb : b < M.length
          · have hil := (List.getElem?_eq_some_iff.1 HI.out.at_).1
            obtain ⟨g2, c2, rfl, hgb2, hg2, hcell⟩ := own_at HI.out.own (by omega)
            have q1 := hcell i (natV x.set) (by rw [List.getElem?_map, HI.out.at_]; rfl)
            unfold natV at q1
            have PC := hid (press_any a c M x.set b wr HM.out (HJM.out _ _ HI.out.j) hx5 hlb)
            obtain ⟨y, hy⟩ : ∃ y, y = press M x.set b := ⟨_, rfl⟩
            rw [← hy] at PC
            have HY := hid hy
            clear hcell hy
            cases hany : L'.any (fun e => e.set == y) with
            | true =>
              obtain ⟨j, e0, he0, hey⟩ := any_old hany
              have LK := look_old HI.out.map HI.out.good.nodup j e0 he0 true
              rw [hey] at LK
              simp only [stepV, if_true] at LK
              have hNI := fun (o : Obj) => HI.out.old hlb (by rw [← HY.out]; exact hany) HJS.out hszw o
              have HNI := hid hNI
              clear hany he0 hNI
              go_wp2_with fail
              refine PC.out.mono ?_
              rintro e w3 ⟨rfl, rfl⟩
              go_wp2_with fail
              exact ⟨⟨b + 1, L', by go_num, by omega, by simp; omega, HNI.out _⟩, by simp [intOf]; omega⟩
            | false =>
              have LN := look_new HI.out.map y hany
              have e1 : IntKind.u8.wrap (97 + (b : Int)) = 97 + (b : Int) := IntWalk.u8_in _ (by omega)
              have e2 : IntKind.i64.wrap (97 + (b : Int)) = 97 + (b : Int) := IntWalk.i64_in _ (by omega)
              obtain ⟨w3, hst3, hm3, o3, ho3⟩ := store_new (HI.out.map.alloc (.cells #[.int .i64 0, .int .u8 0] 164)) ⟨y, x.word ++ [UInt8.ofNat (97 + b)], x.set, 97 + b⟩ hany
              have hst3' : (Instr.mapUpdate 165 (.map (some w.heap.size)) (.int .i64 (y : Int)) (.agg #[.int .i64 (x.set : Int), .int .u8 (97 + (b : Int))])).run Tryz.prog (wr.alloc (.cells #[.int .i64 0, .int .u8 0] 164)) = .ok () w3 := hst3
              have hB3 : Below w.heap.size wr w3 := by rw [ho3]; exact setBlock_below ((Below.refl _ wr).alloc hszw _) (Nat.le_refl _) _
              have ho3' : w3.ownsRow (w.heap.size + 1) 123 1 (.slice (some ⟨g2, 0, none⟩) L'.length c2) L'.length (L'.map setV) :=
                own_same (HI.out.own.alloc (.cells #[.int .i64 0, .int .u8 0] 164)) fun q hq => by rw [ho3]; exact setBlock_other q (by have := HI.out.own.lt q hq; omega) _
              have hsz3 : w3.heap.size = wr.heap.size + 1 := by rw [ho3]; simp [setBlock]
              have hNI := fun (W' : World) (qv' : Value) hm ho hB => HI.out.new (W' := W') (qv' := qv') HM.out hlb (by rw [← HY.out]; exact hany) HJS.out hm ho hB
              rw [← HY.out] at hNI
              have HNI := hid hNI
              have HM3 := hid hm3
              have HSZ3 := hid hsz3
              have HB3 := hid hB3
              clear hany hst3 hm3 hB3 hNI ho3 hsz3
              go_wp2_with fail
              refine PC.out.mono ?_
              rintro e w4 ⟨rfl, rfl⟩
              go_wp2_with (at_builtin; go_must (refine wpList_app _ rfl (.tmp 71) (.tmp 73) 166 rfl (w.heap.size + 1) 123 (.int .i64 0) 8 Tryz.underlying166 Tryz.info123 rfl _ L'.length _ rfl (ho3'.alloc _) (some ⟨w3.heap.size, 0, none⟩) 1 1 [.int .i64 _] rfl rfl (vals_new w3 _ _ _ rfl) (fun h => by cases h) (by simp [Value.oneCell']) (by omega) (by omega) (by have := HSZ3.out; simp; omega) ?_))
              intro v' w5 hown' hgrow _
              have hm5 : MapIs natV w5 w.heap.size (knownL (L' ++ [⟨y, x.word ++ [UInt8.ofNat (97 + b)], x.set, 97 + b⟩])) :=
                (hgrow.block w.heap.size (by have := HSZ3.out; simp; omega) (fun e => by simp [Value.ownBlock] at e; omega)).trans (HM3.out.alloc _)
              have hB5 : Below w.heap.size wr w5 := (HB3.out.alloc (by have := HSZ3.out; omega) _).grown hgrow (by have := HSZ3.out; simp; omega) (fun q hq => by simp [Value.ownBlock] at hq; omega)
              have hsz5 : w.heap.size ≤ w5.heap.size := by have := hB5.size; omega
              have HN2 := hid (HNI.out w5 v' hm5 hown' hB5)
              clear hown' hgrow hm5 hB5 ho3' q1
              go_wp2_with fail
              exact ⟨⟨b + 1, _, by go_num, by omega, hsz5, HN2⟩, by simp [intOf]; omega⟩
          · have hbe : b = M.length := by omega
            subst hbe
            have HSP := hid HI.out.post
            have hil := (List.getElem?_eq_some_iff.1 HI.out.at_).1
            go_wp2_with fail
            exact ⟨⟨i + 1, L', rfl, by go_num, by omega, HSP⟩, by simp [intOf]; omega⟩
    · obtain ⟨hf, hv⟩ := HS.out.none_at (by omega)
      have hJ := HS.out.j
      rw [hv] at hJ
      have HF := hid hf
      have HJ := hid hJ
      obtain ⟨gq, cq, rfl, -, -, -⟩ := own_at HS.out.own HS.out.good.pos
      clear hf hv hJ hst2 hz hmm
      go_wp2_with fail
      rw [Exit.noGoto_ret]
      refine bodyPost_ret (results_tmp3 rfl _ _ _) rfl ?_
      refine ⟨_, HJ.out, ?_⟩
      rw [HF.out]
      exact ⟨rfl, rfl⟩
/-- The first image that is wanted. -/
def firstE (M : List (List Nat)) (s : Nat) (wt : Nat → Bool) : Option Ent := (reach M s).find? (fun e => wt e.set)
def srchV : Option Ent → Value
  | some x => .tuple #[.string (mkS x.word), .int .i64 x.set, .bool true]
  | none => .tuple #[.string ⟨#[]⟩, .int .i64 0, .bool false]
theorem search_pure (M : List (List Nat)) (s : Nat) (fid : Nat) (bd : Array Value) (wt : Nat → Bool) (a : Option Addr) (c : Nat) (w : World)
    (hM : OkM M) (hs : s < 2 ^ nst M) (h0 : s ≠ 0) (hr : RowsAt w a (intM M)) (EN : ∀ args W, (callFunc fid args).run Tryz.prog W = .ok (.enter fid args) W)
    (CW : ∀ q W, q < 512 → Below w.heap.size w W → Calls Tryz.prog fid (#[.int .i64 (q : Int)] ++ bd) W fun e w' => e = .returned (.bool (wt q)) ∧ Below W.heap.size W w') :
    Calls Tryz.prog 73 #[.slice a M.length c, .int .i64 s, .func (.func fid) #[] bd] w fun e w' => e = .returned (srchV (firstE M s wt)) ∧ Below w.heap.size w w' := by
  refine (search_any M s fid bd wt (fun _ W => Below w.heap.size w W) a c w hM hs h0 (Below.refl _ _) EN (fun _ W h => hr.below h (Nat.le_refl _)) (fun _ W W' h1 h2 => h2.trans h1) ?_).mono ?_
  · intro pre q W hq hb _
    refine (CW q W hq hb).mono ?_
    rintro e w' ⟨rfl, hb'⟩
    exact ⟨rfl, hb.trans (hb'.mono hb.size), KeptAbove.of_below hb'⟩
  · rintro e w' ⟨vis, hb, hm⟩
    refine ⟨?_, hb⟩
    unfold firstE
    split at hm
    · rename_i x hx; rw [hx, hm]; rfl
    · rename_i hx; rw [hx, hm.1]; rfl
/-- The set of all states. -/
def allS (M : List (List Nat)) : Nat := 2 ^ nst M - 1
theorem allS_lt {M : List (List Nat)} (_h : OkM M) : allS M < 2 ^ nst M := by unfold allS; have := Nat.two_pow_pos (nst M); omega
theorem allS_ne {M : List (List Nat)} (h : OkM M) : allS M ≠ 0 := by
  unfold allS
  have h1 : 2 ^ 1 ≤ 2 ^ nst M := Nat.pow_le_pow_right (by omega) h.n1
  omega
/-- 'isMachine' of a machine. -/
theorem isM_yes (a : Option Addr) (c : Nat) (M : List (List Nat)) (w : World) (hM : OkM M) (hr : RowsAt w a (intM M)) : Calls Tryz.prog 72 #[.slice a M.length c] w fun e w' => e = .returned (.bool true) ∧ Below w.heap.size w w' := by
  have := isMachine_any a c (intM M) w hr (by rw [intM_length]; have := hM.b4; omega) (fun r h => by
    obtain ⟨x, hx, rfl⟩ := List.mem_map.1 h
    rw [List.length_map, hM.row x hx]; have := hM.n9; omega)
  rw [intM_length, ok_machine M hM] at this
  exact this
/-- The least number of states so far. -/
def mF (n : Nat) (pre : List Nat) : Nat := pre.foldl (fun m q => min m (sizeN q)) n
theorem mF_snoc (n : Nat) (pre : List Nat) (q : Nat) : mF n (pre ++ [q]) = min (mF n pre) (sizeN q) := by simp [mF]
theorem mF_le (n : Nat) (pre : List Nat) : mF n pre ≤ n := by
  unfold mF
  induction pre generalizing n with
  | nil => exact Nat.le_refl _
  | cons q r ih => exact Nat.le_trans (ih _) (Nat.min_le_left _ _)
theorem sizeN_le (q : Nat) : sizeN q ≤ 9 := listN_len q
set_option maxHeartbeats 1000000 in
theorem in67_any (q b m : Nat) (W : World) (hq : q < 512) (_hm : m ≤ 9) (hB : Blk W b #[.int .i64 (m : Int)] 3) :
    Calls Tryz.prog 75 #[.int .i64 q, .pointer (some ⟨b, 0, none⟩)] W fun e w' => e = .returned (.bool false) ∧ Blk w' b #[.int .i64 (min m (sizeN q) : Nat)] 3 ∧ Below b W w' ∧ KeptAbove (b + 1) W w' := by
  have C := hid (fun (W : World) => size_any q W hq)
  have q1 : W.cell? ⟨b, 0, none⟩ = some (.int .i64 (m : Int)) := hB.cell 0
  have f1 := hB.free 0
  have HB := hid hB
  have hs := sizeN_le q
  clear hB
  generalize sizeN q = S at *
  have hmin : (min (m : Int) (S : Int)) = ((min m S : Nat) : Int) := by omega
  go_enter Tryz.func75, Tryz.ntmps75
  go_wp2_with fail
  go_region_with (go_at_call 76; refine (C.out _).mono ?_; rintro e w1 ⟨rfl, rfl⟩)
  all_goals
    rw [show (if S < m then (S : Int) else (m : Int)) = ((min m S : Nat) : Int) by split <;> omega]
    clear hmin
    have hb1 := (HB.out.set 0 (.int .i64 ((min m S : Nat) : Int))).drew
    have HB1 := hid hb1
    have HBE := hid (show Below b W ((W.setCell ⟨b, 0, none⟩ (.int .i64 ((min m S : Nat) : Int))).drew) from (Below.setCell (Below.refl b W) (Nat.le_refl _) _).drew)
    have HK := hid (show KeptAbove (b + 1) W ((W.setCell ⟨b, 0, none⟩ (.int .i64 ((min m S : Nat) : Int))).drew) from ⟨by simp, fun k hk _ => Below.heap_setCell W ⟨b, 0, none⟩ _ k (by show k ≠ b; omega)⟩)
    clear hb1
    obtain ⟨T, hT⟩ : ∃ T, T = min m S := ⟨_, rfl⟩
    rw [← hT] at HB1 HBE HK ⊢
    have HT := hid hT
    clear hT
    go_wp2_with fail
    go_ret
    exact ⟨rfl, by rw [← HT.out]; exact HB1.out, HBE.out, HK.out⟩
set_option maxHeartbeats 1000000 in
theorem in69_any (q b m : Nat) (W : World) (hq : q < 512) (hm : W.cell? ⟨b, 0, none⟩ = some (.int .i64 (m : Int))) :
    Calls Tryz.prog 77 #[.int .i64 q, .pointer (some ⟨b, 0, none⟩)] W fun e w' => e = .returned (.bool (sizeN q == m)) ∧ Below W.heap.size W w' := by
  have C := hid (fun (W : World) => (size_any q W hq).mono (R' := fun e w' => e = .returned (.int .i64 (sizeN q)) ∧ w' = W) fun e w' h => ⟨h.1, h.2.symm⟩)
  go_enter Tryz.func77, Tryz.ntmps77
  go_wp2_with fail
  go_quiet (exact Calls.quiet_of_same (C.out _))
  go_wp2_with fail
  go_ret
  exact ⟨ret_bool (by rw [Bool.eq_iff_iff]; simp; omega), below_drewN (Below.refl _ W) nq⟩
theorem enter67 : ∀ args W, (callFunc 75 args).run Tryz.prog W = .ok (.enter 75 args) W := fun args W => by kernel_rfl
theorem enter69 : ∀ args W, (callFunc 77 args).run Tryz.prog W = .ok (.enter 77 args) W := fun args W => by kernel_rfl
/-- The smallest number of states of an image. -/
def minN (M : List (List Nat)) : Nat := mF (nst M) ((reach M (allS M)).map (·.set))
def hasB (m q : Nat) : Bool := sizeN q == m
def rankV (m : Nat) : Option Ent → Value
  | some x => .tuple #[.int .i64 m, .string (mkS x.word), .int .i64 0]
  | none => .tuple #[.int .i64 m, .string ⟨#[]⟩, .int .i64 0]
theorem rank_search (a : Option Addr) (c : Nat) (M : List (List Nat)) (w w2 : World) (b : Nat) (hM : OkM M) (hr : RowsAt w a (intM M)) (hb : Below w.heap.size w w2) (hB : Blk w2 b #[.int .i64 (nst M : Int)] 3) (hb2 : b + 1 = w2.heap.size) (hwb : w.heap.size ≤ b) :
    Calls Tryz.prog 73 #[.slice a M.length c, .int .i64 (allS M), .func (.func 75) #[] #[.pointer (some ⟨b, 0, none⟩)]] w2 fun e w' => e = .returned (srchV none) ∧ Below w.heap.size w w' ∧ Blk w' b #[.int .i64 (minN M : Int)] 3 := by
  refine (search_any M (allS M) 75 #[.pointer (some ⟨b, 0, none⟩)] (fun _ => false) (fun pre W => Below w.heap.size w W ∧ Blk W b #[.int .i64 (mF (nst M) pre : Int)] 3) a c w2 hM (allS_lt hM) (allS_ne hM) ⟨hb, hB⟩ enter67
    (fun _ W h => hr.below h.1 (Nat.le_refl _)) (fun pre W W' h1 h2 => ⟨h2.1.trans (h1.mono hb.size), h2.2.below h1 (by omega)⟩) ?_).mono ?_
  · intro pre q W hq hJ _
    refine (in67_any q b (mF (nst M) pre) W hq (Nat.le_trans (mF_le _ _) hM.n9) hJ.2).mono ?_
    rintro e w' ⟨rfl, k1, k2, k3⟩
    refine ⟨rfl, ⟨hJ.1.trans (k2.mono hwb), by rw [mF_snoc]; exact k1⟩, by rw [← hb2]; exact k3⟩
  · rintro e w' ⟨vis, hJ, hm⟩
    have hf : (reach M (allS M)).find? (fun _ => false) = none := by rw [List.find?_eq_none]; simp
    rw [hf] at hm
    obtain ⟨rfl, rfl⟩ := hm
    exact ⟨rfl, hJ.1, hJ.2⟩
set_option maxHeartbeats 2000000 in
theorem Rank_yes (a : Option Addr) (c : Nat) (M : List (List Nat)) (w : World) (hM : OkM M) (hr : RowsAt w a (intM M)) :
    Calls Tryz.prog 41 #[.slice a M.length c] w fun e w' => e = .returned (rankV (minN M) (firstE M (allS M) (hasB (minN M)))) ∧ Below w.heap.size w w' := by
  have HW := hid (isM_yes a c M w hM hr)
  have HR := hid (fun (W : World) (hb : Below w.heap.size w W) => hr.below hb (Nat.le_refl _))
  have HA := hid (fun (W : World) (hb : Below w.heap.size w W) => all_any a c M W hM (HR.out W hb))
  have HM := hid hM
  have hn9 := hM.n9
  have hall : 2 ^ nst M - 1 = allS M := rfl
  rw [hall] at HA
  have HRS := hid (fun (w2 : World) (b : Nat) hb hB hb2 hwb => rank_search a c M w w2 b hM hr hb hB hb2 hwb)
  have HS2 := hid (fun (b m : Nat) (W : World) (hb : Below w.heap.size w W) (hbl : b < W.heap.size) (hc : W.cell? ⟨b, 0, none⟩ = some (.int .i64 (m : Int))) =>
    search_pure M (allS M) 77 #[.pointer (some ⟨b, 0, none⟩)] (hasB m) a c W hM (allS_lt hM) (allS_ne hM) (hr.below hb (Nat.le_refl _)) enter69 fun q W' hq hb' => in69_any q b m W' hq ((hb'.cell (p := ⟨b, 0, none⟩) hbl).trans hc))
  have hm1 := hM.b1
  obtain ⟨g, o, b1, c1, ha, hg, q1, -⟩ := row_at hM hr 0 hm1
  rw [Nat.add_zero] at q1
  subst ha
  generalize minN M = m at *
  generalize allS M = s at *
  clear hM hr hall HR
  cases hf : firstE M s (hasB m)
  all_goals
    have HF := hid hf
    go_enter Tryz.func41, Tryz.ntmps41
    go_wp2_with fail
    refine HW.out.mono ?_
    rintro e w1 ⟨rfl, hb1⟩
    have q2 := (hb1.cell (p := ⟨g, o, none⟩) hg).trans q1
    have HB1 := hid hb1
    have HB2 := hid (hb1.alloc hb1.size (.cells #[.int .i64 (nst M : Int)] 3))
    have HK2 := hid (Blk.new w1 #[.int .i64 (nst M : Int)] 3)
    have HSZ := hid (show (w1.alloc (.cells #[.int .i64 (nst M : Int)] 3)).heap.size = w1.heap.size + 1 by simp)
    go_wp2_with fail
    obtain ⟨b, hb⟩ : ∃ b, b = w1.heap.size := ⟨_, rfl⟩
    obtain ⟨w2, hw2⟩ : ∃ w2, w2 = w1.alloc (.cells #[.int .i64 (nst M : Int)] 3) := ⟨_, rfl⟩
    have HWB := hid (show w.heap.size ≤ b by rw [hb]; exact hb1.size)
    rw [← hw2] at HB2 HK2 HSZ ⊢
    rw [← hb] at HK2 HSZ ⊢
    clear hb hw2 q2 hb1
    refine (HA.out w2 HB2.out).mono ?_
    rintro e w3 ⟨rfl, rfl⟩
    go_wp2_with fail
    refine (HRS.out w2 b HB2.out HK2.out HSZ.out.symm HWB.out).mono ?_
    rintro e w4 ⟨rfl, hb4, hk4⟩
    have HB4 := hid hb4
    have HK4 := hid hk4
    have q4 : w4.cell? ⟨b, 0, none⟩ = some (.int .i64 (m : Int)) := hk4.cell 0
    have HBL := hid hk4.lt
    clear hb4 hk4
    go_wp2_with fail
    refine (HA.out w4 HB4.out).mono ?_
    rintro e w5 ⟨rfl, rfl⟩
    go_wp2_with fail
    refine (HS2.out b m w4 HB4.out HBL.out q4).mono ?_
    rintro e w6 ⟨rfl, hb6⟩
    rw [HF.out]
    have q6 := (hb6.cell (p := ⟨b, 0, none⟩) HBL.out).trans q4
    have HB6 := hid (HB4.out.trans (hb6.mono HB4.out.size))
    clear hb6 q4
    simp only [srchV]
    go_wp2_with fail
    refine bodyPost_ret (results_tmp3 rfl _ _ _) rfl ?_
    exact ⟨rfl, HB6.out⟩
end Go.Proofs.YtkmpdcckgibkhaaGreat.Ck
