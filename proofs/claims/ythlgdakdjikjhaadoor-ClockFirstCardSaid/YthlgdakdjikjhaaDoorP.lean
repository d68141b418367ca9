/-
  Walks: the reference's images of a set in their order.
-/
import Derived.Test.YthlgdakdjikjhaaDoorO
import Derived.Test.YthlgdakdjikjhaaDoorStrs
import Derived.Test.YthlgdakdjikjhaaDoorRowB
namespace Go.Proofs.YthlgdakdjikjhaaDoor
open Go.RowKit Go.ChangeMaps
attribute [local go_sem] Oper.semAt_some

def wordV (e : Ent) : Value := .string (mkS e.word)
/-- The sets seen so far. -/
def seenB (L : List Ent) (t : Nat) : Bool := L.any (fun e => e.set == t)
/-- The three rows while the images are found. -/
structure RS (w0 W : World) (N : Nat) (vs vw : Value) (Ls Lw : List Ent) : Prop where
  below : Below w0.heap.size w0 W
  seen : Blk W w0.heap.size (rowB (seenB Ls) N) 4
  sets : W.ownsRow (w0.heap.size + 1) 3 1 vs Ls.length (Ls.map setV)
  words : W.ownsRow (w0.heap.size + 1) 9 1 vw Lw.length (Lw.map wordV)
  ne : ∀ k, vs.ownBlock = some k → vw.ownBlock ≠ some k
theorem RS.size {w0 W : World} {N : Nat} {vs vw : Value} {Ls Lw : List Ent} (h : RS w0 W N vs vw Ls Lw) : w0.heap.size + 1 ≤ W.heap.size := h.seen.lt
theorem seenB_snoc (L : List Ent) (e : Ent) (t : Nat) : seenB (L ++ [e]) t = if t = e.set then true else seenB L t := by
  unfold seenB
  rw [List.any_append]
  by_cases h : t = e.set
  · subst h; simp
  · rw [if_neg h]; simp; intro h2; exact absurd h2.symm h
theorem RS.addSet {w0 W W2 : World} {N : Nat} {vs vw vs' : Value} {Ls Lw : List Ent} (h : RS w0 W N vs vw Ls Lw) (e : Ent) (o : Obj)
    (ho : W2.ownsRow (w0.heap.size + 1) 3 1 vs' (Ls.length + 1) (Ls.map setV ++ [natV e.set])) (hg : ((W.setCell ⟨w0.heap.size, e.set, none⟩ (.bool true)).alloc o).grownBy W2 vs.ownBlock)
    (hw : vs'.ownBlock = vs.ownBlock ∨ vs'.ownBlock = some (W.heap.size + 1)) : RS w0 W2 N vs' vw (Ls ++ [e]) Lw := by
  have hsz := h.size
  have s1 : Below w0.heap.size w0 (W.setCell ⟨w0.heap.size, e.set, none⟩ (.bool true)) := h.below.setCell (Nat.le_refl _) _
  have o1 : (W.setCell ⟨w0.heap.size, e.set, none⟩ (.bool true)).ownsRow (w0.heap.size + 1) 3 1 vs Ls.length (Ls.map setV) :=
    own_same h.sets fun q hq => Below.heap_setCell W ⟨w0.heap.size, e.set, none⟩ _ q (by have := (h.sets.lt q hq).1; show q ≠ w0.heap.size; omega)
  have o2 : (W.setCell ⟨w0.heap.size, e.set, none⟩ (.bool true)).ownsRow (w0.heap.size + 1) 9 1 vw Lw.length (Lw.map wordV) :=
    own_same h.words fun q hq => Below.heap_setCell W ⟨w0.heap.size, e.set, none⟩ _ q (by have := (h.words.lt q hq).1; show q ≠ w0.heap.size; omega)
  have hss : (W.setCell ⟨w0.heap.size, e.set, none⟩ (.bool true)).heap.size = W.heap.size := by simp
  refine ⟨?_, ?_, by simpa [setV] using ho, ?_, ?_⟩
  · exact below_app (s1.alloc (by rw [hss]; omega) _) hg (o1.alloc o) (by simp; omega) (by omega)
  · have b1 := ((h.seen.rowPutB e.set true (g := seenB (Ls ++ [e])) fun i _ => seenB_snoc Ls e i).alloc o)
    refine (hg.block w0.heap.size b1.lt fun hh => ?_).trans b1
    have := (h.sets.lt _ hh.symm).1
    omega
  · refine (o2.alloc o).kept hg ?_
    cases hb : vw.ownBlock with
    | none => exact .inl rfl
    | some k => exact .inr fun e => h.ne k e.symm hb
  · intro k hk hb
    rcases hw with hw | hw
    · exact h.ne k (by rw [← hw]; exact hk) hb
    · rw [hw] at hk
      have h1 := (h.words.lt k hb).2
      have h2 := Option.some.inj hk
      omega
theorem RS.addWord {w0 W W1 W2 : World} {N : Nat} {vs vw vw' : Value} {Ls Lw : List Ent} (h : RS w0 W N vs vw Ls Lw) (e : Ent) (h1 : Below W.heap.size W W1)
    (ho : W2.ownsRow (w0.heap.size + 1) 9 1 vw' (Lw.length + 1) (Lw.map wordV ++ [wordV e])) (hg : W1.grownBy W2 vw.ownBlock)
    (hw : vw'.ownBlock = vw.ownBlock ∨ vw'.ownBlock = some W1.heap.size) : RS w0 W2 N vs vw' Ls (Lw ++ [e]) := by
  have hsz := h.size
  have hs1 := h1.size
  have o1 := ownsRow_low h.sets h1 (Nat.le_refl _)
  have o2 := ownsRow_low h.words h1 (Nat.le_refl _)
  refine ⟨?_, ?_, ?_, by simpa using ho, ?_⟩
  · exact below_app (h.below.trans (h1.mono (by omega))) hg o2 (by omega) (by omega)
  · refine (hg.block w0.heap.size (by omega) fun hh => ?_).trans (h.seen.below h1 h.seen.lt)
    have := (h.words.lt _ hh.symm).1
    omega
  · refine o1.kept hg ?_
    cases hb : vs.ownBlock with
    | none => exact .inl rfl
    | some k => exact .inr fun e => h.ne k hb e.symm
  · intro k hk hb
    rcases hw with hw | hw
    · exact h.ne k hk (by rw [← hw]; exact hb)
    · rw [hw] at hb
      have h3 := (h.sets.lt k hk).2
      have h2 := Option.some.inj hb
      omega
theorem RS.keep {w0 W W1 : World} {N : Nat} {vs vw : Value} {Ls Lw : List Ent} (h : RS w0 W N vs vw Ls Lw) (h1 : Below W.heap.size W W1) : RS w0 W1 N vs vw Ls Lw :=
  ⟨h.below.trans (h1.mono (by have := h.size; omega)), h.seen.below h1 h.seen.lt, ownsRow_low h.sets h1 (Nat.le_refl _), ownsRow_low h.words h1 (Nat.le_refl _), h.ne⟩
theorem Good.wlen {M : List (List Nat)} {s : Nat} {L : List Ent} (h : Good M s L) : ∀ (i : Nat) (e : Ent), L[i]? = some e → e.word.length ≤ i := by
  intro i
  induction i using Nat.strongRecOn with
  | _ i ih =>
    intro e he
    rcases Nat.eq_zero_or_pos i with h0 | h0
    · subst h0
      have := h.head
      rw [he] at this
      cases this; exact Nat.le_refl _
    · obtain ⟨j, p, h1, h2, -, h4, -⟩ := h.par i e he h0
      have := ih j h1 p h2
      rw [h4, List.length_append]; simp; omega
/-- What a call returns: the sets and the words. -/
def RetR (L : List Ent) (w : World) (e : Ending) (w' : World) : Prop := ∃ a1 c1 a2 c2, e = .returned (.tuple #[.slice a1 L.length c1, .slice a2 L.length c2]) ∧
  Hid (w'.ownsRow w.heap.size 3 1 (.slice a1 L.length c1) L.length (L.map setV)) ∧ Hid (w'.ownsRow w.heap.size 9 1 (.slice a2 L.length c2) L.length (L.map wordV)) ∧ Below w.heap.size w w'
theorem Tryd.info9 : (Tryd.prog.info? 9).map (fun i => (i.zero, i.size, i.bytes)) = some (some (.string ⟨#[]⟩), 1, 16) := by kernel_rfl
theorem Tryd.info4 : (Tryd.prog.info? 4).map (fun i => (i.zero, i.size, i.bytes)) = some (some (.bool false), 1, 1) := by kernel_rfl
theorem run_letX (c : Nat) (W : World) (n : Nat) (X : Int) (h : c ≤ 20) (hX : X = 97 + (c : Int)) (hv : Vals W (some ⟨n, 0, none⟩) [.int .u8 X]) : (convert 90 9 (.slice (some ⟨n, 0, none⟩) 1 1)).run Tryd.prog W = .ok (.string (letS c)) W := by
  have := run_strB (P := Tryd.prog) 90 9 5 Tryd.underlying90 Tryd.underlying5 Tryd.underlying9 W (some ⟨n, 0, none⟩) 1 [UInt8.ofNat (97 + c)] (by rw [List.map_singleton, u8v, letter_nat c h, ← hX]; exact hv) (fun h => by cases h)
  exact this
theorem own_built (w : World) (u : Value) (t : TypeId) (base : Nat) (hb : base ≤ w.heap.size) : (w.alloc (.cells #[u] t)).ownsRow base t 1 (.slice (some ⟨w.heap.size, 0, none⟩) 1 1) 1 [u] :=
  ⟨rfl, .inr ⟨w.heap.size, 1, #[u], rfl, hb, Blk.new w _ _, Nat.le_refl _, by decide, rfl, rfl⟩⟩

theorem RS.start (w : World) (s N : Nat) : RS w (((w.alloc (.cells ((rowB (fun _ => false) N).setIfInBounds s (.bool true)) 4)).alloc (.cells #[.int .i64 (s : Int)] 3)).alloc (.cells #[.string ⟨#[]⟩] 9)) N
    (.slice (some ⟨w.heap.size + 1, 0, none⟩) 1 1) (.slice (some ⟨w.heap.size + 1 + 1, 0, none⟩) 1 1) [⟨s, [], 0, 0⟩] [⟨s, [], 0, 0⟩] := by
  have z1 : (w.alloc (.cells ((rowB (fun _ => false) N).setIfInBounds s (.bool true)) 4)).heap.size = w.heap.size + 1 := by simp
  have z2 : ((w.alloc (.cells ((rowB (fun _ => false) N).setIfInBounds s (.bool true)) 4)).alloc (.cells #[.int .i64 (s : Int)] 3)).heap.size = w.heap.size + 1 + 1 := by simp
  refine ⟨?_, ?_, ?_, ?_, ?_⟩
  · exact (((Below.refl _ w).alloc (Nat.le_refl _) _).alloc (by rw [z1]; omega) _).alloc (by rw [z2]; omega) _
  · refine Blk.alloc (Blk.alloc ?_ _) _
    rw [rowB_set]
    refine Blk.mk' rfl (rowB_congr fun i _ => ?_)
    rw [show seenB [⟨s, [], 0, 0⟩] i = seenB ([] ++ [⟨s, [], 0, 0⟩]) i from rfl, seenB_snoc]; rfl
  · have := own_built (w.alloc (.cells ((rowB (fun _ => false) N).setIfInBounds s (.bool true)) 4)) (.int .i64 (s : Int)) 3 (w.heap.size + 1) (by rw [z1]; omega)
    rw [z1] at this
    exact this.alloc _
  · have := own_built ((w.alloc (.cells ((rowB (fun _ => false) N).setIfInBounds s (.bool true)) 4)).alloc (.cells #[.int .i64 (s : Int)] 3)) (.string ⟨#[]⟩) 9 (w.heap.size + 1) (by rw [z2]; omega)
    rw [z2] at this
    exact this
  · intro k hk hb
    have h1 : w.heap.size + 1 = k := by simpa [Value.ownBlock] using hk
    have h2 : w.heap.size + 1 + 1 = k := by simpa [Value.ownBlock] using hb
    omega

theorem cells_at (w : World) (n : Nat) (u : Value) (t : TypeId) (hn : n = w.heap.size) : ∀ (j : Nat) (x : Value), [u][j]? = some x → (w.alloc (.cells #[u] t)).cell? ((⟨n, 0, none⟩ : Addr).add j) = some x := by
  subst hn; exact cells_new w u t
theorem cells_drew {w : World} {l : List Value} {a : Addr} (h : ∀ (j : Nat) (x : Value), l[j]? = some x → w.cell? (a.add j) = some x) : ∀ (j : Nat) (x : Value), l[j]? = some x → w.drew.cell? (a.add j) = some x := h

set_option maxRecDepth 100000 in
set_option maxHeartbeats 4000000 in
theorem refReached_any (a : Option Addr) (c : Nat) (M : List (List Nat)) (s : Nat) (w : World) (hM : OkM M) (hr : RowsAt w a (intM M)) (hs : s < 2 ^ nst M) :
    Calls Tryd.prog 59 #[.slice a M.length c, .int .i64 s] w (RetR (reach M s) w) := by
  have h1 := hM.b1
  have hb4 := hM.b4
  obtain ⟨g, o, b1, c1, rfl, hg, q1, -⟩ := row_at hM hr 0 (by omega)
  rw [Nat.add_zero] at q1
  have hn9 := hM.n9
  have h512 : (2 : Nat) ^ nst M ≤ 512 := Nat.pow_le_pow_right (n := 2) (by omega) hn9
  have PR := hid (fun (x b : Nat) (W : World) (hb : Below w.heap.size w W) (hx : x < 512) (hbl : b < M.length) => refPress_any (some ⟨g, o, none⟩) c M x b W hM (hr.below hb (Nat.le_refl _)) hx hbl)
  have HPL := hid (fun x b => press_lt hM x b)
  have HM := hid hM
  have e0 := pow_wrapK
  have e1 : IntKind.i64.wrap ((2 : Int) ^ nst M) = ((2 ^ nst M : Nat) : Int) := by
    rw [← pow_cast]
    generalize 2 ^ nst M = y at h512
    exact IntWalk.i64_in _ (by omega)
  obtain ⟨N, hN⟩ : ∃ N, N = 2 ^ nst M := ⟨_, rfl⟩
  have hmk2 : ∀ W : World, (Instr.makeSlice 109 (.int .i64 (N : Int)) (.int .i64 (N : Int))).run Tryd.prog W = .ok (.slice (some ⟨W.heap.size, 0, none⟩) N N) (W.alloc (.cells (rowB (fun _ => false) N) 4)) := by
    intro W
    have hmk := run_make_row' (P := Tryd.prog) 109 4 (.bool false) 1 Tryd.underlying109 Tryd.info4 rfl .i64 .i64 N (by omega) (by omega) W
    rw [← rowB_made]; exact hmk
  have HST := hid (show Good M s [⟨s, [], 0, 0⟩] from Good.start M s hs)
  rw [← hN] at hs h512 e1 HPL
  have hRE : reach M s = bfsF M (513 - 0) 0 [⟨s, [], 0, 0⟩] := rfl
  have HRE := hid hRE
  have HN := hid hN
  have hget := rowB_get (fun _ => false) N s hs
  have HB0 := hid (Blk.new w (rowB (fun _ => false) N) 4)
  obtain ⟨n, hn⟩ : ∃ n, n = nst M := ⟨_, rfl⟩
  rw [← hn] at q1 e1 hn9
  clear hr hM hRE e0 hN hn
  go_enter Tryd.func59, Tryd.ntmps59
  go_wp2_with fail
  go_loopw [7, 8, 9] (fun vs vw iv W => ∃ (i : Nat) (L : List Ent), iv = .int .i64 i ∧ i ≤ L.length ∧ Hid (Good M s L) ∧ Hid (RS w W N vs vw L L) ∧ Hid (reach M s = bfsF M (513 - i) i L)) (fun _ _ iv _ => 513 - (intOf iv).toNat)
  case atStart =>
    refine ⟨0, [⟨s, [], 0, 0⟩], rfl, by simp, HST, ?_, HRE.out⟩
    exact RS.start w s N
  case round =>
    obtain ⟨i, L, rfl, hi, HG, HS, HB⟩ := hrel
    have hL5 := HG.out.len HM.out
    by_cases hlt : i < L.length
    · obtain ⟨x, hx⟩ : ∃ x, L[i]? = some x := ⟨_, List.getElem?_eq_getElem hlt⟩
      have hx5 : x.set < 512 := by
        have := HG.out.lt x (List.mem_of_getElem? hx)
        rw [← HN.out] at this; omega
      have hst : bfsF M (513 - i) i L = bfsF M (513 - (i + 1)) (i + 1) (growF M x M.length 0 L) := by
        rw [show 513 - i = (513 - (i + 1)) + 1 by omega]; exact bfsF_step hx
      have hwl := HG.out.wlen i x hx
      obtain ⟨gs, cs, rfl, -, -, -⟩ := own_at HS.out.sets (by omega)
      obtain ⟨gw, cw, rfl, -, -, -⟩ := own_at HS.out.words (by omega)
      have HX := hid hx
      have HST2 := hid hst
      have HWL := hid hwl
      clear hx hst hwl
      go_wp2_with fail
      go_loopw [7, 8, 10] (fun vs vw bv W => ∃ (b : Nat) (L' : List Ent), bv = .int .i64 b ∧ b ≤ M.length ∧ i < L'.length ∧ Hid (L'[i]? = some x) ∧ Hid (Good M s L') ∧ Hid (RS w W N vs vw L' L') ∧ Hid (growF M x M.length 0 L = growF M x (M.length - b) b L')) (fun _ _ bv _ => M.length - (intOf bv).toNat)
      case atStart => exact ⟨0, L, rfl, by omega, hlt, HX, HG, HS, rfl⟩
      case round =>
        obtain ⟨b, L', rfl, hb, hil, HX', HG', HS', HGR⟩ := hrel
        have hL5' := HG'.out.len HM.out
        obtain ⟨g2, c2, rfl, hgb2, hg2, hcell2⟩ := own_at HS'.out.sets (by omega)
        obtain ⟨g3, c3, rfl, hgb3, hg3, hcell3⟩ := own_at HS'.out.words (by omega)
        have hsz := HS'.out.size
        by_cases hlb : b < M.length
        · have q2 := hcell2 i (natV x.set) (by rw [List.getElem?_map, HX'.out]; rfl)
          unfold natV at q2
          have q3 := HS'.out.seen.rowBt (press M x.set b) (HPL.out _ _)
          have f3 := HS'.out.seen.free (press M x.set b)
          have PC := hid (PR.out x.set b wr HS'.out.below hx5 hlb)
          have hyN := HPL.out x.set b
          obtain ⟨y, hy⟩ : ∃ y, y = press M x.set b := ⟨_, rfl⟩
          rw [← hy] at PC q3 f3 hyN
          have HY := hid hy
          clear hy
          cases hany : seenB L' y with
          | true =>
            rw [hany] at q3
            have hg1 : growF M x M.length 0 L = growF M x (M.length - (b + 1)) (b + 1) L' := by
              rw [HGR.out, show M.length - b = (M.length - (b + 1)) + 1 by omega, growF, grow1, if_pos (by rw [← HY.out]; exact hany)]
            have HG1 := hid hg1
            clear hg1 hany hcell2 hcell3
            go_wp2_with fail
            refine PC.out.mono ?_
            rintro e w3 ⟨rfl, rfl⟩
            go_wp2_with fail
            exact ⟨⟨b + 1, L', by go_num, by omega, hil, HX', HG', HS', HG1⟩, by simp [intOf]; omega⟩
          | false =>
            rw [hany] at q3
            have hg1 : growF M x M.length 0 L = growF M x (M.length - (b + 1)) (b + 1) (L' ++ [⟨y, x.word ++ [UInt8.ofNat (97 + b)], x.set, 97 + b⟩]) := by
              rw [HGR.out, show M.length - b = (M.length - (b + 1)) + 1 by omega, growF, grow1, if_neg (by rw [← HY.out]; show ¬ seenB L' y = true; rw [hany]; simp), ← HY.out]
            have hg2' : Good M s (L' ++ [⟨y, x.word ++ [UInt8.ofNat (97 + b)], x.set, 97 + b⟩]) := by
              have := HG'.out.grow1 HM.out HX'.out hlb
              rw [grow1, if_neg (by rw [← HY.out]; show ¬ seenB L' y = true; rw [hany]; simp), ← HY.out] at this
              exact this
            have hx2 : (L' ++ [⟨y, x.word ++ [UInt8.ofNat (97 + b)], x.set, 97 + b⟩])[i]? = some x := app_at HX'.out
            have HG1 := hid hg1
            have HG2 := hid hg2'
            have HX2 := hid hx2
            have ho1 : (wr.setCell ⟨w.heap.size, y, none⟩ (.bool true)).ownsRow (w.heap.size + 1) 3 1 (.slice (some ⟨g2, 0, none⟩) L'.length c2) L'.length (L'.map setV) :=
              own_same HS'.out.sets fun q hq => Below.heap_setCell wr ⟨w.heap.size, y, none⟩ _ q (by have := (HS'.out.sets.lt q hq).1; show q ≠ w.heap.size; omega)
            have HSZ := hid (show (wr.setCell ⟨w.heap.size, y, none⟩ (.bool true)).heap.size = wr.heap.size by simp)
            clear hg1 hg2' hx2 hany hcell2 hcell3
            have hv1 : Vals ((wr.setCell ⟨w.heap.size, y, none⟩ (.bool true)).alloc (.cells #[.int .i64 (y : Int)] 3)) (some ⟨wr.heap.size, 0, none⟩) [.int .i64 (y : Int)] := by
              rw [← HSZ.out]; exact vals_new _ _ _ _ rfl
            go_wp2_with fail
            refine PC.out.mono ?_
            rintro e w3 ⟨rfl, rfl⟩
            go_wp2_with (at_builtin; go_must (refine wpList_app2 _ rfl (.tmp 51) (.tmp 53) 38 rfl (w.heap.size + 1) 3 (.int .i64 0) 8 Tryd.underlying38 Tryd.info3 rfl _ L'.length _ rfl (ho1.alloc _) (some ⟨wr.heap.size, 0, none⟩) 1 1 [.int .i64 _] rfl rfl hv1 (fun h => by cases h) (by simp [Value.oneCell']) (by omega) (by omega) (by simp; omega) ?_))
            intro vs' w5 hown' hgrow hwh
            have HS5 := hid (HS'.out.addSet ⟨y, x.word ++ [UInt8.ofNat (97 + b)], x.set, 97 + b⟩ _ hown' hgrow (by rcases hwh with h | h; exact .inl h; exact .inr (by rw [h])))
            obtain ⟨g6, c6, hvs6, -, -, -⟩ := own_at HS5.out.sets (by simp)
            subst hvs6
            have HL9 := hid (show L'.length + 1 ≤ 1000000000 by omega)
            have w1 : IntKind.u8.wrap (97 + (b : Int)) = 97 + (b : Int) := IntWalk.u8_in _ (by omega)
            have w2 : IntKind.i64.wrap (97 + (b : Int)) = 97 + (b : Int) := IntWalk.i64_in _ (by omega)
            clear hown' hgrow hwh hv1 ho1
            obtain ⟨g7, c7, he7, hgb7, hg7, hcell7⟩ := own_at HS5.out.words (by omega)
            cases he7
            have q7 := hcell7 i (wordV x) (by rw [List.getElem?_map, HX'.out]; rfl)
            unfold wordV at q7
            have hsz5 := HS5.out.size
            have ho7 := HS5.out.words
            have hcvA := run_letX b (w5.alloc (.cells #[.int .u8 (97 + (b : Int))] 5)) w5.heap.size (97 + (b : Int)) (by omega) rfl (vals_new _ _ _ _ rfl)
            have hcvB := run_letX b (w5.alloc (.cells #[.int .u8 (97 + (b : Int))] 5)).drew w5.heap.size (97 + (b : Int)) (by omega) rfl (vals_drew (vals_new _ _ _ _ rfl))
            have hcvC := run_letX b (w5.drew.alloc (.cells #[.int .u8 (97 + (b : Int))] 5)) w5.heap.size (97 + (b : Int)) (by omega) rfl (vals_new _ _ _ _ rfl)
            have hsq : ¬ 9223372036854775807 < (mkS x.word).size + (letS b).size := by rw [mkS_size, letS_size]; have := HWL.out; omega
            have hadd := letS_add x.word b
            obtain ⟨t, ht⟩ : ∃ t, t = x.word ++ [UInt8.ofNat (97 + b)] := ⟨_, rfl⟩
            rw [← ht] at hadd HS5 HG1 HG2 HX2
            have HT := hid ht
            clear hcell7 ht
            go_wp2_with fail
            go_region_law (first
              | (refine step_appN rfl (.tmp 55) (.tmp 66) 85 rfl (w.heap.size + 1) 9 (.string ⟨#[]⟩) 1 16 Tryd.underlying85 Tryd.info9 rfl (by decide) _ L'.length _ rfl ((ho7.alloc _).alloc _) ⟨w5.heap.size + 1, 0, none⟩ 1 1 [.string _] rfl rfl (cells_drew (cells_at _ _ _ _ (by simp))) (by simp [Value.oneCell']) HL9.out (by decide) (by simp; clear w1 w2; omega) (by decide) ?_
                 intro v' w6 hown' hgrow hwh)
              | (refine step_appN rfl (.tmp 55) (.tmp 66) 85 rfl (w.heap.size + 1) 9 (.string ⟨#[]⟩) 1 16 Tryd.underlying85 Tryd.info9 rfl (by decide) _ L'.length _ rfl ((ho7.alloc _).alloc _) ⟨w5.heap.size + 1, 0, none⟩ 1 1 [.string _] rfl rfl (cells_at _ _ _ _ (by simp)) (by simp [Value.oneCell']) HL9.out (by decide) (by simp; clear w1 w2; omega) (by decide) ?_
                 intro v' w6 hown' hgrow hwh))
            all_goals
              have HS6 := hid (HS5.out.addWord ⟨y, t, x.set, 97 + b⟩ (by first | exact (((Below.refl _ w5).alloc (Nat.le_refl _) _).drew.alloc (by simp) _) | exact (((Below.refl _ w5).drew.alloc (Nat.le_refl _) _).alloc (by simp) _) | exact (((Below.refl _ w5).alloc (Nat.le_refl _) _).alloc (by simp) _).drew) hown' hgrow hwh)
              clear hown' hgrow hwh ho7 hcvA hcvB hcvC w1 w2
              go_wp2
              go_roundw
              case rel => exact ⟨b + 1, L' ++ [⟨y, t, x.set, 97 + b⟩], by go_num, by omega, by simp; omega, HX2, HG2, by simpa using HS6, HG1⟩
              case measure => simp [intOf]; omega
        · have hbe : b = M.length := by omega
          have hg1 : growF M x M.length 0 L = L' := by
            rw [HGR.out, hbe, Nat.sub_self]; rfl
          have hfin : reach M s = bfsF M (513 - (i + 1)) (i + 1) L' := by rw [HB.out, HST2.out, hg1]
          have HF := hid hfin
          clear hfin hg1 hcell2 hcell3
          go_wp2_with fail
          exact ⟨⟨i + 1, L', by go_num, by omega, HG', HS', HF⟩, by simp [intOf]; omega⟩
    · have hfin : reach M s = L := by rw [HB.out, bfsF_end (by omega)]
      have hsz := HS.out.size
      obtain ⟨a1, c1, rfl, -, -⟩ := ownsRow_vals HS.out.sets
      obtain ⟨a2, c2, rfl, -, -⟩ := ownsRow_vals HS.out.words
      rw [List.length_map] at HS ⊢
      rw [List.length_map] at HS ⊢
      have H1 := hid (own_base HS.out.sets (Nat.le_succ _))
      have H2 := hid (own_base HS.out.words (Nat.le_succ _))
      have H3 := hid HS.out.below
      have HF := hid hfin
      clear hfin
      go_wp2_with fail
      refine bodyPost_ret (results_tmp2 rfl _ _ _) rfl ?_
      rw [HF.out]
      exact ⟨a1, c1, a2, c2, rfl, H1, H2, H3.out⟩
end Go.Proofs.YthlgdakdjikjhaaDoor
