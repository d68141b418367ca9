/-
  Walks: how many choices there are.
-/
import Derived.Test.YtkmpdcckgibkhaaGreatOd
namespace Go.Proofs.YtkmpdcckgibkhaaGreat
open Go.RowKit Go.ChangeMaps

/-- The boxes of the closure that counts: the table, the map of known numbers, the closure itself. -/
structure CW (W0 : World) (X : List (List Int)) (a : Option Addr) (c t k f m : Nat) (W : World) : Prop where
  below : Below W0.heap.size W0 W
  bt : Blk W t #[.slice a X.length c] 22
  bk : Blk W k #[.map (some m)] 52
  bf : Blk W f #[.func (.func 26) #[] #[.pointer (some ⟨t, 0, none⟩), .pointer (some ⟨k, 0, none⟩), .pointer (some ⟨f, 0, none⟩)]] 23
  ge : W0.heap.size ≤ m
  tm : t ≠ m
  km : k ≠ m
  fm : f ≠ m
theorem CW.grown {W0 W W' : World} {X : List (List Int)} {a : Option Addr} {c t k f m : Nat} (h : CW W0 X a c t k f m W) (hg : W.grownBy W' (some m)) : CW W0 X a c t k f m W' :=
  ⟨h.below.grown hg h.below.size (by rintro j ⟨⟩; exact h.ge), (hg.block t h.bt.lt (fun e => h.tm (by cases e; rfl))).trans h.bt, (hg.block k h.bk.lt (fun e => h.km (by cases e; rfl))).trans h.bk,
    (hg.block f h.bf.lt (fun e => h.fm (by cases e; rfl))).trans h.bf, h.ge, h.tm, h.km, h.fm⟩
theorem grown_alloc (W : World) (o : Obj) (r : Option Nat) : W.grownBy (W.alloc o) r := ⟨rfl, rfl, rfl, by simp, fun k hk _ => Below.heap_alloc W o k hk⟩
theorem grown_block (W : World) (m : Nat) (o : Obj) : W.grownBy (setBlock W m o) (some m) := ⟨rfl, rfl, rfl, by simp [setBlock], fun k _ hne => setBlock_other k (fun e => hne (by rw [e])) o⟩
theorem grown_drewN (W : World) (n : Nat) (r : Option Nat) : W.grownBy (W.drewN n) r := ⟨rfl, rfl, rfl, Nat.le_refl _, fun _ _ _ => rfl⟩

theorem or_pow2 (out x : Nat) (ho : out < 512) (hx : x < 9) : bits .or .i64 (out : Int) (IntKind.i64.wrap ((2 : Int) ^ x)) = ((out ||| 2 ^ x : Nat) : Int) := by
  have := pow_small x hx
  have hw : IntKind.i64.wrap ((2 : Int) ^ x) = ((2 ^ x : Nat) : Int) := by
    rw [← pow_cast]
    generalize 2 ^ x = y at this
    rw [IntKind.wrap_i64]; omega
  rw [hw, or_i64 _ _ (by omega) (by omega)]
theorem wrap_up (r : Nat) (h : r ≤ 1000) : IntKind.i64.wrap ((r : Int) + 1) = (r : Int) + 1 := by rw [IntKind.wrap_i64]; omega
theorem wrap_sum (a b : Nat) (ha : a ≤ 3125) (hb : b ≤ 3125) : wrap64 ((a : Int) + (b : Int)) = ((a + b : Nat) : Int) ∧ IntKind.i64.wrap ((a : Int) + (b : Int)) = ((a + b : Nat) : Int) := ⟨by unfold wrap64; omega, by rw [IntKind.wrap_i64]; omega⟩
/-- What a call of the closure leaves. -/
def CntP (X : List (List Int)) (r u m : Nat) (M : List ((Int × Int) × Value)) (W : World) (e : Ending) (W' : World) : Prop :=
  e = .returned (.int .i64 (cntC (X.drop r) u : Nat)) ∧ ∃ M', MapIs enc2 W' m M' ∧ Kn X r M' ∧ SameB r M M' ∧ W.grownBy W' (some m)

/-- What the loop over a row keeps. -/
def CntI (X : List (List Int)) (row : List Int) (r u m : Nat) (M : List ((Int × Int) × Value)) (kk s : Nat) (Mc : List ((Int × Int) × Value)) : Prop :=
  Kn X (r + 1) Mc ∧ SameB r M Mc ∧ (∀ u' : Nat, u' ≠ u → get ((r : Int), (u' : Int)) Mc = get ((r : Int), (u' : Int)) M) ∧ get ((r : Int), (u : Int)) Mc = some (.int .i64 (s : Nat)) ∧ s + colS (cntC (X.drop (r + 1))) u (row.drop kk) kk = cntC (X.drop r) u ∧ m = m
theorem CntI.start {X : List (List Int)} {row : List Int} {r u m : Nat} {M : List ((Int × Int) × Value)} (hrow : X[r]? = some row) (hK : Kn X r M) : CntI X row r u m M 0 0 (put ((r : Int), (u : Int)) (.int .i64 0) M) := by
  refine ⟨fun i u' v hi hg => ?_, fun i u' hi => ?_, fun u' hu => ?_, ?_, ?_, rfl⟩
  · rw [get_put, if_neg (key_ne _ _ _ _ (.inl (by omega)))] at hg
    exact hK i u' v (by omega) hg
  · rw [get_put, if_neg (key_ne _ _ _ _ (.inl (by omega)))]
  · rw [get_put, if_neg (key_ne _ _ _ _ (.inr hu))]
  · rw [get_put, if_pos rfl]; rfl
  · have hl : r < X.length := (List.getElem?_eq_some_iff.1 hrow).1
    rw [List.drop_eq_getElem_cons hl]
    rw [List.getElem?_eq_getElem hl] at hrow
    cases hrow
    simp [cntC]
theorem CntI.done {X : List (List Int)} {row : List Int} {r u m : Nat} {M Mc : List ((Int × Int) × Value)} {s : Nat} (h : CntI X row r u m M row.length s Mc) (hK : Kn X r M) : s = cntC (X.drop r) u ∧ Kn X r Mc := by
  have hs : s = cntC (X.drop r) u := by have := h.2.2.2.2.1; rw [List.drop_length] at this; simpa [colS] using this
  refine ⟨hs, fun i u' v hi hg => ?_⟩
  by_cases hir : i = r
  · subst hir
    by_cases hu : u' = u
    · subst hu; rw [h.2.2.2.1] at hg; cases hg; rw [hs]
    · rw [h.2.2.1 u' hu] at hg; exact hK i u' v hi hg
  · exact h.1 i u' v (by omega) hg
theorem CntI.skip {X : List (List Int)} {row : List Int} {r u m : Nat} {M Mc : List ((Int × Int) × Value)} {s kk : Nat} {x : Int} (h : CntI X row r u m M kk s Mc) (hx : row[kk]? = some x) (hn : ¬ (0 < x ∧ u.testBit kk = false)) : CntI X row r u m M (kk + 1) s Mc := by
  refine ⟨h.1, h.2.1, h.2.2.1, h.2.2.2.1, ?_, rfl⟩
  have := h.2.2.2.2.1
  have hl : kk < row.length := (List.getElem?_eq_some_iff.1 hx).1
  rw [List.drop_eq_getElem_cons hl] at this
  rw [List.getElem?_eq_getElem hl] at hx
  cases hx
  rw [colS, if_neg hn, Nat.zero_add] at this
  exact this
theorem CntI.take {X : List (List Int)} {row : List Int} {r u m : Nat} {M Mc M' : List ((Int × Int) × Value)} {s kk : Nat} {x : Int} (h : CntI X row r u m M kk s Mc) (hx : row[kk]? = some x) (hn : 0 < x ∧ u.testBit kk = false) (hK : Kn X (r + 1) M') (hS : SameB (r + 1) Mc M') :
    CntI X row r u m M (kk + 1) (s + cntC (X.drop (r + 1)) (u ||| 2 ^ kk)) (put ((r : Int), (u : Int)) (.int .i64 ((s + cntC (X.drop (r + 1)) (u ||| 2 ^ kk) : Nat) : Int)) M') := by
  refine ⟨fun i u' v hi hg => ?_, fun i u' hi => ?_, fun u' hu => ?_, ?_, ?_, rfl⟩
  · rw [get_put, if_neg (key_ne _ _ _ _ (.inl (by omega)))] at hg
    exact hK i u' v hi hg
  · rw [get_put, if_neg (key_ne _ _ _ _ (.inl (by omega))), hS i u' (by omega)]; exact h.2.1 i u' hi
  · rw [get_put, if_neg (key_ne _ _ _ _ (.inr hu)), hS r u' (by omega)]; exact h.2.2.1 u' hu
  · rw [get_put, if_pos rfl]
  · have := h.2.2.2.2.1
    have hl : kk < row.length := (List.getElem?_eq_some_iff.1 hx).1
    rw [List.drop_eq_getElem_cons hl] at this
    rw [List.getElem?_eq_getElem hl] at hx
    cases hx
    rw [colS, if_pos hn] at this
    omega

set_option maxRecDepth 100000 in
set_option maxHeartbeats 8000000 in
theorem count_any (W0 : World) (X : List (List Int)) (a : Option Addr) (c t k f m : Nat) (hX : RowsAt W0 a X) (hS : Square X) (h5 : X.length ≤ 5) : ∀ (d r u : Nat) (M : List ((Int × Int) × Value)) (W : World), r + d = X.length → u < 2 ^ X.length → CW W0 X a c t k f m W → MapIs enc2 W m M → Kn X r M →
    Calls Tryz.prog 26 #[.int .i64 r, .int .i64 u, .pointer (some ⟨t, 0, none⟩), .pointer (some ⟨k, 0, none⟩), .pointer (some ⟨f, 0, none⟩)] W (CntP X r u m M W) := by
  intro d
  induction d with
  | zero =>
    intro r u M W hr hu hC hM hK
    have q0 := hC.bt.cell 0
    have hr2 : r = X.length := by omega
    subst hr2
    have HK := hid (And.intro hM hK)
    clear hC hM hK
    go_enter Tryz.func26, Tryz.ntmps26
    go_wp2_with fail
    go_ret
    exact ⟨by rw [List.drop_length]; rfl, M, HK.out.1, HK.out.2, fun _ _ _ => rfl, World.grownBy.refl _ _⟩
  | succ d ih =>
    intro r u M W hr hu hC hM hK
    have IH := hid ih
    clear ih
    have q0 := hC.bt.cell 0
    have k0 := hC.bk.cell 0
    have hrl : r < X.length := by omega
    have hrl2 : ((r : Int) == (X.length : Int)) = false := by simp; omega
    obtain ⟨row, hrow⟩ : ∃ row, X[r]? = some row := ⟨X[r], List.getElem?_eq_getElem hrl⟩
    obtain ⟨g, o, b, cr, rfl, hg, hcell, hri, hrn, hrc⟩ := hX.at r row hrow
    have C1 := hC.grown (grown_alloc W (.cells #[.int .i64 r, .int .i64 u] 53) (some m))
    have M1 := hM.alloc (.cells #[.int .i64 r, .int .i64 u] 53)
    have KB := Blk.new W #[.int .i64 r, .int .i64 u] 53
    have g1 := grown_alloc W (.cells #[.int .i64 r, .int .i64 u] 53) (some m)
    have hkm : W.heap.size ≠ m := by have := hM.lt; omega
    have lk := M1.look kt53 Tryz.underlying52 (zero3 _) ((r : Int), (u : Int)) true
    have lk2 := M1.look kt53 Tryz.underlying52 (zero3 _) ((r : Int), (u : Int)) false
    have p0 := C1.bt.cell 0
    have p1 := C1.bk.cell 0
    have p2 := KB.cell 0
    have p3 := KB.cell 1
    have HK := hid hK
    have hCh := hid hC
    clear hC hM hK
    cases hgt : get ((r : Int), (u : Int)) M with
    | some v =>
      have hv := HK.out r u v (Nat.le_refl _) hgt
      subst hv
      simp only [hgt, Option.getD_some, Option.isSome_some, if_true, enc2, Bool.false_eq_true, if_false] at lk lk2
      have H1 := hid (And.intro M1 g1)
      clear M1 g1 C1 KB hcell
      go_enter Tryz.func26, Tryz.ntmps26
      go_wp2_with fail
      go_ret
      exact ⟨rfl, M, H1.out.1, HK.out, fun _ _ _ => rfl, H1.out.2⟩
    | none =>
      simp only [hgt, Option.getD_none, Option.isSome_none, if_true, enc2] at lk
      obtain ⟨W2, hup, M2, o2, ho2⟩ := M1.store kt53 Tryz.underlying52 ((r : Int), (u : Int)) (.int .i64 0)
      simp only [enc2] at hup
      have g2 : W.grownBy W2 (some m) := g1.trans (by rw [ho2]; exact grown_block _ _ _)
      have C2 := hCh.out.grown g2
      have KB2 : Blk W2 W.heap.size #[.int .i64 r, .int .i64 u] 53 := by rw [ho2]; exact (setBlock_other _ hkm _).trans KB
      have q5 := (C2.below.cell (p := ⟨g, o + r, none⟩) hg).trans hcell
      have s0 := C2.bt.cell 0
      have s1 := C2.bk.cell 0
      have s2 := KB2.cell 0
      have s3 := KB2.cell 1
      have H2 := hid (And.intro M2 (And.intro C2 (And.intro g2 KB2)))
      clear M1 g1 C1 KB M2 C2 g2 KB2 hcell ho2 lk2
      go_enter Tryz.func26, Tryz.ntmps26
      go_wp2_with fail
      have hrn' := (hS.2 row (List.mem_of_getElem? hrow)).1
      have hrx := (hS.2 row (List.mem_of_getElem? hrow)).2
      have hN5 : row.length ≤ 5 := by omega
      have HRR := hid (And.intro hrow (And.intro hrx hrn'))
      clear hrow hrx hrn' lk hup q5 s0 s1 s2 s3 k0 q0 p0 p1 p2 p3 hgt
      go_loopw [36] (fun kv wr => ∃ (kk s : Nat) (Mc : List ((Int × Int) × Value)), kk ≤ row.length ∧ kv = .int .i64 kk ∧ Hid (MapIs enc2 wr m Mc ∧ CW W0 X (some ⟨g, o, none⟩) c t k f m wr ∧ W.grownBy wr (some m) ∧ Blk wr W.heap.size #[.int .i64 r, .int .i64 u] 53) ∧ Hid (CntI X row r u m M kk s Mc)) (fun kv _ => row.length - (intOf kv).toNat)
      case atStart => exact ⟨0, 0, _, by omega, rfl, ⟨H2.out.1, H2.out.2.1, H2.out.2.2.1, H2.out.2.2.2⟩, CntI.start HRR.out.1 HK.out⟩
      case round =>
        obtain ⟨kk, s, Mc, hkk, rfl, H3, HI⟩ := hrel
        by_cases hlt : kk < row.length
        · obtain ⟨x, hx, -⟩ := list_drop_cons row kk hlt
          obtain ⟨g2, o3, rfl, hg2, hc2⟩ := hri.at (by omega)
          have q2 := (H3.out.2.1.below.cell (p := ⟨g2, o3 + kk, none⟩) hg2).trans (hc2 kk x hx)
          have HX := hid hx
          have hx9 := HRR.out.2.1 x (List.mem_of_getElem? hx)
          have hu512 : u < 512 := by have := Nat.pow_le_pow_right (show 0 < 2 by omega) h5; omega
          have dk : decide ((kk : Int) < (row.length : Int)) = true := by simpa using hlt
          clear hc2 hx
          by_cases hx0 : 0 < x
          · have dy : decide ((0 : Int) < x) = true := by simpa using hx0
            cases hbit : u.testBit kk with
            | true =>
              have fb := free_no u kk hu512 hbit
              have HI2 := hid (HI.out.skip HX.out (by rw [hbit]; simp))
              go_wp2_with fail
              exact ⟨⟨kk + 1, s, Mc, by omega, by go_num, H3, HI2.out⟩, by simp [intOf]; omega⟩
            | false =>
              have fb := free_yes u kk hu512 hbit
              have hop := or_pow u kk hu512 (by omega)
              have hop2 := or_pow2 u kk hu512 (by omega)
              have hkl : kk < X.length := by rw [← HRR.out.2.2]; exact hlt
              have hu2 : u ||| 2 ^ kk < 2 ^ X.length := Nat.or_lt_two_pow hu (Nat.pow_lt_pow_right (by omega) hkl)
              have hcd := H3.out.2.1.grown (grown_drewN wr 1 (some m))
              have C := IH.out (r + 1) (u ||| 2 ^ kk) Mc wr.drew (by omega) hu2 hcd H3.out.1.drew HI.out.1
              have hcb : cntC (X.drop (r + 1)) (u ||| 2 ^ kk) ≤ 3125 := by
                have h1 := cntC_le (X.drop (r + 1)) (u ||| 2 ^ kk) (fun row hr => by have := (hS.2 row (List.mem_of_mem_drop hr)).1; omega)
                have h2 : 5 ^ (X.drop (r + 1)).length ≤ 5 ^ 5 := Nat.pow_le_pow_right (by omega) (by rw [List.length_drop]; omega)
                omega
              have hsb : s ≤ 3125 := by
                have h1 := cntC_le (X.drop r) u (fun row hr => by have := (hS.2 row (List.mem_of_mem_drop hr)).1; omega)
                have h2 : 5 ^ (X.drop r).length ≤ 5 ^ 5 := Nat.pow_le_pow_right (by omega) (by rw [List.length_drop]; omega)
                have h3 := HI.out.2.2.2.2.1
                omega
              obtain ⟨u2, hu2e⟩ : ∃ u2, u2 = u ||| 2 ^ kk := ⟨_, rfl⟩
              rw [← hu2e] at hop hop2 hu2 C hcb
              obtain ⟨n, hn⟩ : ∃ n, n = cntC (X.drop (r + 1)) u2 := ⟨_, rfl⟩
              unfold CntP at C
              rw [← hn] at C hcb
              have hrw : ((r + 1 : Nat) : Int) = (r : Int) + 1 := by omega
              rw [hrw] at C
              have CH := hid C
              have HN := hid (And.intro hn hu2e)
              have f0 := H3.out.2.1.bf.cell 0
              have hrw1 := wrap_up r (by omega)
              clear C hcd hrw hn hu2e hu2
              go_wp2_with fail
              go_region_with (go_at_call 26; refine CH.out.mono ?_; rintro e w5 ⟨rfl, M5, hM5, hK5, hS5, hg5⟩)
              have H5 := hid (show MapIs enc2 w5.drew m M5 ∧ CW W0 X (some ⟨g, o, none⟩) c t k f m w5.drew ∧ W.grownBy w5.drew (some m) ∧ Blk w5.drew W.heap.size #[.int .i64 r, .int .i64 u] 53 from
                ⟨hM5, (H3.out.2.1.grown (grown_drewN wr 1 (some m))).grown (hg5.trans (grown_drewN w5 1 (some m))), (H3.out.2.2.1.trans (grown_drewN wr 1 (some m))).trans (hg5.trans (grown_drewN w5 1 (some m))),
                  (hg5.block _ H3.out.2.2.2.lt (fun e => hkm (by cases e; rfl))).trans H3.out.2.2.2⟩)
              have hget := hS5 r u (by omega)
              rw [HI.out.2.2.2.1] at hget
              obtain ⟨w6, st, l6, e6, ⟨o6, ho6⟩, M6, hg6, hst⟩ := H5.out.1.bump kt53 Tryz.underlying52 zero3 ((r : Int), (u : Int))
              obtain ⟨w7, e7, M7, o7, ho7⟩ := hst (.int .i64 ((s + n : Nat) : Int))
              rw [Int.natCast_add] at e7
              have L5 := H5.out.1.look kt53 Tryz.underlying52 (zero3 _) ((r : Int), (u : Int)) false
              have L6 := M6.look kt53 Tryz.underlying52 (zero3 _) ((r : Int), (u : Int)) false
              rw [hget] at e6 hg6 L5
              rw [hg6] at L6
              simp only [Option.getD_some, enc2, Bool.false_eq_true, if_false] at e6 L5 L6
              obtain ⟨z1, z2⟩ := wrap_sum s n hsb hcb
              rw [Int.natCast_add] at z1 z2
              have v1 := H5.out.2.1.bk.cell 0
              have v2 := H5.out.2.2.2.cell 0
              have v3 := H5.out.2.2.2.cell 1
              have g6 : w5.drew.grownBy w6 (some m) := by rw [ho6]; exact grown_block _ _ _
              have y1 := (H5.out.2.1.grown g6).bk.cell 0
              have K6 : Blk w6 W.heap.size #[.int .i64 r, .int .i64 u] 53 := (g6.block _ H5.out.2.2.2.lt (fun e => hkm (by cases e; rfl))).trans H5.out.2.2.2
              have y2 := K6.cell 0
              have y3 := K6.cell 1
              have g7 : w5.drew.grownBy w7 (some m) := g6.trans (by rw [ho7]; exact grown_block _ _ _)
              have H7 := hid (show MapIs enc2 w7 m (put ((r : Int), (u : Int)) (.int .i64 ((s + n : Nat) : Int)) M5) ∧ CW W0 X (some ⟨g, o, none⟩) c t k f m w7 ∧ W.grownBy w7 (some m) ∧ Blk w7 W.heap.size #[.int .i64 r, .int .i64 u] 53 from
                ⟨M7, H5.out.2.1.grown g7, H5.out.2.2.1.trans g7, (g7.block _ H5.out.2.2.2.lt (fun e => hkm (by cases e; rfl))).trans H5.out.2.2.2⟩)
              have HI2 : Hid (CntI X row r u m M (kk + 1) (s + n) (put ((r : Int), (u : Int)) (.int .i64 ((s + n : Nat) : Int)) M5)) := by
                have := HI.out.take HX.out ⟨hx0, hbit⟩ hK5 hS5
                rw [← HN.out.2, ← HN.out.1] at this
                exact this
              clear hM5 hK5 hS5 hg5 hget hst M6 hg6 M7 ho6 ho7 g6 K6 g7 CH f0 q2
              go_wp2_with fail
              go_region
              all_goals (go_wp2_with fail; exact ⟨⟨kk + 1, s + n, _, by omega, by go_num, H7, HI2⟩, by simp [intOf]; omega⟩)
          · have dy : decide ((0 : Int) < x) = false := by simpa using hx0
            have HI2 := hid (HI.out.skip HX.out (fun h => hx0 h.1))
            go_wp2_with fail
            exact ⟨⟨kk + 1, s, Mc, by omega, by go_num, H3, HI2.out⟩, by simp [intOf]; omega⟩
        · have hke : kk = row.length := by omega
          subst hke
          obtain ⟨hs, hKn⟩ := HI.out.done HK.out
          have lk := H3.out.1.look kt53 Tryz.underlying52 (zero3 _) ((r : Int), (u : Int)) false
          rw [HI.out.2.2.2.1] at lk
          simp only [Option.getD_some, enc2, Bool.false_eq_true, if_false] at lk
          rw [hs] at lk
          have s1 := H3.out.2.1.bk.cell 0
          have s2 := H3.out.2.2.2.cell 0
          have s3 := H3.out.2.2.2.cell 1
          have HKn := hid hKn
          clear hs hKn
          go_wp2_with fail
          go_ret
          exact ⟨rfl, Mc, H3.out.1, HKn.out, HI.out.2.1, H3.out.2.2.1⟩

end Go.Proofs.YtkmpdcckgibkhaaGreat
