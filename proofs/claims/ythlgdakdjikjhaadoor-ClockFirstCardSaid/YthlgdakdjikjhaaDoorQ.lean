/-
  Walks: the reference's smallest image, and the word that leads two states to one.
-/
import Derived.Test.YthlgdakdjikjhaaDoorP
import Derived.Deep.RegionWith
namespace Go.Proofs.YthlgdakdjikjhaaDoor
open Go.RowKit Go.ChangeMaps
attribute [local go_sem] Oper.semAt_some

/-- How many states the image has that was reached as number j. -/
def szI (L : List Ent) (j : Nat) : Nat := sizeN ((L.map (·.set)).getD j 0)
theorem szI_at {L : List Ent} {j : Nat} {x : Ent} (h : L[j]? = some x) : szI L j = sizeN x.set := by
  unfold szI; rw [List.getD, List.getElem?_map, h]; rfl
/-- The first smallest one of the first i images. -/
structure MinTo (L : List Ent) (k i : Nat) : Prop where
  le : ∀ j, j < i → szI L k ≤ szI L j
  lt : ∀ j, j < k → szI L k < szI L j
theorem MinTo.start (L : List Ent) : MinTo L 0 0 := ⟨fun j h => by omega, fun j h => by omega⟩
theorem MinTo.new {L : List Ent} {k i : Nat} (h : MinTo L k i) (hs : szI L i < szI L k) : MinTo L i (i + 1) :=
  ⟨fun j hj => by
    rcases Nat.lt_or_ge j i with h1 | h1
    · have := h.le j h1; omega
    · have : j = i := by omega
      subst this; exact Nat.le_refl _, fun j hj => by have := h.le j hj; omega⟩
theorem MinTo.old {L : List Ent} {k i : Nat} (h : MinTo L k i) (hs : ¬ szI L i < szI L k) : MinTo L k (i + 1) :=
  ⟨fun j hj => by
    rcases Nat.lt_or_ge j i with h1 | h1
    · exact h.le j h1
    · have : j = i := by omega
      subst this; omega, h.lt⟩
/-- The first image with the fewest states. -/
def ShrE (M : List (List Nat)) (s : Nat) (x : Ent) : Prop := firstE M s (hasB (sizeN x.set)) = some x ∧ ∀ y ∈ reach M s, sizeN x.set ≤ sizeN y.set
theorem MinTo.shr {M : List (List Nat)} {s k : Nat} {x : Ent} (h : MinTo (reach M s) k (reach M s).length) (hx : (reach M s)[k]? = some x) : ShrE M s x := by
  have hk := (List.getElem?_eq_some_iff.1 hx).1
  have hx' := (List.getElem?_eq_some_iff.1 hx).2
  refine ⟨?_, fun y hy => ?_⟩
  · unfold firstE
    rw [List.find?_eq_some_iff_getElem]
    refine ⟨by simp [hasB], k, hk, hx', fun j hj => ?_⟩
    have h1 := h.lt j hj
    rw [szI_at hx, szI_at (List.getElem?_eq_getElem (show j < (reach M s).length by omega))] at h1
    simp only [hasB, Bool.not_eq_true', beq_eq_false_iff_ne]
    omega
  · obtain ⟨j, hj, rfl⟩ := List.getElem_of_mem hy
    have h1 := h.le j hj
    rw [szI_at hx, szI_at (List.getElem?_eq_getElem hj)] at h1
    exact h1

set_option maxRecDepth 100000 in
set_option maxHeartbeats 4000000 in
theorem refShrink_any (a : Option Addr) (c : Nat) (M : List (List Nat)) (s : Nat) (w : World) (hM : OkM M) (hr : RowsAt w a (intM M)) (hs : s < 2 ^ nst M) :
    Calls Tryd.prog 47 #[.slice a M.length c, .int .i64 s] w fun e w' => ∃ x, e = .returned (.tuple #[.int .i64 (sizeN x.set), .string (mkS x.word), .int .i64 x.set]) ∧ Hid (ShrE M s x) ∧ Below w.heap.size w w' := by
  have R := hid (refReached_any a c M s w hM hr hs)
  have hg := reach_good hM hs
  have hset : ∀ (i : Nat) (x : Ent), (reach M s)[i]? = some x → x.set < 512 := fun i x h => Nat.lt_of_lt_of_le (hg.lt x (List.mem_of_getElem? h)) (Nat.pow_le_pow_right (n := 2) (by omega) hM.n9)
  have hpos := hg.pos
  have hl5 := hg.len hM
  have HSET := hid hset
  have HSHR := hid (fun (k : Nat) (x : Ent) (h : MinTo (reach M s) k (reach M s).length) (hx : (reach M s)[k]? = some x) => h.shr hx)
  generalize reach M s = L at *
  clear hM hr hset hg hs
  go_enter Tryd.func47, Tryd.ntmps47
  go_wp2_with fail
  refine R.out.mono ?_
  rintro e w1 ⟨a1, c1, a2, c2, rfl, ho1, ho2, hb1⟩
  obtain ⟨g1, c1', he1, hgb1, hg1, hcell1⟩ := own_at ho1.out hpos
  obtain ⟨g2, c2', he2, hgb2, hg2, hcell2⟩ := own_at ho2.out hpos
  cases he1
  cases he2
  have HB1 := hid hb1
  have HC1 := hid hcell1
  have HC2 := hid hcell2
  clear ho1 ho2 hb1 hcell1 hcell2
  go_wp2_with fail
  go_loopw [9, 10] (fun kv iv W => ∃ k i : Nat, kv = .int .i64 k ∧ iv = .int .i64 i ∧ i ≤ L.length ∧ k < L.length ∧ Hid (MinTo L k i) ∧ Below w1.heap.size w1 W) (fun _ iv _ => L.length - (intOf iv).toNat)
  case atStart => exact ⟨0, 0, rfl, rfl, by omega, hpos, MinTo.start L, Below.refl _ _⟩
  case round =>
    obtain ⟨k, i, rfl, rfl, hi, hk, HM, hB⟩ := hrel
    obtain ⟨y, hy⟩ : ∃ y, L[k]? = some y := ⟨_, List.getElem?_eq_getElem hk⟩
    have hy5 := HSET.out k y hy
    have qy : ∀ W, Below w1.heap.size w1 W → W.cell? ⟨g1, k, none⟩ = some (.int .i64 (y.set : Int)) := fun W hb => (hb.cell (p := ⟨g1, k, none⟩) hg1).trans (HC1.out k (natV y.set) (by rw [List.getElem?_map, hy]; rfl))
    by_cases hlt : i < L.length
    · obtain ⟨x, hx⟩ : ∃ x, L[i]? = some x := ⟨_, List.getElem?_eq_getElem hlt⟩
      have hx5 := HSET.out i x hx
      have qx : ∀ W, Below w1.heap.size w1 W → W.cell? ⟨g1, i, none⟩ = some (.int .i64 (x.set : Int)) := fun W hb => (hb.cell (p := ⟨g1, i, none⟩) hg1).trans (HC1.out i (natV x.set) (by rw [List.getElem?_map, hx]; rfl))
      have C := hid (fun (z : Nat) (W : World) (hz : z < 512) (hW : Below w1.heap.size w1 W) => (refSize_any z W hz).mono (R' := fun e w' => e = .returned (.int .i64 (sizeN z)) ∧ Below w1.heap.size w1 w' ∧ w'.cell? ⟨g1, k, none⟩ = some (.int .i64 (y.set : Int)) ∧ w'.cell? ⟨g1, i, none⟩ = some (.int .i64 (x.set : Int)))
        fun e w' h => ⟨h.1, hW.trans (h.2.mono hW.size), qy _ (hW.trans (h.2.mono hW.size)), qx _ (hW.trans (h.2.mono hW.size))⟩)
      have q1 := qy wr hB
      have q2 := qx wr hB
      have e1 := szI_at hx
      have e2 := szI_at hy
      have HBW := hid hB
      have HE1 := hid e1
      have HE2 := hid e2
      clear qy qx hx hy e1 e2 hB
      go_wp2_with fail
      go_region_with (go_at_call 28; go_must (refine (C.out _ _ ?_ ?_).mono ?_); (first | exact hx5 | exact hy5); (first | exact hbz | exact hbz.drew | exact HBW.out | exact HBW.out.drew); rintro e wz ⟨rfl, hbz, qa, qb⟩)
      all_goals
        have HBZ := hid hbz
        clear hbz qa qb q1 q2 C
        by_cases hsz : sizeN x.set < sizeN y.set
        · have d1 : decide ((sizeN x.set : Int) < (sizeN y.set : Int)) = true := decide_eq_true (by omega)
          have hm := HM.out.new (by rw [HE1.out, HE2.out]; exact hsz)
          have HM2 := hid hm
          clear hm
          go_wp2_with fail
          exact ⟨⟨i, i + 1, rfl, by go_num, by omega, hlt, HM2, HBZ.out⟩, by simp [intOf]; omega⟩
        · have d1 : decide ((sizeN x.set : Int) < (sizeN y.set : Int)) = false := decide_eq_false (by omega)
          have hm := HM.out.old (by rw [HE1.out, HE2.out]; exact hsz)
          have HM2 := hid hm
          clear hm
          go_wp2_with fail
          exact ⟨⟨k, i + 1, rfl, by go_num, by omega, hk, HM2, HBZ.out⟩, by simp [intOf]; omega⟩
    · have hil : i = L.length := by omega
      subst hil
      have hsh := HSHR.out k y HM.out hy
      have C := hid (fun (W : World) (hW : Below w1.heap.size w1 W) => (refSize_any y.set W hy5).mono (R' := fun e w' => e = .returned (.int .i64 (sizeN y.set)) ∧ Below w1.heap.size w1 w' ∧ w'.cell? ⟨g1, k, none⟩ = some (.int .i64 (y.set : Int)) ∧ w'.cell? ⟨g2, k, none⟩ = some (.string (mkS y.word)))
        fun e w' h => ⟨h.1, hW.trans (h.2.mono hW.size), qy _ (hW.trans (h.2.mono hW.size)), ((hW.trans (h.2.mono hW.size)).cell (p := ⟨g2, k, none⟩) hg2).trans (HC2.out k (wordV y) (by rw [List.getElem?_map, hy]; rfl))⟩)
      have q1 := qy wr hB
      have q2 : wr.cell? ⟨g2, k, none⟩ = some (.string (mkS y.word)) := (hB.cell (p := ⟨g2, k, none⟩) hg2).trans (HC2.out k (wordV y) (by rw [List.getElem?_map, hy]; rfl))
      have HBW := hid hB
      have HSH := hid hsh
      clear qy hy hB hsh
      go_wp2_with fail
      go_region_with (go_at_call 28; go_must (refine (C.out _ ?_).mono ?_); (first | exact HBW.out | exact HBW.out.drew); rintro e wz ⟨rfl, hbz, qa, qb⟩)
      all_goals
        have HBZ := hid (HB1.out.trans ((show Below w1.heap.size w1 _ from hbz).mono HB1.out.size))
        clear hbz qa qb q1 q2 C
        go_wp2_with fail
        refine bodyPost_ret (results_tmp3 rfl _ _ _) rfl ?_
        exact ⟨y, rfl, HSH, HBZ.out⟩
end Go.Proofs.YthlgdakdjikjhaaDoor
