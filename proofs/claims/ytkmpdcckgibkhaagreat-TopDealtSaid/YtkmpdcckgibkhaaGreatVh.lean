/-
  Walks: the first part with a sum.
-/
import Derived.Test.YtkmpdcckgibkhaaGreatVg
namespace Go.Proofs.YtkmpdcckgibkhaaGreat
open Go.RowKit Go.ChangeMaps

/-- A part that was found. -/
def PartP (w : World) (n : Int) (L : List Int) (many : Nat) (s : Int) (v : Value) (w' : World) : Prop :=
  ∃ P : List Nat, w'.ownsRow w.heap.size 3 1 v P.length ((P.map fun d => ((d : Nat) : Int)).map (Value.int .i64)) ∧ P.length = many ∧ Asc L.length 0 P ∧ sumAt L P % n = s ∧ Below w.heap.size w w'

theorem own_base {w : World} {B B' e : Nat} {k : Nat} {v : Value} {n : Nat} {xs : List Value} (h : w.ownsRow B e k v n xs) (hB : B' ≤ B) : w.ownsRow B' e k v n xs := by
  refine ⟨h.1, ?_⟩
  rcases h.2 with h1 | ⟨g, cap, cur, h1, h2, h3, h4, h5, h6, h7⟩
  · exact .inl h1
  · exact .inr ⟨g, cap, cur, h1, Nat.le_trans hB h2, h3, h4, h5, h6, h7⟩

set_option maxRecDepth 100000 in
set_option maxHeartbeats 4000000 in
theorem part31 (n : Int) (v : Value) (L : List Int) (b : Nat) (f : Nat → Value) (B0 many : Nat) (s : Int) (w : World) (hv : ElsAt w v L) (hb : Blk w b (rowW f (L.length + 1)) 113) (hm : Maps n L f 0 w B0) (hr : Rch n L many s) (hl : L.length ≤ 60) (hn : 2 ≤ n) (hn2 : n ≤ 24) (hL : ∀ x ∈ L, 0 ≤ x ∧ x < n) :
    Calls Tryz.prog 31 #[grpV n, v, .slice (some ⟨b, 0, none⟩) (L.length + 1) (L.length + 1), .agg #[.int .i64 many, .int .i64 s, .int .i64 0]] w fun e w' => ∃ v, e = .returned v ∧ PartP w n L many s v w' := by
  obtain ⟨a, c, rfl, hva, hlc, hca⟩ := hv
  have hrg := hr.range (by omega)
  obtain ⟨W0, hW0⟩ : ∃ W0, W0 = (((w.alloc (.cells #[.int .i64 n, .int .i64 1, .int .i64 1] 59)).alloc (.cells #[.slice a L.length c] 60)).alloc (.cells #[.slice (some ⟨b, 0, none⟩) (L.length + 1) (L.length + 1)] 62)).alloc (.cells #[.int .i64 many, .int .i64 s, .int .i64 0] 65) := ⟨_, rfl⟩
  have hsz : W0.heap.size = w.heap.size + 1 + 1 + 1 + 1 := by rw [hW0]; simp
  have hB : Below w.heap.size w W0 := by
    rw [hW0]
    exact ((((Below.refl _ w).alloc (Nat.le_refl _) _).alloc (by simp) _).alloc (by simp; omega) _).alloc (by simp; omega) _
  have k1 : Blk W0 w.heap.size #[.int .i64 n, .int .i64 1, .int .i64 1] 59 := by rw [hW0]; exact (((Blk.new w _ _).alloc _).alloc _).alloc _
  have k2 : Blk W0 (w.heap.size + 1) #[.slice a L.length c] 60 := by rw [hW0]; exact ((Blk.mk' (by simp) rfl).alloc _).alloc _
  have k3 : Blk W0 (w.heap.size + 1 + 1) #[.slice (some ⟨b, 0, none⟩) (L.length + 1) (L.length + 1)] 62 := by rw [hW0]; exact (Blk.mk' (by simp) rfl).alloc _
  have k4 : Blk W0 (w.heap.size + 1 + 1 + 1) #[.int .i64 many, .int .i64 s, .int .i64 0] 65 := by rw [hW0]; exact Blk.mk' (by simp) rfl
  have hS : TS W0 n L w.heap.size (w.heap.size + 1) (w.heap.size + 1 + 1) b W0.heap.size a c f := by
    refine ⟨k1, k2, k3, hb.below hB hb.lt, fun j hj => ?_, ?_, ?_⟩
    · obtain ⟨bm, M, h1, h2, h3, h4⟩ := hm j (Nat.zero_le _) hj
      have := h3.lt
      exact ⟨bm, M, h1, by omega, h3.below hB this, h4⟩
    · rcases hva with h | ⟨g, o, rfl, hg, hc⟩
      · left
        have := elF_len L
        rw [h] at this
        exact List.eq_nil_of_length_eq_zero (by simp at this; omega)
      · refine .inr ⟨g, o, rfl, by omega, fun i u hu => (hB.cell (p := ⟨g, o + i, none⟩) hg).trans (hc i u hu)⟩
    · have := hb.lt
      omega
  rw [show grpV n = .agg #[.int .i64 n, .int .i64 1, .int .i64 1] from rfl]
  rw [hsz] at hS
  have hT : TK W0 w.heap.size (w.heap.size + 1) (w.heap.size + 1 + 1) (w.heap.size + 1 + 1 + 1 + 1) (.slice none 0 0) [] ((W0.alloc (.cells #[.slice none 0 0] 24)).alloc (.cells #[.func (.func 61) #[] #[.pointer (some ⟨w.heap.size, 0, none⟩), .pointer (some ⟨w.heap.size + 1, 0, none⟩), .pointer (some ⟨w.heap.size + 1 + 1, 0, none⟩), .pointer (some ⟨w.heap.size + 1 + 1 + 1 + 1, 0, none⟩), .pointer (some ⟨w.heap.size + 1 + 1 + 1 + 1 + 1, 0, none⟩)]] 111)) := by
    have e := hsz
    refine ⟨((Below.refl _ W0).alloc (by omega) _).alloc (by simp; omega) _, (Blk.mk' (by omega) rfl).alloc _, Blk.mk' (by simp; omega) rfl, ⟨rfl, .inl ⟨rfl, rfl⟩⟩, by simp; omega⟩
  have C := take61 W0 n L _ _ _ b _ a c f hS hl hn hn2 hL many 0 s (.slice none 0 0) [] _ (by omega) (by simp; have := hrg.2.2; omega) (by simpa using hr) hT
  have HS := hid (And.intro C (And.intro hsz (And.intro hB k1)))
  clear hS hB k1 k2 k3 k4 C hT
  go_enter Tryz.func31, Tryz.ntmps31
  go_wp2_with fail
  rw [← hW0]
  refine HS.out.1.mono ?_
  rintro e w8 ⟨rfl, v8, P, hT8, hP8, hA8, hS8⟩
  have c0 := hT8.2.1.cell 0
  have HE := hid (And.intro hT8 (And.intro hP8 (And.intro hA8 hS8)))
  clear hT8 hP8 hA8 hS8
  go_wp2_with fail
  go_ret
  obtain ⟨hT8, hP8, hA8, hS8⟩ := HE.out
  obtain ⟨-, hsz2, hB2, -⟩ := HS.out
  have hw1 : w.heap.size ≤ W0.heap.size := hB2.size
  have hw2 : w.heap.size ≤ w.heap.size + 1 + 1 + 1 + 1 := by omega
  have hw3 : w.heap.size ≤ w.heap.size + 1 + 1 + 1 + 1 + 2 := by omega
  refine ⟨v8, rfl, P, ?_, hP8, hA8, hS8, hB2.trans (hT8.1.mono hw2)⟩
  have := hT8.2.2.2.1
  rw [List.nil_append] at this
  exact own_base this hw3

end Go.Proofs.YtkmpdcckgibkhaaGreat
