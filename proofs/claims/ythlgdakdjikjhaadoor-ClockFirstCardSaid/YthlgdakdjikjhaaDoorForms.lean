/-
  Shared words for the walks of the laws: forms of results.
-/
import Derived.Test.YthlgdakdjikjhaaDoorX
import Derived.Test.YthlgdakdjikjhaaDoorS
import Derived.Test.YthlgdakdjikjhaaDoorMeet
import Derived.Test.YthlgdakdjikjhaaDoorSteps
namespace Go.Proofs.YthlgdakdjikjhaaDoor
open Go.RowKit Go.ChangeMaps

theorem reset_form (r : Option Ent) : ∃ (s : List UInt8) (q e : Int), resetV r = .tuple #[.string (mkS s), .int .i64 q, .int .i64 e] ∧ ∀ x, r = some x → s = x.word ∧ e = 0 ∧ q = lowN x.set := by
  cases r with
  | none => exact ⟨[], 0, 6, rfl, fun x h => by cases h⟩
  | some x => exact ⟨x.word, _, 0, rfl, fun y h => by cases h; exact ⟨rfl, rfl, rfl⟩⟩
theorem merge_form (r : Option Ent) : ∃ (s : List UInt8) (e : Int), mergeV r = .tuple #[.string (mkS s), .int .i64 e] ∧ ∀ x, r = some x → s = x.word ∧ e = 0 := by
  cases r with
  | none => exact ⟨[], 6, rfl, fun x h => by cases h⟩
  | some x => exact ⟨x.word, 0, rfl, fun y h => by cases h; exact ⟨rfl, rfl⟩⟩
theorem isRows_below {w w' : World} {a : Option Addr} {len cap : Nat} {X : List (List Int)} (h : IsRows w a len cap X) (hb : Below w.heap.size w w') : IsRows w' a len cap X := by
  obtain ⟨h1, h2, h3, h4, h5⟩ := h
  exact ⟨h1, h2, h3, h4.below hb (Nat.le_refl _), h5⟩
theorem num_single (P : Nat) : numL [(P : Int)] = 2 ^ P := by
  show 0 + 2 ^ ((P : Int).toNat) = 2 ^ P
  rw [Nat.zero_add, Int.toNat_natCast]
theorem set_single {n P : Nat} (h : P < n) : setB n [(P : Int)] = true := by
  show (okQ n none (P : Int) && true) = true
  rw [Bool.and_true]
  exact (okQ_iff _ _ _).2 ⟨by omega, by omega, fun x hx => by cases hx⟩
theorem list_ne {x : Nat} (h : x < 512) (h0 : x ≠ 0) : castL (listN x) ≠ [] := by
  intro e
  have h1 := sizeN_pos x h h0
  have h2 := castL_len (listN x)
  rw [e] at h2
  simp [sizeN] at h1
  simp at h2
  omega

theorem wordB_ok {k : Nat} {u : List UInt8} (h : u.all (letB k) = true) (hl : u.length ≤ 1000) : wordB k u = true := by
  unfold wordB
  rw [h, decide_eq_true hl]; rfl
/-- 'Image' of a set that is one, under a word that is one. -/
theorem Image_ok (a : Option Addr) (c : Nat) (M : List (List Nat)) (a1 : Option Addr) (c1 : Nat) (L : List Nat) (u : List UInt8) (w : World) (hM : OkM M) (hr : RowsAt w a (intM M)) (h1 : Ints w a1 (castL L)) (hL : L.length ≤ 9) (hs : setB (nst M) (castL L) = true) (hu : u.all (letB M.length) = true) (hul : u.length ≤ 1000) (hG : Glob w) :
    Calls Tryd.prog 35 #[.slice a M.length c, .slice a1 L.length c1, .string (mkS u)] w fun e w' => ∃ a' c', e = .returned (.tuple #[.slice a' (listN (imgW M (numL (castL L)) u)).length c', .int .i64 0]) ∧ Hid (Ints w' a' (castL (listN (imgW M (numL (castL L)) u)))) ∧ Hid (w'.ownsRow w.heap.size 3 1 (.slice a' (listN (imgW M (numL (castL L)) u)).length c') (listN (imgW M (numL (castL L)) u)).length ((listN (imgW M (numL (castL L)) u)).map natV)) ∧ Below w.heap.size w w' := by
  have hmx : 1000 ≤ maxLen := by decide
  have h := Image_any a c M a1 c1 (castL L) (mkS u) w hM hr h1 (by rw [castL_len]; omega) (by rw [mkS_size]; omega) hG
  rw [castL_len, mkS_data, hs, wordB_ok hu hul] at h
  refine h.mono ?_
  rintro e w' (⟨-, a', c', rfl, ho, hb⟩ | ⟨h, -⟩)
  · exact ⟨a', c', rfl, retN_ints ho, ho, hb⟩
  · simp at h
end Go.Proofs.YthlgdakdjikjhaaDoor
