/-
  Walks: the shortest part with the sum zero; the first part of n numbers.
-/
import Derived.Test.YtkmpdcckgibkhaaGreatVi
import Derived.Test.YtkmpdcckgibkhaaGreatB
namespace Go.Proofs.YtkmpdcckgibkhaaGreat
open Go.RowKit Go.ChangeMaps

theorem PartP.up {w w1 w' : World} {n : Int} {L : List Int} {many : Nat} {s : Int} {v : Value} (h : PartP w1 n L many s v w') (hb : Below w.heap.size w w1) : PartP w n L many s v w' := by
  obtain ⟨P, p1, p2, p3, p4, p5⟩ := h
  exact ⟨P, own_base p1 hb.size, p2, p3, p4, hb.trans (p5.mono hb.size)⟩
theorem ZeroP.up {w w1 w' : World} {n : Int} {L : List Int} {v : Value} (h : ZeroP w1 n L v w') (hb : Below w.heap.size w w1) : ZeroP w n L v w' := by
  obtain ⟨m, h1, h2, h3, h4⟩ := h
  exact ⟨m, h1, h2, h3, h4.up hb⟩

set_option maxRecDepth 100000 in
set_option maxHeartbeats 4000000 in
theorem zero14 (n : Int) (L : List Int) (m0 : Nat) (a : Option Addr) (c : Nat) (a2 : Option Addr) (c2 : Nat) (w : World) (hi : Ints w a [n]) (hrw : RowsAt w a2 (L.map fun x => [x])) (hm0 : 1 ≤ m0) (hr : Rch n L m0 0) (hl : L.length ≤ 60) (hn : 2 ≤ n) (hn2 : n ≤ 24) (hL : ∀ x ∈ L, 0 ≤ x ∧ x < n) :
    Calls Tryz.prog 14 #[.slice a 1 c, .slice a2 L.length c2] w fun e w' => ∃ v, e = .returned (.tuple #[v, .int .i64 0]) ∧ ZeroP w n L v w' := by
  have C1 := hid (newGroup_one n hn hn2 a c w hi)
  have HRW := hid hrw
  have HR := hid hr
  have HL := hid hL
  clear hi hrw hr hL
  go_enter Tryz.func14, Tryz.ntmps14
  go_wp2_with fail
  refine C1.out.mono ?_
  rintro e w1 ⟨rfl, hb1⟩
  have HB := hid hb1
  clear hb1
  go_wp2_with fail
  have hb2 := hid (And.intro (HB.out.alloc HB.out.size (.cells #[.int .i64 n, .int .i64 1, .int .i64 1] 59)) (Blk.new w1 #[.int .i64 n, .int .i64 1, .int .i64 1] 59))
  generalize w1.alloc (.cells #[.int .i64 n, .int .i64 1, .int .i64 1] 59) = w2 at *
  generalize w1.heap.size = g at *
  refine (elements34 n a2 c2 L w2 (HRW.out.below hb2.out.1 (Nat.le_refl _)) hl hn hn2 HL.out).mono ?_
  rintro e w3 ⟨v3, rfl, he3, hb3⟩
  have kg := hb2.out.2.below hb3 hb2.out.2.lt
  have g0 := kg.cell 0
  have g1 := kg.cell 1
  have g2 := kg.cell 2
  have H3 := hid (And.intro he3 (hb2.out.1.trans (hb3.mono hb2.out.1.size)))
  clear he3 hb3 kg
  go_wp2_with fail
  refine (shortest35 n v3 L m0 w3 H3.out.1 hm0 HR.out hl hn hn2 HL.out).mono ?_
  rintro e w4 ⟨v4, rfl, hz⟩
  have HZ := hid hz
  clear hz
  go_wp2_with fail
  go_ret2
  exact ⟨v4, rfl, HZ.out.up H3.out.2⟩

end Go.Proofs.YtkmpdcckgibkhaaGreat
