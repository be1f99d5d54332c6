/- The walk of FramePuts: it tells true. -/
import Derived.Test.YthifnnogpcgjpaaFrm
import Derived.Test.YthifnnogpcgjpaaRow
namespace Go.Proofs.Ythifnnogpcgjpaa
open Go.RowKit
set_option linter.unusedSimpArgs false

set_option maxHeartbeats 1000000 in
theorem puts_walk (k f : Int) (b : ByteArray) (n : Int) (w : World) :
    Calls Try.prog 3 #[.agg #[.int .i64 k, .int .i64 f, .string b], .int .i64 n] w (Tells w true) := by
  have C1 := fun w => put_c k f b w
  have C2 := fun w => refput_c k f b w
  generalize putS k f b = s at *
  generalize putE k f b.size = x at *
  have D1 := Lib.hid C1
  have D2 := Lib.hid C2
  clear C1 C2
  go_enter Try.func3, Try.ntmps3
  go_wp2_with fail
  generalize hw1 : w.alloc (.cells #[.int .i64 k, .int .i64 f, .string b] 23) = w1
  have hB : Blk w1 w.heap.size 23 #[.int .i64 k, .int .i64 f, .string b] := by rw [← hw1]; exact Blk.new _ _ _
  have hbel : Below w.heap.size w w1 := by rw [← hw1]; exact (Below.refl _ _).alloc (Nat.le_refl _) _
  have hs1 : w.heap.size < w1.heap.size := by rw [← hw1]; simp
  clear hw1
  refine (D1.out _).mono ?_
  rintro e w2 ⟨rfl, hb2⟩
  have hB2 := hB.below hb2 hB.lt
  have r0 : w2.cell? ⟨w.heap.size, 0, none⟩ = some (.int .i64 k) := by simpa using hB2.cell 0
  have r1 : w2.cell? ⟨w.heap.size, 1, none⟩ = some (.int .i64 f) := by simpa using hB2.cell 1
  have r2 : w2.cell? ⟨w.heap.size, 2, none⟩ = some (.string b) := by simpa using hB2.cell 2
  clear hB hB2
  go_wp2_with fail
  refine (D2.out _).mono ?_
  rintro e w3 ⟨rfl, hb3⟩
  clear r0 r1 r2
  go_wp2_with fail
  refine (cost_c n _).mono ?_
  rintro e w' ⟨rfl, rfl⟩
  go_wp2_with fail
  refine (refcost_c n _).mono ?_
  rintro e w' ⟨rfl, rfl⟩
  go_wp2_with fail
  refine (asks_c n _).mono ?_
  rintro e w' ⟨rfl, rfl⟩
  go_wp2_with fail
  refine (refasks_c n _).mono ?_
  rintro e w' ⟨rfl, rfl⟩
  go_wp2_with fail
  refine (awake5_c _).mono ?_
  rintro e w4 ⟨rfl, hb4⟩
  go_wp2_with fail
  go_ret
  exact ⟨rfl, below_step (below_step (below_step hbel (Nat.le_refl _) hb2) (Nat.le_refl _) hb3) (Nat.le_refl _) hb4⟩
end Go.Proofs.Ythifnnogpcgjpaa
