/- The walk of FeedNone: it tells true. -/
import Derived.Test.YthifnnogpcgjpaaFeed
namespace Go.Proofs.Ythifnnogpcgjpaa
open Go.RowKit
set_option linter.unusedSimpArgs false

set_option maxHeartbeats 1000000 in
set_option maxRecDepth 100000 in
theorem feedNone_walk (b : ByteArray) (w : World) : Calls Try.prog 8 #[.string b] w (Tells w true) := by
  go_enter Try.func8, Try.ntmps8
  go_wp2_with fail
  refine (new_c _).mono ?_
  rintro e w1 ⟨rfl, hw1⟩
  have hf : Fd w1 w.heap.size ⟨#[]⟩ 0 := by rw [← hw1]; exact Blk.new _ _ _
  have hbel : Below w.heap.size w w1 := by rw [← hw1]; exact (Below.refl _ _).alloc (Nat.le_refl _) _
  have hs1 : w.heap.size < w1.heap.size := by rw [← hw1]; simp
  clear hw1
  have C := push_c w1 w.heap.size ⟨#[]⟩ ⟨#[0, 0, 0, 0]⟩ hf (by decide)
  have e1 : (⟨#[]⟩ : ByteArray) ++ ⟨#[0, 0, 0, 0]⟩ = ⟨#[0, 0, 0, 0]⟩ := by kernel_rfl
  rw [e1, parse_c] at C
  have D := Lib.hid C
  clear C e1 hf
  go_wp2_with fail
  refine D.out.mono ?_
  rintro e w2 ⟨v, rfl, hown, hf2, hg2⟩
  have Hf2 := Lib.hid hf2
  clear D hown hf2
  go_wp2_with fail
  refine (push_nil _ _).mono ?_
  rintro e w' ⟨rfl, rfl⟩
  go_wp2_with fail
  refine (broken_nil _).mono ?_
  rintro e w' ⟨rfl, rfl⟩
  go_wp2_with fail
  trace "a"
  refine (waits_nil _).mono ?_
  rintro e w' ⟨rfl, rfl⟩
  go_wp2_with fail
  trace "b"
  refine (broken_c _ _ _ _ Hf2.out).mono ?_
  rintro e w' ⟨rfl, rfl⟩
  go_wp2_with fail
  trace "c"
  refine (push_broken _ _ _ _ _ Hf2.out (by decide)).mono ?_
  rintro e w' ⟨rfl, rfl⟩
  go_wp2_with fail
  trace "d"
  refine (waits_c _ _ _ _ Hf2.out).mono ?_
  rintro e w' ⟨rfl, rfl⟩
  go_wp2_with fail
  trace "e"
  refine (broken_c _ _ _ _ Hf2.out).mono ?_
  rintro e w' ⟨rfl, rfl⟩
  go_wp2_with fail
  trace "f"
  refine (awake6_c _).mono ?_
  rintro e w3 ⟨rfl, hb3⟩
  go_wp2_with fail
  go_ret
  exact ⟨rfl, below_step (below_only hbel hg2 (by omega) (Nat.le_refl _)) (Nat.le_refl _) hb3⟩
end Go.Proofs.Ythifnnogpcgjpaa
