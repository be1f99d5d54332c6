/- The walk of AccountNone: it tells true. -/
import Derived.Test.YtogflpgeaobocaaAcc
import Derived.Test.YtogflpgeaobocaaRow
namespace Go.Proofs.Ytogflpgeaobocaa
open Go.RowKit
set_option linter.unusedSimpArgs false

set_option maxHeartbeats 1000000 in
theorem none_walk (n : Int) (w : World) (hn : I64 n) : Calls Try.prog 5 #[.int .i64 n] w (Tells w true) := by
  obtain ⟨hn0, hn1⟩ := hn
  have key : ∃ E F : Int, fullE n = E ∧ formE n = F ∧ takeE 0 0 n = E ∧ takeT 0 0 n = 0 ∧ giveE 0 n = F ∧ giveT 0 n = 0 ∧ ((n < 0 ∧ E = 1 ∧ F = 1) ∨ ((0 ≤ n ∧ n ≤ 0) ∧ E = 0 ∧ F = 0) ∨ (0 < n ∧ E = 13 ∧ F = 1)) := by
    refine ⟨_, _, rfl, rfl, ?_, ?_, ?_, ?_, ?_⟩
    all_goals simp only [takeE, takeT, giveE, giveT, fullE, formE, roomF]
    all_goals (rcases Int.lt_trichotomy n 0 with h | h | h)
    all_goals first | (subst h; simp; done) | (simp [h]; done) | (simp [h, show ¬ n < 0 by omega, show ¬ n = 0 by omega]; try omega)
  obtain ⟨E, F, h1, h2, h3, h4, h5, h6, hc⟩ := key
  generalize hw1 : w.alloc (.cells #[.int .i64 0, .int .i64 0] 40) = w1
  have ha1 : Acc w1 w.heap.size 0 0 := by rw [← hw1]; exact Blk.new _ _ _
  have hb1 : Below w.heap.size w w1 := by rw [← hw1]; exact (Below.refl _ _).alloc (Nat.le_refl _) _
  have hs1 : w.heap.size < w1.heap.size := by rw [← hw1]; simp
  have A1 := take_nil w1 n
  have A2 := give_nil w1 n
  rw [h1] at A1
  rw [h2] at A2
  have A3 := take_c w1 w.heap.size 0 0 n ha1 (by omega) (by omega) (by omega) (by omega)
  rw [h3, h4] at A3
  have A4 : ∀ w2, Acc w2 w.heap.size 0 0 → Calls Try.prog 15 #[.pointer (some ⟨w.heap.size, 0, none⟩), .int .i64 n] w2 (RetAcc w2 w.heap.size F 0 0) := fun w2 ha2 => by
    have := give_c w2 w.heap.size 0 0 n ha2 (by omega) (by omega)
    rwa [h5, h6] at this
  have B1 := Lib.hid A1
  have B2 := Lib.hid A2
  have B3 := Lib.hid A3
  have B4 := Lib.hid A4
  have Hw1 := Lib.hid hw1
  clear h1 h2 h3 h4 h5 h6 A1 A2 A3 A4 hw1
  rcases hc with ⟨hc, rfl, rfl⟩ | ⟨⟨hc, hc'⟩, rfl, rfl⟩ | ⟨hc, rfl, rfl⟩
  all_goals
    go_enter Try.func5, Try.ntmps5
    go_wp2_with fail
    rw [Hw1.out]
    refine (set_nil _ _).mono ?_
    rintro e w' ⟨rfl, rfl⟩
    go_wp2_with fail
    refine B1.out.mono ?_
    rintro e w' ⟨rfl, rfl⟩
    go_wp2_with fail
    refine B2.out.mono ?_
    rintro e w' ⟨rfl, rfl⟩
    go_wp2_with fail
    refine (taken_nil _).mono ?_
    rintro e w' ⟨rfl, rfl⟩
    go_wp2_with fail
    refine (room_nil _).mono ?_
    rintro e w' ⟨rfl, rfl⟩
    go_wp2_with fail
    refine B3.out.mono ?_
    rintro e w2 ⟨rfl, ha2, hg2⟩
    go_wp2_with fail
    refine (B4.out w2 ha2).mono ?_
    rintro e w3 ⟨rfl, ha3, hg3⟩
    go_wp2_with fail
    refine (taken_c w3 _ _ _ ha3).mono ?_
    rintro e w' ⟨rfl, rfl⟩
    go_wp2_with fail
    refine (room_c w3 _ _ _ ha3 (by omega) (by omega) (by omega) (by omega)).mono ?_
    rintro e w' ⟨rfl, nq, rfl⟩
    have hr : roomF 0 0 = 0 := rfl
    rw [hr]
    clear hr
    go_wp2_with fail
    refine (awake_c _).mono ?_
    rintro e w4 ⟨rfl, hb4⟩
    go_wp2_with fail
    go_ret
    have hs2 := hg2.size
    have hs3 := hg3.size
    exact ⟨rfl, (below_drewN (below_only (below_only hb1 hg2 (by omega) (Nat.le_refl _)) hg3 (by omega) (Nat.le_refl _)) nq).trans (hb4.mono (by show _ ≤ w3.heap.size; omega))⟩
end Go.Proofs.Ytogflpgeaobocaa
