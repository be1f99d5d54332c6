/- The walk of BucketNone: it tells true. -/
import Derived.Test.YtogflpgeaobocaaBkt
import Derived.Test.YtogflpgeaobocaaRow
namespace Go.Proofs.Ytogflpgeaobocaa
open Go.RowKit
set_option linter.unusedSimpArgs false

theorem tokens_nil (w : World) : Calls Try.prog 29 #[.pointer none] w fun e w' => e = .returned (.int .i64 0) ∧ w = w' := by
  go_enter Try.func29, Try.ntmps29
  go_wp2
  go_ret
  exact ⟨rfl, rfl⟩
theorem tick_nil (w : World) : Calls Try.prog 24 #[.pointer none] w fun e w' => e = .returned (.tuple #[]) ∧ w = w' := by
  go_enter Try.func24, Try.ntmps24
  go_wp2
  go_end0
  exact ⟨rfl, rfl⟩
theorem bset_nil (w : World) (n m : Int) : Calls Try.prog 27 #[.pointer none, .int .i64 n, .int .i64 m] w fun e w' => e = .returned (.tuple #[]) ∧ w = w' := by
  go_enter Try.func27, Try.ntmps27
  go_wp2
  refine bodyPost_ret (results_none rfl _ _ _) rfl ?_
  exact ⟨rfl, rfl⟩
def quotaE (n : Int) : Int := if n < 0 then 1 else if n > 0 then 14 else 0
theorem btake_nil (w : World) (n : Int) : Calls Try.prog 26 #[.pointer none, .int .i64 n] w fun e w' => e = .returned (.int .i64 (quotaE n)) ∧ w = w' := by
  rcases Int.lt_trichotomy n 0 with h | h | h
  · have e : quotaE n = 1 := if_pos h
    rw [e]
    go_enter Try.func26, Try.ntmps26
    go_wp2
    go_ret
    exact ⟨rfl, rfl⟩
  · subst h
    go_enter Try.func26, Try.ntmps26
    go_wp2_with (go_at_call 29; refine (tokens_nil _).mono ?_; rintro e w' ⟨rfl, rfl⟩)
    go_ret
    exact ⟨rfl, rfl⟩
  · have e : quotaE n = 14 := by unfold quotaE; rw [if_neg (by omega), if_pos h]
    rw [e]
    clear e
    go_enter Try.func26, Try.ntmps26
    go_wp2_with (go_at_call 29; refine (tokens_nil _).mono ?_; rintro e w' ⟨rfl, rfl⟩)
    go_ret
    exact ⟨rfl, rfl⟩

set_option maxHeartbeats 1000000 in
theorem bnone_walk (n : Int) (w : World) (_hn : I64 n) : Calls Try.prog 8 #[.int .i64 n] w (Tells w true) := by
  have key : ∃ E : Int, quotaE n = E ∧ btakeE 0 n = E ∧ btakeT 0 n = 0 ∧ ((n < 0 ∧ E = 1) ∨ ((0 ≤ n ∧ n ≤ 0) ∧ E = 0) ∨ (0 < n ∧ E = 14)) := by
    refine ⟨_, rfl, ?_, ?_, ?_⟩
    all_goals simp only [btakeE, btakeT, quotaE]
    all_goals (rcases Int.lt_trichotomy n 0 with h | h | h)
    all_goals first | (subst h; simp; done) | (simp [h]; done) | (simp [h, show ¬ n < 0 by omega, show ¬ n = 0 by omega]; try omega)
  obtain ⟨E, h1, h2, h3, hc⟩ := key
  generalize hw1 : w.alloc (.cells #[.int .i64 0, .int .i64 0, .int .i64 0] 56) = w1
  have ha1 : Bkt w1 w.heap.size 0 0 0 := by rw [← hw1]; exact Blk.new _ _ _
  have hb1 : Below w.heap.size w w1 := by rw [← hw1]; exact (Below.refl _ _).alloc (Nat.le_refl _) _
  have hs1 : w.heap.size < w1.heap.size := by rw [← hw1]; simp
  have A1 := fun w => btake_nil w n
  rw [h1] at A1
  have A2 := tick_c w1 w.heap.size 0 0 0 ha1 (by omega) (by omega) (by omega) (by omega) (by omega) (by omega)
  have e2 : tickF 0 0 0 = 0 := by decide
  rw [e2] at A2
  have A3 : ∀ w2, Bkt w2 w.heap.size 0 0 0 → Calls Try.prog 26 #[.pointer (some ⟨w.heap.size, 0, none⟩), .int .i64 n] w2 (RetB w2 w.heap.size E 0 0 0) := fun w2 ha2 => by
    have := btake_c w2 w.heap.size 0 0 0 n ha2 (by omega) (by omega)
    rwa [h2, h3] at this
  have B1 := Lib.hid A1
  have B2 := Lib.hid A2
  have B3 := Lib.hid A3
  have Hw1 := Lib.hid hw1
  clear h1 h2 h3 A1 A2 A3 hw1 e2 ha1
  rcases hc with ⟨hc, rfl⟩ | ⟨⟨hc, hc'⟩, rfl⟩ | ⟨hc, rfl⟩
  all_goals
    go_enter Try.func8, Try.ntmps8
    go_wp2_with fail
    rw [Hw1.out]
    refine (tick_nil _).mono ?_
    rintro e w' ⟨rfl, rfl⟩
    go_wp2_with fail
    refine (bset_nil _ _ _).mono ?_
    rintro e w' ⟨rfl, rfl⟩
    go_wp2_with fail
    refine B2.out.mono ?_
    rintro e w2 ⟨rfl, ha2, hg2⟩
    go_wp2_with fail
    refine (B1.out _).mono ?_
    rintro e w' ⟨rfl, rfl⟩
    go_wp2_with fail
    refine (tokens_nil _).mono ?_
    rintro e w' ⟨rfl, rfl⟩
    go_wp2_with fail
    refine (B3.out _ ha2).mono ?_
    rintro e w3 ⟨rfl, ha3, hg3⟩
    go_wp2_with fail
    refine (tokens_cell w3 _ 0 (Bkt.c2 ha3)).mono ?_
    rintro e w' ⟨rfl, rfl⟩
    go_wp2_with fail
    refine (bawake_c _).mono ?_
    rintro e w4 ⟨rfl, hb4⟩
    go_wp2_with fail
    go_ret
    have hs2 := hg2.size
    exact ⟨rfl, below_step (below_only (below_only hb1 hg2 (by omega) (Nat.le_refl _)) hg3 (by omega) (Nat.le_refl _)) (Nat.le_refl _) hb4⟩
end Go.Proofs.Ytogflpgeaobocaa
