/- The walk of FrameTakes: it tells true. -/
import Derived.Test.YthifnnogpcgjpaaTake
import Derived.Test.YthifnnogpcgjpaaRow
namespace Go.Proofs.Ythifnnogpcgjpaa
open Go.RowKit
set_option linter.unusedSimpArgs false

theorem four_of_head {s : ByteArray} (h : headE s = 0) : 4 ≤ s.size := by
  rcases Nat.lt_or_ge s.size 4 with h' | h'
  · unfold headE at h; rw [if_pos h'] at h; cases h
  · exact h'
theorem head_E (s : ByteArray) : headE s = 0 ∨ headE s = 2 ∨ headE s = 3 ∨ headE s = 4 := by
  unfold headE
  split
  · simp
  · split
    · simp
    · split <;> simp
theorem take_E (s : ByteArray) : takeE s = 0 ∨ takeE s = 2 ∨ takeE s = 3 ∨ takeE s = 4 := by
  unfold takeE
  split
  · exact head_E s
  · split <;> simp

theorem frame_cases (s : ByteArray) :
    (headE s ≠ 0 ∧ takeE s = headE s ∧ takeF s = ⟨0, 0, ⟨#[]⟩⟩ ∧ takeN s = 0 ∧ refN s = -1 ∧ headR s = .tuple #[.int .i64 0, .int .i64 0, .int .i64 0, .int .i64 (headE s)]) ∨
    (headE s = 0 ∧ 4 ≤ s.size ∧ takeE s = 2 ∧ takeF s = ⟨0, 0, ⟨#[]⟩⟩ ∧ takeN s = 0 ∧ refN s = hlen s ∧ headR s = .tuple #[.int .i64 (bt s 0), .int .i64 (bt s 1), .int .i64 (hlen s), .int .i64 0]) ∨
    (headE s = 0 ∧ 4 ≤ s.size ∧ takeE s = 0 ∧ takeF s = ⟨bt s 0, bt s 1, s.extract 4 (flen s)⟩ ∧ takeN s = 4 + hlen s ∧ refN s = hlen s ∧ headR s = .tuple #[.int .i64 (bt s 0), .int .i64 (bt s 1), .int .i64 (hlen s), .int .i64 0]) := by
  by_cases h : headE s = 0
  · have h4 := four_of_head h
    by_cases h2 : (s.size : Int) < 4 + hlen s
    · have e : takeE s = 2 := by unfold takeE; rw [if_neg (by simp [h]), if_pos h2]
      exact .inr (.inl ⟨h, h4, e, if_neg (by rw [e]; decide), if_neg (by rw [e]; decide), if_pos h, if_pos h⟩)
    · have e : takeE s = 0 := by unfold takeE; rw [if_neg (by simp [h]), if_neg h2]
      have hb := hlen_bd s
      exact .inr (.inr ⟨h, h4, e, if_pos e, by unfold takeN flen; rw [if_pos e]; omega, if_pos h, if_pos h⟩)
  · have e : takeE s = headE s := if_pos h
    exact .inl ⟨h, e, if_neg (by rw [e]; exact h), if_neg (by rw [e]; exact h), if_neg h, if_neg h⟩

theorem frame_facts (w : World) (k f : Int) (b : ByteArray) (w' : World) (hb : Below w.heap.size w w') (g : Nat) (h : Blk w g 23 #[.int .i64 k, .int .i64 f, .string b]) :
    w'.cell? ⟨g, 0, none⟩ = some (.int .i64 k) ∧ w'.cell? ⟨g, 1, none⟩ = some (.int .i64 f) ∧ w'.cell? ⟨g, 2, none⟩ = some (.string b) := by
  have h' := h.below hb h.lt
  exact ⟨by simpa using h'.cell 0, by simpa using h'.cell 1, by simpa using h'.cell 2⟩

theorem takes_below {w w1 w2 w4 : World} {o o' : Obj} {n : Nat} (h1 : Below w.heap.size w w1) (h2 : Below (w1.alloc o).heap.size (w1.alloc o) w2) (h4 : Below ((w2.alloc o').drewN n).heap.size ((w2.alloc o').drewN n) w4) : Below w.heap.size w w4 :=
  below_step (below_drewN ((below_step (h1.alloc h1.size o) (Nat.le_refl _) h2).alloc (by have := h1.size; have := h2.size; simp at this; omega) o') n) (Nat.le_refl _) h4

set_option maxHeartbeats 2000000 in
set_option maxRecDepth 100000 in
theorem takes_walk (s : ByteArray) (w : World) (hs : s.size ≤ 140737488351232) :
    Calls Try.prog 4 #[.string s] w (Tells w true) := by
  have C1 := fun w => take_c s w (by unfold maxLen; omega)
  have C2 := fun w => reftake_c s w (by unfold maxLen; omega)
  have C3 := head_c s
  have hc := frame_cases s
  unfold TakeRet at C1
  unfold RefRet at C2
  have x0 := bt_at s 0
  have x1 := bt_at s 1
  obtain ⟨b00, b01⟩ := bt_bd s 0
  obtain ⟨b10, b11⟩ := bt_bd s 1
  obtain ⟨hb0, hb1⟩ := hlen_bd s
  generalize (takeF s).k = K at C1 C2
  generalize (takeF s).f = F at C1 C2
  generalize (takeF s).b = B at C1 C2
  rcases hc with ⟨c1, c2, _, c4, c5, c6⟩ | ⟨c1, c7, c2, _, c4, c5, c6⟩ | ⟨c1, c7, c2, _, c4, c5, c6⟩
  · rw [c2, c4] at C1
    rw [c2, c5] at C2
    rw [c6] at C3
    have D1 := Lib.hid C1
    have D2 := Lib.hid C2
    have D3 := Lib.hid C3
    clear C1 C2 C3
    clear c1 c2 c4 c5 c6 x0 x1 b00 b01 b10 b11
    generalize headE s = E at *
    go_enter Try.func4, Try.ntmps4
    go_wp2_with fail
    refine (D1.out _).mono ?_
    rintro e w1 ⟨rfl, hb1⟩
    go_wp2_with fail
    refine (D2.out _).mono ?_
    rintro e w2 ⟨rfl, hb2⟩
    obtain ⟨q0, q1, q2⟩ := frame_facts _ _ _ _ _ hb2 _ (Blk.new w1 23 _)
    have n0 : w1.heap.size < w2.heap.size := cell_lt q0
    go_wp2_with fail
    refine (D3.out _).mono ?_
    rintro e w3 ⟨rfl, nq, rfl⟩
    go_wp2_with (go_at_call 15; refine (awake5_c _).mono ?_; rintro e w4 ⟨rfl, hb4⟩)
    go_ret
    exact ⟨rfl, takes_below hb1 hb2 hb4⟩
  · rw [c2, c4] at C1
    rw [c2, c5] at C2
    rw [c6] at C3
    have D1 := Lib.hid C1
    have D2 := Lib.hid C2
    have D3 := Lib.hid C3
    clear C1 C2 C3
    clear c1 c2 c4 c5 c6
    generalize hlen s = N at *
    have p0 := eq_true (show 0 < s.size by omega)
    have p1 := eq_true (show 1 < s.size by omega)
    have r0 := eq_true (show (0 : Int) < (s.size : Int) by omega)
    have r1 := eq_true (show (1 : Int) < (s.size : Int) by omega)
    generalize bt s 0 = c0 at *
    generalize bt s 1 = c1 at *
    go_enter Try.func4, Try.ntmps4
    go_wp2_with fail
    refine (D1.out _).mono ?_
    rintro e w1 ⟨rfl, hb1⟩
    go_wp2_with fail
    refine (D2.out _).mono ?_
    rintro e w2 ⟨rfl, hb2⟩
    obtain ⟨q0, q1, q2⟩ := frame_facts _ _ _ _ _ hb2 _ (Blk.new w1 23 _)
    have n0 : w1.heap.size < w2.heap.size := cell_lt q0
    go_wp2_with fail
    refine (D3.out _).mono ?_
    rintro e w3 ⟨rfl, nq, rfl⟩
    go_wp2_with (go_at_call 15; refine (awake5_c _).mono ?_; rintro e w4 ⟨rfl, hb4⟩)
    go_ret
    exact ⟨rfl, takes_below hb1 hb2 hb4⟩
  · rw [c2, c4] at C1
    rw [c2, c5] at C2
    rw [c6] at C3
    have D1 := Lib.hid C1
    have D2 := Lib.hid C2
    have D3 := Lib.hid C3
    clear C1 C2 C3
    clear c1 c2 c4 c5 c6
    generalize hlen s = N at *
    have p0 := eq_true (show 0 < s.size by omega)
    have p1 := eq_true (show 1 < s.size by omega)
    have r0 := eq_true (show (0 : Int) < (s.size : Int) by omega)
    have r1 := eq_true (show (1 : Int) < (s.size : Int) by omega)
    generalize bt s 0 = c0 at *
    generalize bt s 1 = c1 at *
    go_enter Try.func4, Try.ntmps4
    go_wp2_with fail
    refine (D1.out _).mono ?_
    rintro e w1 ⟨rfl, hb1⟩
    go_wp2_with fail
    refine (D2.out _).mono ?_
    rintro e w2 ⟨rfl, hb2⟩
    obtain ⟨q0, q1, q2⟩ := frame_facts _ _ _ _ _ hb2 _ (Blk.new w1 23 _)
    have n0 : w1.heap.size < w2.heap.size := cell_lt q0
    go_wp2_with fail
    refine (D3.out _).mono ?_
    rintro e w3 ⟨rfl, nq, rfl⟩
    go_wp2_with (go_at_call 15; refine (awake5_c _).mono ?_; rintro e w4 ⟨rfl, hb4⟩)
    go_ret
    exact ⟨rfl, takes_below hb1 hb2 hb4⟩
end Go.Proofs.Ythifnnogpcgjpaa
