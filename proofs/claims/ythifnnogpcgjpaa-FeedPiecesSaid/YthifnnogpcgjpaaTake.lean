/- What frame.Head, frame.Take and the reference's Take do. -/
import Derived.Test.YthifnnogpcgjpaaMem
import Derived.Test.YthifnnogpcgjpaaSpec
import Derived.Test.YthifnnogpcgjpaaFrm
namespace Go.Proofs.Ythifnnogpcgjpaa
open Go.RowKit
set_option linter.unusedSimpArgs false

theorem results_tmp4 {fn : Func} {t u v x : Tmp} (h : fn.results = #[.tmp t, .tmp u, .tmp v, .tmp x]) (tmps : Array Value) (P : Program) (w : World) :
    (results fn tmps).run P w = .ok (.tuple #[tmps.getD t undef, tmps.getD u undef, tmps.getD v undef, tmps.getD x undef]) w := by simp [results, h]

def headR (s : ByteArray) : Value := if headE s = 0 then .tuple #[.int .i64 (bt s 0), .int .i64 (bt s 1), .int .i64 (hlen s), .int .i64 0] else .tuple #[.int .i64 0, .int .i64 0, .int .i64 0, .int .i64 (headE s)]

theorem head_c (s : ByteArray) (w : World) : Calls Try.prog 18 #[.string s] w fun e w' => e = .returned (headR s) ∧ ∃ n, w.drewN n = w' := by
  by_cases h : s.size < 4
  · have e : headE s = 2 := if_pos h
    have e2 : headR s = .tuple #[.int .i64 0, .int .i64 0, .int .i64 0, .int .i64 2] := by unfold headR; rw [if_neg (by rw [e]; decide), e]
    rw [e2]
    clear e e2
    go_enter Try.func18, Try.ntmps18
    go_wp2_with fail
    refine bodyPost_ret (results_tmp4 rfl _ _ _) rfl ?_
    exact ⟨rfl, 0, rfl⟩
  · have d : decide ((s.size : Int) < 4) = false := by simp; omega
    have d' : decide (s.size < 4) = false := by simp; omega
    have p0 := eq_true (show 0 < s.size by omega)
    have p1 := eq_true (show 1 < s.size by omega)
    have p2 := eq_true (show 2 < s.size by omega)
    have p3 := eq_true (show 3 < s.size by omega)
    have r0 := eq_true (show (0 : Int) < (s.size : Int) by omega)
    have r1 := eq_true (show (1 : Int) < (s.size : Int) by omega)
    have r2 := eq_true (show (2 : Int) < (s.size : Int) by omega)
    have r3 := eq_true (show (3 : Int) < (s.size : Int) by omega)
    have x0 := bt_at s 0
    have x1 := bt_at s 1
    have x2 := bt_at s 2
    have x3 := bt_at s 3
    obtain ⟨b00, b01⟩ := bt_bd s 0
    obtain ⟨b10, b11⟩ := bt_bd s 1
    obtain ⟨b20, b21⟩ := bt_bd s 2
    obtain ⟨b30, b31⟩ := bt_bd s 3
    have hor := or_bytes (bt s 2) (bt s 3) ⟨b20, b21⟩ ⟨b30, b31⟩
    obtain ⟨hb0, hb1⟩ := hlen_bd s
    change _ = hlen s at hor
    have hE : headE s = if bt s 0 < 1 ∨ 9 < bt s 0 then 4 else if 1024 < hlen s then 3 else 0 := if_neg h
    unfold headR
    rw [hE]
    clear hE
    generalize hlen s = N at *
    generalize bt s 0 = c0 at *
    generalize bt s 1 = c1 at *
    generalize bt s 2 = c2 at *
    generalize bt s 3 = c3 at *
    by_cases h1 : c0 < 1 ∨ 9 < c0
    · rw [if_pos h1, if_neg (by decide)]
      go_enter Try.func18, Try.ntmps18
      go_wp2_with fail
      go_quiet (fail)
      go_wp2_with (go_at_call 27; refine (known_n _ _ h1).mono ?_; rintro e w' ⟨rfl, rfl⟩)
      refine bodyPost_ret (results_tmp4 rfl _ _ _) rfl ?_
      exact ⟨rfl, _, rfl⟩
    · have h1' : 1 ≤ c0 ∧ c0 ≤ 9 := by omega
      rw [if_neg h1]
      by_cases h2 : 1024 < N
      · rw [if_pos h2, if_neg (by decide)]
        go_enter Try.func18, Try.ntmps18
        go_wp2_with fail
        go_quiet (fail)
        go_wp2_with (go_at_call 27; refine (known_y _ _ h1').mono ?_; rintro e w' ⟨rfl, rfl⟩)
        refine bodyPost_ret (results_tmp4 rfl _ _ _) rfl ?_
        exact ⟨rfl, _, rfl⟩
      · rw [if_neg h2, if_pos rfl]
        go_enter Try.func18, Try.ntmps18
        go_wp2_with fail
        go_quiet (fail)
        go_wp2_with (go_at_call 27; refine (known_y _ _ h1').mono ?_; rintro e w' ⟨rfl, rfl⟩)
        go_quiet (fail)
        go_wp2_with fail
        refine bodyPost_ret (results_tmp4 rfl _ _ _) rfl ?_
        exact ⟨rfl, _, (World.drewN_drewN _ _ _).symm⟩

/-- What frame.Take hands back. -/
def TakeRet (w : World) (s : ByteArray) (e : Ending) (w' : World) : Prop :=
  e = .returned (.tuple #[.agg #[.int .i64 (takeF s).k, .int .i64 (takeF s).f, .string (takeF s).b], .int .i64 (takeN s), .int .i64 (takeE s)]) ∧ Below w.heap.size w w'

theorem below_put3 (w : World) (o : Obj) (n : Nat) (a b c : Value) : Below w.heap.size w (((((w.alloc o).drewN n).setCell ⟨w.heap.size, 0, none⟩ a).setCell ⟨w.heap.size, 1, none⟩ b).setCell ⟨w.heap.size, 2, none⟩ c) :=
  (((below_drewN ((Below.refl _ _).alloc (Nat.le_refl _) _) _).setCell (p := ⟨w.heap.size, 0, none⟩) (Nat.le_refl _) _).setCell (p := ⟨w.heap.size, 1, none⟩) (Nat.le_refl _) _).setCell (p := ⟨w.heap.size, 2, none⟩) (Nat.le_refl _) _

theorem take_c (s : ByteArray) (w : World) (hs : s.size ≤ maxLen) : Calls Try.prog 16 #[.string s] w (TakeRet w s) := by
  unfold maxLen at hs
  unfold TakeRet
  by_cases hE : headE s = 0
  · have e0 : headR s = .tuple #[.int .i64 (bt s 0), .int .i64 (bt s 1), .int .i64 (hlen s), .int .i64 0] := if_pos hE
    have C := head_c s
    rw [e0] at C
    clear e0
    have h4 : 4 ≤ s.size := by
      rcases Nat.lt_or_ge s.size 4 with h | h
      · unfold headE at hE; rw [if_pos h] at hE; cases hE
      · exact h
    obtain ⟨hb0, hb1⟩ := hlen_bd s
    by_cases h2 : (s.size : Int) < 4 + hlen s
    · have e1 : takeE s = 2 := by unfold takeE; rw [if_neg (by simp [hE]), if_pos h2]
      have e2 : takeF s = ⟨0, 0, ⟨#[]⟩⟩ := if_neg (by rw [e1]; decide)
      have e3 : takeN s = 0 := if_neg (by rw [e1]; decide)
      rw [e1, e2, e3]
      clear e1 e2 e3 hE
      generalize hlen s = N at *
      generalize bt s 0 = c0 at *
      generalize bt s 1 = c1 at *
      have D := Lib.hid C
      clear C
      go_enter Try.func16, Try.ntmps16
      go_wp2_with (go_at_call 18; refine (D.out _).mono ?_; rintro e w' ⟨rfl, nq, rfl⟩)
      refine bodyPost_ret (v := .tuple #[.agg #[.int .i64 0, .int .i64 0, .string ⟨#[]⟩], .int .i64 0, .int .i64 2]) (by simp [results, Try.results16, go_sem]) rfl ?_
      exact ⟨rfl, below_put3 w _ _ _ _ _⟩
    · have e1 : takeE s = 0 := by unfold takeE; rw [if_neg (by simp [hE]), if_neg h2]
      have e2 : takeF s = ⟨bt s 0, bt s 1, s.extract 4 (flen s)⟩ := if_pos e1
      have e3 : takeN s = flen s := if_pos e1
      rw [e1, e2, e3]
      clear e1 e2 e3 hE
      obtain ⟨N, hN⟩ := Int.eq_ofNat_of_zero_le hb0
      have hfl : flen s = 4 + N := by unfold flen; rw [hN]; rfl
      rw [hfl]
      rw [hN] at C h2 hb1
      clear hN hfl hb0
      generalize bt s 0 = c0 at *
      generalize bt s 1 = c1 at *
      have D := Lib.hid C
      clear C
      have h3 : 4 + N ≤ s.size := by omega
      go_enter Try.func16, Try.ntmps16
      go_wp2_with (go_at_call 18; refine (D.out _).mono ?_; rintro e w' ⟨rfl, nq, rfl⟩)
      refine bodyPost_ret (v := .tuple #[.agg #[.int .i64 c0, .int .i64 c1, .string (s.extract 4 (4 + N))], .int .i64 ((4 + N : Nat) : Int), .int .i64 0]) (by simp [results, Try.results16, go_sem]) rfl ?_
      exact ⟨rfl, below_put3 w _ _ _ _ _⟩
  · have e0 : headR s = .tuple #[.int .i64 0, .int .i64 0, .int .i64 0, .int .i64 (headE s)] := if_neg hE
    have C := head_c s
    rw [e0] at C
    have e1 : takeE s = headE s := if_pos hE
    have e2 : takeF s = ⟨0, 0, ⟨#[]⟩⟩ := if_neg (by rw [e1]; exact hE)
    have e3 : takeN s = 0 := if_neg (by rw [e1]; exact hE)
    rw [e1, e2, e3]
    have hx : (headE s != 0) = true := by rw [bne_iff_ne]; exact hE
    clear e0 e1 e2 e3 hE
    generalize headE s = E at *
    have D := Lib.hid C
    clear C
    go_enter Try.func16, Try.ntmps16
    go_wp2_with (go_at_call 18; refine (D.out _).mono ?_; rintro e w' ⟨rfl, nq, rfl⟩)
    refine bodyPost_ret (v := .tuple #[.agg #[.int .i64 0, .int .i64 0, .string ⟨#[]⟩], .int .i64 0, .int .i64 E]) (by simp [results, Try.results16, go_sem]) rfl ?_
    exact ⟨rfl, below_put3 w _ _ _ _ _⟩

/-- What the reference's Take hands back. -/
def RefRet (w : World) (s : ByteArray) (e : Ending) (w' : World) : Prop :=
  e = .returned (.tuple #[.agg #[.int .i64 (takeF s).k, .int .i64 (takeF s).f, .string (takeF s).b], .int .i64 (refN s), .int .i64 (takeE s)]) ∧ Below w.heap.size w w'

theorem reftake_c (s : ByteArray) (w : World) (hs : s.size ≤ maxLen) : Calls Try.prog 17 #[.string s] w (RefRet w s) := by
  unfold maxLen at hs
  unfold RefRet
  by_cases h : s.size < 4
  · have e : headE s = 2 := if_pos h
    have e1 : takeE s = 2 := by unfold takeE; rw [if_pos (by rw [e]; decide), e]
    have e2 : takeF s = ⟨0, 0, ⟨#[]⟩⟩ := if_neg (by rw [e1]; decide)
    have e3 : refN s = -1 := if_neg (by rw [e]; decide)
    rw [e1, e2, e3]
    clear e e1 e2 e3
    go_enter Try.func17, Try.ntmps17
    go_wp2_with fail
    refine bodyPost_ret (v := .tuple #[.agg #[.int .i64 0, .int .i64 0, .string ⟨#[]⟩], .int .i64 (-1), .int .i64 2]) (by simp [results, Try.results17, go_sem]) rfl ?_
    exact ⟨rfl, (Below.refl _ _).alloc (Nat.le_refl _) _⟩
  · have d : decide ((s.size : Int) < 4) = false := by simp; omega
    have d' : decide (s.size < 4) = false := by simp; omega
    have p0 := eq_true (show 0 < s.size by omega)
    have p1 := eq_true (show 1 < s.size by omega)
    have p2 := eq_true (show 2 < s.size by omega)
    have p3 := eq_true (show 3 < s.size by omega)
    have r0 := eq_true (show (0 : Int) < (s.size : Int) by omega)
    have r1 := eq_true (show (1 : Int) < (s.size : Int) by omega)
    have r2 := eq_true (show (2 : Int) < (s.size : Int) by omega)
    have r3 := eq_true (show (3 : Int) < (s.size : Int) by omega)
    have x0 := bt_at s 0
    have x1 := bt_at s 1
    have x2 := bt_at s 2
    have x3 := bt_at s 3
    obtain ⟨b00, b01⟩ := bt_bd s 0
    obtain ⟨b10, b11⟩ := bt_bd s 1
    obtain ⟨b20, b21⟩ := bt_bd s 2
    obtain ⟨b30, b31⟩ := bt_bd s 3
    obtain ⟨hb0, hb1⟩ := hlen_bd s
    have hE : headE s = if bt s 0 < 1 ∨ 9 < bt s 0 then 4 else if 1024 < hlen s then 3 else 0 := if_neg h
    have hT : takeE s = if headE s ≠ 0 then headE s else if (s.size : Int) < 4 + hlen s then 2 else 0 := rfl
    have hF : takeF s = if takeE s = 0 then ⟨bt s 0, bt s 1, s.extract 4 (flen s)⟩ else ⟨0, 0, ⟨#[]⟩⟩ := rfl
    have hR : refN s = if headE s = 0 then hlen s else -1 := rfl
    have hL : flen s = 4 + (hlen s).toNat := rfl
    have hN : bt s 2 * 256 + bt s 3 = hlen s := rfl
    generalize refN s = rn at *
    generalize takeF s = tf at *
    generalize takeE s = te at *
    generalize headE s = he at *
    generalize flen s = fl at *
    generalize hlen s = N at *
    generalize bt s 0 = c0 at *
    generalize bt s 1 = c1 at *
    generalize bt s 2 = c2 at *
    generalize bt s 3 = c3 at *
    subst hR hF hT hE hL
    obtain ⟨N, rfl⟩ := Int.eq_ofNat_of_zero_le hb0
    by_cases h1 : c0 < 1 ∨ 9 < c0
    · simp only [if_pos h1]
      rcases h1 with h1 | h1
      · go_enter Try.func17, Try.ntmps17
        go_wp2_with fail
        refine bodyPost_ret (v := .tuple #[.agg #[.int .i64 0, .int .i64 0, .string ⟨#[]⟩], .int .i64 (-1), .int .i64 4]) (by simp [results, Try.results17, go_sem]) rfl ?_
        exact ⟨rfl, (Below.refl _ _).alloc (Nat.le_refl _) _⟩
      · have h0 : decide (c0 < 1) = false := by simp; omega
        go_enter Try.func17, Try.ntmps17
        go_wp2_with fail
        refine bodyPost_ret (v := .tuple #[.agg #[.int .i64 0, .int .i64 0, .string ⟨#[]⟩], .int .i64 (-1), .int .i64 4]) (by simp [results, Try.results17, go_sem]) rfl ?_
        exact ⟨rfl, (Below.refl _ _).alloc (Nat.le_refl _) _⟩
    · simp only [if_neg h1]
      have h1a : decide (c0 < 1) = false := by simp; omega
      have h1b : decide (9 < c0) = false := by simp; omega
      clear h1
      by_cases h2 : 1024 < (N : Int)
      · simp only [if_pos h2]
        go_enter Try.func17, Try.ntmps17
        go_wp2_with fail
        go_quiet (fail)
        go_wp2_with fail
        refine bodyPost_ret (v := .tuple #[.agg #[.int .i64 0, .int .i64 0, .string ⟨#[]⟩], .int .i64 (-1), .int .i64 3]) (by simp [results, Try.results17, go_sem]) rfl ?_
        exact ⟨rfl, below_put3 w _ _ _ _ _⟩
      · simp only [if_neg h2]
        have h2' : decide (1024 < (N : Int)) = false := by simp; omega
        by_cases h3 : (s.size : Int) < 4 + N
        · simp only [if_pos h3]
          go_enter Try.func17, Try.ntmps17
          go_wp2_with fail
          go_quiet (fail)
          go_wp2_with fail
          refine bodyPost_ret (v := .tuple #[.agg #[.int .i64 0, .int .i64 0, .string ⟨#[]⟩], .int .i64 N, .int .i64 2]) (by simp [results, Try.results17, go_sem]) rfl ?_
          exact ⟨rfl, below_put3 w _ _ _ _ _⟩
        · simp only [if_neg h3]
          have h3' : 4 + N ≤ s.size := by omega
          go_enter Try.func17, Try.ntmps17
          go_wp2_with fail
          go_quiet (fail)
          go_wp2_with fail
          go_region
          all_goals
            go_wp2_with fail
            refine bodyPost_ret (v := .tuple #[.agg #[.int .i64 c0, .int .i64 c1, .string (s.extract 4 (4 + N))], .int .i64 N, .int .i64 0]) (by simp [results, Try.results17, go_sem]) rfl ?_
            exact ⟨rfl, below_put3 w _ _ _ _ _⟩
end Go.Proofs.Ythifnnogpcgjpaa
