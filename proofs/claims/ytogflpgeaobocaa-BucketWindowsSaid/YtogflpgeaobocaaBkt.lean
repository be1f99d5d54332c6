/- What each function of package bucket does, and of its reference. -/
import Derived.Test.YtogflpgeaobocaaMem
import Derived.Deep.RegionHeld3
import Derived.StillTailTactics
import Derived.BigRegion
namespace Go.Proofs.Ytogflpgeaobocaa
open Go.RowKit
set_option linter.unusedSimpArgs false

def Bkt (w : World) (g : Nat) (R B T : Int) : Prop := Blk w g 56 #[.int .i64 R, .int .i64 B, .int .i64 T]
section
variable {w : World} {g : Nat} {R B T : Int}
theorem Bkt.c0 (h : Bkt w g R B T) : w.cell? ⟨g, 0, none⟩ = some (.int .i64 R) := by have := Blk.cell h 0; simpa using this
theorem Bkt.c1 (h : Bkt w g R B T) : w.cell? ⟨g, 1, none⟩ = some (.int .i64 B) := by have := Blk.cell h 1; simpa using this
theorem Bkt.c2 (h : Bkt w g R B T) : w.cell? ⟨g, 2, none⟩ = some (.int .i64 T) := by have := Blk.cell h 2; simpa using this
theorem Bkt.fz (h : Bkt w g R B T) (i : Nat) : w.frozen? ⟨g, i, none⟩ = false := Blk.frozen h i
end

def tickF (R B T : Int) : Int := if B < T + R then B else T + R
theorem tickF_bd {R B T : Int} (hR : 0 ≤ R) (hB : 0 ≤ B) (hT : 0 ≤ T) : 0 ≤ tickF R B T ∧ tickF R B T ≤ B := by
  unfold tickF; split <;> omega
/-- A call that hands back nothing and leaves the bucket so. -/
def PutB (w : World) (g : Nat) (R B T : Int) (e : Ending) (w' : World) : Prop := e = .returned (.tuple #[]) ∧ Bkt w' g R B T ∧ w.grownBy w' (some g)

theorem tokens_cell (w : World) (g : Nat) (T : Int) (h : w.cell? ⟨g, 2, none⟩ = some (.int .i64 T)) :
    Calls Try.prog 29 #[.pointer (some ⟨g, 0, none⟩)] w fun e w' => e = .returned (.int .i64 T) ∧ w = w' := by
  go_enter Try.func29, Try.ntmps29
  go_wp2
  go_ret
  exact ⟨rfl, rfl⟩

theorem tick_c (w : World) (g : Nat) (R B T : Int) (h : Bkt w g R B T) (hR0 : 0 ≤ R) (hR : R ≤ 1048576) (hB0 : 0 ≤ B) (hB : B ≤ 1048576) (hT0 : 0 ≤ T) (hT : T ≤ B) :
    Calls Try.prog 24 #[.pointer (some ⟨g, 0, none⟩)] w (PutB w g R B (tickF R B T)) := by
  have c0 := h.c0
  have c1 := h.c1
  have c2 := h.c2
  have fz := h.fz 2
  have hw : IntKind.i64.wrap (T + R) = T + R := by rw [IntKind.wrap_i64]; omega
  have HB := Lib.hid h
  clear h
  unfold PutB
  go_enter Try.func24, Try.ntmps24
  go_wp2
  go_region
  all_goals
    go_end0
    exact ⟨rfl, (Blk.drewN HB.out 1).set_ 2 _, only_setCell (only_drew (only_refl _ _)) (.inl rfl) _⟩

def btakeE (T n : Int) : Int := if n < 0 then 1 else if n > T then 14 else 0
def btakeT (T n : Int) : Int := if n < 0 then T else if n > T then T else T - n
def RetB (w : World) (g : Nat) (E R B T : Int) (e : Ending) (w' : World) : Prop := e = .returned (.int .i64 E) ∧ Bkt w' g R B T ∧ w.grownBy w' (some g)
theorem btake_cases (T n : Int) : (btakeE T n = 1 ∧ btakeT T n = T ∧ n < 0) ∨ (btakeE T n = 14 ∧ btakeT T n = T ∧ 0 ≤ n ∧ T < n) ∨ (btakeE T n = 0 ∧ btakeT T n = T - n ∧ 0 ≤ n ∧ n ≤ T) := by
  unfold btakeE btakeT
  by_cases h : n < 0
  · exact .inl ⟨if_pos h, if_pos h, h⟩
  · by_cases h2 : n > T
    · exact .inr (.inl ⟨by rw [if_neg h, if_pos h2], by rw [if_neg h, if_pos h2], by omega, h2⟩)
    · exact .inr (.inr ⟨by rw [if_neg h, if_neg h2], by rw [if_neg h, if_neg h2], by omega, by omega⟩)

theorem btake_c (w : World) (g : Nat) (R B T n : Int) (h : Bkt w g R B T) (hT0 : 0 ≤ T) (hT : T ≤ 1048576) :
    Calls Try.prog 26 #[.pointer (some ⟨g, 0, none⟩), .int .i64 n] w (RetB w g (btakeE T n) R B (btakeT T n)) := by
  have c2 := h.c2
  have fz := h.fz 2
  have HB := Lib.hid h
  clear h
  unfold RetB
  rcases btake_cases T n with ⟨e1, e2, h1⟩ | ⟨e1, e2, h1, h2⟩ | ⟨e1, e2, h1, h2⟩
  · rw [e1, e2]
    clear e1 e2
    go_enter Try.func26, Try.ntmps26
    go_wp2
    go_ret
    exact ⟨rfl, HB.out, only_refl _ _⟩
  · rw [e1, e2]
    clear e1 e2
    go_enter Try.func26, Try.ntmps26
    go_wp2_with (go_at_call 29; refine (tokens_cell w g T c2).mono ?_; rintro e w' ⟨rfl, rfl⟩)
    go_ret
    exact ⟨rfl, HB.out, only_refl _ _⟩
  · rw [e1, e2]
    clear e1 e2
    go_enter Try.func26, Try.ntmps26
    go_wp2_with (go_at_call 29; refine (tokens_cell w g T c2).mono ?_; rintro e w' ⟨rfl, rfl⟩)
    go_ret
    exact ⟨rfl, HB.out.set_ 2 _, only_setCell (only_refl _ _) (.inl rfl) _⟩

/-- A number held between 0 and M. -/
def inF (n M : Int) : Int := if n < 0 then 0 else if n > M then M else n
theorem inF_bd (n M : Int) (hM : 0 ≤ M) : 0 ≤ inF n M ∧ inF n M ≤ M := by
  unfold inF
  split
  · omega
  · split <;> omega

theorem within_c (n M : Int) (w : World) (hM : 0 ≤ M) : Calls Try.prog 33 #[.int .i64 n, .int .i64 0, .int .i64 M] w fun e w' => e = .returned (.int .i64 (inF n M)) ∧ w = w' := by
  by_cases h1 : n < 0
  · have e : inF n M = 0 := if_pos h1
    rw [e]
    clear e
    go_enter Try.func33, Try.ntmps33
    go_wp2
    all_goals
      go_ret
      exact ⟨ret_int (by first | rfl | omega), rfl⟩
  · by_cases h2 : n > M
    · have e : inF n M = M := by unfold inF; rw [if_neg h1, if_pos h2]
      rw [e]
      clear e
      go_enter Try.func33, Try.ntmps33
      go_wp2
      all_goals
        go_ret
        exact ⟨ret_int (by first | rfl | omega), rfl⟩
    · have e : inF n M = n := by unfold inF; rw [if_neg h1, if_neg h2]
      rw [e]
      clear e
      go_enter Try.func33, Try.ntmps33
      go_wp2
      all_goals
        go_ret
        exact ⟨ret_int (by first | rfl | omega), rfl⟩

theorem refin_c (n M : Int) (w : World) : Calls Try.prog 32 #[.int .i64 n, .int .i64 M] w fun e w' => e = .returned (.int .i64 (inF n M)) ∧ w = w' := by
  by_cases h1 : n < 0
  · have e : inF n M = 0 := if_pos h1
    rw [e]
    clear e
    go_enter Try.func32, Try.ntmps32
    go_wp2
    go_ret
    exact ⟨rfl, rfl⟩
  · by_cases h2 : n > M
    · have e : inF n M = M := by unfold inF; rw [if_neg h1, if_pos h2]
      rw [e]
      clear e
      go_enter Try.func32, Try.ntmps32
      go_wp2
      go_ret
      exact ⟨rfl, rfl⟩
    · have e : inF n M = n := by unfold inF; rw [if_neg h1, if_neg h2]
      rw [e]
      clear e
      go_enter Try.func32, Try.ntmps32
      go_wp2
      go_ret
      exact ⟨rfl, rfl⟩

theorem bset_c (w : World) (g : Nat) (R B T n m : Int) (h : Bkt w g R B T) (hT0 : 0 ≤ T) :
    Calls Try.prog 27 #[.pointer (some ⟨g, 0, none⟩), .int .i64 n, .int .i64 m] w (PutB w g (inF n 1048576) (inF m 1048576) (inF T (inF m 1048576))) := by
  have c0 := h.c0
  have c1 := h.c1
  have c2 := h.c2
  have f0 := h.fz 0
  have f1 := h.fz 1
  have f2 := h.fz 2
  have HB := Lib.hid h
  clear h
  unfold PutB
  have W1 := fun w => within_c n 1048576 w (by omega)
  have W2 := fun w => within_c m 1048576 w (by omega)
  obtain ⟨b0, b1⟩ := inF_bd m 1048576 (by omega)
  generalize inF n 1048576 = n' at *
  generalize inF m 1048576 = m' at *
  have key : ∀ x, (m' < T ∧ x = m' ∨ ¬ m' < T ∧ x = T) → inF T m' = x := fun x hx => by
    rcases hx with ⟨hlt, rfl⟩ | ⟨hlt, rfl⟩
    · unfold inF; rw [if_neg (by omega), if_pos (by omega)]
    · unfold inF; rw [if_neg (by omega), if_neg (by omega)]
  have Key := Lib.hid key
  clear key
  have D1 := Lib.hid W1
  have D2 := Lib.hid W2
  clear W1 W2
  have hF : Blk ((w.setCell ⟨g, 0, none⟩ (.int .i64 n')).setCell ⟨g, 1, none⟩ (.int .i64 m')) g 56 #[.int .i64 n', .int .i64 m', .int .i64 T] := (HB.out.set_ 0 _).set_ 1 _
  go_enter Try.func27, Try.ntmps27
  go_wp2_with fail
  refine (D1.out _).mono ?_
  rintro e w' ⟨rfl, rfl⟩
  go_wp2_with fail
  refine (D2.out _).mono ?_
  rintro e w' ⟨rfl, rfl⟩
  go_wp2_with fail
  clear c0 c1 c2 f0 f1 f2
  generalize hw2 : (w.setCell ⟨g, 0, none⟩ (.int .i64 n')).setCell ⟨g, 1, none⟩ (.int .i64 m') = w2 at *
  have hg2 : w.grownBy w2 (some g) := by rw [← hw2]; exact only_setg (only_setg (only_refl _ _) 0 _) 1 _
  clear hw2
  have c1 : w2.cell? ⟨g, 1, none⟩ = some (.int .i64 m') := by simpa using hF.cell 1
  have c2 : w2.cell? ⟨g, 2, none⟩ = some (.int .i64 T) := by simpa using hF.cell 2
  have f2 := hF.frozen 2
  have HF := Lib.hid hF
  clear hF
  go_region
  all_goals go_wp2_with fail
  all_goals
    go_end0
    first
      | (rw [Key.out m' (by omega)]; exact ⟨rfl, (HF.out.drewN 1).set_ 2 _, only_trans hg2 (only_setg (only_drew (only_refl _ _)) 2 _)⟩)
      | (rw [Key.out T (by omega)]; exact ⟨rfl, (HF.out.drewN 1).set_ 2 _, only_trans hg2 (only_setg (only_drew (only_refl _ _)) 2 _)⟩)

/-- What a call hands back that makes a bucket. -/
def NewB (w : World) (R B T : Int) (e : Ending) (w' : World) : Prop := e = .returned (.pointer (some ⟨w.heap.size, 0, none⟩)) ∧ Bkt w' w.heap.size R B T ∧ Below w.heap.size w w' ∧ w.heap.size < w'.heap.size

theorem bnew_c (w : World) (n m : Int) : Calls Try.prog 22 #[.int .i64 n, .int .i64 m] w (NewB w (inF n 1048576) (inF m 1048576) (inF m 1048576)) := by
  have C := bset_c (w.alloc (.cells #[.int .i64 0, .int .i64 0, .int .i64 0] 56)) w.heap.size 0 0 0 n m (Blk.new _ _ _) (by omega)
  obtain ⟨b0, b1⟩ := inF_bd m 1048576 (by omega)
  generalize inF n 1048576 = n' at *
  generalize inF m 1048576 = m' at *
  have e : inF 0 m' = 0 := by unfold inF; rw [if_neg (by omega), if_neg (by omega)]
  rw [e] at C
  clear e
  have D := Lib.hid C
  clear C
  unfold NewB
  go_enter Try.func22, Try.ntmps22
  go_wp2_with fail
  refine D.out.mono ?_
  rintro e w1 ⟨rfl, hb, hg⟩
  have c1 := Bkt.c1 hb
  have c2 := Bkt.c2 hb
  have f2 := Bkt.fz hb 2
  have Hb := Lib.hid hb
  clear hb
  go_wp2_with fail
  go_ret
  have hs := hg.size
  simp at hs
  refine ⟨rfl, Hb.out.set_ 2 _, (below_of_only _ hg (Nat.le_refl _)).setCell (p := ⟨w.heap.size, 2, none⟩) (Nat.le_refl _) _, ?_⟩
  simp [World.setCell]; omega

theorem bawake_c (w : World) : Calls Try.prog 21 #[] w (Tells w true) := by
  have e1 : inF 2 1048576 = 2 := by decide
  have e2 : inF 5 1048576 = 5 := by decide
  have C := bnew_c w 2 5
  rw [e1, e2] at C
  have D := Lib.hid C
  clear C e1 e2
  go_enter Try.func21, Try.ntmps21
  go_wp2_with fail
  refine D.out.mono ?_
  rintro e w1 ⟨rfl, hb, hbel, hs⟩
  go_wp2_with fail
  refine (btake_c w1 _ 2 5 5 4 hb (by omega) (by omega)).mono ?_
  have e1 : btakeE 5 4 = 0 := by decide
  have e2 : btakeT 5 4 = 1 := by decide
  rw [e1, e2]
  clear e1 e2
  rintro e w2 ⟨rfl, hb2, hg2⟩
  go_wp2_with fail
  refine (tick_c w2 _ 2 5 1 hb2 (by omega) (by omega) (by omega) (by omega) (by omega) (by omega)).mono ?_
  have e1 : tickF 2 5 1 = 3 := by decide
  rw [e1]
  clear e1
  rintro e w3 ⟨rfl, hb3, hg3⟩
  go_wp2_with fail
  refine (tokens_cell w3 _ 3 (Bkt.c2 hb3)).mono ?_
  rintro e w' ⟨rfl, rfl⟩
  go_wp2_with fail
  go_ret
  exact ⟨rfl, below_only (below_only hbel hg2 (by omega) (Nat.le_refl _)) hg3 (by have := hg2.size; omega) (Nat.le_refl _)⟩

/-! ### the reference's -/
def RetA (w : World) (R B T : Int) (e : Ending) (w' : World) : Prop := e = .returned (.agg #[.int .i64 R, .int .i64 B, .int .i64 T]) ∧ Below w.heap.size w w'

theorem refnew_c (w : World) (n m : Int) : Calls Try.prog 23 #[.int .i64 n, .int .i64 m] w (RetA w (inF n 1048576) (inF m 1048576) (inF m 1048576)) := by
  have W1 := fun w => refin_c n 1048576 w
  have W2 := fun w => refin_c m 1048576 w
  generalize inF n 1048576 = n' at *
  generalize inF m 1048576 = m' at *
  have D1 := Lib.hid W1
  have D2 := Lib.hid W2
  clear W1 W2
  unfold RetA
  go_enter Try.func23, Try.ntmps23
  go_wp2_with fail
  refine (D2.out _).mono ?_
  rintro e w' ⟨rfl, rfl⟩
  go_wp2_with fail
  refine (D1.out _).mono ?_
  rintro e w' ⟨rfl, rfl⟩
  go_wp2_with fail
  refine bodyPost_ret (v := .agg #[.int .i64 n', .int .i64 m', .int .i64 m']) (by simp [results, Try.results23, go_sem]) rfl ?_
  exact ⟨rfl, (Below.refl _ _).alloc (Nat.le_refl _) _⟩

theorem reftick_c (w : World) (R B T : Int) (hR0 : 0 ≤ R) (hR : R ≤ 1048576) (hB0 : 0 ≤ B) (hB : B ≤ 1048576) (hT0 : 0 ≤ T) (hT : T ≤ B) :
    Calls Try.prog 25 #[.agg #[.int .i64 R, .int .i64 B, .int .i64 T]] w (RetA w R B (tickF R B T)) := by
  have e : tickF R B T = inF (T + R) B := by unfold tickF inF; rw [if_neg (show ¬ T + R < 0 by omega)]
  rw [e]
  clear e
  have W1 := fun w => refin_c (T + R) B w
  generalize inF (T + R) B = T' at *
  have D1 := Lib.hid W1
  clear W1
  unfold RetA
  go_enter Try.func25, Try.ntmps25
  go_wp2_with fail
  refine (D1.out _).mono ?_
  rintro e w' ⟨rfl, rfl⟩
  go_wp2_with fail
  refine bodyPost_ret (v := .agg #[.int .i64 R, .int .i64 B, .int .i64 T']) (by simp [results, Try.results25, go_sem]) rfl ?_
  exact ⟨rfl, ((Below.refl _ _).alloc (Nat.le_refl _) _).alloc (by simp) _⟩

theorem refset_c (w : World) (R B T n m : Int) (hT0 : 0 ≤ T) :
    Calls Try.prog 28 #[.agg #[.int .i64 R, .int .i64 B, .int .i64 T], .int .i64 n, .int .i64 m] w (RetA w (inF n 1048576) (inF m 1048576) (inF T (inF m 1048576))) := by
  have W1 := fun w => refnew_c w n m
  have W2 := fun w => refin_c T (inF m 1048576) w
  generalize inF T (inF m 1048576) = T' at *
  generalize inF n 1048576 = n' at *
  generalize inF m 1048576 = m' at *
  unfold RetA at W1
  have D1 := Lib.hid W1
  have D2 := Lib.hid W2
  clear W1 W2
  unfold RetA
  go_enter Try.func28, Try.ntmps28
  go_wp2_with fail
  refine (D1.out _).mono ?_
  rintro e w1 ⟨rfl, hb1⟩
  have h1 : Blk w1 w.heap.size 46 #[.int .i64 R, .int .i64 B, .int .i64 T] := ((Blk.new w 46 _).alloc _).below hb1 (by simp; omega)
  have h2 : Blk w1 (w.heap.size + 1) 46 #[.int .i64 0, .int .i64 0, .int .i64 0] := by
    have h := Blk.new (w.alloc (.cells #[.int .i64 R, .int .i64 B, .int .i64 T] 46)) 46 #[.int .i64 0, .int .i64 0, .int .i64 0]
    rw [show (w.alloc (.cells #[.int .i64 R, .int .i64 B, .int .i64 T] 46)).heap.size = w.heap.size + 1 by simp] at h
    exact h.below hb1 (by simp)
  have hbel := below_step (B := w.heap.size) (((Below.refl _ w).alloc (Nat.le_refl _) _).alloc (by simp) _) (Nat.le_refl _) hb1
  have a2 : w1.cell? ⟨w.heap.size, 2, none⟩ = some (.int .i64 T) := by simpa using h1.cell 2
  have b0 : w1.cell? ⟨w.heap.size + 1, 0, none⟩ = some (.int .i64 0) := by simpa using h2.cell 0
  have b1 : w1.cell? ⟨w.heap.size + 1, 1, none⟩ = some (.int .i64 0) := by simpa using h2.cell 1
  have b2 : w1.cell? ⟨w.heap.size + 1, 2, none⟩ = some (.int .i64 0) := by simpa using h2.cell 2
  have f0 := h2.frozen 0
  have f1 := h2.frozen 1
  have f2 := h2.frozen 2
  have n1 : w.heap.size + 1 < w1.heap.size := cell_lt b0
  have n0 : w.heap.size < w1.heap.size := by omega
  clear h1 h2 hb1
  generalize hg : w.heap.size = g at *
  have Hg := Lib.hid hg
  clear hg
  have Hb := Lib.hid hbel
  clear hbel
  go_wp2_with fail
  refine (D2.out _).mono ?_
  rintro e w' ⟨rfl, rfl⟩
  go_wp2_with fail
  refine bodyPost_ret (v := .agg #[.int .i64 n', .int .i64 m', .int .i64 T']) (by simp [results, Try.results28, go_sem, n1, b0, b1, b2]) rfl ?_
  refine ⟨rfl, ?_⟩
  rw [Hg.out]
  exact (((Hb.out.setCell (p := ⟨g + 1, 0, none⟩) (by simp) _).setCell (p := ⟨g + 1, 1, none⟩) (by simp) _).setCell (p := ⟨g + 1, 2, none⟩) (by simp) _).alloc (by simp [World.setCell]; omega) _

end Go.Proofs.Ytogflpgeaobocaa
