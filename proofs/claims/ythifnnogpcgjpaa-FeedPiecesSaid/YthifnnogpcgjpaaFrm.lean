/- What each function of package frame does, and of its reference. -/
import Derived.Test.YthifnnogpcgjpaaMem
import Derived.Lib.ConvBytes
import Derived.Laws.BytesArg
import Derived.Deep.RegionHeld3
namespace Go.Proofs.Ythifnnogpcgjpaa
open Go.RowKit
set_option linter.unusedSimpArgs false

theorem known_y (n : Int) (w : World) (h : 1 ≤ n ∧ n ≤ 9) : Calls Try.prog 27 #[.int .i64 n] w fun e w' => e = .returned (.bool true) ∧ w = w' := by
  obtain ⟨h1, h2⟩ := h
  go_enter Try.func27, Try.ntmps27
  go_wp2
  go_ret
  exact ⟨rfl, rfl⟩
theorem known_n (n : Int) (w : World) (h : n < 1 ∨ 9 < n) : Calls Try.prog 27 #[.int .i64 n] w fun e w' => e = .returned (.bool false) ∧ w = w' := by
  rcases h with h | h
  · go_enter Try.func27, Try.ntmps27
    go_wp2
    go_ret
    exact ⟨rfl, rfl⟩
  · have h' : 1 ≤ n := by omega
    have h2 : decide (n ≤ 9) = false := by simp; omega
    go_enter Try.func27, Try.ntmps27
    go_wp2
    go_ret
    exact ⟨rfl, rfl⟩

/-- A frame's head as bytes. -/
def headB (k f n : Int) : ByteArray := strOfNums [k, f, n / 256, n % 256]
theorem headB_size (k f n : Int) : (headB k f n).size = 4 := by simp [headB, strOfNums_size]

def Tup2 (w : World) (s : ByteArray) (x : Int) (e : Ending) (w' : World) : Prop := e = .returned (.tuple #[.string s, .int .i64 x]) ∧ Below w.heap.size w w'
theorem Tup2.mk0 {w w' s s' x x' v} (hv : v = .tuple #[.string s, .int .i64 x]) (hs : s = s') (hx : x = x') (hb : Below w.heap.size w w') : Tup2 w s' x' (.returned v) w' := by
  subst hv hs hx; exact ⟨rfl, hb⟩

theorem put_ok (k f : Int) (b : ByteArray) (w : World) (hk : 1 ≤ k ∧ k ≤ 9) (hf : 0 ≤ f ∧ f ≤ 255) (hb : b.size ≤ 1024) :
    Calls Try.prog 9 #[.agg #[.int .i64 k, .int .i64 f, .string b]] w (Tup2 w (headB k f b.size ++ b) 0) := by
  obtain ⟨hk1, hk2⟩ := hk
  obtain ⟨hf1, hf2⟩ := hf
  have hconv : ∀ n, (convert 53 9 (.slice (some ⟨w.heap.size + 1, 0, none⟩) 4 4)).run Try.prog
      (((w.alloc (.cells #[.int .i64 k, .int .i64 f, .string b] 23)).alloc (.cells #[.int .u8 k, .int .u8 f, .int .u8 (↑b.size / 256), .int .u8 (↑b.size % 256)] 52)).drewN n) =
      .ok (.string (headB k f b.size)) (((w.alloc (.cells #[.int .i64 k, .int .i64 f, .string b] 23)).alloc (.cells #[.int .u8 k, .int .u8 f, .int .u8 (↑b.size / 256), .int .u8 (↑b.size % 256)] 52)).drewN n) := fun n => by
    refine run_convert_bytes_arg _ 53 5 Try.underlying53 Try.underlying5 (w.heap.size + 1) 0 4 4 [k, f, ↑b.size / 256, ↑b.size % 256] rfl (fun i hi => ?_) 9 Try.underlying9
    have hB : Blk (((w.alloc (.cells #[.int .i64 k, .int .i64 f, .string b] 23)).alloc (.cells #[.int .u8 k, .int .u8 f, .int .u8 (↑b.size / 256), .int .u8 (↑b.size % 256)] 52)).drewN n) (w.heap.size + 1) 52 #[.int .u8 k, .int .u8 f, .int .u8 (↑b.size / 256), .int .u8 (↑b.size % 256)] := by
      have := Blk.new (w.alloc (.cells #[.int .i64 k, .int .i64 f, .string b] 23)) 52 #[.int .u8 k, .int .u8 f, .int .u8 (↑b.size / 256), .int .u8 (↑b.size % 256)]
      simp only [World.size_alloc] at this
      exact this.drewN n
    rw [Nat.zero_add, hB.cell i]
    match i, hi with
    | 0, _ => rfl
    | 1, _ => rfl
    | 2, _ => rfl
    | 3, _ => rfl
  have h4 := headB_size k f b.size
  generalize headB k f b.size = H at *
  have h4' : H.size ≤ 4 := by omega
  clear h4
  have hd1 : decide (f < 0) = false := by simp; omega
  have hd2 : decide (255 < f) = false := by simp; omega
  have hd3 : decide (1024 < (b.size : Int)) = false := by simp; omega
  go_enter Try.func9, Try.ntmps9
  go_wp2_with (go_at_call 27; refine (known_y _ _ ⟨by omega, by omega⟩).mono ?_; rintro e w' ⟨rfl, rfl⟩)
  go_quiet (fail)
  go_wp2_with fail
  go_ret2
  exact ⟨rfl, below_drewN (((Below.refl _ _).alloc (Nat.le_refl _) _).alloc (by simp) _) _⟩

def putE (k f n : Int) : Int := if k < 1 ∨ 9 < k then 4 else if f < 0 ∨ 255 < f then 1 else if 1024 < n then 3 else 0
def putS (k f : Int) (b : ByteArray) : ByteArray := if putE k f b.size = 0 then headB k f b.size ++ b else ⟨#[]⟩

theorem put_c (k f : Int) (b : ByteArray) (w : World) :
    Calls Try.prog 9 #[.agg #[.int .i64 k, .int .i64 f, .string b]] w (Tup2 w (putS k f b) (putE k f b.size)) := by
  by_cases h1 : k < 1 ∨ 9 < k
  · have e : putE k f b.size = 4 := if_pos h1
    have e2 : putS k f b = ⟨#[]⟩ := if_neg (by rw [e]; decide)
    rw [e, e2]
    clear e e2
    go_enter Try.func9, Try.ntmps9
    go_wp2_with (go_at_call 27; refine (known_n _ _ h1).mono ?_; rintro e w' ⟨rfl, rfl⟩)
    go_ret2
    exact ⟨rfl, (Below.refl _ _).alloc (Nat.le_refl _) _⟩
  · have h1' : 1 ≤ k ∧ k ≤ 9 := by omega
    by_cases h2 : f < 0 ∨ 255 < f
    · have e : putE k f b.size = 1 := by unfold putE; rw [if_neg h1, if_pos h2]
      have e2 : putS k f b = ⟨#[]⟩ := if_neg (by rw [e]; decide)
      rw [e, e2]
      clear e e2 h1
      rcases h2 with h2 | h2
      · go_enter Try.func9, Try.ntmps9
        go_wp2_with (go_at_call 27; refine (known_y _ _ h1').mono ?_; rintro e w' ⟨rfl, rfl⟩)
        go_ret2
        exact ⟨rfl, (Below.refl _ _).alloc (Nat.le_refl _) _⟩
      · have h3 : 0 ≤ f := by omega
        go_enter Try.func9, Try.ntmps9
        go_wp2_with (go_at_call 27; refine (known_y _ _ h1').mono ?_; rintro e w' ⟨rfl, rfl⟩)
        go_ret2
        exact ⟨rfl, (Below.refl _ _).alloc (Nat.le_refl _) _⟩
    · have h2' : 0 ≤ f ∧ f ≤ 255 := by omega
      by_cases h3 : 1024 < b.size
      · have e : putE k f b.size = 3 := by unfold putE; rw [if_neg h1, if_neg h2, if_pos (by omega)]
        have e2 : putS k f b = ⟨#[]⟩ := if_neg (by rw [e]; decide)
        rw [e, e2]
        clear e e2 h1 h2
        have hd1 : decide (f < 0) = false := by simp; omega
        have hd2 : decide (255 < f) = false := by simp; omega
        clear h2'
        go_enter Try.func9, Try.ntmps9
        go_wp2_with (go_at_call 27; refine (known_y _ _ h1').mono ?_; rintro e w' ⟨rfl, rfl⟩)
        go_ret2
        exact ⟨rfl, (Below.refl _ _).alloc (Nat.le_refl _) _⟩
      · have e : putE k f b.size = 0 := by unfold putE; rw [if_neg h1, if_neg h2, if_neg (by omega)]
        have e2 : putS k f b = headB k f b.size ++ b := if_pos e
        rw [e, e2]
        exact put_ok k f b w h1' h2' (by omega)

def oneB (n : Int) : ByteArray := strOfNums [n]
theorem byte_c (n : Int) (w : World) (h : 0 ≤ n ∧ n ≤ 255) : Calls Try.prog 28 #[.int .i64 n] w fun e w' => e = .returned (.string (oneB n)) ∧ Below w.heap.size w w' := by
  obtain ⟨h1, h2⟩ := h
  have hconv : (convert 53 9 (.slice (some ⟨w.heap.size, 0, none⟩) 1 1)).run Try.prog (w.alloc (.cells #[.int .u8 n] 5)) = .ok (.string (strOfNums [n])) (w.alloc (.cells #[.int .u8 n] 5)) :=
    run_convert_bytes_arg _ 53 5 Try.underlying53 Try.underlying5 w.heap.size 0 1 1 [n] rfl (fun i hi => by
      rw [Nat.zero_add, (Blk.new w 5 #[.int .u8 n]).cell i]
      match i, hi with
      | 0, _ => rfl) 9 Try.underlying9
  change _ = Result.ok (Value.string (oneB n)) _ at hconv
  go_enter Try.func28, Try.ntmps28
  go_wp2
  go_ret
  exact ⟨rfl, (Below.refl _ _).alloc (Nat.le_refl _) _⟩
theorem byte_size (n : Int) : (oneB n).size = 1 := strOfNums_size _

theorem heads_same (k f n m : Int) : oneB k ++ oneB f ++ oneB n ++ oneB m = strOfNums [k, f, n, m] := by
  apply ByteArray.ext
  simp [oneB, strOfNums]

theorem refput_ok (k f : Int) (b : ByteArray) (w : World) (hk : 1 ≤ k ∧ k ≤ 9) (hf : 0 ≤ f ∧ f ≤ 255) (hb : b.size ≤ 1024) :
    Calls Try.prog 10 #[.agg #[.int .i64 k, .int .i64 f, .string b]] w (Tup2 w (headB k f b.size ++ b) 0) := by
  unfold headB
  rw [← heads_same]
  have z1 : (oneB k).size ≤ 1 := by rw [byte_size]; omega
  have z2 : (oneB f).size ≤ 1 := by rw [byte_size]; omega
  have z3 : (oneB ((b.size : Int) / 256)).size ≤ 1 := by rw [byte_size]; omega
  have z4 : (oneB ((b.size : Int) % 256)).size ≤ 1 := by rw [byte_size]; omega
  have y2 : ¬ (9223372036854775807 < (oneB k).size + (oneB f).size) := by omega
  have y3 : ¬ (9223372036854775807 < (oneB k).size + (oneB f).size + (oneB ((b.size : Int) / 256)).size) := by omega
  have y4 : ¬ (9223372036854775807 < (oneB k).size + (oneB f).size + (oneB ((b.size : Int) / 256)).size + (oneB ((b.size : Int) % 256)).size) := by omega
  have y5 : ¬ (9223372036854775807 < (oneB k).size + (oneB f).size + (oneB ((b.size : Int) / 256)).size + (oneB ((b.size : Int) % 256)).size + b.size) := by omega
  have q2 : (b.size : Int).tmod 256 = (b.size : Int) % 256 := Int.tmod_eq_emod_of_nonneg (by omega)
  have q3 : IntKind.i64.wrap ((b.size : Int) % 256) = (b.size : Int) % 256 := by rw [IntKind.wrap_i64]; omega
  have q1 : IntKind.i64.wrap ((b.size : Int) / 256) = (b.size : Int) / 256 := by rw [IntKind.wrap_i64]; omega
  obtain ⟨hk1, hk2⟩ := hk
  obtain ⟨hf1, hf2⟩ := hf
  have hd0 : decide (k < 1) = false := by simp; omega
  have hd0' : decide (9 < k) = false := by simp; omega
  have hd1 : decide (f < 0) = false := by simp; omega
  have hd2 : decide (255 < f) = false := by simp; omega
  have hd3 : decide (1024 < (b.size : Int)) = false := by simp; omega
  go_enter Try.func10, Try.ntmps10
  go_wp2_with fail
  generalize hw1 : w.alloc (.cells #[.int .i64 k, .int .i64 f, .string b] 23) = w1
  have hB : Blk w1 w.heap.size 23 #[.int .i64 k, .int .i64 f, .string b] := by rw [← hw1]; exact Blk.new _ _ _
  have hbel : Below w.heap.size w w1.drew := by rw [← hw1]; exact ((Below.refl _ _).alloc (Nat.le_refl _) _).drew
  have r0 : w1.cell? ⟨w.heap.size, 0, none⟩ = some (.int .i64 k) := by simpa using hB.cell 0
  have r1 : w1.cell? ⟨w.heap.size, 1, none⟩ = some (.int .i64 f) := by simpa using hB.cell 1
  have r2 : w1.cell? ⟨w.heap.size, 2, none⟩ = some (.string b) := by simpa using hB.cell 2
  clear hw1 hB
  unfold Tup2
  generalize hg : w.heap.size = g at *
  have hgw : g ≤ w.heap.size := by omega
  have Hg := Lib.hid hg
  clear hg
  go_region_held3 (fun wq => wq.cell? ⟨g, 0, none⟩ = some (.int .i64 k) ∧ wq.cell? ⟨g, 1, none⟩ = some (.int .i64 f) ∧ wq.cell? ⟨g, 2, none⟩ = some (.string b)) (first | go_keep)
    (first | (go_at_call 28; refine (byte_c _ _ ?_).mono ?_; omega; rintro e w3 ⟨rfl, hb3⟩; have hk3 := keeps hb3 (Nat.le_refl _); replace hbel := below_step hbel hgw hb3; clear hb3))
  all_goals
    go_wp2_with fail
    go_ret2
    exact ⟨rfl, Hg.out ▸ hbel⟩

theorem refput_c (k f : Int) (b : ByteArray) (w : World) :
    Calls Try.prog 10 #[.agg #[.int .i64 k, .int .i64 f, .string b]] w (Tup2 w (putS k f b) (putE k f b.size)) := by
  by_cases h1 : k < 1 ∨ 9 < k
  · have e : putE k f b.size = 4 := if_pos h1
    have e2 : putS k f b = ⟨#[]⟩ := if_neg (by rw [e]; decide)
    rw [e, e2]
    clear e e2
    rcases h1 with h1 | h1
    · go_enter Try.func10, Try.ntmps10
      go_wp2
      go_ret2
      exact ⟨rfl, (Below.refl _ _).alloc (Nat.le_refl _) _⟩
    · have h1' : 1 ≤ k := by omega
      go_enter Try.func10, Try.ntmps10
      go_wp2
      go_ret2
      exact ⟨rfl, (Below.refl _ _).alloc (Nat.le_refl _) _⟩
  · have d1 : decide (k < 1) = false := by simp; omega
    have d2 : decide (9 < k) = false := by simp; omega
    by_cases h2 : f < 0 ∨ 255 < f
    · have e : putE k f b.size = 1 := by unfold putE; rw [if_neg h1, if_pos h2]
      have e2 : putS k f b = ⟨#[]⟩ := if_neg (by rw [e]; decide)
      rw [e, e2]
      clear e e2 h1
      rcases h2 with h2 | h2
      · go_enter Try.func10, Try.ntmps10
        go_wp2
        go_ret2
        exact ⟨rfl, (Below.refl _ _).alloc (Nat.le_refl _) _⟩
      · have h3 : 0 ≤ f := by omega
        go_enter Try.func10, Try.ntmps10
        go_wp2
        go_ret2
        exact ⟨rfl, (Below.refl _ _).alloc (Nat.le_refl _) _⟩
    · have d3 : decide (f < 0) = false := by simp; omega
      have d4 : decide (255 < f) = false := by simp; omega
      by_cases h3 : 1024 < b.size
      · have e : putE k f b.size = 3 := by unfold putE; rw [if_neg h1, if_neg h2, if_pos (by omega)]
        have e2 : putS k f b = ⟨#[]⟩ := if_neg (by rw [e]; decide)
        rw [e, e2]
        clear e e2 h1 h2
        go_enter Try.func10, Try.ntmps10
        go_wp2
        go_ret2
        exact ⟨rfl, (Below.refl _ _).alloc (Nat.le_refl _) _⟩
      · have e : putE k f b.size = 0 := by unfold putE; rw [if_neg h1, if_neg h2, if_neg (by omega)]
        have e2 : putS k f b = headB k f b.size ++ b := if_pos e
        rw [e, e2]
        exact refput_ok k f b w (by omega) (by omega) (by omega)

def costF (n : Int) : Int := if n < 0 then 16 else if 1024 < n then 1040 else 16 + n
theorem cost_c (n : Int) (w : World) : Calls Try.prog 11 #[.int .i64 n] w fun e w' => e = .returned (.int .i64 (costF n)) ∧ w = w' := by
  by_cases h1 : n < 0
  · go_enter Try.func11, Try.ntmps11
    go_wp2
    go_ret
    exact ⟨ret_int (by unfold costF; rw [if_pos h1]), rfl⟩
  · by_cases h2 : 1024 < n
    · go_enter Try.func11, Try.ntmps11
      go_wp2
      go_ret
      exact ⟨ret_int (by unfold costF; rw [if_neg (by omega), if_pos h2]), rfl⟩
    · go_enter Try.func11, Try.ntmps11
      go_wp2
      all_goals
        go_ret
        exact ⟨ret_int (by unfold costF; rw [if_neg (by omega), if_neg (by omega)] <;> try omega), rfl⟩
theorem refcost_c (n : Int) (w : World) : Calls Try.prog 12 #[.int .i64 n] w fun e w' => e = .returned (.int .i64 (costF n)) ∧ w = w' := by
  by_cases h1 : n < 0
  · go_enter Try.func12, Try.ntmps12
    go_wp2
    go_ret
    exact ⟨ret_int (by unfold costF; rw [if_pos h1]), rfl⟩
  · by_cases h2 : 1024 < n
    · go_enter Try.func12, Try.ntmps12
      go_wp2
      go_ret
      exact ⟨ret_int (by unfold costF; rw [if_neg (by omega), if_pos h2]), rfl⟩
    · go_enter Try.func12, Try.ntmps12
      go_wp2
      go_ret
      exact ⟨ret_int (by unfold costF; rw [if_neg (by omega), if_neg (by omega)]), rfl⟩
def asksF (n : Int) : Bool := n == 2 || n == 3 || n == 4 || n == 6 || n == 7
theorem asks_c (n : Int) (w : World) : Calls Try.prog 13 #[.int .i64 n] w fun e w' => e = .returned (.bool (asksF n)) ∧ w = w' := by
  cases h1 : (n == 2) <;> cases h2 : (n == 3) <;> cases h3 : (n == 4) <;> cases h4 : (n == 6) <;> cases h5 : (n == 7)
  all_goals
    go_enter Try.func13, Try.ntmps13
    go_wp2
    go_ret
    exact ⟨ret_bool (by simp [asksF, h1, h2, h3, h4, h5]), rfl⟩
theorem refasks_c (n : Int) (w : World) : Calls Try.prog 14 #[.int .i64 n] w fun e w' => e = .returned (.bool (asksF n)) ∧ w = w' := by
  cases h1 : (n == 2) <;> cases h2 : (n == 3) <;> cases h3 : (n == 4) <;> cases h4 : (n == 6) <;> cases h5 : (n == 7)
  all_goals
    go_enter Try.func14, Try.ntmps14
    go_wp2
    go_ret
    exact ⟨ret_bool (by simp [asksF, h1, h2, h3, h4, h5]), rfl⟩
theorem putS_ping : putS 5 0 ⟨#[]⟩ = ⟨#[5, 0, 0, 0]⟩ := by kernel_rfl
theorem putE_ping : putE 5 0 (⟨#[]⟩ : ByteArray).size = 0 := by decide

theorem awake5_c (w : World) : Calls Try.prog 15 #[] w (Tells w true) := by
  have C := put_c 5 0 ⟨#[]⟩ w
  rw [putS_ping, putE_ping] at C
  have D := Lib.hid C
  clear C
  go_enter Try.func15, Try.ntmps15
  go_wp2_with fail
  refine D.out.mono ?_
  rintro e w1 ⟨rfl, hb⟩
  go_wp2_with fail
  go_ret
  exact ⟨rfl, hb⟩

end Go.Proofs.Ythifnnogpcgjpaa
