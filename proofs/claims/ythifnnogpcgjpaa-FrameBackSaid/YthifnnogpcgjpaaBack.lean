/- The walk of FrameBack: it tells true. -/
import Derived.Test.YthifnnogpcgjpaaBackSpec
import Derived.Test.YthifnnogpcgjpaaRow
namespace Go.Proofs.Ythifnnogpcgjpaa
open Go.RowKit
set_option linter.unusedSimpArgs false

theorem u64_mod (x : Int) (n : Nat) (hn : 0 < n) : ∃ M : Nat, (IntKind.u64.wrap x).tmod (n : Int) = (M : Int) ∧ M < n := by
  have h0 : 0 ≤ IntKind.u64.wrap x := by rw [IntKind.wrap_u64]; omega
  rw [Int.tmod_eq_emod_of_nonneg h0]
  have h1 := Int.emod_nonneg (IntKind.u64.wrap x) (show (n : Int) ≠ 0 by omega)
  have h2 := Int.emod_lt_of_pos (IntKind.u64.wrap x) (show (0 : Int) < n by omega)
  obtain ⟨M, hM⟩ := Int.eq_ofNat_of_zero_le h1
  exact ⟨M, hM, by omega⟩

theorem cost_in (n : Int) (w : World) (h0 : 0 ≤ n) (h1 : n ≤ 1024) : Calls Try.prog 11 #[.int .i64 n] w fun e w' => e = .returned (.int .i64 (16 + n)) ∧ w = w' := by
  have := cost_c n w
  rwa [show costF n = 16 + n by unfold costF; rw [if_neg (by omega), if_neg (by omega)]] at this

set_option maxHeartbeats 2000000 in
set_option maxRecDepth 100000 in
theorem back_walk (k f : Int) (b t : ByteArray) (cut : Int) (w : World) (hk : I64 k) (hf : I64 f) (hb : b.size ≤ maxLen) (ht : t.size ≤ 140737488351232) (hcut : I64 cut) :
    Calls Try.prog 5 #[.agg #[.int .i64 k, .int .i64 f, .string b], .string t, .int .i64 cut] w (Tells w true) := by
  unfold maxLen at hb
  obtain ⟨hc0, hc1⟩ := hcut
  have C1 := fun w => put_c k f b w
  by_cases hE : putE k f b.size = 0
  · have hM := made_of k f b hE
    rw [hE] at C1
    clear hE
    have hz := hM.size
    have hbz := hM.hb
    obtain ⟨t1, t2, t3⟩ := hM.takes t
    have C2 := fun w => take_c (putS k f b ++ t) w (by unfold maxLen; rw [ByteArray.size_append]; omega)
    have C3 := fun (m : Nat) (hm : m < (putS k f b).size) w => take_c ((putS k f b).extract 0 m) w (by unfold maxLen; rw [ByteArray.size_extract]; omega)
    have C4 := fun (m : Nat) (hm : m < (putS k f b).size) => hM.short m hm
    unfold TakeRet at C2 C3
    rw [t1, t2, t3] at C2
    clear t1 t2 t3 hM
    generalize putS k f b = s at *
    have D1 := Lib.hid C1
    have D2 := Lib.hid C2
    have D3 := Lib.hid C3
    have D4 := Lib.hid C4
    clear C1 C2 C3 C4
    have Hz := Lib.hid hz
    have hz1 : s.size ≤ 4 + b.size := by omega
    have hz2 : 4 + b.size ≤ s.size := by omega
    have hq0 : (4 + (b.size : Int) != (s.size : Int)) = false := by rw [bne_eq_false_iff_eq]; omega
    have hq1 : (16 + (b.size : Int) != (s.size : Int) + 12) = false := by rw [bne_eq_false_iff_eq]; omega
    clear hz
    obtain ⟨M, hM, hMlt⟩ := u64_mod cut s.size (by omega)
    have D5 := D3.out M hMlt
    rw [D4.out M hMlt] at D5
    have D3 := Lib.hid D5
    clear D4 D5
    go_enter Try.func5, Try.ntmps5
    go_wp2_with fail
    refine (D1.out _).mono ?_
    rintro e w1 ⟨rfl, hb1⟩
    obtain ⟨q0, q1, q2⟩ := frame_facts _ _ _ _ _ hb1 _ (Blk.new w 23 _)
    go_wp2_with fail
    refine (D2.out _).mono ?_
    rintro e w2 ⟨rfl, hb2⟩
    have g0 := keeps hb2 (Nat.le_refl _) _ _ q0
    have g1 := keeps hb2 (Nat.le_refl _) _ _ q1
    have g2 := keeps hb2 (Nat.le_refl _) _ _ q2
    have n0 := cell_lt g0
    clear q0 q1 q2
    go_wp2_with fail
    refine (cost_in _ _ (by omega) (by omega)).mono ?_
    rintro e w3 ⟨rfl, rfl⟩
    go_wp2_with fail
    refine (D3.out _).mono ?_
    rintro e w3 ⟨rfl, hb3⟩
    go_wp2_with (go_at_call 15; refine (awake5_c _).mono ?_; rintro e w4 ⟨rfl, hb4⟩)
    go_ret
    refine ⟨rfl, ?_⟩
    have B1 := below_step (Below.alloc (Below.refl _ w) (Nat.le_refl _) _) (Nat.le_refl _) hb1
    have B2 := (below_step B1 (Nat.le_refl _) hb2).alloc (by omega) (.cells #[.int .i64 k, .int .i64 f, .string b] 23)
    have B3 := (below_step B2 (Nat.le_refl _) hb3)
    exact below_step (B3.alloc B3.size _) (Nat.le_refl _) hb4
  · have e : putS k f b = ⟨#[]⟩ := if_neg hE
    rw [e] at C1
    have hx : (putE k f b.size != 0) = true := by rw [bne_iff_ne]; exact hE
    clear e hE
    generalize putE k f b.size = E at *
    have D1 := Lib.hid C1
    clear C1
    go_enter Try.func5, Try.ntmps5
    go_wp2_with fail
    refine (D1.out _).mono ?_
    rintro e w1 ⟨rfl, hb1⟩
    go_wp2_with (go_at_call 15; refine (awake5_c _).mono ?_; rintro e w4 ⟨rfl, hb4⟩)
    go_ret
    exact ⟨rfl, below_step (below_step (Below.alloc (Below.refl _ w) (Nat.le_refl _) _) (Nat.le_refl _) hb1) (Nat.le_refl _) hb4⟩
end Go.Proofs.Ythifnnogpcgjpaa
