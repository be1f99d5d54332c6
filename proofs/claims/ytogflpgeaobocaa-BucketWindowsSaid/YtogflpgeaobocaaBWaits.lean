/- The walk of BucketWaits: it tells true. -/
import Derived.Test.YtogflpgeaobocaaBkt
import Derived.Test.YtogflpgeaobocaaRow
namespace Go.Proofs.Ytogflpgeaobocaa
open Go.RowKit
set_option linter.unusedSimpArgs false

/-- How many ticks it takes, of numbers held in bounds. -/
def waitQ (t r n : Int) : Int := if n ≤ t then 0 else if r = 0 then -1 else (n - t + r - 1).tdiv r
def waitF (t r n : Int) : Int := waitQ (inF t 1099511627776) (inF r 1099511627776) (inF n 1099511627776)

theorem waitQ_low {t r n : Int} (ht : 0 ≤ t) (hr : 0 ≤ r) : -1 ≤ waitQ t r n := by
  unfold waitQ
  split
  · omega
  · split
    · omega
    · have : 0 ≤ (n - t + r - 1).tdiv r := Int.tdiv_nonneg (by omega) hr
      omega
/-- What Wait tells, of tokens, a rate and a number that are not below 0. -/
theorem waitQ_spec {t r n : Int} (ht : 0 ≤ t) (hr : 0 ≤ r) (hn : 0 ≤ n) :
    (waitQ t r n = -1 ∧ r = 0 ∧ t < n) ∨ (0 ≤ waitQ t r n ∧ n ≤ t + r * waitQ t r n ∧ waitQ t r n ≤ n ∧ ∀ k : Int, 0 ≤ k → k < waitQ t r n → t + r * k < n) := by
  unfold waitQ
  by_cases h1 : n ≤ t
  · rw [if_pos h1]
    exact .inr ⟨by omega, by omega, by omega, fun k _ h => by omega⟩
  · rw [if_neg h1]
    by_cases h2 : r = 0
    · rw [if_pos h2]
      exact .inl ⟨rfl, h2, by omega⟩
    · rw [if_neg h2]
      refine .inr ?_
      have hr1 : 0 < r := by omega
      have hx : 0 ≤ n - t + r - 1 := by omega
      rw [Int.tdiv_eq_ediv_of_nonneg hx]
      have e := Int.emod_add_mul_ediv (n - t + r - 1) r
      have m0 := Int.emod_nonneg (n - t + r - 1) h2
      have m1 := Int.emod_lt_of_pos (n - t + r - 1) hr1
      have d0 := Int.ediv_nonneg hx hr
      generalize (n - t + r - 1) / r = q at *
      generalize (n - t + r - 1) % r = m at *
      refine ⟨d0, by omega, ?_, fun k hk hkq => ?_⟩
      · rcases Int.lt_or_le n q with hq | hq
        · have hm : 1 * (q - 1) ≤ r * (q - 1) := Int.mul_le_mul_of_nonneg_right (by omega) (by omega)
          have hm2 : r * (q - 1) = r * q - r := by rw [Int.mul_sub, Int.mul_one]
          omega
        · exact hq
      have hm : r * k ≤ r * (q - 1) := Int.mul_le_mul_of_nonneg_left (by omega) hr
      rw [Int.mul_sub, Int.mul_one] at hm
      omega

theorem wait_c (t r n : Int) (w : World) : Calls Try.prog 30 #[.int .i64 t, .int .i64 r, .int .i64 n] w fun e w' => e = .returned (.int .i64 (waitF t r n)) ∧ w = w' := by
  have W1 := fun w => within_c t 1099511627776 w (by omega)
  have W2 := fun w => within_c r 1099511627776 w (by omega)
  have W3 := fun w => within_c n 1099511627776 w (by omega)
  have b1 := inF_bd t 1099511627776 (by omega)
  have b2 := inF_bd r 1099511627776 (by omega)
  have b3 := inF_bd n 1099511627776 (by omega)
  unfold waitF
  generalize inF t 1099511627776 = t' at *
  generalize inF r 1099511627776 = r' at *
  generalize inF n 1099511627776 = n' at *
  obtain ⟨t0, t1⟩ := b1
  obtain ⟨r0, r1⟩ := b2
  obtain ⟨n0, n1⟩ := b3
  have D1 := Lib.hid W1
  have D2 := Lib.hid W2
  have D3 := Lib.hid W3
  clear W1 W2 W3
  unfold waitQ
  by_cases h1 : n' ≤ t'
  · rw [if_pos h1]
    go_enter Try.func30, Try.ntmps30
    go_wp2_with fail
    refine (D1.out _).mono ?_
    rintro e w' ⟨rfl, rfl⟩
    go_wp2_with fail
    refine (D2.out _).mono ?_
    rintro e w' ⟨rfl, rfl⟩
    go_wp2_with fail
    refine (D3.out _).mono ?_
    rintro e w' ⟨rfl, rfl⟩
    go_wp2_with fail
    go_ret
    exact ⟨rfl, rfl⟩
  · rw [if_neg h1]
    by_cases h2 : r' = 0
    · rw [if_pos h2]
      go_enter Try.func30, Try.ntmps30
      go_wp2_with fail
      refine (D1.out _).mono ?_
      rintro e w' ⟨rfl, rfl⟩
      go_wp2_with fail
      refine (D2.out _).mono ?_
      rintro e w' ⟨rfl, rfl⟩
      go_wp2_with fail
      refine (D3.out _).mono ?_
      rintro e w' ⟨rfl, rfl⟩
      go_wp2_with fail
      go_ret
      exact ⟨rfl, rfl⟩
    · rw [if_neg h2]
      have w1 : IntKind.i64.wrap (n' - t') = n' - t' := by rw [IntKind.wrap_i64]; omega
      have w2 : IntKind.i64.wrap (n' - t' + r') = n' - t' + r' := by rw [IntKind.wrap_i64]; omega
      have w3 : IntKind.i64.wrap (n' - t' + r' - 1) = n' - t' + r' - 1 := by rw [IntKind.wrap_i64]; omega
      have q0 : 0 ≤ (n' - t' + r' - 1).tdiv r' := Int.tdiv_nonneg (by omega) r0
      have q1 : (n' - t' + r' - 1).tdiv r' ≤ n' - t' + r' - 1 := by rw [Int.tdiv_eq_ediv_of_nonneg (by omega)]; exact Int.ediv_le_self _ (by omega)
      have w4 : IntKind.i64.wrap ((n' - t' + r' - 1).tdiv r') = (n' - t' + r' - 1).tdiv r' := by rw [IntKind.wrap_i64]; omega
      go_enter Try.func30, Try.ntmps30
      go_wp2_with fail
      refine (D1.out _).mono ?_
      rintro e w' ⟨rfl, rfl⟩
      go_wp2_with fail
      refine (D2.out _).mono ?_
      rintro e w' ⟨rfl, rfl⟩
      go_wp2_with fail
      refine (D3.out _).mono ?_
      rintro e w' ⟨rfl, rfl⟩
      go_wp2_with fail
      go_ret
      exact ⟨rfl, rfl⟩

theorem inF_in {n M : Int} (h0 : 0 ≤ n) (h1 : n ≤ M) : inF n M = n := by unfold inF; rw [if_neg (by omega), if_neg (by omega)]
theorem waitF_low (t r n : Int) : -1 ≤ waitF t r n := waitQ_low (inF_bd _ _ (by omega)).1 (inF_bd _ _ (by omega)).1
theorem waitF_neg (t n : Int) : waitF t (-1) n = waitF t 0 n := by
  unfold waitF
  rw [show inF (-1) 1099511627776 = inF 0 1099511627776 by decide]

set_option maxHeartbeats 1000000 in
set_option maxRecDepth 100000 in
theorem bwaits_walk (t r n : Int) (w : World) (_h1 : I64 t) (_h2 : I64 r) (_h3 : I64 n) :
    Calls Try.prog 9 #[.int .i64 t, .int .i64 r, .int .i64 n] w (Tells w true) := by
  have C1 := fun w => wait_c t r n w
  have C2 := fun w => wait_c t 0 n w
  have C3 := fun w => wait_c t (-1) n w
  rw [waitF_neg] at C3
  by_cases h : t < 0 ∨ 500 < t ∨ r < 0 ∨ 500 < r ∨ n < 0 ∨ 500 < n
  · have hw := waitF_low t r n
    generalize waitF t r n = x at *
    generalize waitF t 0 n = y at *
    have D1 := Lib.hid C1
    have D2 := Lib.hid C2
    have D3 := Lib.hid C3
    clear C1 C2 C3
    have main : (∀ K : Act → World → Prop, True) := fun _ => trivial
    clear main
    go_enter Try.func9, Try.ntmps9
    go_wp2_with fail
    refine (D1.out _).mono ?_
    rintro e w' ⟨rfl, rfl⟩
    by_cases c1 : t < 0
    · go_wp2_with fail
      refine (D2.out _).mono ?_
      rintro e w' ⟨rfl, rfl⟩
      go_wp2_with fail
      refine (D3.out _).mono ?_
      rintro e w' ⟨rfl, rfl⟩
      go_wp2_with fail
      refine (bawake_c _).mono ?_
      rintro e w1 ⟨rfl, hb⟩
      go_wp2_with fail
      go_ret
      exact ⟨rfl, hb⟩
    · by_cases c2 : 500 < t
      · go_wp2_with fail
        refine (D2.out _).mono ?_
        rintro e w' ⟨rfl, rfl⟩
        go_wp2_with fail
        refine (D3.out _).mono ?_
        rintro e w' ⟨rfl, rfl⟩
        go_wp2_with fail
        refine (bawake_c _).mono ?_
        rintro e w1 ⟨rfl, hb⟩
        go_wp2_with fail
        go_ret
        exact ⟨rfl, hb⟩
      · by_cases c3 : r < 0
        · go_wp2_with fail
          refine (D2.out _).mono ?_
          rintro e w' ⟨rfl, rfl⟩
          go_wp2_with fail
          refine (D3.out _).mono ?_
          rintro e w' ⟨rfl, rfl⟩
          go_wp2_with fail
          refine (bawake_c _).mono ?_
          rintro e w1 ⟨rfl, hb⟩
          go_wp2_with fail
          go_ret
          exact ⟨rfl, hb⟩
        · by_cases c4 : 500 < r
          · go_wp2_with fail
            refine (D2.out _).mono ?_
            rintro e w' ⟨rfl, rfl⟩
            go_wp2_with fail
            refine (D3.out _).mono ?_
            rintro e w' ⟨rfl, rfl⟩
            go_wp2_with fail
            refine (bawake_c _).mono ?_
            rintro e w1 ⟨rfl, hb⟩
            go_wp2_with fail
            go_ret
            exact ⟨rfl, hb⟩
          · by_cases c5 : n < 0
            · go_wp2_with fail
              refine (D2.out _).mono ?_
              rintro e w' ⟨rfl, rfl⟩
              go_wp2_with fail
              refine (D3.out _).mono ?_
              rintro e w' ⟨rfl, rfl⟩
              go_wp2_with fail
              refine (bawake_c _).mono ?_
              rintro e w1 ⟨rfl, hb⟩
              go_wp2_with fail
              go_ret
              exact ⟨rfl, hb⟩
            · have c6 : 500 < n := by omega
              go_wp2_with fail
              refine (D2.out _).mono ?_
              rintro e w' ⟨rfl, rfl⟩
              go_wp2_with fail
              refine (D3.out _).mono ?_
              rintro e w' ⟨rfl, rfl⟩
              go_wp2_with fail
              refine (bawake_c _).mono ?_
              rintro e w1 ⟨rfl, hb⟩
              go_wp2_with fail
              go_ret
              exact ⟨rfl, hb⟩
  · have ht0 : 0 ≤ t := by omega
    have ht1 : t ≤ 500 := by omega
    have hr0 : 0 ≤ r := by omega
    have hr1 : r ≤ 500 := by omega
    have hn0 : 0 ≤ n := by omega
    have hn1 : n ≤ 500 := by omega
    clear h C2 C3
    have hs : waitF t r n = waitQ t r n := by unfold waitF; rw [inF_in ht0 (by omega), inF_in hr0 (by omega), inF_in hn0 (by omega)]
    have hsp := waitQ_spec (t := t) (r := r) (n := n) ht0 hr0 hn0
    rw [← hs] at hsp
    clear hs
    generalize waitF t r n = x at *
    have D1 := Lib.hid C1
    have C4 := bnew_c w r 1000000
    rw [inF_in hr0 (by omega), inF_in (n := 1000000) (by omega) (by omega)] at C4
    have D4 := Lib.hid C4
    clear C1 C4
    rcases hsp with ⟨rfl, rfl, hlt⟩ | ⟨hx0, hx, hxb, hk⟩
    · go_enter Try.func9, Try.ntmps9
      go_wp2_with fail
      refine (D1.out _).mono ?_
      rintro e w' ⟨rfl, rfl⟩
      go_wp2_with fail
      refine D4.out.mono ?_
      rintro e w1 ⟨rfl, hb, hbel, hs⟩
      have wr1 : IntKind.i64.wrap (1000000 - t) = 1000000 - t := by rw [IntKind.wrap_i64]; omega
      go_wp2_with fail
      refine (btake_c w1 _ _ _ _ (1000000 - t) hb (by omega) (by omega)).mono ?_
      rintro e w2 ⟨rfl, hb2, hg2⟩
      go_wp2_with fail
      refine (bawake_c _).mono ?_
      rintro e w3 ⟨rfl, hb3⟩
      go_wp2_with fail
      go_ret
      exact ⟨rfl, below_step (below_only hbel hg2 (by omega) (Nat.le_refl _)) (Nat.le_refl _) hb3⟩
    · have Hk := Lib.hid hk
      clear hk
      have hxn : ¬ x < 0 := by omega
      have e1 : btakeE 1000000 (1000000 - t) = 0 := by unfold btakeE; rw [if_neg (by omega), if_neg (by omega)]
      have e2 : btakeT 1000000 (1000000 - t) = t := by unfold btakeT; rw [if_neg (by omega), if_neg (by omega)]; omega
      go_enter Try.func9, Try.ntmps9
      go_wp2_with fail
      refine (D1.out _).mono ?_
      rintro e w' ⟨rfl, rfl⟩
      go_wp2_with fail
      refine D4.out.mono ?_
      rintro e w1 ⟨rfl, hb, hbel, hs⟩
      have wr1 : IntKind.i64.wrap (1000000 - t) = 1000000 - t := by rw [IntKind.wrap_i64]; omega
      go_wp2_with fail
      refine (btake_c w1 _ _ _ _ (1000000 - t) hb (by omega) (by omega)).mono ?_
      rw [e1, e2]
      rintro e w2 ⟨rfl, hb2, hg2⟩
      have Hst := Lib.hid (And.intro hb2 (And.intro (below_only hbel hg2 (by omega) (Nat.le_refl _)) (show w.heap.size < w2.heap.size by have := hg2.size; omega)))
      clear hb hbel hb2 hg2 hs D1 D4 e1 e2
      generalize hG : w.heap.size = G at *
      go_wp2_with fail
      go_loopw [9] (fun i wr => ∃ (k : Nat) (T : Int), (k : Int) ≤ x ∧ i = .int .i64 k ∧ T = t + r * k ∧ Bkt wr G r 1000000 T ∧ Below G w wr ∧ G < wr.heap.size) (fun i _ => (x - intOf i).toNat)
      case atStart => exact ⟨0, t, by omega, rfl, by simp, Hst.out⟩
      case round =>
        obtain ⟨k, T, hkx, rfl, hT, hB, hbel, hlt⟩ := hrel
        have hrk0 : 0 ≤ r * (k : Int) := Int.mul_nonneg hr0 (by omega)
        have HB := Lib.hid hB
        by_cases c : (k : Int) < x
        · have hTn := Hk.out k (by omega) c
          rw [← hT] at hTn
          have c2 := Bkt.c2 hB
          have e : tickF r 1000000 T = T + r := by unfold tickF; rw [if_neg (by omega)]
          have C5 := tick_c wr G r 1000000 T hB hr0 (by omega) (by omega) (by omega) (by omega) (by omega)
          rw [e] at C5
          have D5 := Lib.hid C5
          have hnext : T + r = t + r * ((k + 1 : Nat) : Int) := by rw [Int.natCast_add, Int.mul_add]; simp; omega
          have Hn := Lib.hid hnext
          clear C5 hB e hnext
          clear hT
          go_wp2_with fail
          refine (tokens_cell _ _ _ c2).mono ?_
          rintro e w' ⟨rfl, rfl⟩
          go_wp2_with fail
          refine D5.out.mono ?_
          rintro e w' ⟨rfl, hb3, hg3⟩
          go_wp2_with fail
          go_roundw
          case rel => exact ⟨k + 1, T + r, by omega, by go_num, Hn.out, hb3, below_only hbel hg3 (by omega) (Nat.le_refl _), by have := hg3.size; omega⟩
          case measure => simp [intOf]; omega
        · have hkx : (k : Int) = x := by omega
          rw [← hkx] at hx
          rw [← hT] at hx
          have c2 := Bkt.c2 hB
          clear hB hT
          go_wp2_with fail
          refine (tokens_cell _ _ _ c2).mono ?_
          rintro e w' ⟨rfl, rfl⟩
          go_wp2_with fail
          refine (bawake_c _).mono ?_
          rintro e w3 ⟨rfl, hb3⟩
          go_wp2_with fail
          go_ret
          subst hG
          exact ⟨rfl, below_step hbel (by omega) hb3⟩
end Go.Proofs.Ytogflpgeaobocaa
