/- The walk of AccountKeeps: it tells true. -/
import Derived.Test.YtogflpgeaobocaaAcc
import Derived.Test.YtogflpgeaobocaaRow
namespace Go.Proofs.Ytogflpgeaobocaa
open Go.RowKit
set_option linter.unusedSimpArgs false


theorem give_cases (T n : Int) : (giveE T n = 1 ∧ giveT T n = T ∧ n < 0) ∨ (giveE T n = 1 ∧ giveT T n = T ∧ 0 ≤ n ∧ T < n) ∨ (giveE T n = 0 ∧ giveT T n = T - n ∧ 0 ≤ n ∧ n ≤ T) := by
  unfold giveE giveT
  by_cases h : n < 0
  · exact .inl ⟨if_pos h, if_pos h, h⟩
  · by_cases h2 : n > T
    · exact .inr (.inl ⟨by rw [if_neg h, if_pos h2], by rw [if_neg h, if_pos h2], by omega, h2⟩)
    · exact .inr (.inr ⟨by rw [if_neg h, if_neg h2], by rw [if_neg h, if_neg h2], by omega, by omega⟩)
theorem take_cases (L T n : Int) : (takeE L T n = 1 ∧ takeT L T n = T ∧ n < 0) ∨ (takeE L T n = 13 ∧ takeT L T n = T ∧ 0 ≤ n ∧ roomF L T < n) ∨ (takeE L T n = 0 ∧ takeT L T n = T + n ∧ 0 ≤ n ∧ n ≤ roomF L T) := by
  unfold takeE takeT
  by_cases h : n < 0
  · exact .inl ⟨if_pos h, if_pos h, h⟩
  · by_cases h2 : n > roomF L T
    · exact .inr (.inl ⟨by rw [if_neg h, if_pos h2], by rw [if_neg h, if_pos h2], by omega, h2⟩)
    · exact .inr (.inr ⟨by rw [if_neg h, if_neg h2], by rw [if_neg h, if_neg h2], by omega, by omega⟩)

theorem room_le (w : World) (g : Nat) (L T : Int) (h : Acc w g L T) (hL0 : 0 ≤ L) (hL : L ≤ 1048576) (hT0 : 0 ≤ T) (hT : T ≤ L) :
    Calls Try.prog 19 #[.pointer (some ⟨g, 0, none⟩)] w fun e w' => e = .returned (.int .i64 (L - T)) ∧ ∃ n, w.drewN n = w' := by
  have e : roomF L T = L - T := by unfold roomF; rw [if_neg (by omega)]
  rw [← e]
  exact room_c w g L T h hL0 hL hT0 (by omega)

set_option maxHeartbeats 2000000 in
set_option maxRecDepth 100000 in
theorem keeps_walk (limit : Int) (A : Option Addr) (len cap : Nat) (f : Nat → Nat → Int) (w : World)
    (hl : I64 limit) (hlen : len ≤ maxLen) (hr : Ints w A len 2 f) :
    Calls Try.prog 4 #[.int .i64 limit, .slice A len cap] w (Tells w true) := by
  unfold maxLen at hlen
  obtain ⟨hl0, hl1⟩ := hl
  by_cases h1 : len > 2000
  · go_enter Try.func4, Try.ntmps4
    go_wp2_with fail
    refine (awake_c _).mono ?_
    rintro e w1 ⟨rfl, hb⟩
    go_wp2_with fail
    go_ret
    exact ⟨rfl, hb⟩
  · by_cases h2 : limit < 0
    · go_enter Try.func4, Try.ntmps4
      go_wp2_with fail
      refine (awake_c _).mono ?_
      rintro e w1 ⟨rfl, hb⟩
      go_wp2_with fail
      go_ret
      exact ⟨rfl, hb⟩
    · by_cases h3 : limit > 1048576
      · go_enter Try.func4, Try.ntmps4
        go_wp2_with fail
        refine (awake_c _).mono ?_
        rintro e w1 ⟨rfl, hb⟩
        go_wp2_with fail
        go_ret
        exact ⟨rfl, hb⟩
      · have hlim : limF limit = limit := by unfold limF; rw [if_neg h2, if_neg h3]
        have Hr := Lib.hid hr
        clear hr
        go_enter Try.func4, Try.ntmps4
        go_wp2_with fail
        refine (new_c _ _).mono ?_
        rw [hlim]
        clear hlim
        rintro e w1 ⟨rfl, ha, hb, hs⟩
        have Hb := Lib.hid hb
        clear hb
        generalize hG : w.heap.size = G at *
        go_wp2_with fail
        go_loopw [6] (fun i wr => ∃ (k : Nat) (T : Int), k ≤ len ∧ i = .int .i64 k ∧ 0 ≤ T ∧ T ≤ limit ∧ Acc wr G limit T ∧ Below G w wr) (fun i _ => len - (intOf i).toNat)
        case atStart => exact ⟨0, 0, by omega, rfl, by omega, by omega, ha, Hb.out⟩
        case round =>
          obtain ⟨k, T, hk, rfl, hT0, hT1, hacc, hbel⟩ := hrel
          by_cases hlt : k < len
          · obtain ⟨ad, hA, hadb, hcs⟩ := Hr.out k hlt
            have hc0 := (hcs 0 (by omega)).1
            obtain ⟨hc1, hn0, hn1⟩ := hcs 1 (by omega)
            rw [← hbel.cell (by rw [cellAt_block]; omega)] at hc0 hc1
            simp only [cellAt, if_true, Nat.one_ne_zero, if_false] at hc0 hc1
            clear hcs
            clear ha
            subst hA
            go_wp2_with fail
            generalize f k 1 = n at *
            generalize f k 0 = K at *
            refine (taken_c wr _ _ _ hacc).mono ?_
            rintro e w2 ⟨rfl, rfl⟩
            have hq : ∀ x : Int, (x + (limit - x) != limit) = false := fun x => by simp; omega
            have hroom : roomF limit T = limit - T := by unfold roomF; rw [if_neg (by omega)]
            have TC := take_cases limit T n
            rw [hroom] at TC
            clear hroom
            have TC := Lib.hid TC
            cases hK1 : (K == 1)
            · clear TC
              rcases give_cases T n with ⟨he, ht, h⟩ | ⟨he, ht, h, h'⟩ | ⟨he, ht, h, h'⟩
              all_goals
                have C0 := give_c wr G limit T n hacc hT0 (by omega)
                rw [he, ht] at C0
                have C := Lib.hid C0
                clear he ht C0
                go_wp2_with fail
                refine C.out.mono ?_
                rintro e w2 ⟨rfl, ha2, hg2⟩
                go_wp2_with (first | (go_at_call 18; refine (taken_c w2 _ _ _ ha2).mono ?_; rintro e w' ⟨rfl, rfl⟩) | (go_at_call 19; refine (room_le w2 _ _ _ ha2 (by omega) (by omega) (by omega) (by omega)).mono ?_; rintro e w' ⟨rfl, nq, rfl⟩))
                go_roundw
                case rel => exact ⟨k + 1, _, by omega, by go_num, by omega, by omega, ha2.drewN _, below_drewN (below_only hbel hg2 (by have := hbel.size; omega) (Nat.le_refl _)) _⟩
                case measure => simp [intOf]; omega
            · have TC := TC.out
              have W1 : n < 0 → (wrap64 (T - n) == T) = false := fun h => by rw [beq_eq_false_iff_ne]; unfold wrap64; omega
              have W2 : limit - T < n → (T - n == T) = false := fun h => by rw [beq_eq_false_iff_ne]; omega
              have W3 : n ≤ limit - T → (T + n - n == T) = true := fun h => by rw [beq_iff_eq]; omega
              rcases TC with ⟨he, ht, h⟩ | ⟨he, ht, h, h'⟩ | ⟨he, ht, h, h'⟩
              · have W := W1 h
                clear W1 W2 W3
                have C0 := take_c wr G limit T n hacc (by omega) (by omega) hT0 (by omega)
                rw [he, ht] at C0
                have C := Lib.hid C0
                clear he ht C0
                go_wp2_with fail
                refine C.out.mono ?_
                rintro e w2 ⟨rfl, ha2, hg2⟩
                go_wp2_with (first | (go_at_call 18; refine (taken_c w2 _ _ _ ha2).mono ?_; rintro e w' ⟨rfl, rfl⟩) | (go_at_call 19; refine (room_le w2 _ _ _ ha2 (by omega) (by omega) (by omega) (by omega)).mono ?_; rintro e w' ⟨rfl, nq, rfl⟩))
                go_roundw
                case rel => exact ⟨k + 1, _, by omega, by go_num, by omega, by omega, ha2.drewN _, below_drewN (below_only hbel hg2 (by have := hbel.size; omega) (Nat.le_refl _)) _⟩
                case measure => simp [intOf]; omega
              · have W := W2 h'
                clear W1 W2 W3
                have C0 := take_c wr G limit T n hacc (by omega) (by omega) hT0 (by omega)
                rw [he, ht] at C0
                have C := Lib.hid C0
                clear he ht C0
                go_wp2_with fail
                refine C.out.mono ?_
                rintro e w2 ⟨rfl, ha2, hg2⟩
                go_wp2_with (first | (go_at_call 18; refine (taken_c w2 _ _ _ ha2).mono ?_; rintro e w' ⟨rfl, rfl⟩) | (go_at_call 19; refine (room_le w2 _ _ _ ha2 (by omega) (by omega) (by omega) (by omega)).mono ?_; rintro e w' ⟨rfl, nq, rfl⟩))
                go_roundw
                case rel => exact ⟨k + 1, _, by omega, by go_num, by omega, by omega, ha2.drewN _, below_drewN (below_only hbel hg2 (by have := hbel.size; omega) (Nat.le_refl _)) _⟩
                case measure => simp [intOf]; omega
              · have W := W3 h'
                clear W1 W2 W3
                have C0 := take_c wr G limit T n hacc (by omega) (by omega) hT0 (by omega)
                rw [he, ht] at C0
                have C := Lib.hid C0
                clear he ht C0
                go_wp2_with fail
                refine C.out.mono ?_
                rintro e w2 ⟨rfl, ha2, hg2⟩
                go_wp2_with (first | (go_at_call 18; refine (taken_c w2 _ _ _ ha2).mono ?_; rintro e w' ⟨rfl, rfl⟩) | (go_at_call 19; refine (room_le w2 _ _ _ ha2 (by omega) (by omega) (by omega) (by omega)).mono ?_; rintro e w' ⟨rfl, nq, rfl⟩))
                go_roundw
                case rel => exact ⟨k + 1, _, by omega, by go_num, by omega, by omega, ha2.drewN _, below_drewN (below_only hbel hg2 (by have := hbel.size; omega) (Nat.le_refl _)) _⟩
                case measure => simp [intOf]; omega
          · go_wp2_with fail
            refine (awake_c _).mono ?_
            rintro e w2 ⟨rfl, hb2⟩
            go_wp2_with fail
            go_ret
            subst hG; exact ⟨rfl, (hbel.trans (hb2.mono (by have := hbel.size; omega)))⟩
end Go.Proofs.Ytogflpgeaobocaa
