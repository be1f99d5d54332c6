/- The walk of DrrSteps: it tells true. -/
import Derived.Test.YtaenlieajlfkdaaStepMem
namespace Go.Proofs.Ytaenlieajlfkdaa
open Go.RowKit Go.Maps
set_option linter.unusedVariables false
set_option linter.unnecessarySimpa false
set_option linter.unusedSimpArgs false

/-- Behind k steps. -/
def Stp (w : World) (B g W : Nat) (k : Nat) (wr : World) : Prop :=
  ∃ S A n c A' n' c' ad st row N, StB w B S g W (.slice A n c) (.slice A' n' c') ad st row N wr ∧ StepI ad st row ∧ N ≤ k ∧ RefIs (fun k => ¬ S k) wr (.agg #[.slice A n c, .slice A' n' c']) (flA9 ad st) row

theorem Stp.start (w : World) {w2 : World} {A A' : Option Addr} {n n' c c' : Nat} (hI : RefIs (fun k => k ≠ w.heap.size) w2 (.agg #[.slice A n c, .slice A' n' c']) (fun _ => ⟨false, zeroF⟩) [])
    (hb : Below (w.alloc (.cells #[.map none, .slice none 0 0] 28)).heap.size (w.alloc (.cells #[.map none, .slice none 0 0] 28)) w2) :
    Stp w w.heap.size w.heap.size w2.heap.size 0 (w2.alloc (.cells #[.slice A n c, .slice A' n' c'] 46)) := by
  have hs := hb.size
  simp at hs
  have h2 := (Below.refl w2.heap.size w2).alloc (Nat.le_refl _) (.cells #[.slice A n c, .slice A' n' c'] 46)
  refine ⟨fun k => k = w.heap.size, A, n, c, A', n', c', fun _ => none, fun _ => zeroF, [], 0, ⟨⟨_, _, _, ((RgE.new w (fun k => k = w.heap.size) rfl).below hb).below h2⟩, fun k hk => ⟨by rw [hk]; exact Nat.le_refl _, by rw [hk]; simp; omega⟩, by omega, by omega, Blk.new _ _ _, ?_⟩, StepI.start, Nat.le_refl _, ?_⟩
  · exact ((Below.refl _ _).alloc (Nat.le_refl _) _).trans ((hb.mono (by simp)).trans (h2.mono (by omega)))
  · exact (hI.below h2).congr fun j hj => rfl

set_option maxHeartbeats 2000000 in
set_option maxRecDepth 100000 in
theorem dsteps_walk (A : Option Addr) (len cap : Nat) (f : Nat → Nat → Int) (w : World) (hlen : len ≤ maxLen) (hr : Ints w A len 3 f) :
    Calls Try.prog 5 #[.slice A len cap] w (Tells w true) := by
  unfold maxLen at hlen
  by_cases h1 : len > 250
  · go_enter Try.func5, Try.ntmps5
    go_wp2_with fail
    refine (awake25_c _).mono ?_
    rintro e w1 ⟨rfl, hb⟩
    go_wp2_with fail
    go_ret
    exact ⟨rfl, hb⟩
  · have Hr := Lib.hid hr
    clear hr
    go_enter Try.func5, Try.ntmps5
    go_wp2_with fail
    refine (newr_c _).mono ?_
    rintro e w1 ⟨rfl, hw1⟩
    have HW1 := Lib.hid hw1
    have D0 := Lib.hid (refnew_c (Q := fun k => k ≠ w.heap.size) w1 (fun k hk => by
      rw [← hw1] at hk
      simp at hk
      omega))
    clear hw1
    go_wp2_with fail
    refine D0.out.mono ?_
    rintro e w2 ⟨v2, rfl, hI2, hb2⟩
    obtain ⟨g2, c2, kv2, rv2, rfl, _, _, hr2⟩ := id hI2.ex
    obtain ⟨A2, cr2, rfl, _⟩ := hr2
    have Hst := Lib.hid (Stp.start w hI2 (HW1.out ▸ hb2))
    have hWB : w.heap.size < w2.heap.size := by have := hb2.size; rw [← HW1.out] at this; simp at this; omega
    clear hI2 hb2 D0 HW1
    go_wp2_with fail
    generalize w2.heap.size = W at *
    generalize w2.alloc (.cells #[.slice (some ⟨g2, 0, none⟩) 9 c2, .slice A2 ([] : List Int).length cr2] 46) = w3 at *
    generalize hBB : w.heap.size = B at *
    go_loopw [5] (fun i wr => ∃ k : Nat, k ≤ len ∧ i = .int .i64 k ∧ Stp w B B W k wr) (fun i _ => len - (intOf i).toNat)
    case atStart => exact ⟨0, by omega, rfl, Hst.out⟩
    case round =>
      obtain ⟨k, hk, rfl, S, A1, n1, c1, A', n', c', ad, st, row, N, hM, hS, hN, hI⟩ := hrel
      by_cases hlt : k < len
      · obtain ⟨adr, hA, hadb, hcs⟩ := Hr.out k hlt
        obtain ⟨hc0, hk0, hk1⟩ := hcs 0 (by omega)
        obtain ⟨hc1, hf0, hf1⟩ := hcs 1 (by omega)
        obtain ⟨hc2, hn0, hn1⟩ := hcs 2 (by omega)
        rw [hBB] at hadb
        rw [← hM.bel.cell (by rw [cellAt_block]; omega)] at hc0 hc1 hc2
        simp only [cellAt, if_true, Nat.one_ne_zero, if_false, Nat.reduceEqDiff] at hc0 hc1 hc2
        clear hcs
        subst hA
        generalize f k 0 = K at *
        generalize f k 1 = Fl at *
        generalize f k 2 = n at *
        have h3 := (Below.refl wr.heap.size wr).alloc (Nat.le_refl _) (.cells #[.int .i64 K, .int .i64 Fl, .int .i64 n] 35)
        have hM3 := hM.below h3
        have hI3 := hI.below h3
        have b8 := Blk.new wr 35 #[.int .i64 K, .int .i64 Fl, .int .i64 n]
        have hsbW : wr.heap.size ≠ W := by have := hM.sz; omega
        have hrl : row.length ≤ 1000 := by
          obtain ⟨M, rv, cv, hR⟩ := hM.ring
          have := hR.rowlen
          omega
        clear hM hI h3 Hst
        go_upto_region 9 with (fail)
        clear hc0 hc1 hc2
        generalize wr.alloc (.cells #[.int .i64 K, .int .i64 Fl, .int .i64 n] 35) = w3 at *
        generalize wr.heap.size = sb at *
        have s0 : w3.cell? ⟨sb, 0, none⟩ = some (.int .i64 K) := by simpa using b8.cell 0
        have s1 : w3.cell? ⟨sb, 1, none⟩ = some (.int .i64 Fl) := by simpa using b8.cell 1
        have s2 : w3.cell? ⟨sb, 2, none⟩ = some (.int .i64 n) := by simpa using b8.cell 2
        obtain ⟨a0, a1, _, _⟩ := hM3.cells
        have HM3 := Lib.hid hM3
        have HI3 := Lib.hid hI3
        have HS := Lib.hid hS
        have BS := Lib.hid b8
        clear hM3 hI3 hS b8
        -- ROUND
        by_cases hK1 : K = 1
        · subst hK1
          by_cases h0 : 0 < n
          · by_cases h5 : n < 5
            · go_wp2_with fail
              go_roundw
              case rel => exact ⟨k + 1, by omega, by go_num, ⟨_, _, _, _, _, _, _, _, _, _, _, HM3.out, HS.out, by omega, HI3.out⟩⟩
              case measure => simp [intOf]; omega
            · by_cases hg : 0 ≤ Fl ∧ Fl ≤ 8 ∧ n ≤ 1048576
              · obtain ⟨g0, g8, hq2⟩ := hg
                have hq1 : 1 ≤ n := by omega
                obtain ⟨m, rfl⟩ := Int.eq_ofNat_of_zero_le g0
                have hm9 : m < 9 := by omega
                have DR := Lib.hid ((refset_yes (Q := fun k => ¬ S k) w3 _ (flA9 ad st) row HI3.out m n hm9 hq1 hq2 HM3.out.up))
                go_wp2_with fail
                refine DR.out.mono ?_
                rintro e w4 ⟨v4, rfl, hI4, hb4⟩
                obtain ⟨g4, c4, kv4, rv4, rfl, _, _, hr4⟩ := id hI4.ex
                obtain ⟨A4, cr4, rfl, _⟩ := hr4
                generalize row.length = L4 at *
                have hM4 := HM3.out.below hb4
                have b84 := BS.out.below hb4 BS.out.lt
                have hW4 := hM4.sz
                obtain ⟨x0, x1, y0, y1⟩ := hM4.cells
                have hM5 := hM4.setW (.slice (some ⟨g4, 0, none⟩) 9 c4) (.slice A4 L4 cr4)
                have hI5 := RefIs.setW (A2 := some ⟨g4, 0, none⟩) (n2 := 9) (c2 := c4) hM4 hI4 (.slice A4 L4 cr4)
                have b85 := (b84.far (p := ⟨W, 0, none⟩) hsbW (.slice (some ⟨g4, 0, none⟩) 9 c4)).far (p := ⟨W, 1, none⟩) hsbW (.slice A4 L4 cr4)
                have h7 := (Below.refl ((w4.setCell ⟨W, 0, none⟩ (.slice (some ⟨g4, 0, none⟩) 9 c4)).setCell ⟨W, 1, none⟩ (.slice A4 L4 cr4)).heap.size ((w4.setCell ⟨W, 0, none⟩ (.slice (some ⟨g4, 0, none⟩) 9 c4)).setCell ⟨W, 1, none⟩ (.slice A4 L4 cr4))).alloc (Nat.le_refl _) (.cells #[.slice (some ⟨g4, 0, none⟩) 9 c4, .slice A4 L4 cr4] 46)
                have hM6 := hM5.below h7
                have hI6 := hI5.below h7
                have b86 := b85.alloc (.cells #[.slice (some ⟨g4, 0, none⟩) 9 c4, .slice A4 L4 cr4] 46)
                have HM6 := Lib.hid hM6
                have HI6 := Lib.hid hI6
                have BS6 := Lib.hid b86
                clear hM4 hM5 hM6 hI4 hI5 hI6 h7 b84 b85 b86 DR hb4 a0 a1 s1 s2
                go_upto_region 19 with (fail)
                clear x0 x1 y0 y1
                generalize ((w4.setCell ⟨W, 0, none⟩ (.slice (some ⟨g4, 0, none⟩) 9 c4)).setCell ⟨W, 1, none⟩ (.slice A4 L4 cr4)).alloc (.cells #[.slice (some ⟨g4, 0, none⟩) 9 c4, .slice A4 L4 cr4] 46) = w5 at *
                have s1 : w5.cell? ⟨sb, 1, none⟩ = some (.int .i64 (m : Int)) := by simpa using BS6.out.cell 1
                have s2 : w5.cell? ⟨sb, 2, none⟩ = some (.int .i64 n) := by simpa using BS6.out.cell 2
                have DD := Lib.hid (HM6.out.set_ (n := (m : Int)) (q := n) (by omega) (by omega) (by omega) hq1 hq2)
                go_wp2_with fail
                refine DD.out.mono ?_
                rintro e w6 ⟨ad', e1, e2, rfl, S', hM7, hImp⟩
                have hI7 := hImp _ _ _ HI6.out
                rw [tie_set e1 e2] at hI7
                have hS7 := HS.out.set_ e1 e2 (by omega) (by omega) hq1 hq2
                have hz7 := hM7.sz
                obtain ⟨a0, a1, _, _⟩ := hM7.cells
                have DS := Lib.hid (hM7.same_ hS7 (by omega) hI7)
                have HM7 := Lib.hid hM7
                have HI7 := Lib.hid hI7
                have HS7 := Lib.hid hS7
                clear hM7 hI7 hS7 hImp DD s1 s2
                go_wp2_with fail
                refine DS.out.mono ?_
                rintro e w8 ⟨rfl, hb8⟩
                have HM8 := Lib.hid (HM7.out.below hb8)
                have HI8 := Lib.hid (HI7.out.below hb8)
                clear DS hb8 a0 a1
                go_wp2_with fail
                go_roundw
                case rel => exact ⟨k + 1, by omega, by go_num, ⟨_, _, _, _, _, _, _, _, _, _, _, HM8.out, HS7.out, by omega, HI8.out⟩⟩
                case measure => simp [intOf]; omega
              · have hbad : ¬ (0 ≤ Fl ∧ Fl ≤ 8 ∧ 1 ≤ n ∧ n ≤ 1048576) := fun h => hg ⟨h.1, h.2.1, h.2.2.2⟩
                clear hg
                have DR := Lib.hid (refset_no (Q := fun k => ¬ S k) w3 _ (flA9 ad st) row HI3.out Fl n hbad)
                go_wp2_with fail
                refine DR.out.mono ?_
                rintro e w4 ⟨v4, rfl, hI4, hb4⟩
                obtain ⟨g4, c4, kv4, rv4, rfl, _, _, hr4⟩ := id hI4.ex
                obtain ⟨A4, cr4, rfl, _⟩ := hr4
                generalize row.length = L4 at *
                have hM4 := HM3.out.below hb4
                have b84 := BS.out.below hb4 BS.out.lt
                have hW4 := hM4.sz
                obtain ⟨x0, x1, y0, y1⟩ := hM4.cells
                have hM5 := hM4.setW (.slice (some ⟨g4, 0, none⟩) 9 c4) (.slice A4 L4 cr4)
                have hI5 := RefIs.setW (A2 := some ⟨g4, 0, none⟩) (n2 := 9) (c2 := c4) hM4 hI4 (.slice A4 L4 cr4)
                have b85 := (b84.far (p := ⟨W, 0, none⟩) hsbW (.slice (some ⟨g4, 0, none⟩) 9 c4)).far (p := ⟨W, 1, none⟩) hsbW (.slice A4 L4 cr4)
                have h7 := (Below.refl ((w4.setCell ⟨W, 0, none⟩ (.slice (some ⟨g4, 0, none⟩) 9 c4)).setCell ⟨W, 1, none⟩ (.slice A4 L4 cr4)).heap.size ((w4.setCell ⟨W, 0, none⟩ (.slice (some ⟨g4, 0, none⟩) 9 c4)).setCell ⟨W, 1, none⟩ (.slice A4 L4 cr4))).alloc (Nat.le_refl _) (.cells #[.slice (some ⟨g4, 0, none⟩) 9 c4, .slice A4 L4 cr4] 46)
                have hM6 := hM5.below h7
                have hI6 := hI5.below h7
                have b86 := b85.alloc (.cells #[.slice (some ⟨g4, 0, none⟩) 9 c4, .slice A4 L4 cr4] 46)
                have HM6 := Lib.hid hM6
                have HI6 := Lib.hid hI6
                have BS6 := Lib.hid b86
                clear hM4 hM5 hM6 hI4 hI5 hI6 h7 b84 b85 b86 DR hb4 a0 a1 s1 s2
                go_upto_region 19 with (fail)
                clear x0 x1 y0 y1
                generalize ((w4.setCell ⟨W, 0, none⟩ (.slice (some ⟨g4, 0, none⟩) 9 c4)).setCell ⟨W, 1, none⟩ (.slice A4 L4 cr4)).alloc (.cells #[.slice (some ⟨g4, 0, none⟩) 9 c4, .slice A4 L4 cr4] 46) = w5 at *
                have s1 : w5.cell? ⟨sb, 1, none⟩ = some (.int .i64 Fl) := by simpa using BS6.out.cell 1
                have s2 : w5.cell? ⟨sb, 2, none⟩ = some (.int .i64 n) := by simpa using BS6.out.cell 2
                have DD := Lib.hid (HM6.out.setNo (n := Fl) (q := n) hbad)
                go_wp2_with fail
                refine DD.out.mono ?_
                rintro e w6 ⟨rfl, S', hM7, hImp⟩
                have hI7 := hImp _ _ _ HI6.out
                have hS7 := HS.out
                have hz7 := hM7.sz
                obtain ⟨a0, a1, _, _⟩ := hM7.cells
                have DS := Lib.hid (hM7.same_ hS7 (by omega) hI7)
                have HM7 := Lib.hid hM7
                have HI7 := Lib.hid hI7
                have HS7 := Lib.hid hS7
                clear hM7 hI7 hS7 hImp DD s1 s2
                go_wp2_with fail
                refine DS.out.mono ?_
                rintro e w8 ⟨rfl, hb8⟩
                have HM8 := Lib.hid (HM7.out.below hb8)
                have HI8 := Lib.hid (HI7.out.below hb8)
                clear DS hb8 a0 a1
                go_wp2_with fail
                go_roundw
                case rel => exact ⟨k + 1, by omega, by go_num, ⟨_, _, _, _, _, _, _, _, _, _, _, HM8.out, HS7.out, by omega, HI8.out⟩⟩
                case measure => simp [intOf]; omega
          · have hbad : ¬ (0 ≤ Fl ∧ Fl ≤ 8 ∧ 1 ≤ n ∧ n ≤ 1048576) := fun h => h0 (by have := h.2.2.1; omega)
            have DR := Lib.hid (refset_no (Q := fun k => ¬ S k) w3 _ (flA9 ad st) row HI3.out Fl n hbad)
            go_wp2_with fail
            refine DR.out.mono ?_
            rintro e w4 ⟨v4, rfl, hI4, hb4⟩
            obtain ⟨g4, c4, kv4, rv4, rfl, _, _, hr4⟩ := id hI4.ex
            obtain ⟨A4, cr4, rfl, _⟩ := hr4
            generalize row.length = L4 at *
            have hM4 := HM3.out.below hb4
            have b84 := BS.out.below hb4 BS.out.lt
            have hW4 := hM4.sz
            obtain ⟨x0, x1, y0, y1⟩ := hM4.cells
            have hM5 := hM4.setW (.slice (some ⟨g4, 0, none⟩) 9 c4) (.slice A4 L4 cr4)
            have hI5 := RefIs.setW (A2 := some ⟨g4, 0, none⟩) (n2 := 9) (c2 := c4) hM4 hI4 (.slice A4 L4 cr4)
            have b85 := (b84.far (p := ⟨W, 0, none⟩) hsbW (.slice (some ⟨g4, 0, none⟩) 9 c4)).far (p := ⟨W, 1, none⟩) hsbW (.slice A4 L4 cr4)
            have h7 := (Below.refl ((w4.setCell ⟨W, 0, none⟩ (.slice (some ⟨g4, 0, none⟩) 9 c4)).setCell ⟨W, 1, none⟩ (.slice A4 L4 cr4)).heap.size ((w4.setCell ⟨W, 0, none⟩ (.slice (some ⟨g4, 0, none⟩) 9 c4)).setCell ⟨W, 1, none⟩ (.slice A4 L4 cr4))).alloc (Nat.le_refl _) (.cells #[.slice (some ⟨g4, 0, none⟩) 9 c4, .slice A4 L4 cr4] 46)
            have hM6 := hM5.below h7
            have hI6 := hI5.below h7
            have b86 := b85.alloc (.cells #[.slice (some ⟨g4, 0, none⟩) 9 c4, .slice A4 L4 cr4] 46)
            have HM6 := Lib.hid hM6
            have HI6 := Lib.hid hI6
            have BS6 := Lib.hid b86
            clear hM4 hM5 hM6 hI4 hI5 hI6 h7 b84 b85 b86 DR hb4 a0 a1 s1 s2
            go_upto_region 19 with (fail)
            clear x0 x1 y0 y1
            generalize ((w4.setCell ⟨W, 0, none⟩ (.slice (some ⟨g4, 0, none⟩) 9 c4)).setCell ⟨W, 1, none⟩ (.slice A4 L4 cr4)).alloc (.cells #[.slice (some ⟨g4, 0, none⟩) 9 c4, .slice A4 L4 cr4] 46) = w5 at *
            have s1 : w5.cell? ⟨sb, 1, none⟩ = some (.int .i64 Fl) := by simpa using BS6.out.cell 1
            have s2 : w5.cell? ⟨sb, 2, none⟩ = some (.int .i64 n) := by simpa using BS6.out.cell 2
            have DD := Lib.hid (HM6.out.setNo (n := Fl) (q := n) hbad)
            go_wp2_with fail
            refine DD.out.mono ?_
            rintro e w6 ⟨rfl, S', hM7, hImp⟩
            have hI7 := hImp _ _ _ HI6.out
            have hS7 := HS.out
            have hz7 := hM7.sz
            obtain ⟨a0, a1, _, _⟩ := hM7.cells
            have DS := Lib.hid (hM7.same_ hS7 (by omega) hI7)
            have HM7 := Lib.hid hM7
            have HI7 := Lib.hid hI7
            have HS7 := Lib.hid hS7
            clear hM7 hI7 hS7 hImp DD s1 s2
            go_wp2_with fail
            refine DS.out.mono ?_
            rintro e w8 ⟨rfl, hb8⟩
            have HM8 := Lib.hid (HM7.out.below hb8)
            have HI8 := Lib.hid (HI7.out.below hb8)
            clear DS hb8 a0 a1
            go_wp2_with fail
            go_roundw
            case rel => exact ⟨k + 1, by omega, by go_num, ⟨_, _, _, _, _, _, _, _, _, _, _, HM8.out, HS7.out, by omega, HI8.out⟩⟩
            case measure => simp [intOf]; omega
        · have hK1' : (K == 1) = false := by rw [beq_eq_false_iff_ne]; exact hK1
          by_cases hK2 : K = 2
          · subst hK2
            by_cases hc : 1 ≤ n ∧ n ≤ 1040
            · obtain ⟨hc1, hc2⟩ := hc
              cases hn0 : ad Fl with
              | none =>
                have hn : ad Fl = none := hn0
                have DR := Lib.hid (refpush_none (Q := fun k => ¬ S k) w3 _ (flA9 ad st) row HI3.out Fl n hc1 hc2 (there_no hn))
                go_wp2_with fail
                refine DR.out.mono ?_
                rintro e w4 ⟨v4, rfl, hI4, hb4⟩
                obtain ⟨g4, c4, kv4, rv4, rfl, _, _, hr4⟩ := id hI4.ex
                obtain ⟨A4, cr4, rfl, _⟩ := hr4
                generalize row.length = L4 at *
                have hM4 := HM3.out.below hb4
                have b84 := BS.out.below hb4 BS.out.lt
                have hW4 := hM4.sz
                obtain ⟨x0, x1, y0, y1⟩ := hM4.cells
                have hM5 := hM4.setW (.slice (some ⟨g4, 0, none⟩) 9 c4) (.slice A4 L4 cr4)
                have hI5 := RefIs.setW (A2 := some ⟨g4, 0, none⟩) (n2 := 9) (c2 := c4) hM4 hI4 (.slice A4 L4 cr4)
                have b85 := (b84.far (p := ⟨W, 0, none⟩) hsbW (.slice (some ⟨g4, 0, none⟩) 9 c4)).far (p := ⟨W, 1, none⟩) hsbW (.slice A4 L4 cr4)
                have h7 := (Below.refl ((w4.setCell ⟨W, 0, none⟩ (.slice (some ⟨g4, 0, none⟩) 9 c4)).setCell ⟨W, 1, none⟩ (.slice A4 L4 cr4)).heap.size ((w4.setCell ⟨W, 0, none⟩ (.slice (some ⟨g4, 0, none⟩) 9 c4)).setCell ⟨W, 1, none⟩ (.slice A4 L4 cr4))).alloc (Nat.le_refl _) (.cells #[.slice (some ⟨g4, 0, none⟩) 9 c4, .slice A4 L4 cr4] 46)
                have hM6 := hM5.below h7
                have hI6 := hI5.below h7
                have b86 := b85.alloc (.cells #[.slice (some ⟨g4, 0, none⟩) 9 c4, .slice A4 L4 cr4] 46)
                have HM6 := Lib.hid hM6
                have HI6 := Lib.hid hI6
                have BS6 := Lib.hid b86
                clear hM4 hM5 hM6 hI4 hI5 hI6 h7 b84 b85 b86 DR hb4 a0 a1 s1 s2
                go_upto_region 24 with (fail)
                clear x0 x1 y0 y1
                generalize ((w4.setCell ⟨W, 0, none⟩ (.slice (some ⟨g4, 0, none⟩) 9 c4)).setCell ⟨W, 1, none⟩ (.slice A4 L4 cr4)).alloc (.cells #[.slice (some ⟨g4, 0, none⟩) 9 c4, .slice A4 L4 cr4] 46) = w5 at *
                have s1 : w5.cell? ⟨sb, 1, none⟩ = some (.int .i64 Fl) := by simpa using BS6.out.cell 1
                have s2 : w5.cell? ⟨sb, 2, none⟩ = some (.int .i64 n) := by simpa using BS6.out.cell 2
                have DD := Lib.hid (HM6.out.pushNone (n := Fl) (c := n) ⟨hf0, hf1⟩ hc1 hc2 hn)
                go_wp2_with fail
                refine DD.out.mono ?_
                rintro e w6 ⟨rfl, S', hM7, hImp⟩
                have hI7 := hImp _ _ _ HI6.out
                have hS7 := HS.out
                have hz7 := hM7.sz
                obtain ⟨a0, a1, _, _⟩ := hM7.cells
                have DS := Lib.hid (hM7.same_ hS7 (by omega) hI7)
                have HM7 := Lib.hid hM7
                have HI7 := Lib.hid hI7
                have HS7 := Lib.hid hS7
                clear hM7 hI7 hS7 hImp DD s1 s2
                go_wp2_with fail
                refine DS.out.mono ?_
                rintro e w8 ⟨rfl, hb8⟩
                have HM8 := Lib.hid (HM7.out.below hb8)
                have HI8 := Lib.hid (HI7.out.below hb8)
                clear DS hb8 a0 a1
                go_wp2_with fail
                go_roundw
                case rel => exact ⟨k + 1, by omega, by go_num, ⟨_, _, _, _, _, _, _, _, _, _, _, HM8.out, HS7.out, by omega, HI8.out⟩⟩
                case measure => simp [intOf]; omega
              | some b0 =>
                have hn : ad Fl ≠ none := by rw [hn0]; simp
                clear hn0
                obtain ⟨m, rfl, hm9, ht⟩ := there_yes (st := st) HS.out.key hn
                have DR := Lib.hid (refpush_yes (Q := fun k => ¬ S k) w3 _ (flA9 ad st) row HI3.out m n hc1 hc2 hm9 ht hrl (by rw [drop_len ht]; have := HM3.out.len m hn; omega) HM3.out.up)
                go_wp2_with fail
                refine DR.out.mono ?_
                rintro e w4 ⟨v4, rfl, hI4, hb4⟩
                obtain ⟨g4, c4, kv4, rv4, rfl, _, _, hr4⟩ := id hI4.ex
                obtain ⟨A4, cr4, rfl, _⟩ := hr4
                generalize (setlA (updV (flA9 ad st) m ⟨true, pushF (flA9 ad st m).f n⟩) row m).2.length = L4 at *
                have hM4 := HM3.out.below hb4
                have b84 := BS.out.below hb4 BS.out.lt
                have hW4 := hM4.sz
                obtain ⟨x0, x1, y0, y1⟩ := hM4.cells
                have hM5 := hM4.setW (.slice (some ⟨g4, 0, none⟩) 9 c4) (.slice A4 L4 cr4)
                have hI5 := RefIs.setW (A2 := some ⟨g4, 0, none⟩) (n2 := 9) (c2 := c4) hM4 hI4 (.slice A4 L4 cr4)
                have b85 := (b84.far (p := ⟨W, 0, none⟩) hsbW (.slice (some ⟨g4, 0, none⟩) 9 c4)).far (p := ⟨W, 1, none⟩) hsbW (.slice A4 L4 cr4)
                have h7 := (Below.refl ((w4.setCell ⟨W, 0, none⟩ (.slice (some ⟨g4, 0, none⟩) 9 c4)).setCell ⟨W, 1, none⟩ (.slice A4 L4 cr4)).heap.size ((w4.setCell ⟨W, 0, none⟩ (.slice (some ⟨g4, 0, none⟩) 9 c4)).setCell ⟨W, 1, none⟩ (.slice A4 L4 cr4))).alloc (Nat.le_refl _) (.cells #[.slice (some ⟨g4, 0, none⟩) 9 c4, .slice A4 L4 cr4] 46)
                have hM6 := hM5.below h7
                have hI6 := hI5.below h7
                have b86 := b85.alloc (.cells #[.slice (some ⟨g4, 0, none⟩) 9 c4, .slice A4 L4 cr4] 46)
                have HM6 := Lib.hid hM6
                have HI6 := Lib.hid hI6
                have BS6 := Lib.hid b86
                clear hM4 hM5 hM6 hI4 hI5 hI6 h7 b84 b85 b86 DR hb4 a0 a1 s1 s2
                go_upto_region 24 with (fail)
                clear x0 x1 y0 y1
                generalize ((w4.setCell ⟨W, 0, none⟩ (.slice (some ⟨g4, 0, none⟩) 9 c4)).setCell ⟨W, 1, none⟩ (.slice A4 L4 cr4)).alloc (.cells #[.slice (some ⟨g4, 0, none⟩) 9 c4, .slice A4 L4 cr4] 46) = w5 at *
                have s1 : w5.cell? ⟨sb, 1, none⟩ = some (.int .i64 (m : Int)) := by simpa using BS6.out.cell 1
                have s2 : w5.cell? ⟨sb, 2, none⟩ = some (.int .i64 n) := by simpa using BS6.out.cell 2
                have DD := Lib.hid (HM6.out.push_ (by omega) (n := (m : Int)) (c := n) ⟨hf0, hf1⟩ hc1 hc2 hn)
                go_wp2_with fail
                refine DD.out.mono ?_
                rintro e w6 ⟨rfl, S', hM7, hImp⟩
                have hI7 := hImp _ _ _ HI6.out
                rw [tie_settle (f := fun f => pushF f n) HS.out.nd ht] at hI7
                have hS7 := HS.out.push hn hc1 hc2
                have hz7 := hM7.sz
                obtain ⟨a0, a1, _, _⟩ := hM7.cells
                have DS := Lib.hid (hM7.same_ hS7 (by omega) hI7)
                have HM7 := Lib.hid hM7
                have HI7 := Lib.hid hI7
                have HS7 := Lib.hid hS7
                clear hM7 hI7 hS7 hImp DD s1 s2
                go_wp2_with fail
                refine DS.out.mono ?_
                rintro e w8 ⟨rfl, hb8⟩
                have HM8 := Lib.hid (HM7.out.below hb8)
                have HI8 := Lib.hid (HI7.out.below hb8)
                clear DS hb8 a0 a1
                go_wp2_with fail
                go_roundw
                case rel => exact ⟨k + 1, by omega, by go_num, ⟨_, _, _, _, _, _, _, _, _, _, _, HM8.out, HS7.out, by omega, HI8.out⟩⟩
                case measure => simp [intOf]; omega
            · have hbad := hc
              clear hc
              have DR := Lib.hid (refpush_form (Q := fun k => ¬ S k) w3 _ (flA9 ad st) row HI3.out Fl n hbad)
              go_wp2_with fail
              refine DR.out.mono ?_
              rintro e w4 ⟨v4, rfl, hI4, hb4⟩
              obtain ⟨g4, c4, kv4, rv4, rfl, _, _, hr4⟩ := id hI4.ex
              obtain ⟨A4, cr4, rfl, _⟩ := hr4
              generalize row.length = L4 at *
              have hM4 := HM3.out.below hb4
              have b84 := BS.out.below hb4 BS.out.lt
              have hW4 := hM4.sz
              obtain ⟨x0, x1, y0, y1⟩ := hM4.cells
              have hM5 := hM4.setW (.slice (some ⟨g4, 0, none⟩) 9 c4) (.slice A4 L4 cr4)
              have hI5 := RefIs.setW (A2 := some ⟨g4, 0, none⟩) (n2 := 9) (c2 := c4) hM4 hI4 (.slice A4 L4 cr4)
              have b85 := (b84.far (p := ⟨W, 0, none⟩) hsbW (.slice (some ⟨g4, 0, none⟩) 9 c4)).far (p := ⟨W, 1, none⟩) hsbW (.slice A4 L4 cr4)
              have h7 := (Below.refl ((w4.setCell ⟨W, 0, none⟩ (.slice (some ⟨g4, 0, none⟩) 9 c4)).setCell ⟨W, 1, none⟩ (.slice A4 L4 cr4)).heap.size ((w4.setCell ⟨W, 0, none⟩ (.slice (some ⟨g4, 0, none⟩) 9 c4)).setCell ⟨W, 1, none⟩ (.slice A4 L4 cr4))).alloc (Nat.le_refl _) (.cells #[.slice (some ⟨g4, 0, none⟩) 9 c4, .slice A4 L4 cr4] 46)
              have hM6 := hM5.below h7
              have hI6 := hI5.below h7
              have b86 := b85.alloc (.cells #[.slice (some ⟨g4, 0, none⟩) 9 c4, .slice A4 L4 cr4] 46)
              have HM6 := Lib.hid hM6
              have HI6 := Lib.hid hI6
              have BS6 := Lib.hid b86
              clear hM4 hM5 hM6 hI4 hI5 hI6 h7 b84 b85 b86 DR hb4 a0 a1 s1 s2
              go_upto_region 24 with (fail)
              clear x0 x1 y0 y1
              generalize ((w4.setCell ⟨W, 0, none⟩ (.slice (some ⟨g4, 0, none⟩) 9 c4)).setCell ⟨W, 1, none⟩ (.slice A4 L4 cr4)).alloc (.cells #[.slice (some ⟨g4, 0, none⟩) 9 c4, .slice A4 L4 cr4] 46) = w5 at *
              have s1 : w5.cell? ⟨sb, 1, none⟩ = some (.int .i64 Fl) := by simpa using BS6.out.cell 1
              have s2 : w5.cell? ⟨sb, 2, none⟩ = some (.int .i64 n) := by simpa using BS6.out.cell 2
              have DD := Lib.hid (HM6.out.pushForm (n := Fl) (c := n) ⟨hf0, hf1⟩ hbad)
              go_wp2_with fail
              refine DD.out.mono ?_
              rintro e w6 ⟨rfl, S', hM7, hImp⟩
              have hI7 := hImp _ _ _ HI6.out
              have hS7 := HS.out
              have hz7 := hM7.sz
              obtain ⟨a0, a1, _, _⟩ := hM7.cells
              have DS := Lib.hid (hM7.same_ hS7 (by omega) hI7)
              have HM7 := Lib.hid hM7
              have HI7 := Lib.hid hI7
              have HS7 := Lib.hid hS7
              clear hM7 hI7 hS7 hImp DD s1 s2
              go_wp2_with fail
              refine DS.out.mono ?_
              rintro e w8 ⟨rfl, hb8⟩
              have HM8 := Lib.hid (HM7.out.below hb8)
              have HI8 := Lib.hid (HI7.out.below hb8)
              clear DS hb8 a0 a1
              go_wp2_with fail
              go_roundw
              case rel => exact ⟨k + 1, by omega, by go_num, ⟨_, _, _, _, _, _, _, _, _, _, _, HM8.out, HS7.out, by omega, HI8.out⟩⟩
              case measure => simp [intOf]; omega
          · have hK2' : (K == 2) = false := by rw [beq_eq_false_iff_ne]; exact hK2
            by_cases hK3 : K = 3
            · subst hK3
              have r12 : IntKind.i64.wrap (n.tmod 2) = n.tmod 2 := by
                have h0 : -2 < n.tmod 2 := Int.neg_lt_of_neg_lt (by have := Int.tmod_lt_of_pos (-n) (show (0 : Int) < 2 by omega); rw [Int.neg_tmod] at this; omega)
                have h1 := Int.tmod_lt_of_pos n (show (0 : Int) < 2 by omega)
                rw [IntKind.wrap_i64]; omega
              generalize hv : (n.tmod 2 != 0) = v at *
              cases hn0 : ad Fl with
              | none =>
                have hn : ad Fl = none := hn0
                have DR := Lib.hid (refrest_no (Q := fun k => ¬ S k) w3 _ (flA9 ad st) row HI3.out Fl v (there_no hn))
                go_wp2_with fail
                refine DR.out.mono ?_
                rintro e w4 ⟨v4, rfl, hI4, hb4⟩
                obtain ⟨g4, c4, kv4, rv4, rfl, _, _, hr4⟩ := id hI4.ex
                obtain ⟨A4, cr4, rfl, _⟩ := hr4
                generalize row.length = L4 at *
                have hM4 := HM3.out.below hb4
                have b84 := BS.out.below hb4 BS.out.lt
                have hW4 := hM4.sz
                obtain ⟨x0, x1, y0, y1⟩ := hM4.cells
                have hM5 := hM4.setW (.slice (some ⟨g4, 0, none⟩) 9 c4) (.slice A4 L4 cr4)
                have hI5 := RefIs.setW (A2 := some ⟨g4, 0, none⟩) (n2 := 9) (c2 := c4) hM4 hI4 (.slice A4 L4 cr4)
                have b85 := (b84.far (p := ⟨W, 0, none⟩) hsbW (.slice (some ⟨g4, 0, none⟩) 9 c4)).far (p := ⟨W, 1, none⟩) hsbW (.slice A4 L4 cr4)
                have h7 := (Below.refl ((w4.setCell ⟨W, 0, none⟩ (.slice (some ⟨g4, 0, none⟩) 9 c4)).setCell ⟨W, 1, none⟩ (.slice A4 L4 cr4)).heap.size ((w4.setCell ⟨W, 0, none⟩ (.slice (some ⟨g4, 0, none⟩) 9 c4)).setCell ⟨W, 1, none⟩ (.slice A4 L4 cr4))).alloc (Nat.le_refl _) (.cells #[.slice (some ⟨g4, 0, none⟩) 9 c4, .slice A4 L4 cr4] 46)
                have hM6 := hM5.below h7
                have hI6 := hI5.below h7
                have b86 := b85.alloc (.cells #[.slice (some ⟨g4, 0, none⟩) 9 c4, .slice A4 L4 cr4] 46)
                have HM6 := Lib.hid hM6
                have HI6 := Lib.hid hI6
                have BS6 := Lib.hid b86
                clear hM4 hM5 hM6 hI4 hI5 hI6 h7 b84 b85 b86 DR hb4 a0 a1 s1 s2
                go_upto_region 29 with (fail)
                clear x0 x1 y0 y1
                generalize ((w4.setCell ⟨W, 0, none⟩ (.slice (some ⟨g4, 0, none⟩) 9 c4)).setCell ⟨W, 1, none⟩ (.slice A4 L4 cr4)).alloc (.cells #[.slice (some ⟨g4, 0, none⟩) 9 c4, .slice A4 L4 cr4] 46) = w5 at *
                have s1 : w5.cell? ⟨sb, 1, none⟩ = some (.int .i64 Fl) := by simpa using BS6.out.cell 1
                have s2 : w5.cell? ⟨sb, 2, none⟩ = some (.int .i64 n) := by simpa using BS6.out.cell 2
                have DD := Lib.hid (HM6.out.restNone (n := Fl) ⟨hf0, hf1⟩ v hn)
                go_wp2_with fail
                refine DD.out.mono ?_
                rintro e w6 ⟨rfl, S', hM7, hImp⟩
                have hI7 := hImp _ _ _ HI6.out
                have hS7 := HS.out
                have hz7 := hM7.sz
                obtain ⟨a0, a1, _, _⟩ := hM7.cells
                have DS := Lib.hid (hM7.same_ hS7 (by omega) hI7)
                have HM7 := Lib.hid hM7
                have HI7 := Lib.hid hI7
                have HS7 := Lib.hid hS7
                clear hM7 hI7 hS7 hImp DD s1 s2
                go_wp2_with fail
                refine DS.out.mono ?_
                rintro e w8 ⟨rfl, hb8⟩
                have HM8 := Lib.hid (HM7.out.below hb8)
                have HI8 := Lib.hid (HI7.out.below hb8)
                clear DS hb8 a0 a1
                go_wp2_with fail
                go_roundw
                case rel => exact ⟨k + 1, by omega, by go_num, ⟨_, _, _, _, _, _, _, _, _, _, _, HM8.out, HS7.out, by omega, HI8.out⟩⟩
                case measure => simp [intOf]; omega
              | some b0 =>
                have hn : ad Fl ≠ none := by rw [hn0]; simp
                clear hn0
                obtain ⟨m, rfl, hm9, ht⟩ := there_yes (st := st) HS.out.key hn
                have DR := Lib.hid (refrest_yes (Q := fun k => ¬ S k) w3 _ (flA9 ad st) row HI3.out m v hm9 ht hrl HM3.out.up)
                go_wp2_with fail
                refine DR.out.mono ?_
                rintro e w4 ⟨v4, rfl, hI4, hb4⟩
                obtain ⟨g4, c4, kv4, rv4, rfl, _, _, hr4⟩ := id hI4.ex
                obtain ⟨A4, cr4, rfl, _⟩ := hr4
                generalize (setlA (updV (flA9 ad st) m ⟨true, restF (flA9 ad st m).f v⟩) row m).2.length = L4 at *
                have hM4 := HM3.out.below hb4
                have b84 := BS.out.below hb4 BS.out.lt
                have hW4 := hM4.sz
                obtain ⟨x0, x1, y0, y1⟩ := hM4.cells
                have hM5 := hM4.setW (.slice (some ⟨g4, 0, none⟩) 9 c4) (.slice A4 L4 cr4)
                have hI5 := RefIs.setW (A2 := some ⟨g4, 0, none⟩) (n2 := 9) (c2 := c4) hM4 hI4 (.slice A4 L4 cr4)
                have b85 := (b84.far (p := ⟨W, 0, none⟩) hsbW (.slice (some ⟨g4, 0, none⟩) 9 c4)).far (p := ⟨W, 1, none⟩) hsbW (.slice A4 L4 cr4)
                have h7 := (Below.refl ((w4.setCell ⟨W, 0, none⟩ (.slice (some ⟨g4, 0, none⟩) 9 c4)).setCell ⟨W, 1, none⟩ (.slice A4 L4 cr4)).heap.size ((w4.setCell ⟨W, 0, none⟩ (.slice (some ⟨g4, 0, none⟩) 9 c4)).setCell ⟨W, 1, none⟩ (.slice A4 L4 cr4))).alloc (Nat.le_refl _) (.cells #[.slice (some ⟨g4, 0, none⟩) 9 c4, .slice A4 L4 cr4] 46)
                have hM6 := hM5.below h7
                have hI6 := hI5.below h7
                have b86 := b85.alloc (.cells #[.slice (some ⟨g4, 0, none⟩) 9 c4, .slice A4 L4 cr4] 46)
                have HM6 := Lib.hid hM6
                have HI6 := Lib.hid hI6
                have BS6 := Lib.hid b86
                clear hM4 hM5 hM6 hI4 hI5 hI6 h7 b84 b85 b86 DR hb4 a0 a1 s1 s2
                go_upto_region 29 with (fail)
                clear x0 x1 y0 y1
                generalize ((w4.setCell ⟨W, 0, none⟩ (.slice (some ⟨g4, 0, none⟩) 9 c4)).setCell ⟨W, 1, none⟩ (.slice A4 L4 cr4)).alloc (.cells #[.slice (some ⟨g4, 0, none⟩) 9 c4, .slice A4 L4 cr4] 46) = w5 at *
                have s1 : w5.cell? ⟨sb, 1, none⟩ = some (.int .i64 (m : Int)) := by simpa using BS6.out.cell 1
                have s2 : w5.cell? ⟨sb, 2, none⟩ = some (.int .i64 n) := by simpa using BS6.out.cell 2
                have DD := Lib.hid (HM6.out.rest_ (n := (m : Int)) ⟨hf0, hf1⟩ v hn)
                go_wp2_with fail
                refine DD.out.mono ?_
                rintro e w6 ⟨rfl, S', hM7, hImp⟩
                have hI7 := hImp _ _ _ HI6.out
                rw [tie_settle (f := fun f => restF f v) HS.out.nd ht] at hI7
                have hS7 := HS.out.rest hn v
                have hz7 := hM7.sz
                obtain ⟨a0, a1, _, _⟩ := hM7.cells
                have DS := Lib.hid (hM7.same_ hS7 (by omega) hI7)
                have HM7 := Lib.hid hM7
                have HI7 := Lib.hid hI7
                have HS7 := Lib.hid hS7
                clear hM7 hI7 hS7 hImp DD s1 s2
                go_wp2_with fail
                refine DS.out.mono ?_
                rintro e w8 ⟨rfl, hb8⟩
                have HM8 := Lib.hid (HM7.out.below hb8)
                have HI8 := Lib.hid (HI7.out.below hb8)
                clear DS hb8 a0 a1
                go_wp2_with fail
                go_roundw
                case rel => exact ⟨k + 1, by omega, by go_num, ⟨_, _, _, _, _, _, _, _, _, _, _, HM8.out, HS7.out, by omega, HI8.out⟩⟩
                case measure => simp [intOf]; omega
            · have hK3' : (K == 3) = false := by rw [beq_eq_false_iff_ne]; exact hK3
              by_cases hK4 : K = 4
              · subst hK4
                cases hn0 : ad Fl with
                | none =>
                  have hn : ad Fl = none := hn0
                  have DR := Lib.hid (refdrop_no (Q := fun k => ¬ S k) w3 _ (flA9 ad st) row HI3.out Fl (there_no hn))
                  go_wp2_with fail
                  refine DR.out.mono ?_
                  rintro e w4 ⟨v4, rfl, hI4, hb4⟩
                  obtain ⟨g4, c4, kv4, rv4, rfl, _, _, hr4⟩ := id hI4.ex
                  obtain ⟨A4, cr4, rfl, _⟩ := hr4
                  generalize row.length = L4 at *
                  have hM4 := HM3.out.below hb4
                  have b84 := BS.out.below hb4 BS.out.lt
                  have hW4 := hM4.sz
                  obtain ⟨x0, x1, y0, y1⟩ := hM4.cells
                  have hM5 := hM4.setW (.slice (some ⟨g4, 0, none⟩) 9 c4) (.slice A4 L4 cr4)
                  have hI5 := RefIs.setW (A2 := some ⟨g4, 0, none⟩) (n2 := 9) (c2 := c4) hM4 hI4 (.slice A4 L4 cr4)
                  have b85 := (b84.far (p := ⟨W, 0, none⟩) hsbW (.slice (some ⟨g4, 0, none⟩) 9 c4)).far (p := ⟨W, 1, none⟩) hsbW (.slice A4 L4 cr4)
                  have h7 := (Below.refl ((w4.setCell ⟨W, 0, none⟩ (.slice (some ⟨g4, 0, none⟩) 9 c4)).setCell ⟨W, 1, none⟩ (.slice A4 L4 cr4)).heap.size ((w4.setCell ⟨W, 0, none⟩ (.slice (some ⟨g4, 0, none⟩) 9 c4)).setCell ⟨W, 1, none⟩ (.slice A4 L4 cr4))).alloc (Nat.le_refl _) (.cells #[.slice (some ⟨g4, 0, none⟩) 9 c4, .slice A4 L4 cr4] 46)
                  have hM6 := hM5.below h7
                  have hI6 := hI5.below h7
                  have b86 := b85.alloc (.cells #[.slice (some ⟨g4, 0, none⟩) 9 c4, .slice A4 L4 cr4] 46)
                  have HM6 := Lib.hid hM6
                  have HI6 := Lib.hid hI6
                  have BS6 := Lib.hid b86
                  clear hM4 hM5 hM6 hI4 hI5 hI6 h7 b84 b85 b86 DR hb4 a0 a1 s1 s2
                  go_upto_region 34 with (fail)
                  clear x0 x1 y0 y1
                  generalize ((w4.setCell ⟨W, 0, none⟩ (.slice (some ⟨g4, 0, none⟩) 9 c4)).setCell ⟨W, 1, none⟩ (.slice A4 L4 cr4)).alloc (.cells #[.slice (some ⟨g4, 0, none⟩) 9 c4, .slice A4 L4 cr4] 46) = w5 at *
                  have s1 : w5.cell? ⟨sb, 1, none⟩ = some (.int .i64 Fl) := by simpa using BS6.out.cell 1
                  have s2 : w5.cell? ⟨sb, 2, none⟩ = some (.int .i64 n) := by simpa using BS6.out.cell 2
                  have DD := Lib.hid (HM6.out.dropNone (n := Fl) ⟨hf0, hf1⟩ hn)
                  go_wp2_with fail
                  refine DD.out.mono ?_
                  rintro e w6 ⟨rfl, S', hM7, hImp⟩
                  have hI7 := hImp _ _ _ HI6.out
                  have hS7 := HS.out
                  have hz7 := hM7.sz
                  obtain ⟨a0, a1, _, _⟩ := hM7.cells
                  have DS := Lib.hid (hM7.same_ hS7 (by omega) hI7)
                  have HM7 := Lib.hid hM7
                  have HI7 := Lib.hid hI7
                  have HS7 := Lib.hid hS7
                  clear hM7 hI7 hS7 hImp DD s1 s2
                  go_wp2_with fail
                  refine DS.out.mono ?_
                  rintro e w8 ⟨rfl, hb8⟩
                  have HM8 := Lib.hid (HM7.out.below hb8)
                  have HI8 := Lib.hid (HI7.out.below hb8)
                  clear DS hb8 a0 a1
                  go_wp2_with fail
                  go_roundw
                  case rel => exact ⟨k + 1, by omega, by go_num, ⟨_, _, _, _, _, _, _, _, _, _, _, HM8.out, HS7.out, by omega, HI8.out⟩⟩
                  case measure => simp [intOf]; omega
                | some b0 =>
                  have hn : ad Fl ≠ none := by rw [hn0]; simp
                  clear hn0
                  obtain ⟨m, rfl, hm9, ht⟩ := there_yes (st := st) HS.out.key hn
                  have DR := Lib.hid (refdrop_yes (Q := fun k => ¬ S k) w3 _ (flA9 ad st) row HI3.out m hm9 ht hrl HM3.out.up)
                  go_wp2_with fail
                  refine DR.out.mono ?_
                  rintro e w4 ⟨v4, rfl, hI4, hb4⟩
                  obtain ⟨g4, c4, kv4, rv4, rfl, _, _, hr4⟩ := id hI4.ex
                  obtain ⟨A4, cr4, rfl, _⟩ := hr4
                  generalize (setlA (updV (flA9 ad st) m ⟨false, zeroF⟩) row m).2.length = L4 at *
                  have hM4 := HM3.out.below hb4
                  have b84 := BS.out.below hb4 BS.out.lt
                  have hW4 := hM4.sz
                  obtain ⟨x0, x1, y0, y1⟩ := hM4.cells
                  have hM5 := hM4.setW (.slice (some ⟨g4, 0, none⟩) 9 c4) (.slice A4 L4 cr4)
                  have hI5 := RefIs.setW (A2 := some ⟨g4, 0, none⟩) (n2 := 9) (c2 := c4) hM4 hI4 (.slice A4 L4 cr4)
                  have b85 := (b84.far (p := ⟨W, 0, none⟩) hsbW (.slice (some ⟨g4, 0, none⟩) 9 c4)).far (p := ⟨W, 1, none⟩) hsbW (.slice A4 L4 cr4)
                  have h7 := (Below.refl ((w4.setCell ⟨W, 0, none⟩ (.slice (some ⟨g4, 0, none⟩) 9 c4)).setCell ⟨W, 1, none⟩ (.slice A4 L4 cr4)).heap.size ((w4.setCell ⟨W, 0, none⟩ (.slice (some ⟨g4, 0, none⟩) 9 c4)).setCell ⟨W, 1, none⟩ (.slice A4 L4 cr4))).alloc (Nat.le_refl _) (.cells #[.slice (some ⟨g4, 0, none⟩) 9 c4, .slice A4 L4 cr4] 46)
                  have hM6 := hM5.below h7
                  have hI6 := hI5.below h7
                  have b86 := b85.alloc (.cells #[.slice (some ⟨g4, 0, none⟩) 9 c4, .slice A4 L4 cr4] 46)
                  have HM6 := Lib.hid hM6
                  have HI6 := Lib.hid hI6
                  have BS6 := Lib.hid b86
                  clear hM4 hM5 hM6 hI4 hI5 hI6 h7 b84 b85 b86 DR hb4 a0 a1 s1 s2
                  go_upto_region 34 with (fail)
                  clear x0 x1 y0 y1
                  generalize ((w4.setCell ⟨W, 0, none⟩ (.slice (some ⟨g4, 0, none⟩) 9 c4)).setCell ⟨W, 1, none⟩ (.slice A4 L4 cr4)).alloc (.cells #[.slice (some ⟨g4, 0, none⟩) 9 c4, .slice A4 L4 cr4] 46) = w5 at *
                  have s1 : w5.cell? ⟨sb, 1, none⟩ = some (.int .i64 (m : Int)) := by simpa using BS6.out.cell 1
                  have s2 : w5.cell? ⟨sb, 2, none⟩ = some (.int .i64 n) := by simpa using BS6.out.cell 2
                  have DD := Lib.hid (HM6.out.drop_ (n := (m : Int)) ⟨hf0, hf1⟩ hn)
                  rw [drop_len ht]
                  go_wp2_with fail
                  refine DD.out.mono ?_
                  rintro e w6 ⟨rfl, S', hM7, hImp⟩
                  have hI7 := hImp _ _ _ HI6.out
                  rw [tie_drop HS.out.nd] at hI7
                  have hS7 := HS.out.drop m
                  have hz7 := hM7.sz
                  obtain ⟨a0, a1, _, _⟩ := hM7.cells
                  have DS := Lib.hid (hM7.same_ hS7 (by omega) hI7)
                  have HM7 := Lib.hid hM7
                  have HI7 := Lib.hid hI7
                  have HS7 := Lib.hid hS7
                  clear hM7 hI7 hS7 hImp DD s1 s2
                  go_wp2_with fail
                  refine DS.out.mono ?_
                  rintro e w8 ⟨rfl, hb8⟩
                  have HM8 := Lib.hid (HM7.out.below hb8)
                  have HI8 := Lib.hid (HI7.out.below hb8)
                  clear DS hb8 a0 a1
                  go_wp2_with fail
                  go_roundw
                  case rel => exact ⟨k + 1, by omega, by go_num, ⟨_, _, _, _, _, _, _, _, _, _, _, HM8.out, HS7.out, by omega, HI8.out⟩⟩
                  case measure => simp [intOf]; omega
              · have hK4' : (K == 4) = false := by rw [beq_eq_false_iff_ne]; exact hK4
                cases row with
                | nil =>
                  have DR := Lib.hid (refturn_empty (Q := fun k => ¬ S k) w3 _ (flA9 ad st) HI3.out)
                  go_wp2_with fail
                  refine DR.out.mono ?_
                  rintro e w4 ⟨v4, rfl, hI4, hb4⟩
                  obtain ⟨g4, c4, kv4, rv4, rfl, _, _, hr4⟩ := id hI4.ex
                  obtain ⟨A4, cr4, rfl, _⟩ := hr4
                  generalize ([] : List Int).length = L4 at *
                  have hM4 := HM3.out.below hb4
                  have b84 := BS.out.below hb4 BS.out.lt
                  have hW4 := hM4.sz
                  obtain ⟨x0, x1, y0, y1⟩ := hM4.cells
                  have hM5 := hM4.setW (.slice (some ⟨g4, 0, none⟩) 9 c4) (.slice A4 L4 cr4)
                  have hI5 := RefIs.setW (A2 := some ⟨g4, 0, none⟩) (n2 := 9) (c2 := c4) hM4 hI4 (.slice A4 L4 cr4)
                  have b85 := (b84.far (p := ⟨W, 0, none⟩) hsbW (.slice (some ⟨g4, 0, none⟩) 9 c4)).far (p := ⟨W, 1, none⟩) hsbW (.slice A4 L4 cr4)
                  have h7 := (Below.refl ((w4.setCell ⟨W, 0, none⟩ (.slice (some ⟨g4, 0, none⟩) 9 c4)).setCell ⟨W, 1, none⟩ (.slice A4 L4 cr4)).heap.size ((w4.setCell ⟨W, 0, none⟩ (.slice (some ⟨g4, 0, none⟩) 9 c4)).setCell ⟨W, 1, none⟩ (.slice A4 L4 cr4))).alloc (Nat.le_refl _) (.cells #[.slice (some ⟨g4, 0, none⟩) 9 c4, .slice A4 L4 cr4] 46)
                  have hM6 := hM5.below h7
                  have hI6 := hI5.below h7
                  have b86 := b85.alloc (.cells #[.slice (some ⟨g4, 0, none⟩) 9 c4, .slice A4 L4 cr4] 46)
                  have HM6 := Lib.hid hM6
                  have HI6 := Lib.hid hI6
                  have BS6 := Lib.hid b86
                  clear hM4 hM5 hM6 hI4 hI5 hI6 h7 b84 b85 b86 DR hb4 a0 a1 s1 s2
                  go_upto_region 12 with (fail)
                  clear x0 x1 y0 y1
                  generalize ((w4.setCell ⟨W, 0, none⟩ (.slice (some ⟨g4, 0, none⟩) 9 c4)).setCell ⟨W, 1, none⟩ (.slice A4 L4 cr4)).alloc (.cells #[.slice (some ⟨g4, 0, none⟩) 9 c4, .slice A4 L4 cr4] 46) = w5 at *
                  have s1 : w5.cell? ⟨sb, 1, none⟩ = some (.int .i64 Fl) := by simpa using BS6.out.cell 1
                  have s2 : w5.cell? ⟨sb, 2, none⟩ = some (.int .i64 n) := by simpa using BS6.out.cell 2
                  have DD := Lib.hid (HM6.out.turn0)
                  go_wp2_with fail
                  refine DD.out.mono ?_
                  rintro e w6 ⟨rfl, S', hM7, hImp⟩
                  have hI7 := hImp _ _ _ HI6.out
                  have hS7 := HS.out
                  have hz7 := hM7.sz
                  obtain ⟨a0, a1, _, _⟩ := hM7.cells
                  have DS := Lib.hid (hM7.same_ hS7 (by omega) hI7)
                  have HM7 := Lib.hid hM7
                  have HI7 := Lib.hid hI7
                  have HS7 := Lib.hid hS7
                  clear hM7 hI7 hS7 hImp DD s1 s2
                  go_wp2_with fail
                  refine DS.out.mono ?_
                  rintro e w8 ⟨rfl, hb8⟩
                  have HM8 := Lib.hid (HM7.out.below hb8)
                  have HI8 := Lib.hid (HI7.out.below hb8)
                  clear DS hb8 a0 a1
                  go_wp2_with fail
                  go_roundw
                  case rel => exact ⟨k + 1, by omega, by go_num, ⟨_, _, _, _, _, _, _, _, _, _, _, HM8.out, HS7.out, by omega, HI8.out⟩⟩
                  case measure => simp [intOf]; omega
                | cons r0 rs =>
                  have DR := Lib.hid (refturn_c (Q := fun k => ¬ S k) w3 _ (fun j => (ad j).isSome) st (r0 :: rs) N (flA9_flOf ad st ▸ HI3.out) (HS.out.rOk HM3.out.len) (by simp) (by omega) HM3.out.up)
                  go_wp2_with fail
                  refine DR.out.mono ?_
                  rintro e w4 ⟨v4, st', row', m, c, ht, rfl, hI4, hb4⟩
                  obtain ⟨g4, c4, kv4, rv4, rfl, _, _, hr4⟩ := id hI4.ex
                  obtain ⟨A4, cr4, rfl, _⟩ := hr4
                  generalize row'.length = L4 at *
                  have hM4 := HM3.out.below hb4
                  have b84 := BS.out.below hb4 BS.out.lt
                  have hW4 := hM4.sz
                  obtain ⟨x0, x1, y0, y1⟩ := hM4.cells
                  have hM5 := hM4.setW (.slice (some ⟨g4, 0, none⟩) 9 c4) (.slice A4 L4 cr4)
                  have hI5 := RefIs.setW (A2 := some ⟨g4, 0, none⟩) (n2 := 9) (c2 := c4) hM4 hI4 (.slice A4 L4 cr4)
                  have b85 := (b84.far (p := ⟨W, 0, none⟩) hsbW (.slice (some ⟨g4, 0, none⟩) 9 c4)).far (p := ⟨W, 1, none⟩) hsbW (.slice A4 L4 cr4)
                  have h7 := (Below.refl ((w4.setCell ⟨W, 0, none⟩ (.slice (some ⟨g4, 0, none⟩) 9 c4)).setCell ⟨W, 1, none⟩ (.slice A4 L4 cr4)).heap.size ((w4.setCell ⟨W, 0, none⟩ (.slice (some ⟨g4, 0, none⟩) 9 c4)).setCell ⟨W, 1, none⟩ (.slice A4 L4 cr4))).alloc (Nat.le_refl _) (.cells #[.slice (some ⟨g4, 0, none⟩) 9 c4, .slice A4 L4 cr4] 46)
                  have hM6 := hM5.below h7
                  have hI6 := hI5.below h7
                  have b86 := b85.alloc (.cells #[.slice (some ⟨g4, 0, none⟩) 9 c4, .slice A4 L4 cr4] 46)
                  have HM6 := Lib.hid hM6
                  have HI6 := Lib.hid hI6
                  have BS6 := Lib.hid b86
                  clear hM4 hM5 hM6 hI4 hI5 hI6 h7 b84 b85 b86 DR hb4 a0 a1 s1 s2
                  go_upto_region 12 with (fail)
                  clear x0 x1 y0 y1
                  generalize ((w4.setCell ⟨W, 0, none⟩ (.slice (some ⟨g4, 0, none⟩) 9 c4)).setCell ⟨W, 1, none⟩ (.slice A4 L4 cr4)).alloc (.cells #[.slice (some ⟨g4, 0, none⟩) 9 c4, .slice A4 L4 cr4] 46) = w5 at *
                  have s1 : w5.cell? ⟨sb, 1, none⟩ = some (.int .i64 Fl) := by simpa using BS6.out.cell 1
                  have s2 : w5.cell? ⟨sb, 2, none⟩ = some (.int .i64 n) := by simpa using BS6.out.cell 2
                  have DD := Lib.hid (HM6.out.turn_ (by omega) HS.out.rowOk (by simp) ht)
                  go_wp2_with fail
                  refine DD.out.mono ?_
                  rintro e w6 ⟨rfl, S', hM7, hImp⟩
                  have hI7 := hImp _ _ _ HI6.out
                  rw [← flA9_flOf] at hI7
                  have hS7 := HS.out.turn ht
                  have hz7 := hM7.sz
                  obtain ⟨a0, a1, _, _⟩ := hM7.cells
                  have DS := Lib.hid (hM7.same_ hS7 (by omega) hI7)
                  have HM7 := Lib.hid hM7
                  have HI7 := Lib.hid hI7
                  have HS7 := Lib.hid hS7
                  clear hM7 hI7 hS7 hImp DD s1 s2
                  go_wp2_with fail
                  refine DS.out.mono ?_
                  rintro e w8 ⟨rfl, hb8⟩
                  have HM8 := Lib.hid (HM7.out.below hb8)
                  have HI8 := Lib.hid (HI7.out.below hb8)
                  clear DS hb8 a0 a1
                  go_wp2_with fail
                  go_roundw
                  case rel => exact ⟨k + 1, by omega, by go_num, ⟨_, _, _, _, _, _, _, _, _, _, _, HM8.out, HS7.out, by omega, HI8.out⟩⟩
                  case measure => simp [intOf]; omega
        -- END
      · obtain rfl : k = len := by omega
        have Hb := Lib.hid hM.bel
        have hsz := hM.sz
        have hbW := hM.bW
        clear hM hS hI Hst
        go_wp2_with fail
        refine (awake25_c _).mono ?_
        rintro e w3 ⟨rfl, hb3⟩
        go_wp2_with fail
        go_ret
        refine ⟨rfl, ?_⟩
        rw [hBB]
        exact below_step Hb.out (by omega) hb3
end Go.Proofs.Ytaenlieajlfkdaa
