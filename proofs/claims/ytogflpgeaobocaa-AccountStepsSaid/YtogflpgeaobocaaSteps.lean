/- The walk of AccountSteps: it tells true. -/
import Derived.Test.YtogflpgeaobocaaAcc
import Derived.Test.YtogflpgeaobocaaRow
import Derived.Deep.RegionWith
import Derived.Deep.DeepCutAuto
import Derived.Deep.CutBlock
import Derived.Deep.RegionHeld3
namespace Go.Proofs.Ytogflpgeaobocaa
open Go.RowKit
set_option linter.unusedSimpArgs false

theorem take_bd (L T n : Int) (hL0 : 0 ≤ L) (hL : L ≤ 1048576) (hT0 : 0 ≤ T) (hT : T ≤ 1048576) : 0 ≤ takeT L T n ∧ takeT L T n ≤ 1048576 := by
  have hr : roomF L T = L - T ∨ roomF L T = 0 := by unfold roomF; split <;> simp
  have hr2 : 0 ≤ roomF L T := by unfold roomF; split <;> omega
  unfold takeT
  split
  · exact ⟨hT0, hT⟩
  · split
    · exact ⟨hT0, hT⟩
    · rcases hr with hr | hr <;> omega
theorem give_bd (T n : Int) (hT0 : 0 ≤ T) (hT : T ≤ 1048576) : 0 ≤ giveT T n ∧ giveT T n ≤ 1048576 := by
  unfold giveT
  split
  · exact ⟨hT0, hT⟩
  · split
    · exact ⟨hT0, hT⟩
    · omega
theorem lim_bd (n : Int) : 0 ≤ limF n ∧ limF n ≤ 1048576 := by
  unfold limF
  split
  · omega
  · split <;> omega

theorem blk2_facts {W w3 : World} {g : Nat} {a b : Value} (h : Below W.heap.size W w3) (hb : Blk W g 28 #[a, b]) :
    w3.cell? ⟨g, 0, none⟩ = some a ∧ w3.cell? ⟨g, 1, none⟩ = some b ∧ w3.frozen? ⟨g, 0, none⟩ = false ∧ w3.frozen? ⟨g, 1, none⟩ = false := by
  have hb' := hb.below h hb.lt
  exact ⟨by simpa using hb'.cell 0, by simpa using hb'.cell 1, hb'.frozen 0, hb'.frozen 1⟩

def StR (G R : Nat) (w : World) (L T : Int) (wr : World) : Prop := Acc wr G L T ∧ Blk wr R 28 #[.int .i64 L, .int .i64 T] ∧ Below G w wr ∧ G < R

theorem StR.drewN {G R w L T wr} (h : StR G R w L T wr) (n : Nat) : StR G R w L T (wr.drewN n) := ⟨Blk.drewN h.1 n, h.2.1.drewN n, below_drewN h.2.2.1 n, h.2.2.2⟩
theorem StR.alloc {G R w L T wr} (h : StR G R w L T wr) (o : Obj) : StR G R w L T (wr.alloc o) := ⟨Blk.alloc h.1 o, h.2.1.alloc o, h.2.2.1.alloc (Nat.le_of_lt (Blk.lt h.1)) o, h.2.2.2⟩

set_option maxHeartbeats 2000000 in
set_option maxRecDepth 100000 in
theorem steps_walk (limit : Int) (A : Option Addr) (len cap : Nat) (f : Nat → Nat → Int) (w : World) (hl : I64 limit) (hlen : len ≤ maxLen) (hr : Ints w A len 2 f) :
    Calls Try.prog 3 #[.int .i64 limit, .slice A len cap] w (Tells w true) := by
  unfold maxLen at hlen
  obtain ⟨hl0, hl1⟩ := hl
  by_cases h1 : len > 2000
  · go_enter Try.func3, Try.ntmps3
    go_wp2_with fail
    refine (awake_c _).mono ?_
    rintro e w1 ⟨rfl, hb⟩
    go_wp2_with fail
    go_ret
    exact ⟨rfl, hb⟩
  · have Hr := Lib.hid hr
    clear hr
    go_enter Try.func3, Try.ntmps3
    go_wp2_with fail
    refine (new_c _ _).mono ?_
    rintro e w1 ⟨rfl, ha, hb, hs⟩
    go_wp2_with fail
    refine (reflimit_c _ _).mono ?_
    rintro e w2 ⟨rfl, rfl⟩
    obtain ⟨hL0, hL1⟩ := lim_bd limit
    generalize limF limit = L0 at *
    have hst : StR w.heap.size w1.heap.size w L0 0 (w1.alloc (.cells #[.int .i64 L0, .int .i64 0] 28)) :=
      ⟨ha.alloc _, Blk.new _ _ _, hb.trans ((Below.refl _ _).alloc (by omega) _), hs⟩
    have Hst := Lib.hid hst
    clear hst ha hb
    generalize hG : w.heap.size = G at *
    generalize hR : w1.heap.size = R at *
    go_wp2_with fail
    go_loopw [7] (fun i wr => ∃ (k : Nat) (L T : Int), k ≤ len ∧ i = .int .i64 k ∧ (0 ≤ L ∧ L ≤ 1048576 ∧ 0 ≤ T ∧ T ≤ 1048576) ∧ StR G R w L T wr) (fun i _ => len - (intOf i).toNat)
    case atStart => exact ⟨0, L0, 0, by omega, rfl, by omega, Hst.out⟩
    case round =>
      obtain ⟨k, L, T, hk, rfl, ⟨hL0, hL1, hT0, hT1⟩, hst⟩ := hrel
      by_cases hlt : k < len
      · obtain ⟨ad, hA, hadb, hcs⟩ := Hr.out k hlt
        have hc0 := (hcs 0 (by omega)).1
        obtain ⟨hc1, hn0, hn1⟩ := hcs 1 (by omega)
        rw [← hst.2.2.1.cell (by rw [cellAt_block]; omega)] at hc0 hc1
        simp only [cellAt, if_true, Nat.one_ne_zero, if_false] at hc0 hc1
        clear hcs
        subst hA
        generalize f k 1 = n at *
        generalize f k 0 = K at *
        have Hst1 := Lib.hid hst
        clear hst
        go_upto_block 2 with (fail)
        go_cut [8, 9] (fun e wn wc => ∃ (L' T' E : Int), (0 ≤ L' ∧ L' ≤ 1048576 ∧ 0 ≤ T' ∧ T' ≤ 1048576) ∧ e = .int .i64 E ∧ wn = .int .i64 E ∧ StR G R w L' T' wc)
        case first =>
          cases hK1 : (K == 1)
          · cases hK2 : (K == 2)
            · obtain ⟨hacc, hblk, hbel, hGR⟩ := Hst1.out
              obtain ⟨hm0, hm1⟩ := lim_bd n
              have C1 := set_c wr G L T n hacc
              have C2 := fun w => reflimit_c w n
              generalize limF n = L' at *
              have D1 := Lib.hid C1
              have D2 := Lib.hid C2
              clear C1 C2 hacc hblk hbel hGR
              go_wp2_with fail
              refine D1.out.mono ?_
              rintro e w2 ⟨rfl, hacc2, hg2⟩
              obtain ⟨_, hblk, hbel, hGR⟩ := Hst1.out
              have hRlt := hblk.lt
              have hblk2 := hblk.grown hg2 (by simp; omega)
              have hsz2 := hg2.size
              rw [← World.cell?_of_block (hg2.block _ (by show (ad.add (k * 2)).block < _; rw [block_of_add]; omega) (by show some (ad.add (k * 2)).block ≠ _; rw [block_of_add]; simp; omega))] at hc1
              have r0 : w2.cell? ⟨R, 0, none⟩ = some (.int .i64 L) := by simpa using hblk2.cell 0
              have r1 := hblk2.frozen 0
              have Hb2 := Lib.hid hblk2
              have Hac2 := Lib.hid hacc2
              clear hblk hbel hblk2 hacc2 hc0
              go_wp2_with fail
              refine (D2.out _).mono ?_
              rintro e w3 ⟨rfl, rfl⟩
              go_wp2_with fail
              go_meet
              case rel =>
                obtain ⟨_, _, hbel, hGR⟩ := Hst1.out
                refine ⟨L', T, 0, ⟨hm0, hm1, hT0, hT1⟩, rfl, rfl, ?_, Hb2.out.set_ 0 _, ?_, hGR⟩
                · exact Blk.far Hac2.out (p := ⟨R, 0, none⟩) (by simp; omega) _
                · exact (below_only hbel hg2 (hG ▸ hbel.size) (Nat.le_refl _)).setCell (p := ⟨R, 0, none⟩) (by simp; omega) _
            · obtain ⟨hT'0, hT'1⟩ := give_bd T n hT0 hT1
              obtain ⟨hacc, hblk, hbel, hGR⟩ := Hst1.out
              have C1 := give_c wr G L T n hacc hT0 hT1
              have C2 := fun w => refgive_c w L T n hT0 hT1
              generalize giveT T n = T' at *
              generalize giveE T n = E at *
              have D1 := Lib.hid C1
              have D2 := Lib.hid C2
              clear C1 C2 hacc hblk hbel hGR
              go_wp2_with fail
              refine D1.out.mono ?_
              rintro e w2 ⟨rfl, hacc2, hg2⟩
              obtain ⟨_, hblk, hbel, hGR⟩ := Hst1.out
              have hRlt := hblk.lt
              have hblk2 := hblk.grown hg2 (by simp; omega)
              have hsz2 := hg2.size
              rw [← World.cell?_of_block (hg2.block _ (by show (ad.add (k * 2)).block < _; rw [block_of_add]; omega) (by show some (ad.add (k * 2)).block ≠ _; rw [block_of_add]; simp; omega))] at hc1
              have r0 : w2.cell? ⟨R, 0, none⟩ = some (.int .i64 L) := by simpa using hblk2.cell 0
              have r1 : w2.cell? ⟨R, 1, none⟩ = some (.int .i64 T) := by simpa using hblk2.cell 1
              have Hb2 := Lib.hid hblk2
              have Hac2 := Lib.hid hacc2
              clear hblk hbel hblk2 hacc2 hc0
              have n0 := World.new_ne w2 _ r0
              have n1 := World.new_ne w2 _ r1
              have n2 := World.new_ne w2 _ hc1
              go_upto_region 19 with (fail)
              go_cut [12, 13] (fun p x wc => ∃ b : Nat, p = .pointer (some ⟨b, 0, none⟩) ∧ x = .int .i64 E ∧ Blk wc b 28 #[.int .i64 L, .int .i64 T'] ∧ b ≠ R ∧ Below w2.heap.size w2 wc)
              case first =>
                go_region_held3 (fun wq => wq.cell? ⟨R, 0, none⟩ = some (.int .i64 L) ∧ wq.cell? ⟨R, 1, none⟩ = some (.int .i64 T) ∧ wq.cell? ⟨(ad.add (k * 2)).block, (ad.add (k * 2)).off + 1, none⟩ = some (.int .i64 n))
                  (first | go_keep) (first | (go_at_call 16; refine (D2.out _).mono ?_; rintro e w3 ⟨rfl, hb3, hs3⟩; have hk3 := keeps hb3 (Nat.le_refl _); have hf3 := keepf hb3 (Nat.le_refl _)))
                all_goals (go_wp2_with fail; go_meet)
                · obtain ⟨q1, q2, q3⟩ := put_behind_d hb3 28 #[.int .i64 L, .int .i64 T']
                  exact ⟨_, rfl, rfl, q1, by omega, q2⟩
                · obtain ⟨q1, q2⟩ := put_ahead2_d (.int .i64 L) (.int .i64 T') hb3
                  exact ⟨_, rfl, rfl, q1, by omega, q2⟩
              case rest =>
                obtain ⟨b, rfl, rfl, hB, hne, hbw⟩ := hcut
                have hRc := Hb2.out.below hbw Hb2.out.lt
                have s0 : wc.cell? ⟨R, 0, none⟩ = some (.int .i64 L) := by simpa using hRc.cell 0
                have s1 : wc.cell? ⟨R, 1, none⟩ = some (.int .i64 T) := by simpa using hRc.cell 1
                have s2 := hRc.frozen 0
                have s3 := hRc.frozen 1
                have s4 : wc.cell? ⟨b, 0, none⟩ = some (.int .i64 L) := by simpa using hB.cell 0
                have s5 : wc.cell? ⟨b, 1, none⟩ = some (.int .i64 T') := by simpa using hB.cell 1
                have HB := Lib.hid hB
                have HRc := Lib.hid hRc
                clear hB hRc
                go_wp2_with fail
                go_meet
                case rel =>
                  obtain ⟨_, _, hbel, hGR⟩ := Hst1.out
                  have hacc' := Hac2.out.below hbw Hac2.out.lt
                  refine ⟨L, T', E, ⟨hL0, hL1, hT'0, hT'1⟩, rfl, rfl, ?_, (HRc.out.set_ 0 _).set_ 1 _, ?_, hGR⟩
                  · exact (hacc'.far (p := ⟨R, 0, none⟩) (by simp; omega) _).far (p := ⟨R, 1, none⟩) (by simp; omega) _
                  · exact (((below_only hbel hg2 (hG ▸ hbel.size) (Nat.le_refl _)).trans (hbw.mono (by omega))).setCell (p := ⟨R, 0, none⟩) (by simp; omega) _).setCell (p := ⟨R, 1, none⟩) (by simp; omega) _
          · obtain ⟨hT'0, hT'1⟩ := take_bd L T n hL0 hL1 hT0 hT1
            obtain ⟨hacc, hblk, hbel, hGR⟩ := Hst1.out
            have C1 := take_c wr G L T n hacc hL0 hL1 hT0 hT1
            have C2 := fun w => reftake_c w L T n hL0 hL1 hT0 hT1
            generalize takeT L T n = T' at *
            generalize takeE L T n = E at *
            have D1 := Lib.hid C1
            have D2 := Lib.hid C2
            clear C1 C2 hacc hblk hbel hGR
            go_wp2_with fail
            refine D1.out.mono ?_
            rintro e w2 ⟨rfl, hacc2, hg2⟩
            obtain ⟨_, hblk, hbel, hGR⟩ := Hst1.out
            have hRlt := hblk.lt
            have hblk2 := hblk.grown hg2 (by simp; omega)
            have hsz2 := hg2.size
            rw [← World.cell?_of_block (hg2.block _ (by show (ad.add (k * 2)).block < _; rw [block_of_add]; omega) (by show some (ad.add (k * 2)).block ≠ _; rw [block_of_add]; simp; omega))] at hc1
            have r0 : w2.cell? ⟨R, 0, none⟩ = some (.int .i64 L) := by simpa using hblk2.cell 0
            have r1 : w2.cell? ⟨R, 1, none⟩ = some (.int .i64 T) := by simpa using hblk2.cell 1
            have Hb2 := Lib.hid hblk2
            have Hac2 := Lib.hid hacc2
            clear hblk hbel hblk2 hacc2 hc0
            have n0 := World.new_ne w2 _ r0
            have n1 := World.new_ne w2 _ r1
            have n2 := World.new_ne w2 _ hc1
            go_upto_region 14 with (fail)
            go_cut [10, 11] (fun p x wc => ∃ b : Nat, p = .pointer (some ⟨b, 0, none⟩) ∧ x = .int .i64 E ∧ Blk wc b 28 #[.int .i64 L, .int .i64 T'] ∧ b ≠ R ∧ Below w2.heap.size w2 wc)
            case first =>
              go_region_held3 (fun wq => wq.cell? ⟨R, 0, none⟩ = some (.int .i64 L) ∧ wq.cell? ⟨R, 1, none⟩ = some (.int .i64 T) ∧ wq.cell? ⟨(ad.add (k * 2)).block, (ad.add (k * 2)).off + 1, none⟩ = some (.int .i64 n))
                (first | go_keep) (first | (go_at_call 14; refine (D2.out _).mono ?_; rintro e w3 ⟨rfl, hb3, hs3⟩; have hk3 := keeps hb3 (Nat.le_refl _); have hf3 := keepf hb3 (Nat.le_refl _)))
              all_goals (go_wp2_with fail; go_meet)
              · obtain ⟨q1, q2, q3⟩ := put_behind_d hb3 28 #[.int .i64 L, .int .i64 T']
                exact ⟨_, rfl, rfl, q1, by omega, q2⟩
              · obtain ⟨q1, q2⟩ := put_ahead2_d (.int .i64 L) (.int .i64 T') hb3
                exact ⟨_, rfl, rfl, q1, by omega, q2⟩
            case rest =>
              obtain ⟨b, rfl, rfl, hB, hne, hbw⟩ := hcut
              have hRc := Hb2.out.below hbw Hb2.out.lt
              have s0 : wc.cell? ⟨R, 0, none⟩ = some (.int .i64 L) := by simpa using hRc.cell 0
              have s1 : wc.cell? ⟨R, 1, none⟩ = some (.int .i64 T) := by simpa using hRc.cell 1
              have s2 := hRc.frozen 0
              have s3 := hRc.frozen 1
              have s4 : wc.cell? ⟨b, 0, none⟩ = some (.int .i64 L) := by simpa using hB.cell 0
              have s5 : wc.cell? ⟨b, 1, none⟩ = some (.int .i64 T') := by simpa using hB.cell 1
              have HB := Lib.hid hB
              have HRc := Lib.hid hRc
              clear hB hRc
              go_wp2_with fail
              go_meet
              case rel =>
                obtain ⟨_, _, hbel, hGR⟩ := Hst1.out
                have hacc' := Hac2.out.below hbw Hac2.out.lt
                refine ⟨L, T', E, ⟨hL0, hL1, hT'0, hT'1⟩, rfl, rfl, ?_, (HRc.out.set_ 0 _).set_ 1 _, ?_, hGR⟩
                · exact (hacc'.far (p := ⟨R, 0, none⟩) (by simp; omega) _).far (p := ⟨R, 1, none⟩) (by simp; omega) _
                · exact (((below_only hbel hg2 (hG ▸ hbel.size) (Nat.le_refl _)).trans (hbw.mono (by omega))).setCell (p := ⟨R, 0, none⟩) (by simp; omega) _).setCell (p := ⟨R, 1, none⟩) (by simp; omega) _
        case rest =>
          obtain ⟨L', T', E, ⟨hm0, hm1, hm2, hm3⟩, rfl, rfl, hst⟩ := hcut
          clear hc0 hc1
          have g0 := hst.1.c0
          have g1 := hst.1.c1
          have r0 : wc.cell? ⟨R, 0, none⟩ = some (.int .i64 L') := by simpa using hst.2.1.cell 0
          have r1 : wc.cell? ⟨R, 1, none⟩ = some (.int .i64 T') := by simpa using hst.2.1.cell 1
          have n0 := World.new_ne wc _ g0
          have n1 := World.new_ne wc _ g1
          have n2 := World.new_ne wc _ r0
          have n3 := World.new_ne wc _ r1
          have Hst2 := Lib.hid hst
          clear hst
          go_upto_region 22 with (fail)
          go_cut [106] (fun b wd => b = .bool false ∧ StR G R w L' T' wd)
          case first =>
            go_region_held3 (fun wq => wq.cell? ⟨G, 0, none⟩ = some (.int .i64 L') ∧ wq.cell? ⟨G, 1, none⟩ = some (.int .i64 T') ∧ wq.cell? ⟨R, 0, none⟩ = some (.int .i64 L') ∧ wq.cell? ⟨R, 1, none⟩ = some (.int .i64 T'))
              (first | go_keep) (first | (go_at_call 18; refine (taken_cell _ G T' ?_).mono ?_; (simp [*]); rintro e w' ⟨rfl, rfl⟩) | (go_at_call 19; refine (room_cell _ G L' T' ?_ ?_ hm0 hm1 hm2 hm3).mono ?_; (simp [*]); (simp [*]); rintro e w' ⟨rfl, nq, rfl⟩) | (go_at_call 20; refine (refroom_c _ L' T' hm0 hm1 hm2 hm3).mono ?_; rintro e w' ⟨rfl, o, rfl⟩))
            all_goals (go_wp2_with fail; go_meet)
            exact ⟨rfl, (Hst2.out.drewN _).alloc _⟩
          case rest =>
            obtain ⟨rfl, hst⟩ := hcut
            clear g0 g1 r0 r1 n0 n1 n2 n3
            go_wp2_with fail
            go_roundw
            case rel => exact ⟨k + 1, L', T', by omega, by go_num, ⟨hm0, hm1, hm2, hm3⟩, hst⟩
            case measure => simp [intOf]; omega
      · go_wp2_with fail
        refine (awake_c _).mono ?_
        rintro e w2 ⟨rfl, hb2⟩
        go_wp2_with fail
        go_ret
        subst hG
        exact ⟨rfl, hst.2.2.1.trans (hb2.mono hst.2.2.1.size)⟩
end Go.Proofs.Ytogflpgeaobocaa
