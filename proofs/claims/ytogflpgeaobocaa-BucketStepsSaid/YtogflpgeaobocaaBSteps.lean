/- The walk of BucketSteps: it tells true. -/
import Derived.Test.YtogflpgeaobocaaBkt
import Derived.Test.YtogflpgeaobocaaRow
import Derived.Deep.DeepCutAuto
import Derived.Deep.CutBlock
namespace Go.Proofs.Ytogflpgeaobocaa
open Go.RowKit
set_option linter.unusedSimpArgs false

structure BkR (G F : Nat) (w : World) (R B T : Int) (wr : World) : Prop where
  b : Bkt wr G R B T
  f : Blk wr F 46 #[.int .i64 R, .int .i64 B, .int .i64 T]
  bel : Below G w wr
  lt : G < F
  r0 : 0 ≤ R
  r1 : R ≤ 1048576
  b0 : 0 ≤ B
  b1 : B ≤ 1048576
  t0 : 0 ≤ T
  t1 : T ≤ B
theorem BkR.alloc {G F w R B T wr} (h : BkR G F w R B T wr) (o : Obj) : BkR G F w R B T (wr.alloc o) :=
  ⟨Blk.alloc h.b o, h.f.alloc o, h.bel.alloc (Nat.le_of_lt (Blk.lt h.b)) o, h.lt, h.r0, h.r1, h.b0, h.b1, h.t0, h.t1⟩
theorem BkR.drewN {G F w R B T wr} (h : BkR G F w R B T wr) (n : Nat) : BkR G F w R B T (wr.drewN n) :=
  ⟨Blk.drewN h.b n, h.f.drewN n, below_drewN h.bel n, h.lt, h.r0, h.r1, h.b0, h.b1, h.t0, h.t1⟩

theorem BkR.cells {G F w R B T wr} (h : BkR G F w R B T wr) : wr.cell? ⟨F, 0, none⟩ = some (.int .i64 R) ∧ wr.cell? ⟨F, 1, none⟩ = some (.int .i64 B) ∧ wr.cell? ⟨F, 2, none⟩ = some (.int .i64 T) :=
  ⟨by simpa using h.f.cell 0, by simpa using h.f.cell 1, by simpa using h.f.cell 2⟩
/-- Behind a step on the bucket itself. -/
structure Half (G F S : Nat) (w : World) (R B T : Int) (X : Array Value) (R' B' T' : Int) (wr : World) : Prop where
  b : Bkt wr G R' B' T'
  f : Blk wr F 46 #[.int .i64 R, .int .i64 B, .int .i64 T]
  s : Blk wr S 49 X
  bel : Below G w wr
  gf : G < F
  fs : F < S
theorem Half.mk0 {G F S w R B T X w0 w1 R' B' T'} (h : BkR G F w R B T w0) (hs : Blk w0 S 49 X) (hfs : F < S) (hb : Bkt w1 G R' B' T') (hg : w0.grownBy w1 (some G)) (hGw : G = w.heap.size) : Half G F S w R B T X R' B' T' w1 :=
  ⟨hb, h.f.grown hg (by simp; have := h.lt; omega), hs.grown hg (by simp; have := h.lt; omega), below_only h.bel hg (by have := h.bel.size; omega) (Nat.le_refl _), h.lt, hfs⟩
theorem Half.below {G F S w R B T X R' B' T' w1 w2} (h : Half G F S w R B T X R' B' T' w1) (hb : Below w1.heap.size w1 w2) (hGw : G = w.heap.size) : Half G F S w R B T X R' B' T' w2 :=
  ⟨Blk.below h.b hb (Blk.lt h.b), h.f.below hb h.f.lt, h.s.below hb h.s.lt, below_step h.bel (by omega) hb, h.gf, h.fs⟩
theorem Half.done {G F S w R B T X R' B' T' w1} (h : Half G F S w R B T X R' B' T' w1) (r0 : 0 ≤ R') (r1 : R' ≤ 1048576) (b0 : 0 ≤ B') (b1 : B' ≤ 1048576) (t0 : 0 ≤ T') (t1 : T' ≤ B') :
    BkR G F w R' B' T' (((w1.setCell ⟨F, 0, none⟩ (.int .i64 R')).setCell ⟨F, 1, none⟩ (.int .i64 B')).setCell ⟨F, 2, none⟩ (.int .i64 T')) := by
  have hne : G ≠ F := by have := h.gf; omega
  refine ⟨?_, ((h.f.set_ 0 _).set_ 1 _).set_ 2 _, ?_, h.gf, r0, r1, b0, b1, t0, t1⟩
  · exact ((Blk.far h.b (p := ⟨F, 0, none⟩) hne _).far (p := ⟨F, 1, none⟩) hne _).far (p := ⟨F, 2, none⟩) hne _
  · have hle : G ≤ F := by have := h.gf; omega
    exact ((h.bel.setCell (p := ⟨F, 0, none⟩) hle _).setCell (p := ⟨F, 1, none⟩) hle _).setCell (p := ⟨F, 2, none⟩) hle _
theorem Half.one {G F S w R B T X T' w1} (h : Half G F S w R B T X R B T' w1) (r0 : 0 ≤ R) (r1 : R ≤ 1048576) (b0 : 0 ≤ B) (b1 : B ≤ 1048576) (t0 : 0 ≤ T') (t1 : T' ≤ B) :
    BkR G F w R B T' (w1.setCell ⟨F, 2, none⟩ (.int .i64 T')) := by
  have hne : G ≠ F := by have := h.gf; omega
  refine ⟨Blk.far h.b (p := ⟨F, 2, none⟩) hne _, h.f.set_ 2 _, ?_, h.gf, r0, r1, b0, b1, t0, t1⟩
  have hle : G ≤ F := by have := h.gf; omega
  exact h.bel.setCell (p := ⟨F, 2, none⟩) hle _

set_option maxHeartbeats 4000000 in
set_option maxRecDepth 100000 in
theorem bsteps_walk (rate burst : Int) (A : Option Addr) (len cap : Nat) (f : Nat → Nat → Int) (w : World) (_h1 : I64 rate) (_h2 : I64 burst) (hlen : len ≤ maxLen) (hr : Ints w A len 3 f) :
    Calls Try.prog 6 #[.int .i64 rate, .int .i64 burst, .slice A len cap] w (Tells w true) := by
  unfold maxLen at hlen
  by_cases h1 : len > 1000
  · go_enter Try.func6, Try.ntmps6
    go_wp2_with fail
    refine (bawake_c _).mono ?_
    rintro e w1 ⟨rfl, hb⟩
    go_wp2_with fail
    go_ret
    exact ⟨rfl, hb⟩
  · have Hr := Lib.hid hr
    clear hr
    have C1 := bnew_c w rate burst
    have C2 := fun w => refnew_c w rate burst
    obtain ⟨b0, b1⟩ := inF_bd rate 1048576 (by omega)
    obtain ⟨b2, b3⟩ := inF_bd burst 1048576 (by omega)
    generalize inF rate 1048576 = R0 at *
    generalize inF burst 1048576 = B0 at *
    have D1 := Lib.hid C1
    have D2 := Lib.hid C2
    clear C1 C2
    go_enter Try.func6, Try.ntmps6
    go_wp2_with fail
    refine D1.out.mono ?_
    rintro e w1 ⟨rfl, ha, hb, hs⟩
    go_wp2_with fail
    refine (D2.out _).mono ?_
    rintro e w2 ⟨rfl, hb2⟩
    have hs2 := hb2.size
    have hst : BkR w.heap.size w2.heap.size w R0 B0 B0 (w2.alloc (.cells #[.int .i64 R0, .int .i64 B0, .int .i64 B0] 46)) :=
      ⟨(Blk.below ha hb2 hs).alloc _, Blk.new _ _ _, (below_step hb (Nat.le_refl _) hb2).alloc (by omega) _, by omega, b0, b1, b2, b3, b2, Int.le_refl _⟩
    have Hst := Lib.hid hst
    clear hst ha hb hb2 D1 D2
    generalize hG : w.heap.size = G at *
    generalize hR : w2.heap.size = F at *
    go_wp2_with fail
    go_loopw [9] (fun i wr => ∃ (k : Nat) (R B T : Int), k ≤ len ∧ i = .int .i64 k ∧ BkR G F w R B T wr) (fun i _ => len - (intOf i).toNat)
    case atStart => exact ⟨0, R0, B0, B0, by omega, rfl, Hst.out⟩
    case round =>
      obtain ⟨k, R, B, T, hk, rfl, hst⟩ := hrel
      by_cases hlt : k < len
      · obtain ⟨ad, hA, hadb, hcs⟩ := Hr.out k hlt
        have hc0 := (hcs 0 (by omega)).1
        obtain ⟨hc1, hn0, hn1⟩ := hcs 1 (by omega)
        obtain ⟨hc2, hm0, hm1⟩ := hcs 2 (by omega)
        rw [← hst.bel.cell (by rw [cellAt_block]; omega)] at hc0 hc1 hc2
        simp only [cellAt, if_true, Nat.one_ne_zero, if_false, Nat.reduceEqDiff] at hc0 hc1 hc2
        clear hcs
        subst hA
        generalize f k 1 = n at *
        generalize f k 0 = K at *
        generalize f k 2 = m at *
        have Hst1 := Lib.hid hst
        clear hst Hst hs hs2
        go_upto_region 9 with (fail)
        have hst0 := Hst1.out.alloc (.cells #[.int .i64 K, .int .i64 n, .int .i64 m] 49)
        have hS := Blk.new wr 49 #[.int .i64 K, .int .i64 n, .int .i64 m]
        have hFS := Hst1.out.f.lt
        clear Hst1 hc0 hc1 hc2
        generalize wr.alloc (.cells #[.int .i64 K, .int .i64 n, .int .i64 m] 49) = w0 at *
        generalize wr.heap.size = S at *
        have s0 : w0.cell? ⟨S, 0, none⟩ = some (.int .i64 K) := by simpa using hS.cell 0
        have Hst0 := Lib.hid hst0
        have HS := Lib.hid hS
        have HG := Lib.hid hG
        clear hst0 hS hG
        go_upto_block 2 with (fail)
        clear s0
        go_cut [] (fun wc => ∃ (R' B' T' : Int), BkR G F w R' B' T' wc)
        case first =>
          obtain ⟨hb, hf, hbel, hGF, r0, r1, b0, b1, t0, t1⟩ := Hst0.out
          cases hK1 : (K == 1)
          · cases hK2 : (K == 2)
            · have C1 := bset_c w0 G R B T n m hb t0
              have C2 := fun w => refset_c w R B T n m t0
              obtain ⟨p0, p1⟩ := inF_bd n 1048576 (by omega)
              obtain ⟨p2, p3⟩ := inF_bd m 1048576 (by omega)
              obtain ⟨p4, p5⟩ := inF_bd T (inF m 1048576) p2
              generalize inF T (inF m 1048576) = T' at *
              generalize inF n 1048576 = R' at *
              generalize inF m 1048576 = B' at *
              have y1 : w0.cell? ⟨S, 1, none⟩ = some (.int .i64 n) := by simpa using HS.out.cell 1
              have y2 : w0.cell? ⟨S, 2, none⟩ = some (.int .i64 m) := by simpa using HS.out.cell 2
              have D1 := Lib.hid C1
              have D2 := Lib.hid C2
              clear C1 C2 hb hf hbel hGF
              go_wp2_with fail
              refine D1.out.mono ?_
              rintro e w1 ⟨rfl, hb1, hg1⟩
              have hH := Half.mk0 Hst0.out HS.out hFS hb1 hg1 HG.out.symm
              clear y1 y2
              have x0 : w1.cell? ⟨F, 0, none⟩ = some (.int .i64 R) := by simpa using hH.f.cell 0
              have x1 : w1.cell? ⟨F, 1, none⟩ = some (.int .i64 B) := by simpa using hH.f.cell 1
              have x2 : w1.cell? ⟨F, 2, none⟩ = some (.int .i64 T) := by simpa using hH.f.cell 2
              have y1 : w1.cell? ⟨S, 1, none⟩ = some (.int .i64 n) := by simpa using hH.s.cell 1
              have y2 : w1.cell? ⟨S, 2, none⟩ = some (.int .i64 m) := by simpa using hH.s.cell 2
              have HH := Lib.hid hH
              clear hH hb1 hg1
              go_wp2_with fail
              refine (D2.out _).mono ?_
              rintro e w2 ⟨rfl, hb2⟩
              have hH := HH.out.below hb2 HG.out.symm
              clear x0 x1 x2 y1 y2
              have x0 : w2.cell? ⟨F, 0, none⟩ = some (.int .i64 R) := by simpa using hH.f.cell 0
              have x1 : w2.cell? ⟨F, 1, none⟩ = some (.int .i64 B) := by simpa using hH.f.cell 1
              have x2 : w2.cell? ⟨F, 2, none⟩ = some (.int .i64 T) := by simpa using hH.f.cell 2
              have z0 := hH.f.frozen 0
              have z1 := hH.f.frozen 1
              have z2 := hH.f.frozen 2
              have HH2 := Lib.hid hH
              clear hH HH hb2
              go_wp2_with fail
              go_meet
              case rel => exact ⟨R', B', T', HH2.out.done p0 p1 p2 p3 p4 p5⟩
            · have C1 := btake_c w0 G R B T n hb t0 (by omega)
              have y1 : w0.cell? ⟨S, 1, none⟩ = some (.int .i64 n) := by simpa using HS.out.cell 1
              have x2 : w0.cell? ⟨F, 2, none⟩ = some (.int .i64 T) := by simpa using hf.cell 2
              rcases btake_cases T n with ⟨e1, e2, g1⟩ | ⟨e1, e2, g1, g2⟩ | ⟨e1, e2, g1, g2⟩
              all_goals
                rw [e1, e2] at C1
                have D1 := Lib.hid C1
                clear C1 e1 e2 hb hf hbel hGF
                go_wp2_with fail
                refine D1.out.mono ?_
                rintro e w1 ⟨rfl, hb1, hg1⟩
                have hH := Half.mk0 Hst0.out HS.out hFS hb1 hg1 HG.out.symm
                clear y1 x2
                have y1 : w1.cell? ⟨S, 1, none⟩ = some (.int .i64 n) := by simpa using hH.s.cell 1
                have x2 : w1.cell? ⟨F, 2, none⟩ = some (.int .i64 T) := by simpa using hH.f.cell 2
                have z2 := hH.f.frozen 2
                have HH := Lib.hid hH
                clear hH hb1 hg1
                go_wp2_with fail
                go_meet
              case rel => exact ⟨R, B, T, HH.out.b, HH.out.f, HH.out.bel, HH.out.gf, r0, r1, b0, b1, t0, t1⟩
              case rel => exact ⟨R, B, T, HH.out.b, HH.out.f, HH.out.bel, HH.out.gf, r0, r1, b0, b1, t0, t1⟩
              case rel => exact ⟨R, B, T - n, HH.out.one r0 r1 b0 b1 (by omega) (by omega)⟩
          · have C1 := tick_c w0 G R B T hb r0 r1 b0 b1 t0 t1
            have C2 := fun w => reftick_c w R B T r0 r1 b0 b1 t0 t1
            obtain ⟨q0, q1⟩ := tickF_bd (R := R) (B := B) (T := T) r0 b0 t0
            generalize tickF R B T = T' at *
            have D1 := Lib.hid C1
            have D2 := Lib.hid C2
            clear C1 C2 hb hf hbel hGF
            go_wp2_with fail
            refine D1.out.mono ?_
            rintro e w1 ⟨rfl, hb1, hg1⟩
            have hH := Half.mk0 Hst0.out HS.out hFS hb1 hg1 HG.out.symm
            have x0 : w1.cell? ⟨F, 0, none⟩ = some (.int .i64 R) := by simpa using hH.f.cell 0
            have x1 : w1.cell? ⟨F, 1, none⟩ = some (.int .i64 B) := by simpa using hH.f.cell 1
            have x2 : w1.cell? ⟨F, 2, none⟩ = some (.int .i64 T) := by simpa using hH.f.cell 2
            have HH := Lib.hid hH
            clear hH hb1 hg1
            go_wp2_with fail
            refine (D2.out _).mono ?_
            rintro e w2 ⟨rfl, hb2⟩
            have hH := HH.out.below hb2 HG.out.symm
            clear x0 x1 x2
            have x0 : w2.cell? ⟨F, 0, none⟩ = some (.int .i64 R) := by simpa using hH.f.cell 0
            have x1 : w2.cell? ⟨F, 1, none⟩ = some (.int .i64 B) := by simpa using hH.f.cell 1
            have x2 : w2.cell? ⟨F, 2, none⟩ = some (.int .i64 T) := by simpa using hH.f.cell 2
            have z0 := hH.f.frozen 0
            have z1 := hH.f.frozen 1
            have z2 := hH.f.frozen 2
            have HH2 := Lib.hid hH
            clear hH HH hb2
            go_wp2_with fail
            go_meet
            case rel =>
              exact ⟨R, B, T', HH2.out.done r0 r1 b0 b1 q0 q1⟩
        case rest =>
          obtain ⟨R', B', T', hst⟩ := hcut
          obtain ⟨x0, x1, x2⟩ := hst.cells
          have y2 := Bkt.c2 hst.b
          have n0 := World.new_ne wc _ x2
          have n1 := World.new_ne wc _ y2
          have Hst2 := Lib.hid hst
          clear hst x0 x1
          go_upto_region 25 with (fail)
          go_cut [80] (fun b wd => b = .bool false ∧ BkR G F w R' B' T' wd)
          case first =>
            go_region_held3 (fun wq => wq.cell? ⟨G, 2, none⟩ = some (.int .i64 T') ∧ wq.cell? ⟨F, 2, none⟩ = some (.int .i64 T')) (first | go_keep)
              (first | (go_at_call 29; refine (tokens_cell _ G T' ?_).mono ?_; (simp [*]); rintro e w' ⟨rfl, rfl⟩))
            all_goals (go_wp2_with fail; go_meet)
            all_goals exact ⟨rfl, Hst2.out.drewN 1⟩
          case rest =>
            obtain ⟨rfl, hst⟩ := hcut
            clear x2 y2 n0 n1
            go_wp2_with fail
            go_roundw
            case rel => exact ⟨k + 1, R', B', T', by omega, by go_num, hst⟩
            case measure => simp [intOf]; omega
      · go_wp2_with fail
        refine (bawake_c _).mono ?_
        rintro e w2 ⟨rfl, hb2⟩
        go_wp2_with fail
        go_ret
        subst hG
        exact ⟨rfl, hst.bel.trans (hb2.mono hst.bel.size)⟩
end Go.Proofs.Ytogflpgeaobocaa
