/- The walk of BucketWindows: it tells true. -/
import Derived.Test.YtogflpgeaobocaaBkt
import Derived.Test.YtogflpgeaobocaaBWaits
import Derived.Test.YtogflpgeaobocaaRow
import Derived.Laws.MakeOwn
import Derived.Deep.RegionWith
import Derived.Deep.DeepCutAuto
import Derived.Deep.CutBlock
import Derived.Deep.RegionHeld3
import Derived.Laws.Entries
namespace Go.Proofs.Ytogflpgeaobocaa
open Go.RowKit
set_option linter.unusedSimpArgs false
set_option linter.unusedVariables false

theorem mul_bd {R D : Int} (h0 : 0 ≤ R) (h1 : R ≤ 1000) (h2 : -120 ≤ D) (h3 : D ≤ 120) : -120000 ≤ R * D ∧ R * D ≤ 120000 := by
  have a := Int.mul_le_mul_of_nonneg_left h3 h0
  have b := Int.mul_le_mul_of_nonneg_left h2 h0
  omega

/-- What tokens are: the least, over all times that ended, of burst and rate times ticks, less what was taken since. -/
structure Inv (R B : Int) (X Y : Nat → Int) (i : Nat) (T : Int) : Prop where
  le : ∀ k, k ≤ i → T ≤ B + R * (Y i - Y k) - (X i - X k)
  eq : ∃ k, k ≤ i ∧ T = B + R * (Y i - Y k) - (X i - X k)
  t0 : 0 ≤ T
  t1 : T ≤ B
  y : ∀ k, k ≤ i → 0 ≤ Y k ∧ Y k ≤ k
  x : ∀ k, k ≤ i → 0 ≤ X k ∧ X k ≤ k * 100000

def upd (X : Nat → Int) (j : Nat) (v : Int) : Nat → Int := fun k => if k = j then v else X k
theorem upd_at (X : Nat → Int) (j : Nat) (v : Int) : upd X j v j = v := if_pos rfl
theorem upd_ne (X : Nat → Int) {j k : Nat} (v : Int) (h : k ≠ j) : upd X j v k = X k := if_neg h
theorem upd_upd (X : Nat → Int) (j : Nat) (u v : Int) : upd (upd X j u) j v = upd X j v := by
  funext k; unfold upd; split <;> rfl

theorem Inv.step {R B : Int} {X Y : Nat → Int} {i : Nat} {T T' x y : Int} (h : Inv R B X Y i T) (hB : B ≤ 100000) (hx0 : 0 ≤ x) (hx1 : x ≤ 100000) (hy : y = 0 ∨ y = 1)
    (hT : (T' = T + R * y - x ∨ T' = B ∧ x = 0) ∧ T' ≤ B ∧ T' ≤ T + R * y - x) (h0 : 0 ≤ T') : Inv R B (upd X (i + 1) (X i + x)) (upd Y (i + 1) (Y i + y)) (i + 1) T' := by
  have ex : ∀ k, k ≤ i → upd X (i + 1) (X i + x) k = X k := fun k hk => upd_ne X _ (by omega)
  have ey : ∀ k, k ≤ i → upd Y (i + 1) (Y i + y) k = Y k := fun k hk => upd_ne Y _ (by omega)
  have em : ∀ k, R * (Y i + y - Y k) = R * (Y i - Y k) + R * y := fun k => by rw [← Int.mul_add]; congr 1; omega
  refine ⟨fun k hk => ?_, ?_, h0, hT.2.1, fun k hk => ?_, fun k hk => ?_⟩
  · rw [upd_at, upd_at]
    rcases Nat.lt_or_ge i k with hlt | hge
    · obtain rfl : k = i + 1 := by omega
      rw [upd_at, upd_at, Int.sub_self, Int.mul_zero]
      omega
    · rw [ex k hge, ey k hge, em]
      have := h.le k hge
      omega
  · rcases hT.1 with e | ⟨e, e2⟩
    · obtain ⟨k, hk, he⟩ := h.eq
      refine ⟨k, by omega, ?_⟩
      rw [upd_at, upd_at, ex k hk, ey k hk, em]
      omega
    · refine ⟨i + 1, by omega, ?_⟩
      rw [upd_at, upd_at, Int.sub_self, Int.mul_zero]
      omega
  · rcases Nat.lt_or_ge i k with hlt | hge
    · obtain rfl : k = i + 1 := by omega
      rw [upd_at]
      have := h.y i (Nat.le_refl _)
      omega
    · rw [ey k hge]; exact h.y k hge
  · rcases Nat.lt_or_ge i k with hlt | hge
    · obtain rfl : k = i + 1 := by omega
      rw [upd_at]
      have := h.x i (Nat.le_refl _)
      omega
    · rw [ex k hge]; exact h.x k hge

theorem Inv.fits {R B : Int} {X Y : Nat → Int} {i : Nat} {T : Int} (h : Inv R B X Y i T) (n : Int) :
    (∀ k, k < i + 1 → X i - X k + n ≤ B + R * (Y i - Y k)) ↔ n ≤ T := by
  constructor
  · intro ha
    obtain ⟨k, hk, he⟩ := h.eq
    have := ha k (by omega)
    omega
  · intro hn k hk
    have := h.le k (by omega)
    omega

/-- A row of ints. -/
def RowI (w : World) (g N : Nat) (X : Nat → Int) : Prop := ∃ cs, Blk w g 3 cs ∧ cs.size = N ∧ ∀ j, j < N → cs[j]? = some (.int .i64 (X j))
section
variable {w w' : World} {g N : Nat} {X : Nat → Int}
theorem RowI.cell (h : RowI w g N X) {j : Nat} (hj : j < N) : w.cell? ⟨g, j, none⟩ = some (.int .i64 (X j)) := by
  obtain ⟨cs, hb, _, hc⟩ := h
  rw [hb.cell]; exact hc j hj
theorem RowI.frozen (h : RowI w g N X) (j : Nat) : w.frozen? ⟨g, j, none⟩ = false := by
  obtain ⟨cs, hb, _⟩ := h
  exact hb.frozen j
theorem RowI.set_ (h : RowI w g N X) (j : Nat) (v : Int) : RowI (w.setCell ⟨g, j, none⟩ (.int .i64 v)) g N (upd X j v) := by
  obtain ⟨cs, hb, hs, hc⟩ := h
  refine ⟨_, hb.set_ j _, by simpa using hs, fun k hk => ?_⟩
  rw [Array.getElem?_setIfInBounds]
  unfold upd
  split
  · rename_i e
    subst e
    rw [if_pos (by omega), if_pos rfl]
  · rename_i e
    rw [if_neg (fun e' => e e'.symm)]
    exact hc k hk
theorem RowI.far (h : RowI w g N X) {p : Addr} (hp : g ≠ p.block) (u : Value) : RowI (w.setCell p u) g N X := by
  obtain ⟨cs, hb, r⟩ := h
  exact ⟨cs, hb.far hp u, r⟩
theorem RowI.grown {row : Option Nat} (h : RowI w g N X) (hb : w.grownBy w' row) (hg : some g ≠ row) : RowI w' g N X := by
  obtain ⟨cs, hbk, r⟩ := h
  exact ⟨cs, hbk.grown hb hg, r⟩
theorem RowI.drewN (h : RowI w g N X) (n : Nat) : RowI (w.drewN n) g N X := h
theorem RowI.alloc (h : RowI w g N X) (o : Obj) : RowI (w.alloc o) g N X := by
  obtain ⟨cs, hbk, r⟩ := h
  exact ⟨cs, hbk.alloc o, r⟩
theorem RowI.lt (h : RowI w g N X) : g < w.heap.size := by obtain ⟨cs, hbk, r⟩ := h; exact hbk.lt
end

structure Win (G a b N : Nat) (w : World) (R B : Int) (X Y : Nat → Int) (T : Int) (wr : World) : Prop where
  bk : Bkt wr G R B T
  ra : RowI wr a N X
  rb : RowI wr b N Y
  ne : a ≠ b
  ga : G < a
  gb : G < b
  bel : Below G w wr

theorem Win.start {G N : Nat} {w w1 : World} {R B T : Int} {Z : Array Value} (hB : Bkt w1 G R B T) (hbel : Below G w w1) (hZ : Z.size = N) (hZc : ∀ j, j < N → Z[j]? = some (.int .i64 0)) :
    Win G w1.heap.size (w1.heap.size + 1) N w R B (fun _ => 0) (fun _ => 0) T ((w1.alloc (.cells Z 3)).alloc (.cells Z 3)).drew ∧
    Win G (w1.heap.size + 1) w1.heap.size N w R B (fun _ => 0) (fun _ => 0) T ((w1.alloc (.cells Z 3)).alloc (.cells Z 3)).drew := by
  have hlt := Blk.lt hB
  have e : (w1.alloc (.cells Z 3)).heap.size = w1.heap.size + 1 := by simp
  have r1 : RowI ((w1.alloc (.cells Z 3)).alloc (.cells Z 3)).drew w1.heap.size N (fun _ => 0) := ⟨Z, (Blk.new w1 3 Z).alloc _, hZ, hZc⟩
  have r2 : RowI ((w1.alloc (.cells Z 3)).alloc (.cells Z 3)).drew (w1.heap.size + 1) N (fun _ => 0) := ⟨Z, e ▸ Blk.new (w1.alloc (.cells Z 3)) 3 Z, hZ, hZc⟩
  have hb : Bkt ((w1.alloc (.cells Z 3)).alloc (.cells Z 3)).drew G R B T := (Blk.alloc hB _).alloc _
  have hbl : Below G w ((w1.alloc (.cells Z 3)).alloc (.cells Z 3)).drew := below_drewN ((hbel.alloc (by omega) _).alloc (by simp; omega) _) 1
  exact ⟨⟨hb, r1, r2, by omega, by omega, by omega, hbl⟩, ⟨hb, r2, r1, by omega, by omega, by omega, hbl⟩⟩
theorem Win.drewN {G a b N : Nat} {w wr : World} {R B T : Int} {X Y : Nat → Int} (h : Win G a b N w R B X Y T wr) (n : Nat) : Win G a b N w R B X Y T (wr.drewN n) :=
  ⟨Blk.drewN h.bk n, h.ra.drewN n, h.rb.drewN n, h.ne, h.ga, h.gb, below_drewN h.bel n⟩
theorem Win.setA {G a b N : Nat} {w wr : World} {R B T : Int} {X Y : Nat → Int} (h : Win G a b N w R B X Y T wr) (j : Nat) (v : Int) : Win G a b N w R B (upd X j v) Y T (wr.setCell ⟨a, j, none⟩ (.int .i64 v)) :=
  have := h.ga
  have := h.gb
  ⟨Blk.far h.bk (p := ⟨a, j, none⟩) (by show G ≠ a; omega) _, h.ra.set_ j v, h.rb.far (p := ⟨a, j, none⟩) (fun e => h.ne e.symm) _, h.ne, h.ga, h.gb, h.bel.setCell (p := ⟨a, j, none⟩) (by show G ≤ a; omega) _⟩
theorem Win.setB {G a b N : Nat} {w wr : World} {R B T : Int} {X Y : Nat → Int} (h : Win G a b N w R B X Y T wr) (j : Nat) (v : Int) : Win G a b N w R B X (upd Y j v) T (wr.setCell ⟨b, j, none⟩ (.int .i64 v)) :=
  have := h.ga
  have := h.gb
  ⟨Blk.far h.bk (p := ⟨b, j, none⟩) (by show G ≠ b; omega) _, h.ra.far (p := ⟨b, j, none⟩) (fun e => h.ne e) _, h.rb.set_ j v, h.ne, h.ga, h.gb, h.bel.setCell (p := ⟨b, j, none⟩) (by show G ≤ b; omega) _⟩
theorem Win.put {G a b N : Nat} {w wr w2 : World} {R B T T' : Int} {X Y : Nat → Int} (h : Win G a b N w R B X Y T wr) (hG : w.heap.size = G) (hb : Bkt w2 G R B T') (hg : wr.grownBy w2 (some G)) : Win G a b N w R B X Y T' w2 :=
  have h1 := h.ga
  have h2 := h.gb
  ⟨hb, h.ra.grown hg (by simp; omega), h.rb.grown hg (by simp; omega), h.ne, h.ga, h.gb, below_only h.bel hg (by have := h.bel.size; omega) (Nat.le_refl _)⟩

theorem info3 : (Try.prog.info? 3).map (fun i => (i.zero, i.size, i.bytes)) = some (some (.int .i64 0), 1, 8) := by kernel_rfl
/-- What make([]int, n) makes. -/
theorem make_ints (len : Nat) (hlen : len ≤ 1000) : ∃ Z : Array Value, Z.size = len + 1 ∧ (∀ j, j < len + 1 → Z[j]? = some (.int .i64 0)) ∧
    ∀ w : World, (Instr.makeSlice 54 (.int .i64 ((len : Int) + 1)) (.int .i64 ((len : Int) + 1))).run Try.prog w = .ok (.slice (some ⟨w.heap.size, 0, none⟩) (len + 1) (len + 1)) (w.alloc (.cells Z 3)) := by
  obtain ⟨i0, hi0, hz0, hz1, hz2⟩ := info_parts info3
  refine ⟨madeCells (Value.int .i64 0).cells ((len + 1) * i0.size), ?_, ?_, fun w => ?_⟩
  · rw [size_madeCells, hz1]; omega
  · intro j hj
    rw [hz1, Nat.mul_one]
    simp only [madeCells, Array.getElem?_map]
    rw [Array.getElem?_range]
    rw [if_pos hj]
    simp [Value.cells, Nat.mod_one]
  · have hr := run_make (P := Try.prog) w 54 3 i0 _ Try.underlying54 hi0 hz0 .i64 .i64 ((len : Int) + 1) ((len : Int) + 1) (by omega) (by omega) (by rw [hz2]; omega) (by omega)
    rw [show ((len : Int) + 1).toNat = len + 1 by omega] at hr
    exact hr

set_option maxHeartbeats 2000000 in
set_option maxRecDepth 100000 in
theorem bwin_walk (rate burst : Int) (A : Option Addr) (len cap : Nat) (f : Nat → Nat → Int) (w : World) (_h1 : I64 rate) (_h2 : I64 burst) (hlen : len ≤ maxLen) (hr : Ints w A len 3 f) :
    Calls Try.prog 7 #[.int .i64 rate, .int .i64 burst, .slice A len cap] w (Tells w true) := by
  unfold maxLen at hlen
  by_cases h : len > 120 ∨ rate < 0 ∨ rate > 1000 ∨ burst < 0 ∨ burst > 100000
  · clear hr
    by_cases c1 : len > 120
    · go_enter Try.func7, Try.ntmps7
      go_wp2_with fail
      refine (bawake_c _).mono ?_
      rintro e w1 ⟨rfl, hb⟩
      go_wp2_with fail
      go_ret
      exact ⟨rfl, hb⟩
    · by_cases c2 : rate < 0
      · go_enter Try.func7, Try.ntmps7
        go_wp2_with fail
        refine (bawake_c _).mono ?_
        rintro e w1 ⟨rfl, hb⟩
        go_wp2_with fail
        go_ret
        exact ⟨rfl, hb⟩
      · by_cases c3 : rate > 1000
        · go_enter Try.func7, Try.ntmps7
          go_wp2_with fail
          refine (bawake_c _).mono ?_
          rintro e w1 ⟨rfl, hb⟩
          go_wp2_with fail
          go_ret
          exact ⟨rfl, hb⟩
        · by_cases c4 : burst < 0
          · go_enter Try.func7, Try.ntmps7
            go_wp2_with fail
            refine (bawake_c _).mono ?_
            rintro e w1 ⟨rfl, hb⟩
            go_wp2_with fail
            go_ret
            exact ⟨rfl, hb⟩
          · have c5 : burst > 100000 := by omega
            go_enter Try.func7, Try.ntmps7
            go_wp2_with fail
            refine (bawake_c _).mono ?_
            rintro e w1 ⟨rfl, hb⟩
            go_wp2_with fail
            go_ret
            exact ⟨rfl, hb⟩
  · have hlen : len ≤ 120 := by omega
    have hR0 : 0 ≤ rate := by omega
    have hR1 : rate ≤ 1000 := by omega
    have hB0 : 0 ≤ burst := by omega
    have hB1 : burst ≤ 100000 := by omega
    clear h
    have Hr := Lib.hid hr
    have C1 := bnew_c w rate burst
    rw [inF_in hR0 (by omega), inF_in hB0 (by omega)] at C1
    have D1 := Lib.hid C1
    clear hr C1
    generalize hG : w.heap.size = G at *
    obtain ⟨Z, hZ, hZc, hmk⟩ := make_ints len (by omega)
    have HZ := Lib.hid hZc
    clear hZc
    go_enter Try.func7, Try.ntmps7
    go_wp2_with fail
    refine D1.out.mono ?_
    rintro e w1 ⟨rfl, ha, hb, hs⟩
    rw [hG] at ha hb hs
    have Ha := Lib.hid ha
    have Hb := Lib.hid hb
    clear ha hb D1
    go_upto_region 4 with (fail)
    go_cut [8, 9] (fun p q wc => ∃ a b : Nat, p = .slice (some ⟨a, 0, none⟩) (len + 1) (len + 1) ∧ q = .slice (some ⟨b, 0, none⟩) (len + 1) (len + 1) ∧ Win G a b (len + 1) w rate burst (fun _ => 0) (fun _ => 0) burst wc)
    case first =>
      go_region
      all_goals (go_wp2_with fail; go_meet)
      · exact ⟨_, _, rfl, rfl, (Win.start Ha.out Hb.out hZ HZ.out).1⟩
      · exact ⟨_, _, rfl, rfl, (Win.start Ha.out Hb.out hZ HZ.out).2⟩
    case rest =>
      obtain ⟨a, b, rfl, rfl, hW⟩ := hcut
      have HW := Lib.hid hW
      clear hW Ha Hb hmk HZ
      go_wp2_with fail
      go_loopw [10] (fun i wr => ∃ (k : Nat) (X Y : Nat → Int) (T : Int), k ≤ len ∧ i = .int .i64 k ∧ Inv rate burst X Y k T ∧ Win G a b (len + 1) w rate burst X Y T wr) (fun i _ => len - (intOf i).toNat)
      case atStart =>
        refine ⟨0, _, _, _, by omega, rfl, ⟨fun k hk => by simp, ⟨0, by omega, by simp⟩, hB0, Int.le_refl _, fun k hk => by simp, fun k hk => ⟨Int.le_refl _, by show (0 : Int) ≤ k * 100000; omega⟩⟩, HW.out⟩
      case round =>
        obtain ⟨k, X, Y, T, hk, rfl, hI, hW⟩ := hrel
        by_cases hlt : k < len
        · obtain ⟨ad, hA, hadb, hcs⟩ := Hr.out k hlt
          have hc0 := (hcs 0 (by omega)).1
          obtain ⟨hc1, hn0, hn1⟩ := hcs 1 (by omega)
          rw [hG] at hadb
          have had := hW.ga
          have hbd := hW.gb
          simp only [cellAt, if_true, Nat.one_ne_zero, if_false] at hc0 hc1
          have Hc0 := Lib.hid hc0
          have Hc1 := Lib.hid hc1
          clear hcs
          rw [← hW.bel.cell (by rw [block_of_add]; omega)] at hc0
          rw [← hW.bel.cell (by show (ad.add (k * 3)).block < _; rw [block_of_add]; omega)] at hc1
          subst hA
          generalize f k 1 = n at *
          generalize f k 0 = K at *
          have ca0 := hW.ra.cell (j := k) (by omega)
          have ca1 := hW.ra.cell (j := k + 1) (by omega)
          have cb0 := hW.rb.cell (j := k) (by omega)
          have cb1 := hW.rb.cell (j := k + 1) (by omega)
          have fa1 := hW.ra.frozen (k + 1)
          have fb1 := hW.rb.frozen (k + 1)
          have hne := hW.ne
          have HW1 := Lib.hid hW
          have HI := Lib.hid hI
          have wk : IntKind.i64.wrap ((k : Int) + 1) = (k : Int) + 1 := by rw [IntKind.wrap_i64]; omega
          clear hW hI
          go_upto_region 10 with (fail)
          have hW2 := (HW1.out.setA (k + 1) (X k)).setB (k + 1) (Y k)
          clear hc0 hc1 ca0 ca1 cb0 cb1 fa1 fb1 HW1
          generalize (wr.setCell ⟨a, k + 1, none⟩ (.int .i64 (X k))).setCell ⟨b, k + 1, none⟩ (.int .i64 (Y k)) = w2 at *
          have hc0 := Hc0.out
          have hc1 := Hc1.out
          rw [← hW2.bel.cell (by rw [block_of_add]; omega)] at hc0
          rw [← hW2.bel.cell (by show (ad.add (k * 3)).block < _; rw [block_of_add]; omega)] at hc1
          have hy := HI.out.y k (Nat.le_refl _)
          have hx := HI.out.x k (Nat.le_refl _)
          have ht0 := HI.out.t0
          have ht1 := HI.out.t1
          obtain ⟨hy0, hy1⟩ := hy
          obtain ⟨hx0, hx1⟩ := hx
          by_cases hK : K = 1
          · subst hK
            have C3 := tick_c w2 G rate burst T hW2.bk hR0 (by omega) hB0 (by omega) ht0 ht1
            have D3 := Lib.hid C3
            have HW2 := Lib.hid hW2
            have hT := tickF_bd hR0 hB0 ht0
            have hTE : tickF rate burst T = T + rate ∨ tickF rate burst T = burst := by unfold tickF; split <;> simp
            have hTL : tickF rate burst T ≤ T + rate := by unfold tickF; split <;> omega
            clear C3 hW2
            generalize tickF rate burst T = T' at *
            go_wp2_with fail
            refine D3.out.mono ?_
            rintro e w3 ⟨rfl, hb3, hg3⟩
            have hW3 := HW2.out.put hG hb3 hg3
            have cb1 := hW3.rb.cell (j := k + 1) (by omega)
            rw [upd_at] at cb1
            have fb1 := hW3.rb.frozen (k + 1)
            have hW4 := hW3.setB (k + 1) (Y k + 1)
            rw [upd_upd] at hW4
            have HW4 := Lib.hid hW4
            have wy : IntKind.i64.wrap (Y k + 1) = Y k + 1 := by rw [IntKind.wrap_i64]; omega
            clear hW3 hW4 hb3 hg3 HW2 D3
            go_wp2_with fail
            go_roundw
            case rel =>
              refine ⟨k + 1, _, _, T', by omega, by go_num, ?_, HW4.out⟩
              have := HI.out.step (x := 0) (y := 1) (T' := T') hB1 (by omega) (by omega) (.inr rfl) (by omega) (by omega)
              rw [Int.add_zero] at this
              exact this
            case measure => simp [intOf]; omega
          · have hK' : (K == 1) = false := by rw [beq_eq_false_iff_ne]; exact hK
            by_cases hn : n < 0 ∨ 1073741824 < n
            · have hI2 := HI.out.step (x := 0) (y := 0) (T' := T) hB1 (by omega) (by omega) (.inl rfl) (by omega) (by omega)
              rw [Int.add_zero, Int.add_zero] at hI2
              have HW2 := Lib.hid hW2
              have HI2 := Lib.hid hI2
              clear hW2 hI2
              by_cases hn' : n < 0
              · go_wp2_with fail
                go_roundw
                case rel => exact ⟨k + 1, _, _, T, by omega, by go_num, HI2.out, HW2.out⟩
                case measure => simp [intOf]; omega
              · go_wp2_with fail
                go_roundw
                case rel => exact ⟨k + 1, _, _, T, by omega, by go_num, HI2.out, HW2.out⟩
                case measure => simp [intOf]; omega
            · have hn2 : 0 ≤ n := by omega
              have hn3 : n ≤ 1073741824 := by omega
              clear hn
              have HW2 := Lib.hid hW2
              clear hW2
              go_wp2_with fail
              go_loopw [12, 13] (fun ft i wr => ∃ (kk : Nat) (F : Bool), kk ≤ k + 1 ∧ i = .int .i64 kk ∧ ft = .bool F ∧ (F = true ↔ ∀ j, j < kk → X k - X j + n ≤ burst + rate * (Y k - Y j)) ∧
                Win G a b (len + 1) w rate burst (upd X (k + 1) (X k)) (upd Y (k + 1) (Y k)) T wr) (fun _ i _ => k + 1 - (intOf i).toNat)
              case atStart => exact ⟨0, true, by omega, rfl, rfl, ⟨fun _ j hj => by omega, fun _ => rfl⟩, HW2.out⟩
              case round =>
                obtain ⟨kk, F, hkk, rfl, rfl, hF, hW3⟩ := hrel
                by_cases hle : kk ≤ k
                · have cak := hW3.ra.cell (j := k) (by omega)
                  have caj := hW3.ra.cell (j := kk) (by omega)
                  have cbk := hW3.rb.cell (j := k) (by omega)
                  have cbj := hW3.rb.cell (j := kk) (by omega)
                  rw [upd_ne _ _ (by omega)] at cak caj cbk cbj
                  obtain ⟨yj0, yj1⟩ := HI.out.y kk hle
                  obtain ⟨xj0, xj1⟩ := HI.out.x kk hle
                  have HF := Lib.hid hF
                  have HW3 := Lib.hid hW3
                  clear hF hW3
                  generalize hXk : X k = xk at *
                  generalize hXj : X kk = xj at *
                  generalize hYk : Y k = yk at *
                  generalize hYj : Y kk = yj at *
                  obtain ⟨m0, m1⟩ := mul_bd (R := rate) (D := yk - yj) hR0 hR1 (by omega) (by omega)
                  have r1 : IntKind.i64.wrap (xk - xj) = xk - xj := by rw [IntKind.wrap_i64]; omega
                  have r2 : IntKind.i64.wrap (xk - xj + n) = xk - xj + n := by rw [IntKind.wrap_i64]; omega
                  have r3 : IntKind.i64.wrap (yk - yj) = yk - yj := by rw [IntKind.wrap_i64]; omega
                  have r4 : IntKind.i64.wrap (rate * (yk - yj)) = rate * (yk - yj) := by rw [IntKind.wrap_i64]; omega
                  have r5 : IntKind.i64.wrap (burst + rate * (yk - yj)) = burst + rate * (yk - yj) := by rw [IntKind.wrap_i64]; omega
                  cases F with
                  | false =>
                    go_wp2_with fail
                    go_quiet (fail)
                    go_wp2_with fail
                    go_roundw
                    case rel =>
                      refine ⟨kk + 1, false, by omega, by go_num, rfl, ⟨(by intro h; cases h), fun h => ?_⟩, HW3.out.drewN _⟩
                      exact HF.out.2 fun j hj => h j (by omega)
                    case measure => simp [intOf]; omega
                  | true =>
                    cases hc : decide (xk - xj + n ≤ burst + rate * (yk - yj))
                    · go_wp2_with fail
                      go_quiet (fail)
                      go_wp2_with fail
                      go_roundw
                      case rel =>
                        refine ⟨kk + 1, false, by omega, by go_num, rfl, ⟨(by intro h; cases h), fun h => ?_⟩, HW3.out.drewN _⟩
                        have := h kk (by omega)
                        rw [hXj, hYj] at this
                        rw [decide_eq_false_iff_not] at hc
                        exact absurd this hc
                      case measure => simp [intOf]; omega
                    · go_wp2_with fail
                      go_quiet (fail)
                      go_wp2_with fail
                      go_roundw
                      case rel =>
                        refine ⟨kk + 1, true, by omega, by go_num, rfl, ⟨fun _ j hj => ?_, fun _ => rfl⟩, HW3.out.drewN _⟩
                        rcases Nat.lt_or_ge j kk with hlt2 | hge
                        · exact (HF.out.1 (by first | rfl | trivial)) j hlt2
                        · obtain rfl : j = kk := by omega
                          rw [hXj, hYj]
                          exact of_decide_eq_true hc
                      case measure => simp [intOf]; omega
                · obtain rfl : kk = k + 1 := by omega
                  rw [HI.out.fits n] at hF
                  have C5 := btake_c wr G rate burst T n hW3.bk ht0 (by omega)
                  have HW3 := Lib.hid hW3
                  by_cases hnT : n ≤ T
                  · have hFt : F = true := hF.2 hnT
                    subst hFt
                    have e1 : btakeE T n = 0 := by unfold btakeE; rw [if_neg (by omega), if_neg (by omega)]
                    have e2 : btakeT T n = T - n := by unfold btakeT; rw [if_neg (by omega), if_neg (by omega)]
                    rw [e1, e2] at C5
                    have D5 := Lib.hid C5
                    clear C5 e1 e2 hF hW3
                    go_wp2_with fail
                    refine D5.out.mono ?_
                    rintro e w4 ⟨rfl, hb4, hg4⟩
                    have hW4 := HW3.out.put hG hb4 hg4
                    have ca1 := hW4.ra.cell (j := k + 1) (by omega)
                    rw [upd_at] at ca1
                    have fa1 := hW4.ra.frozen (k + 1)
                    have hW5 := hW4.setA (k + 1) (X k + n)
                    rw [upd_upd] at hW5
                    have HW5 := Lib.hid hW5
                    have wx : IntKind.i64.wrap (X k + n) = X k + n := by rw [IntKind.wrap_i64]; omega
                    clear hW4 hW5 hb4 hg4 HW3 D5
                    go_wp2_with fail
                    go_roundw
                    case rel =>
                      refine ⟨k + 1, _, _, T - n, by omega, by go_num, ?_, HW5.out⟩
                      have := HI.out.step (x := n) (y := 0) (T' := T - n) hB1 (by omega) (by omega) (.inl rfl) (by omega) (by omega)
                      rw [Int.add_zero] at this
                      exact this
                    case measure => simp [intOf]; omega
                  · have hFf : F = false := by
                      cases F with
                      | false => rfl
                      | true => exact absurd (hF.1 rfl) hnT
                    subst hFf
                    have e1 : btakeE T n = 14 := by unfold btakeE; rw [if_neg (by omega), if_pos (by omega)]
                    have e2 : btakeT T n = T := by unfold btakeT; rw [if_neg (by omega), if_pos (by omega)]
                    rw [e1, e2] at C5
                    have D5 := Lib.hid C5
                    clear C5 e1 e2 hF hW3
                    go_wp2_with fail
                    refine D5.out.mono ?_
                    rintro e w4 ⟨rfl, hb4, hg4⟩
                    have HW4 := Lib.hid (HW3.out.put hG hb4 hg4)
                    clear hb4 hg4 HW3 D5
                    go_wp2_with fail
                    go_roundw
                    case rel =>
                      refine ⟨k + 1, _, _, T, by omega, by go_num, ?_, HW4.out⟩
                      have := HI.out.step (x := 0) (y := 0) (T' := T) hB1 (by omega) (by omega) (.inl rfl) (by omega) (by omega)
                      rw [Int.add_zero, Int.add_zero] at this
                      exact this
                    case measure => simp [intOf]; omega
        · go_wp2_with fail
          refine (bawake_c _).mono ?_
          rintro e w3 ⟨rfl, hb3⟩
          go_wp2_with fail
          go_ret
          subst hG
          exact ⟨rfl, below_step hW.bel (Nat.le_refl _) hb3⟩
end Go.Proofs.Ytogflpgeaobocaa
