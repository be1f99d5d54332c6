/- The reference's Rest, Set, Push and Drop. -/
import Derived.Test.YtaenlieajlfkdaaSettle
namespace Go.Proofs.Ytaenlieajlfkdaa
open Go.RowKit Go.Maps
set_option linter.unusedVariables false
set_option linter.unnecessarySimpa false
set_option linter.unusedSimpArgs false
variable {Q : Nat → Prop}

def RefT (Q : Nat → Prop) (w : World) (fl' : Nat → RFl) (row' : List Int) (e : Int) (x : Ending) (w' : World) : Prop :=
  ∃ v', x = .returned (.tuple #[v', .int .i64 e]) ∧ RefIs Q w' v' fl' row' ∧ Below w.heap.size w w'

structure BoxSt (w : World) (F R : Value) (wc : World) : Prop where
  bx : Blk wc w.heap.size 46 #[F, R]
  bz : Blk wc (w.heap.size + 1) 46 #[.slice none 0 0, .slice none 0 0]
  bel : Below w.heap.size w wc
section
variable {w : World} {F R : Value} {wc wd : World}
theorem BoxSt.start (w : World) (F R : Value) : BoxSt w F R ((w.alloc (.cells #[F, R] 46)).alloc (.cells #[.slice none 0 0, .slice none 0 0] 46)) := by
  have s1 : (w.alloc (.cells #[F, R] 46)).heap.size = w.heap.size + 1 := by simp
  refine ⟨(Blk.new w 46 _).alloc _, ?_, ((Below.refl _ _).alloc (Nat.le_refl _) _).alloc (by simp) _⟩
  rw [← s1]; exact Blk.new _ 46 _
theorem BoxSt.sz (h : BoxSt w F R wc) : w.heap.size + 1 < wc.heap.size := h.bz.lt
theorem BoxSt.below (h : BoxSt w F R wc) (hb : Below wc.heap.size wc wd) : BoxSt w F R wd := by
  have := h.sz
  exact ⟨h.bx.below hb (by omega), h.bz.below hb (by omega), h.bel.trans (hb.mono (by omega))⟩
theorem BoxSt.far (h : BoxSt w F R wc) {p : Addr} (hp : w.heap.size + 1 < p.block) (u : Value) : BoxSt w F R (wc.setCell p u) :=
  ⟨h.bx.far (by omega) _, h.bz.far (by omega) _, h.bel.setCell (by omega) _⟩
theorem BoxSt.grown (h : BoxSt w F R wc) {b : Option Nat} (hg : wc.grownBy wd b) (hb : ∀ k, b = some k → w.heap.size + 1 < k) : BoxSt w F R wd := by
  have := h.sz
  exact ⟨h.bx.grown hg (fun e => by have := hb _ e.symm; omega), h.bz.grown hg (fun e => by have := hb _ e.symm; omega), h.bel.grown hg (by omega) (fun k hk => by have := hb k hk; omega)⟩
theorem BoxSt.a0 (h : BoxSt w F R wc) : wc.cell? ⟨w.heap.size, 0, none⟩ = some F := by simpa using h.bx.cell 0
theorem BoxSt.a1 (h : BoxSt w F R wc) : wc.cell? ⟨w.heap.size, 1, none⟩ = some R := by simpa using h.bx.cell 1
theorem BoxSt.z0 (h : BoxSt w F R wc) : wc.cell? ⟨w.heap.size + 1, 0, none⟩ = some (.slice none 0 0) := by simpa using h.bz.cell 0
theorem BoxSt.z1 (h : BoxSt w F R wc) : wc.cell? ⟨w.heap.size + 1, 1, none⟩ = some (.slice none 0 0) := by simpa using h.bz.cell 1
theorem BoxSt.y0 (h : BoxSt w F R wc) : wc.frozen? ⟨w.heap.size + 1, 0, none⟩ = false := h.bz.frozen 0
theorem BoxSt.y1 (h : BoxSt w F R wc) : wc.frozen? ⟨w.heap.size + 1, 1, none⟩ = false := h.bz.frozen 1
theorem BoxSt.result (h : BoxSt w F R wc) {A A' : Option Addr} {n n' c c' : Nat} {fl : Nat → RFl} {row : List Int} (hI : RefIs Q wc (.agg #[.slice A n c, .slice A' n' c']) fl row) :
    RefIs Q ((wc.setCell ⟨w.heap.size + 1, 0, none⟩ (.slice A n c)).setCell ⟨w.heap.size + 1, 1, none⟩ (.slice A' n' c')) (.agg #[.slice A n c, .slice A' n' c']) fl row ∧
    Below w.heap.size w ((wc.setCell ⟨w.heap.size + 1, 0, none⟩ (.slice A n c)).setCell ⟨w.heap.size + 1, 1, none⟩ (.slice A' n' c')) ∧
    ((wc.setCell ⟨w.heap.size + 1, 0, none⟩ (.slice A n c)).setCell ⟨w.heap.size + 1, 1, none⟩ (.slice A' n' c')).cell? ⟨w.heap.size + 1, 0, none⟩ = some (.slice A n c) ∧
    ((wc.setCell ⟨w.heap.size + 1, 0, none⟩ (.slice A n c)).setCell ⟨w.heap.size + 1, 1, none⟩ (.slice A' n' c')).cell? ⟨w.heap.size + 1, 1, none⟩ = some (.slice A' n' c') := by
  have r7 := (h.bz.set_ 0 (.slice A n c)).set_ 1 (.slice A' n' c')
  have r0 := r7.cell 0
  have r1 := r7.cell 1
  simp at r0 r1
  exact ⟨(hI.setBox (Sl.of_blk h.bz) 0 _).setBox ((Sl.of_blk h.bz).set_ 0 A n c) 1 _, (h.bel.setCell (p := ⟨w.heap.size + 1, 0, none⟩) (by show w.heap.size ≤ w.heap.size + 1; omega) _).setCell (p := ⟨w.heap.size + 1, 1, none⟩) (by show w.heap.size ≤ w.heap.size + 1; omega) _, r0, r1⟩
end

def thereB (fl : Nat → RFl) (n : Int) : Bool := decide (0 ≤ n ∧ n ≤ 8) && (fl n.toNat).there
theorem thereB_yes {fl : Nat → RFl} {n : Nat} (hn : n < 9) (h : (fl n).there = true) : thereB fl n = true := by
  unfold thereB; simp [h]; omega

set_option maxHeartbeats 1000000 in
theorem refrest_no (w : World) (v : Value) (fl : Nat → RFl) (row : List Int) (h : RefIs Q w v fl row) (n : Int) (r : Bool) (hn : thereB fl n = false) :
    Calls Try.prog 18 #[v, .int .i64 n, .bool r] w (RefT Q w fl row 12) := by
  obtain ⟨g, c, kv, rv, rfl, hc, hF, hr⟩ := h.ex
  obtain ⟨Ar, cr, rfl, _⟩ := id hr
  have HI := Lib.hid h
  have Hn := Lib.hid hn
  clear hF hr h hn
  go_enter Try.func18, Try.ntmps18
  go_upto_region 1 with (fail)
  have hB := BoxSt.start w (.slice (some ⟨g, 0, none⟩) 9 c) (.slice Ar row.length cr)
  generalize (w.alloc (.cells #[.slice (some ⟨g, 0, none⟩) 9 c, .slice Ar row.length cr] 46)).alloc (.cells #[.slice none 0 0, .slice none 0 0] 46) = w1 at *
  have D := Lib.hid (there_c w1 _ fl row (HI.out.below hB.bel) n)
  have a0 := hB.a0
  have a1 := hB.a1
  have HB := Lib.hid hB
  clear hB
  go_wp2_with fail
  refine D.out.mono ?_
  rintro e w2 ⟨rfl, hb2⟩
  rw [show (decide (0 ≤ n ∧ n ≤ 8) && (fl n.toNat).there) = false from Hn.out]
  have HB2 := Lib.hid (HB.out.below hb2)
  clear a0 a1 HB D hb2
  have a0 := HB2.out.a0
  have a1 := HB2.out.a1
  have z0 := HB2.out.z0
  have z1 := HB2.out.z1
  have y0 := HB2.out.y0
  have y1 := HB2.out.y1
  obtain ⟨hR, hL, r0, r1⟩ := HB2.out.result (HI.out.below HB2.out.bel)
  have HR := Lib.hid hR
  have HL := Lib.hid hL
  have R0 := Lib.hid r0
  have R1 := Lib.hid r1
  clear hR hL r0 r1
  go_wp2_with fail
  refine bodyPost_ret (v := .tuple #[.agg #[.slice (some ⟨g, 0, none⟩) 9 c, .slice Ar row.length cr], .int .i64 12]) (by simp [results, Try.results18, go_sem, R0.out, R1.out]) rfl ?_
  exact ⟨_, rfl, HR.out, HL.out⟩

def setlA (fl : Nat → RFl) (row : List Int) (n : Nat) : (Nat → RFl) × List Int := (updV fl n (settleF (fl n) (decide ((n : Int) ∈ row))), settleRow (fl n) row n)

set_option maxHeartbeats 1000000 in
theorem refrest_yes (w : World) (v : Value) (fl : Nat → RFl) (row : List Int) (h : RefIs Q w v fl row) (n : Nat) (r : Bool) (hn : n < 9) (ht : (fl n).there = true) (hl : row.length ≤ 1000) (hQ : Up Q w) :
    Calls Try.prog 18 #[v, .int .i64 n, .bool r] w (RefT Q w (setlA (updV fl n ⟨true, restF (fl n).f r⟩) row n).1 (setlA (updV fl n ⟨true, restF (fl n).f r⟩) row n).2 0) := by
  obtain ⟨g, c, kv, rv, rfl, hc, hF, hr⟩ := h.ex
  obtain ⟨Ar, cr, rfl, _⟩ := id hr
  obtain ⟨Ak, ck, hkv, _⟩ := id (hF.cs n hn)
  have HI := Lib.hid h
  have HF := Lib.hid hF
  have Hkv := Lib.hid hkv
  have Hn := Lib.hid (thereB_yes hn ht)
  have Ht := Lib.hid ht
  have hgl : g < w.heap.size := cell_lt (hF.c0 0 (by omega))
  clear hF hr h ht hkv
  go_enter Try.func18, Try.ntmps18
  go_upto_region 1 with (fail)
  have hB := BoxSt.start w (.slice (some ⟨g, 0, none⟩) 9 c) (.slice Ar row.length cr)
  generalize (w.alloc (.cells #[.slice (some ⟨g, 0, none⟩) 9 c, .slice Ar row.length cr] 46)).alloc (.cells #[.slice none 0 0, .slice none 0 0] 46) = w1 at *
  have D := Lib.hid (there_c w1 _ fl row (HI.out.below hB.bel) n)
  have a0 := hB.a0
  have a1 := hB.a1
  have HB := Lib.hid hB
  clear hB
  go_wp2_with fail
  refine D.out.mono ?_
  rintro e w2 ⟨rfl, hb2⟩
  rw [show (decide (0 ≤ (n : Int) ∧ (n : Int) ≤ 8) && (fl (n : Int).toNat).there) = true from Hn.out]
  have HB2 := Lib.hid (HB.out.below hb2)
  clear a0 a1 HB D hb2
  have a0 := HB2.out.a0
  have a1 := HB2.out.a1
  have k0 := (HF.out.below HB2.out.bel).c0 n hn
  have k1 := (HF.out.below HB2.out.bel).c1 n hn
  have k2 := (HF.out.below HB2.out.bel).c2 n hn
  have k3 := (HF.out.below HB2.out.bel).c3 n hn
  have k4 := (HF.out.below HB2.out.bel).c4 n hn
  have k5 := (HF.out.below HB2.out.bel).c5 n hn
  rw [Hkv.out] at k3
  rw [Ht.out] at k0
  have hsz := HB2.out.sz
  go_upto_region 5 with (fail)
  have hB3 := HB2.out.below ((Below.refl _ _).alloc (Nat.le_refl _) (.cells #[.bool true, .int .i64 (fl n).f.q, .int .i64 (fl n).f.d, .slice Ak (fl n).f.cs.length ck, .bool r, .bool (fl n).f.anew] 64))
  have b8 := Blk.new w2 64 #[.bool true, .int .i64 (fl n).f.q, .int .i64 (fl n).f.d, .slice Ak (fl n).f.cs.length ck, .bool r, .bool (fl n).f.anew]
  clear a0 a1 k0 k1 k2 k3 k4 k5
  generalize w2.alloc (.cells #[.bool true, .int .i64 (fl n).f.q, .int .i64 (fl n).f.d, .slice Ak (fl n).f.cs.length ck, .bool r, .bool (fl n).f.anew] 64) = w3 at *
  have hk : RI Q w3 (.slice Ak (fl n).f.cs.length ck) (fl n).f.cs := by rw [← Hkv.out]; exact (HF.out.cs n hn).below hB3.bel
  have D : Calls Try.prog 27 #[.agg #[.slice (some ⟨g, 0, none⟩) 9 c, .slice Ar row.length cr], .int .i64 n, .agg #[.bool true, .int .i64 (fl n).f.q, .int .i64 (fl n).f.d, .slice Ak (fl n).f.cs.length ck, .bool r, .bool (fl n).f.anew]] w3 (fun x w' => ∃ v', x = .returned v' ∧ RefIs Q w' v' (updV fl n ⟨true, restF (fl n).f r⟩) row ∧ Below w3.heap.size w3 w') :=
    with_c w3 _ fl row (HI.out.below hB3.bel) n hn _ ⟨true, restF (fl n).f r⟩ hk (hQ.below hB3.bel)
  have D1 := Lib.hid D
  have e0 : w3.cell? ⟨w2.heap.size, 0, none⟩ = some (.bool true) := by simpa using b8.cell 0
  have e1 : w3.cell? ⟨w2.heap.size, 1, none⟩ = some (.int .i64 (fl n).f.q) := by simpa using b8.cell 1
  have e2 : w3.cell? ⟨w2.heap.size, 2, none⟩ = some (.int .i64 (fl n).f.d) := by simpa using b8.cell 2
  have e3 : w3.cell? ⟨w2.heap.size, 3, none⟩ = some (.slice Ak (fl n).f.cs.length ck) := by simpa using b8.cell 3
  have e4 : w3.cell? ⟨w2.heap.size, 4, none⟩ = some (.bool r) := by simpa using b8.cell 4
  have e5 : w3.cell? ⟨w2.heap.size, 5, none⟩ = some (.bool (fl n).f.anew) := by simpa using b8.cell 5
  have a0 := hB3.a0
  have a1 := hB3.a1
  have HB3 := Lib.hid hB3
  generalize w2.heap.size = fb at *
  clear hB3 b8 hk D hsz HB2
  generalize hfl : updV fl n ⟨true, restF (fl n).f r⟩ = fl1 at *
  have Hfl := Lib.hid hfl
  clear hfl
  go_wp2_with fail
  refine D1.out.mono ?_
  rintro e w4 ⟨v1, rfl, hI1, hb4⟩
  have D2 := Lib.hid (refsettle_c w4 v1 fl1 row hI1 n hn hl (hQ.below (HB3.out.below hb4).bel))
  have HB4 := Lib.hid (HB3.out.below hb4)
  clear a0 a1 e0 e1 e2 e3 e4 e5 hI1 hb4 D1
  go_wp2_with fail
  refine D2.out.mono ?_
  rintro e w5 ⟨v2, rfl, hI2, hb5⟩
  obtain ⟨g1, c1, kv1, rv1, rfl, _, _, hr1⟩ := id hI2.ex
  obtain ⟨A1, cr1, rfl, _⟩ := hr1
  have HB5 := Lib.hid (HB4.out.below hb5)
  have z0 := HB5.out.z0
  have z1 := HB5.out.z1
  have y0 := HB5.out.y0
  have y1 := HB5.out.y1
  obtain ⟨hR, hL, r0, r1⟩ := HB5.out.result hI2
  have HR := Lib.hid hR
  have HL := Lib.hid hL
  have R0 := Lib.hid r0
  have R1 := Lib.hid r1
  clear hR hL r0 r1 hI2 hb5 D2
  go_wp2_with fail
  refine bodyPost_ret (v := .tuple #[.agg #[.slice (some ⟨g1, 0, none⟩) 9 c1, .slice A1 (settleRow (fl1 n) row ↑n).length cr1], .int .i64 0]) (by simp [results, Try.results18, go_sem, R0.out, R1.out]) rfl ?_
  rw [Hfl.out]
  exact ⟨_, rfl, HR.out, HL.out⟩

set_option maxHeartbeats 1000000 in
theorem refset_no (w : World) (v : Value) (fl : Nat → RFl) (row : List Int) (h : RefIs Q w v fl row) (n q : Int) (hn : ¬ (0 ≤ n ∧ n ≤ 8 ∧ 1 ≤ q ∧ q ≤ 1048576)) :
    Calls Try.prog 16 #[v, .int .i64 n, .int .i64 q] w (RefT Q w fl row 1) := by
  obtain ⟨g, c, kv, rv, rfl, hc, hF, hr⟩ := h.ex
  obtain ⟨Ar, cr, rfl, _⟩ := id hr
  have HI := Lib.hid h
  clear hF hr h
  have hB := BoxSt.start w (.slice (some ⟨g, 0, none⟩) 9 c) (.slice Ar row.length cr)
  obtain ⟨hR, hL, r0, r1⟩ := hB.result (HI.out.below hB.bel)
  have HR := Lib.hid hR
  have HL := Lib.hid hL
  have R0 := Lib.hid r0
  have R1 := Lib.hid r1
  clear hR hL r0 r1
  have HB := Lib.hid hB
  clear hB
  have hcase : n < 0 ∨ (0 ≤ n ∧ 8 < n) ∨ (0 ≤ n ∧ n ≤ 8 ∧ q < 1) ∨ (0 ≤ n ∧ n ≤ 8 ∧ 1 ≤ q ∧ 1048576 < q) := by omega
  clear hn
  rcases hcase with h | ⟨h1, h2⟩ | ⟨h1, h2, h3⟩ | ⟨h1, h2, h3, h4⟩
  all_goals
    go_enter Try.func16, Try.ntmps16
    go_upto_region 2 with (fail)
    generalize (w.alloc (.cells #[.slice (some ⟨g, 0, none⟩) 9 c, .slice Ar row.length cr] 46)).alloc (.cells #[.slice none 0 0, .slice none 0 0] 46) = w1 at *
    have a0 := HB.out.a0
    have a1 := HB.out.a1
    have z0 := HB.out.z0
    have z1 := HB.out.z1
    have y0 := HB.out.y0
    have y1 := HB.out.y1
    go_wp2_with fail
    refine bodyPost_ret (v := .tuple #[.agg #[.slice (some ⟨g, 0, none⟩) 9 c, .slice Ar row.length cr], .int .i64 1]) (by simp [results, Try.results16, go_sem, R0.out, R1.out]) rfl ?_
    exact ⟨_, rfl, HR.out, HL.out⟩

set_option maxHeartbeats 1000000 in
theorem refset_yes (w : World) (v : Value) (fl : Nat → RFl) (row : List Int) (h : RefIs Q w v fl row) (n : Nat) (q : Int) (hn : n < 9) (hq1 : 1 ≤ q) (hq2 : q ≤ 1048576) (hQ : Up Q w) :
    Calls Try.prog 16 #[v, .int .i64 n, .int .i64 q] w (RefT Q w (updV fl n ⟨true, setQ (fl n).f q⟩) row 0) := by
  obtain ⟨g, c, kv, rv, rfl, hc, hF, hr⟩ := h.ex
  obtain ⟨Ar, cr, rfl, _⟩ := id hr
  obtain ⟨Ak, ck, hkv, _⟩ := id (hF.cs n hn)
  have HI := Lib.hid h
  have HF := Lib.hid hF
  have Hkv := Lib.hid hkv
  have hgl : g < w.heap.size := cell_lt (hF.c0 0 (by omega))
  clear hF hr h hkv
  have hn0 : 0 ≤ (n : Int) := by omega
  have hn8 : (n : Int) ≤ 8 := by omega
  go_enter Try.func16, Try.ntmps16
  go_upto_region 3 with (fail)
  have hB := BoxSt.start w (.slice (some ⟨g, 0, none⟩) 9 c) (.slice Ar row.length cr)
  generalize (w.alloc (.cells #[.slice (some ⟨g, 0, none⟩) 9 c, .slice Ar row.length cr] 46)).alloc (.cells #[.slice none 0 0, .slice none 0 0] 46) = w2 at *
  have HB2 := Lib.hid hB
  clear hB
  have a0 := HB2.out.a0
  have a1 := HB2.out.a1
  have k0 := (HF.out.below HB2.out.bel).c0 n hn
  have k1 := (HF.out.below HB2.out.bel).c1 n hn
  have k2 := (HF.out.below HB2.out.bel).c2 n hn
  have k3 := (HF.out.below HB2.out.bel).c3 n hn
  have k4 := (HF.out.below HB2.out.bel).c4 n hn
  have k5 := (HF.out.below HB2.out.bel).c5 n hn
  rw [Hkv.out] at k3
  have hsz := HB2.out.sz
  have hdq : (setQ (fl n).f q).d = if (fl n).f.d < q then (fl n).f.d else q := rfl
  by_cases hd : q < (fl n).f.d
  · skip
    have hf : (⟨true, setQ (fl n).f q⟩ : RFl) = ⟨true, ⟨q, q, (fl n).f.cs, (fl n).f.rests, (fl n).f.anew⟩⟩ := by
      have hx : (setQ (fl n).f q).d = q := by rw [hdq]; split <;> omega
      rw [show setQ (fl n).f q = ⟨q, (setQ (fl n).f q).d, (fl n).f.cs, (fl n).f.rests, (fl n).f.anew⟩ from rfl, hx]
    have Hf := Lib.hid hf
    clear hf hdq
    go_upto_region 8 with (fail)
    have hB3 := HB2.out.below ((Below.refl _ _).alloc (Nat.le_refl _) (.cells #[.bool true, .int .i64 q, .int .i64 q, .slice Ak (fl n).f.cs.length ck, .bool (fl n).f.rests, .bool (fl n).f.anew] 64))
    have b8 := Blk.new w2 64 #[.bool true, .int .i64 q, .int .i64 q, .slice Ak (fl n).f.cs.length ck, .bool (fl n).f.rests, .bool (fl n).f.anew]
    clear a0 a1 k0 k1 k2 k3 k4 k5
    generalize w2.alloc (.cells #[.bool true, .int .i64 q, .int .i64 q, .slice Ak (fl n).f.cs.length ck, .bool (fl n).f.rests, .bool (fl n).f.anew] 64) = w3 at *
    have hk : RI Q w3 (.slice Ak (fl n).f.cs.length ck) (fl n).f.cs := by rw [← Hkv.out]; exact (HF.out.cs n hn).below hB3.bel
    have D : Calls Try.prog 27 #[.agg #[.slice (some ⟨g, 0, none⟩) 9 c, .slice Ar row.length cr], .int .i64 n, .agg #[.bool true, .int .i64 q, .int .i64 q, .slice Ak (fl n).f.cs.length ck, .bool (fl n).f.rests, .bool (fl n).f.anew]] w3 (fun x w' => ∃ v', x = .returned v' ∧ RefIs Q w' v' (updV fl n ⟨true, ⟨q, q, (fl n).f.cs, (fl n).f.rests, (fl n).f.anew⟩⟩) row ∧ Below w3.heap.size w3 w') := by
      have D0 := with_c w3 _ fl row (HI.out.below hB3.bel) n hn _ ⟨true, ⟨q, q, (fl n).f.cs, (fl n).f.rests, (fl n).f.anew⟩⟩ hk (hQ.below hB3.bel)
      exact D0
    have D1 := Lib.hid D
    have e0 : w3.cell? ⟨w2.heap.size, 0, none⟩ = some (.bool true) := by simpa using b8.cell 0
    have e1 : w3.cell? ⟨w2.heap.size, 1, none⟩ = some (.int .i64 q) := by simpa using b8.cell 1
    have e2 : w3.cell? ⟨w2.heap.size, 2, none⟩ = some (.int .i64 q) := by simpa using b8.cell 2
    have e3 : w3.cell? ⟨w2.heap.size, 3, none⟩ = some (.slice Ak (fl n).f.cs.length ck) := by simpa using b8.cell 3
    have e4 : w3.cell? ⟨w2.heap.size, 4, none⟩ = some (.bool (fl n).f.rests) := by simpa using b8.cell 4
    have e5 : w3.cell? ⟨w2.heap.size, 5, none⟩ = some (.bool (fl n).f.anew) := by simpa using b8.cell 5
    have a0 := hB3.a0
    have a1 := hB3.a1
    have HB3 := Lib.hid hB3
    generalize w2.heap.size = fb at *
    clear hB3 b8 hk D hsz HB2
    generalize hfl : updV fl n ⟨true, ⟨q, q, (fl n).f.cs, (fl n).f.rests, (fl n).f.anew⟩⟩ = fl1 at *
    have Hfl := Lib.hid hfl
    clear hfl
    go_wp2_with fail
    refine D1.out.mono ?_
    rintro e w4 ⟨v1, rfl, hI2, hb4⟩
    obtain ⟨g1, c1, kv1, rv1, rfl, _, _, hr1⟩ := id hI2.ex
    obtain ⟨A1, cr1, rfl, _⟩ := hr1
    have HB5 := Lib.hid (HB3.out.below hb4)
    clear a0 a1 e0 e1 e2 e3 e4 e5 D1
    have z0 := HB5.out.z0
    have z1 := HB5.out.z1
    have y0 := HB5.out.y0
    have y1 := HB5.out.y1
    obtain ⟨hR, hL, r0, r1⟩ := HB5.out.result hI2
    have HR := Lib.hid hR
    have HL := Lib.hid hL
    have R0 := Lib.hid r0
    have R1 := Lib.hid r1
    clear hR hL r0 r1 hI2 hb4
    go_wp2_with fail
    refine bodyPost_ret (v := .tuple #[.agg #[.slice (some ⟨g1, 0, none⟩) 9 c1, .slice A1 row.length cr1], .int .i64 0]) (by simp [results, Try.results16, go_sem, R0.out, R1.out]) rfl ?_
    rw [Hf.out, Hfl.out]
    exact ⟨_, rfl, HR.out, HL.out⟩
  · skip
    have hf : (⟨true, setQ (fl n).f q⟩ : RFl) = ⟨true, ⟨q, (fl n).f.d, (fl n).f.cs, (fl n).f.rests, (fl n).f.anew⟩⟩ := by
      have hx : (setQ (fl n).f q).d = (fl n).f.d := by rw [hdq]; split <;> omega
      rw [show setQ (fl n).f q = ⟨q, (setQ (fl n).f q).d, (fl n).f.cs, (fl n).f.rests, (fl n).f.anew⟩ from rfl, hx]
    have Hf := Lib.hid hf
    clear hf hdq
    go_upto_region 8 with (fail)
    have hB3 := HB2.out.below ((Below.refl _ _).alloc (Nat.le_refl _) (.cells #[.bool true, .int .i64 q, .int .i64 (fl n).f.d, .slice Ak (fl n).f.cs.length ck, .bool (fl n).f.rests, .bool (fl n).f.anew] 64))
    have b8 := Blk.new w2 64 #[.bool true, .int .i64 q, .int .i64 (fl n).f.d, .slice Ak (fl n).f.cs.length ck, .bool (fl n).f.rests, .bool (fl n).f.anew]
    clear a0 a1 k0 k1 k2 k3 k4 k5
    generalize w2.alloc (.cells #[.bool true, .int .i64 q, .int .i64 (fl n).f.d, .slice Ak (fl n).f.cs.length ck, .bool (fl n).f.rests, .bool (fl n).f.anew] 64) = w3 at *
    have hk : RI Q w3 (.slice Ak (fl n).f.cs.length ck) (fl n).f.cs := by rw [← Hkv.out]; exact (HF.out.cs n hn).below hB3.bel
    have D : Calls Try.prog 27 #[.agg #[.slice (some ⟨g, 0, none⟩) 9 c, .slice Ar row.length cr], .int .i64 n, .agg #[.bool true, .int .i64 q, .int .i64 (fl n).f.d, .slice Ak (fl n).f.cs.length ck, .bool (fl n).f.rests, .bool (fl n).f.anew]] w3 (fun x w' => ∃ v', x = .returned v' ∧ RefIs Q w' v' (updV fl n ⟨true, ⟨q, (fl n).f.d, (fl n).f.cs, (fl n).f.rests, (fl n).f.anew⟩⟩) row ∧ Below w3.heap.size w3 w') := by
      have D0 := with_c w3 _ fl row (HI.out.below hB3.bel) n hn _ ⟨true, ⟨q, (fl n).f.d, (fl n).f.cs, (fl n).f.rests, (fl n).f.anew⟩⟩ hk (hQ.below hB3.bel)
      exact D0
    have D1 := Lib.hid D
    have e0 : w3.cell? ⟨w2.heap.size, 0, none⟩ = some (.bool true) := by simpa using b8.cell 0
    have e1 : w3.cell? ⟨w2.heap.size, 1, none⟩ = some (.int .i64 q) := by simpa using b8.cell 1
    have e2 : w3.cell? ⟨w2.heap.size, 2, none⟩ = some (.int .i64 (fl n).f.d) := by simpa using b8.cell 2
    have e3 : w3.cell? ⟨w2.heap.size, 3, none⟩ = some (.slice Ak (fl n).f.cs.length ck) := by simpa using b8.cell 3
    have e4 : w3.cell? ⟨w2.heap.size, 4, none⟩ = some (.bool (fl n).f.rests) := by simpa using b8.cell 4
    have e5 : w3.cell? ⟨w2.heap.size, 5, none⟩ = some (.bool (fl n).f.anew) := by simpa using b8.cell 5
    have a0 := hB3.a0
    have a1 := hB3.a1
    have HB3 := Lib.hid hB3
    generalize w2.heap.size = fb at *
    clear hB3 b8 hk D hsz HB2
    generalize hfl : updV fl n ⟨true, ⟨q, (fl n).f.d, (fl n).f.cs, (fl n).f.rests, (fl n).f.anew⟩⟩ = fl1 at *
    have Hfl := Lib.hid hfl
    clear hfl
    go_wp2_with fail
    refine D1.out.mono ?_
    rintro e w4 ⟨v1, rfl, hI2, hb4⟩
    obtain ⟨g1, c1, kv1, rv1, rfl, _, _, hr1⟩ := id hI2.ex
    obtain ⟨A1, cr1, rfl, _⟩ := hr1
    have HB5 := Lib.hid (HB3.out.below hb4)
    clear a0 a1 e0 e1 e2 e3 e4 e5 D1
    have z0 := HB5.out.z0
    have z1 := HB5.out.z1
    have y0 := HB5.out.y0
    have y1 := HB5.out.y1
    obtain ⟨hR, hL, r0, r1⟩ := HB5.out.result hI2
    have HR := Lib.hid hR
    have HL := Lib.hid hL
    have R0 := Lib.hid r0
    have R1 := Lib.hid r1
    clear hR hL r0 r1 hI2 hb4
    go_wp2_with fail
    refine bodyPost_ret (v := .tuple #[.agg #[.slice (some ⟨g1, 0, none⟩) 9 c1, .slice A1 row.length cr1], .int .i64 0]) (by simp [results, Try.results16, go_sem, R0.out, R1.out]) rfl ?_
    rw [Hf.out, Hfl.out]
    exact ⟨_, rfl, HR.out, HL.out⟩

set_option maxHeartbeats 1000000 in
theorem refpush_form (w : World) (v : Value) (fl : Nat → RFl) (row : List Int) (h : RefIs Q w v fl row) (n q : Int) (hq : ¬ (1 ≤ q ∧ q ≤ 1040)) :
    Calls Try.prog 17 #[v, .int .i64 n, .int .i64 q] w (RefT Q w fl row 1) := by
  obtain ⟨g, c, kv, rv, rfl, hc, hF, hr⟩ := h.ex
  obtain ⟨Ar, cr, rfl, _⟩ := id hr
  have HI := Lib.hid h
  clear hF hr h
  have hB := BoxSt.start w (.slice (some ⟨g, 0, none⟩) 9 c) (.slice Ar row.length cr)
  obtain ⟨hR, hL, r0, r1⟩ := hB.result (HI.out.below hB.bel)
  have HR := Lib.hid hR
  have HL := Lib.hid hL
  have R0 := Lib.hid r0
  have R1 := Lib.hid r1
  clear hR hL r0 r1
  have HB := Lib.hid hB
  clear hB
  have hcase : q < 1 ∨ (1 ≤ q ∧ 1040 < q) := by omega
  clear hq
  rcases hcase with h | ⟨h1, h2⟩
  all_goals
    go_enter Try.func17, Try.ntmps17
    go_upto_region 2 with (fail)
    generalize (w.alloc (.cells #[.slice (some ⟨g, 0, none⟩) 9 c, .slice Ar row.length cr] 46)).alloc (.cells #[.slice none 0 0, .slice none 0 0] 46) = w1 at *
    have a0 := HB.out.a0
    have a1 := HB.out.a1
    have z0 := HB.out.z0
    have z1 := HB.out.z1
    have y0 := HB.out.y0
    have y1 := HB.out.y1
    go_wp2_with fail
    refine bodyPost_ret (v := .tuple #[.agg #[.slice (some ⟨g, 0, none⟩) 9 c, .slice Ar row.length cr], .int .i64 1]) (by simp [results, Try.results17, go_sem, R0.out, R1.out]) rfl ?_
    exact ⟨_, rfl, HR.out, HL.out⟩

set_option maxHeartbeats 1000000 in
theorem refpush_none (w : World) (v : Value) (fl : Nat → RFl) (row : List Int) (h : RefIs Q w v fl row) (n : Int) (q : Int) (hq1 : 1 ≤ q) (hq2 : q ≤ 1040) (hn : thereB fl n = false) :
    Calls Try.prog 17 #[v, .int .i64 n, .int .i64 q] w (RefT Q w fl row 12) := by
  obtain ⟨g, c, kv, rv, rfl, hc, hF, hr⟩ := h.ex
  obtain ⟨Ar, cr, rfl, _⟩ := id hr
  have HI := Lib.hid h
  have Hn := Lib.hid hn
  clear hF hr h hn
  go_enter Try.func17, Try.ntmps17
  go_upto_region 3 with (fail)
  have hB := BoxSt.start w (.slice (some ⟨g, 0, none⟩) 9 c) (.slice Ar row.length cr)
  generalize (w.alloc (.cells #[.slice (some ⟨g, 0, none⟩) 9 c, .slice Ar row.length cr] 46)).alloc (.cells #[.slice none 0 0, .slice none 0 0] 46) = w1 at *
  have D := Lib.hid (there_c w1 _ fl row (HI.out.below hB.bel) n)
  have a0 := hB.a0
  have a1 := hB.a1
  have HB := Lib.hid hB
  clear hB
  go_wp2_with fail
  refine D.out.mono ?_
  rintro e w2 ⟨rfl, hb2⟩
  rw [show (decide (0 ≤ n ∧ n ≤ 8) && (fl n.toNat).there) = false from Hn.out]
  have HB2 := Lib.hid (HB.out.below hb2)
  clear a0 a1 HB D hb2
  have a0 := HB2.out.a0
  have a1 := HB2.out.a1
  have z0 := HB2.out.z0
  have z1 := HB2.out.z1
  have y0 := HB2.out.y0
  have y1 := HB2.out.y1
  obtain ⟨hR, hL, r0, r1⟩ := HB2.out.result (HI.out.below HB2.out.bel)
  have HR := Lib.hid hR
  have HL := Lib.hid hL
  have R0 := Lib.hid r0
  have R1 := Lib.hid r1
  clear hR hL r0 r1
  go_wp2_with fail
  refine bodyPost_ret (v := .tuple #[.agg #[.slice (some ⟨g, 0, none⟩) 9 c, .slice Ar row.length cr], .int .i64 12]) (by simp [results, Try.results17, go_sem, R0.out, R1.out]) rfl ?_
  exact ⟨_, rfl, HR.out, HL.out⟩

set_option maxHeartbeats 1000000 in
theorem refdrop_no (w : World) (v : Value) (fl : Nat → RFl) (row : List Int) (h : RefIs Q w v fl row) (n : Int) (hn : thereB fl n = false) :
    Calls Try.prog 19 #[v, .int .i64 n] w (RefT Q w fl row 0) := by
  obtain ⟨g, c, kv, rv, rfl, hc, hF, hr⟩ := h.ex
  obtain ⟨Ar, cr, rfl, _⟩ := id hr
  have HI := Lib.hid h
  have Hn := Lib.hid hn
  clear hF hr h hn
  go_enter Try.func19, Try.ntmps19
  go_upto_region 1 with (fail)
  have hB := BoxSt.start w (.slice (some ⟨g, 0, none⟩) 9 c) (.slice Ar row.length cr)
  generalize (w.alloc (.cells #[.slice (some ⟨g, 0, none⟩) 9 c, .slice Ar row.length cr] 46)).alloc (.cells #[.slice none 0 0, .slice none 0 0] 46) = w1 at *
  have D := Lib.hid (there_c w1 _ fl row (HI.out.below hB.bel) n)
  have a0 := hB.a0
  have a1 := hB.a1
  have HB := Lib.hid hB
  clear hB
  go_wp2_with fail
  refine D.out.mono ?_
  rintro e w2 ⟨rfl, hb2⟩
  rw [show (decide (0 ≤ n ∧ n ≤ 8) && (fl n.toNat).there) = false from Hn.out]
  have HB2 := Lib.hid (HB.out.below hb2)
  clear a0 a1 HB D hb2
  have a0 := HB2.out.a0
  have a1 := HB2.out.a1
  have z0 := HB2.out.z0
  have z1 := HB2.out.z1
  have y0 := HB2.out.y0
  have y1 := HB2.out.y1
  obtain ⟨hR, hL, r0, r1⟩ := HB2.out.result (HI.out.below HB2.out.bel)
  have HR := Lib.hid hR
  have HL := Lib.hid hL
  have R0 := Lib.hid r0
  have R1 := Lib.hid r1
  clear hR hL r0 r1
  go_wp2_with fail
  refine bodyPost_ret (v := .tuple #[.agg #[.slice (some ⟨g, 0, none⟩) 9 c, .slice Ar row.length cr], .int .i64 0]) (by simp [results, Try.results19, go_sem, R0.out, R1.out]) rfl ?_
  exact ⟨_, rfl, HR.out, HL.out⟩

set_option maxHeartbeats 1000000 in
theorem refpush_yes (w : World) (v : Value) (fl : Nat → RFl) (row : List Int) (h : RefIs Q w v fl row) (n : Nat) (q : Int) (hq1 : 1 ≤ q) (hq2 : q ≤ 1040) (hn : n < 9) (ht : (fl n).there = true) (hl : row.length ≤ 1000) (hlc : (fl n).f.cs.length ≤ 1000000) (hQ : Up Q w) :
    Calls Try.prog 17 #[v, .int .i64 n, .int .i64 q] w (RefT Q w (setlA (updV fl n ⟨true, pushF (fl n).f q⟩) row n).1 (setlA (updV fl n ⟨true, pushF (fl n).f q⟩) row n).2 0) := by
  obtain ⟨g, c, kv, rv, rfl, hc, hF, hr⟩ := h.ex
  obtain ⟨Ar, cr, rfl, _⟩ := id hr
  obtain ⟨Ak, ck, hkv, _⟩ := id (hF.cs n hn)
  have HI := Lib.hid h
  have HF := Lib.hid hF
  have Hkv := Lib.hid hkv
  have Hn := Lib.hid (thereB_yes hn ht)
  have Ht := Lib.hid ht
  have hgl : g < w.heap.size := cell_lt (hF.c0 0 (by omega))
  clear hF hr h ht hkv
  go_enter Try.func17, Try.ntmps17
  go_upto_region 3 with (fail)
  have hB := BoxSt.start w (.slice (some ⟨g, 0, none⟩) 9 c) (.slice Ar row.length cr)
  generalize (w.alloc (.cells #[.slice (some ⟨g, 0, none⟩) 9 c, .slice Ar row.length cr] 46)).alloc (.cells #[.slice none 0 0, .slice none 0 0] 46) = w1 at *
  have D := Lib.hid (there_c w1 _ fl row (HI.out.below hB.bel) n)
  have a0 := hB.a0
  have a1 := hB.a1
  have HB := Lib.hid hB
  clear hB
  go_wp2_with fail
  refine D.out.mono ?_
  rintro e w2 ⟨rfl, hb2⟩
  rw [show (decide (0 ≤ (n : Int) ∧ (n : Int) ≤ 8) && (fl (n : Int).toNat).there) = true from Hn.out]
  have HB2 := Lib.hid (HB.out.below hb2)
  clear a0 a1 HB D hb2
  have a0 := HB2.out.a0
  have a1 := HB2.out.a1
  have k0 := (HF.out.below HB2.out.bel).c0 n hn
  have k1 := (HF.out.below HB2.out.bel).c1 n hn
  have k2 := (HF.out.below HB2.out.bel).c2 n hn
  have k3 := (HF.out.below HB2.out.bel).c3 n hn
  have k4 := (HF.out.below HB2.out.bel).c4 n hn
  have k5 := (HF.out.below HB2.out.bel).c5 n hn
  rw [Hkv.out] at k3
  rw [Ht.out] at k0
  have hsz := HB2.out.sz
  go_upto_region 6 with (fail)
  have hB3 := HB2.out.below ((Below.refl _ _).alloc (Nat.le_refl _) (.cells #[.bool true, .int .i64 (fl n).f.q, .int .i64 (fl n).f.d, .slice Ak (fl n).f.cs.length ck, .bool (fl n).f.rests, .bool (fl n).f.anew] 64))
  have b8 := Blk.new w2 64 #[.bool true, .int .i64 (fl n).f.q, .int .i64 (fl n).f.d, .slice Ak (fl n).f.cs.length ck, .bool (fl n).f.rests, .bool (fl n).f.anew]
  clear a0 a1 k0 k1 k2 k3 k4 k5
  generalize w2.alloc (.cells #[.bool true, .int .i64 (fl n).f.q, .int .i64 (fl n).f.d, .slice Ak (fl n).f.cs.length ck, .bool (fl n).f.rests, .bool (fl n).f.anew] 64) = w3 at *
  have hfb : w.heap.size + 1 < w2.heap.size := hsz
  generalize w2.heap.size = fb at *
  have hk : RI Q (w3.alloc (.cells #[] 3)) (.slice Ak (fl n).f.cs.length ck) (fl n).f.cs := by rw [← Hkv.out]; exact ((HF.out.cs n hn).below hB3.bel).below ((Below.refl _ _).alloc (Nat.le_refl _) _)
  have e3 : w3.cell? ⟨fb, 3, none⟩ = some (.slice Ak (fl n).f.cs.length ck) := by simpa using b8.cell 3
  have hblt := b8.lt
  have hwb : w.heap.size ≤ w3.heap.size := by omega
  have HA := Lib.hid (hB3.below ((Below.refl _ _).alloc (Nat.le_refl _) (.cells #[] 3)))
  have BA := Lib.hid (b8.alloc (.cells #[] 3))
  have HE := Lib.hid (Blk.new w3 3 #[])
  have HK := Lib.hid hk
  have hlc2 : (ints (fl n).f.cs).length + 1 ≤ 1048576 := by simp [ints]; omega
  clear hk hsz HB2 hB3 b8
  obtain ⟨i0, hi0, hz0, hz1, hz2⟩ := info_parts info3
  go_wp2_with (at_builtin; refine wpList_copy_ints _ rfl (.tmp 26) (.tmp 28) rfl w3.heap.size rfl HE.out (.slice Ak (fl n).f.cs.length ck) (fl n).f.cs rfl HK.out ?_ ?_)
  case refine_1 => exact hlc
  intro v4 w4 hwin4 hg4
  have HB4 := Lib.hid (HA.out.grown hg4 (fun k hk => by injection hk with hk; omega))
  have B4 := Lib.hid (BA.out.grown hg4 (fun e => by injection e with e; omega))
  obtain ⟨A4, c4, rfl, _⟩ := hwin4.form
  have hln : (ints (fl n).f.cs).length = (fl n).f.cs.length := by simp [ints]
  rw [hln] at hwin4 ⊢
  have hcu : (w4.alloc (.cells #[.int .i64 q] 3)).cell? ⟨w4.heap.size, 0, none⟩ = some (.int .i64 q) := by simpa using (Blk.new w4 3 #[.int .i64 q]).cell 0
  have HCU := Lib.hid hcu
  have HWA := Lib.hid (hwin4.kept (row := none) (only_of_below ((Below.refl _ _).alloc (Nat.le_refl _) (.cells #[.int .i64 q] 3)) none) (by simp))
  have HB5 := Lib.hid (HB4.out.below ((Below.refl _ _).alloc (Nat.le_refl _) (.cells #[.int .i64 q] 3)))
  have B5 := Lib.hid (B4.out.alloc (.cells #[.int .i64 q] 3))
  have hs34 := hg4.size
  simp at hs34
  have hs34' : w3.heap.size < w4.heap.size := by omega
  clear hcu hwin4 hg4 HA BA HE HK e3 HB4 B4 hln hs34
  go_wp2_with (at_builtin; refine wpList_append_win _ rfl (.tmp 29) (.tmp 31) 36 rfl 3 i0 _ Try.underlying36 hi0 hz0 hz1 hz2 rfl (v := .slice A4 (fl n).f.cs.length c4) rfl HWA.out ⟨w4.heap.size, 0, none⟩ 1 (.int .i64 q) rfl HCU.out rfl ?_ ?_ ?_)
  case refine_1 => exact hlc2
  case refine_2 => simp; omega
  intro v6 w6 hwin6 hg6 hor6
  have hob : ∀ k, (Value.slice A4 (fl n).f.cs.length c4).ownBlock = some k → w3.heap.size ≤ k := fun k hk => (HWA.out.lt k hk).1
  have hB6 := HB5.out.grown hg6 (fun k hk => by have := hob k hk; omega)
  have b6 := B5.out.grown hg6 (fun e => by have := hob _ e.symm; omega)
  obtain ⟨A6, c6, rfl, _⟩ := hwin6.form
  have hle : (ints (fl n).f.cs ++ [Value.int .i64 q]).length = ((fl n).f.cs ++ [q]).length := by simp [ints]
  rw [hle] at hwin6 hor6 ⊢
  have hwin6 : Win w6 (fun k => w3.heap.size ≤ k) 3 (.slice A6 ((fl n).f.cs ++ [q]).length c6) (ints ((fl n).f.cs ++ [q])) := by simpa [ints] using hwin6
  generalize hcs : (fl n).f.cs ++ [q] = cs' at *
  have Hcs := Lib.hid hcs
  clear hcs
  have f3 := b6.frozen 3
  have e3 : w6.cell? ⟨fb, 3, none⟩ = some (.slice Ak (fl n).f.cs.length ck) := by simpa using b6.cell 3
  have hfbk : ∀ k, (Value.slice A6 cs'.length c6).ownBlock = some k → some fb ≠ some k := fun k hk e => by
    injection e with e
    have := (hwin6.lt k hk).1
    omega
  have HB7 := Lib.hid (hB6.far (p := ⟨fb, 3, none⟩) hfb (.slice A6 cs'.length c6))
  have B7 := Lib.hid (b6.set_ 3 (.slice A6 cs'.length c6))
  have HW7 := Lib.hid (hwin6.kept (row := some fb) (only_setg (only_refl _ _) 3 (.slice A6 cs'.length c6)) hfbk)
  clear hwin6 hB6 b6 hfbk hg6 hor6 hle hob HB5 B5 HWA HCU hs34' hblt
  go_upto_region 7 with (fail)
  clear f3 e3
  generalize w6.setCell ⟨fb, 3, none⟩ (.slice A6 cs'.length c6) = w3 at *
  have hB3 := HB7.out
  have b8 := B7.out
  have hk : RI Q w3 (.slice A6 cs'.length c6) ((fl n).f.cs ++ [q]) := by rw [Hcs.out]; exact RI.of_up hQ HW7.out hwb
  have HB2 := hB3
  have hsz := hfb
  have D : Calls Try.prog 27 #[.agg #[.slice (some ⟨g, 0, none⟩) 9 c, .slice Ar row.length cr], .int .i64 n, .agg #[.bool true, .int .i64 (fl n).f.q, .int .i64 (fl n).f.d, .slice A6 cs'.length c6, .bool (fl n).f.rests, .bool (fl n).f.anew]] w3 (fun x w' => ∃ v', x = .returned v' ∧ RefIs Q w' v' (updV fl n ⟨true, pushF (fl n).f q⟩) row ∧ Below w3.heap.size w3 w') :=
    with_c w3 _ fl row (HI.out.below hB3.bel) n hn _ ⟨true, pushF (fl n).f q⟩ hk (hQ.below hB3.bel)
  have D1 := Lib.hid D
  have e0 : w3.cell? ⟨fb, 0, none⟩ = some (.bool true) := by simpa using b8.cell 0
  have e1 : w3.cell? ⟨fb, 1, none⟩ = some (.int .i64 (fl n).f.q) := by simpa using b8.cell 1
  have e2 : w3.cell? ⟨fb, 2, none⟩ = some (.int .i64 (fl n).f.d) := by simpa using b8.cell 2
  have e3 : w3.cell? ⟨fb, 3, none⟩ = some (.slice A6 cs'.length c6) := by simpa using b8.cell 3
  have e4 : w3.cell? ⟨fb, 4, none⟩ = some (.bool (fl n).f.rests) := by simpa using b8.cell 4
  have e5 : w3.cell? ⟨fb, 5, none⟩ = some (.bool (fl n).f.anew) := by simpa using b8.cell 5
  have a0 := hB3.a0
  have a1 := hB3.a1
  have HB3 := Lib.hid hB3
  clear hB3 b8 hk D hsz HB2 HB7 B7 HW7
  generalize hfl : updV fl n ⟨true, pushF (fl n).f q⟩ = fl1 at *
  have Hfl := Lib.hid hfl
  clear hfl
  go_wp2_with fail
  refine D1.out.mono ?_
  rintro e w4 ⟨v1, rfl, hI1, hb4⟩
  have D2 := Lib.hid (refsettle_c w4 v1 fl1 row hI1 n hn hl (hQ.below (HB3.out.below hb4).bel))
  have HB4 := Lib.hid (HB3.out.below hb4)
  clear a0 a1 e0 e1 e2 e3 e4 e5 hI1 hb4 D1
  go_wp2_with fail
  refine D2.out.mono ?_
  rintro e w5 ⟨v2, rfl, hI2, hb5⟩
  obtain ⟨g1, c1, kv1, rv1, rfl, _, _, hr1⟩ := id hI2.ex
  obtain ⟨A1, cr1, rfl, _⟩ := hr1
  have HB5 := Lib.hid (HB4.out.below hb5)
  have z0 := HB5.out.z0
  have z1 := HB5.out.z1
  have y0 := HB5.out.y0
  have y1 := HB5.out.y1
  obtain ⟨hR, hL, r0, r1⟩ := HB5.out.result hI2
  have HR := Lib.hid hR
  have HL := Lib.hid hL
  have R0 := Lib.hid r0
  have R1 := Lib.hid r1
  clear hR hL r0 r1 hI2 hb5 D2
  go_wp2_with fail
  refine bodyPost_ret (v := .tuple #[.agg #[.slice (some ⟨g1, 0, none⟩) 9 c1, .slice A1 (settleRow (fl1 n) row ↑n).length cr1], .int .i64 0]) (by simp [results, Try.results17, go_sem, R0.out, R1.out]) rfl ?_
  rw [Hfl.out]
  exact ⟨_, rfl, HR.out, HL.out⟩

set_option maxHeartbeats 1000000 in
theorem refdrop_yes (w : World) (v : Value) (fl : Nat → RFl) (row : List Int) (h : RefIs Q w v fl row) (n : Nat) (hn : n < 9) (ht : (fl n).there = true) (hl : row.length ≤ 1000) (hQ : Up Q w) :
    Calls Try.prog 19 #[v, .int .i64 n] w (RefT Q w (setlA (updV fl n ⟨false, zeroF⟩) row n).1 (setlA (updV fl n ⟨false, zeroF⟩) row n).2 (fl n).f.cs.length) := by
  obtain ⟨g, c, kv, rv, rfl, hc, hF, hr⟩ := h.ex
  obtain ⟨Ar, cr, rfl, _⟩ := id hr
  obtain ⟨Ak, ck, hkv, _⟩ := id (hF.cs n hn)
  have HI := Lib.hid h
  have HF := Lib.hid hF
  have Hkv := Lib.hid hkv
  have Hn := Lib.hid (thereB_yes hn ht)
  have Ht := Lib.hid ht
  have hgl : g < w.heap.size := cell_lt (hF.c0 0 (by omega))
  clear hF hr h ht hkv
  go_enter Try.func19, Try.ntmps19
  go_upto_region 1 with (fail)
  have hB := BoxSt.start w (.slice (some ⟨g, 0, none⟩) 9 c) (.slice Ar row.length cr)
  generalize (w.alloc (.cells #[.slice (some ⟨g, 0, none⟩) 9 c, .slice Ar row.length cr] 46)).alloc (.cells #[.slice none 0 0, .slice none 0 0] 46) = w1 at *
  have D := Lib.hid (there_c w1 _ fl row (HI.out.below hB.bel) n)
  have a0 := hB.a0
  have a1 := hB.a1
  have HB := Lib.hid hB
  clear hB
  go_wp2_with fail
  refine D.out.mono ?_
  rintro e w2 ⟨rfl, hb2⟩
  rw [show (decide (0 ≤ (n : Int) ∧ (n : Int) ≤ 8) && (fl (n : Int).toNat).there) = true from Hn.out]
  have HB2 := Lib.hid (HB.out.below hb2)
  clear a0 a1 HB D hb2
  have a0 := HB2.out.a0
  have a1 := HB2.out.a1
  have k0 := (HF.out.below HB2.out.bel).c0 n hn
  have k1 := (HF.out.below HB2.out.bel).c1 n hn
  have k2 := (HF.out.below HB2.out.bel).c2 n hn
  have k3 := (HF.out.below HB2.out.bel).c3 n hn
  have k4 := (HF.out.below HB2.out.bel).c4 n hn
  have k5 := (HF.out.below HB2.out.bel).c5 n hn
  rw [Hkv.out] at k3
  rw [Ht.out] at k0
  have hB3 := HB2.out
  have hk : RI Q w2 (.slice none 0 0) ([] : List Int) := RI.nil_ _
  clear k0 k1 k2 k4 k5
  have D : Calls Try.prog 27 #[.agg #[.slice (some ⟨g, 0, none⟩) 9 c, .slice Ar row.length cr], .int .i64 n, .agg #[.bool false, .int .i64 0, .int .i64 0, .slice none 0 0, .bool false, .bool false]] w2 (fun x w' => ∃ v', x = .returned v' ∧ RefIs Q w' v' (updV fl n ⟨false, zeroF⟩) row ∧ Below w2.heap.size w2 w') :=
    with_c w2 _ fl row (HI.out.below hB3.bel) n hn _ ⟨false, zeroF⟩ hk (hQ.below hB3.bel)
  have D1 := Lib.hid D
  have HB3 := Lib.hid hB3
  clear hB3 hk D HB2
  generalize hfl : updV fl n ⟨false, zeroF⟩ = fl1 at *
  have Hfl := Lib.hid hfl
  clear hfl
  go_wp2_with fail
  refine D1.out.mono ?_
  rintro e w4 ⟨v1, rfl, hI1, hb4⟩
  have D2 := Lib.hid (refsettle_c w4 v1 fl1 row hI1 n hn hl (hQ.below (HB3.out.below hb4).bel))
  have HB4 := Lib.hid (HB3.out.below hb4)
  clear a0 a1 k3 hI1 hb4 D1
  go_wp2_with fail
  refine D2.out.mono ?_
  rintro e w5 ⟨v2, rfl, hI2, hb5⟩
  obtain ⟨g1, c1, kv1, rv1, rfl, _, _, hr1⟩ := id hI2.ex
  obtain ⟨A1, cr1, rfl, _⟩ := hr1
  have HB5 := Lib.hid (HB4.out.below hb5)
  have z0 := HB5.out.z0
  have z1 := HB5.out.z1
  have y0 := HB5.out.y0
  have y1 := HB5.out.y1
  obtain ⟨hR, hL, r0, r1⟩ := HB5.out.result hI2
  have HR := Lib.hid hR
  have HL := Lib.hid hL
  have R0 := Lib.hid r0
  have R1 := Lib.hid r1
  clear hR hL r0 r1 hI2 hb5 D2
  go_wp2_with fail
  refine bodyPost_ret (v := .tuple #[.agg #[.slice (some ⟨g1, 0, none⟩) 9 c1, .slice A1 (settleRow (fl1 n) row ↑n).length cr1], .int .i64 (fl n).f.cs.length]) (by simp [results, Try.results19, go_sem, R0.out, R1.out]) rfl ?_
  rw [Hfl.out]
  exact ⟨_, rfl, HR.out, HL.out⟩
end Go.Proofs.Ytaenlieajlfkdaa
