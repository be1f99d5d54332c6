/- Chapter 25's example; a ring among the call's own memory. -/
import Derived.Test.YtaenlieajlfkdaaMisc
namespace Go.Proofs.Ytaenlieajlfkdaa
open Go.RowKit Go.Maps
set_option linter.unusedVariables false
set_option linter.unnecessarySimpa false
set_option linter.unusedSimpArgs false

/-- A ring that the call made, from block B on. -/
structure RB (B : Nat) (w : World) (g : Nat) (ad : Int → Option Nat) (st : Int → FS) (row : List Int) (N : Nat) (wr : World) : Prop where
  rg : Rg wr (fun k => B ≤ k) g ad st row N
  bel : Below B w wr
  sz : B ≤ wr.heap.size
theorem RB.step {B : Nat} {w : World} {g : Nat} {ad ad' : Int → Option Nat} {st st' : Int → FS} {row row' : List Int} {N N' : Nat} {wr w' : World} {v : Value} {x : Ending} (h : RB B w g ad st row N wr) (r : RetR wr (fun k => B ≤ k) g ad' st' row' N' v x w') :
    x = .returned v ∧ RB B w g ad' st' row' N' w' := by
  obtain ⟨hx, hm, hr⟩ := r
  exact ⟨hx, hr, hm.below h.bel (fun k hk => hk) h.sz, Nat.le_trans h.sz hm.size⟩
theorem RB.below {B : Nat} {w : World} {g : Nat} {ad : Int → Option Nat} {st : Int → FS} {row : List Int} {N : Nat} {wr w' : World} (h : RB B w g ad st row N wr) (hb : Below wr.heap.size wr w') : RB B w g ad st row N w' := by
  obtain ⟨M, rv, cv, hR⟩ := h.rg
  exact ⟨⟨M, rv, cv, hR.below hb⟩, h.bel.trans (hb.mono h.sz), Nat.le_trans h.sz hb.size⟩
theorem RB.start (w : World) {B : Nat} (hB : w.heap.size = B) : RB B w B (fun _ => none) (fun _ => zeroF) [] 0 (w.alloc (.cells #[.map none, .slice none 0 0] 28)) := by
  subst hB
  exact ⟨⟨_, _, _, RgE.new w _ (Nat.le_refl _)⟩, (Below.refl _ _).alloc (Nat.le_refl _) _, by simp⟩

section
variable {B : Nat} {w : World} {g : Nat} {ad : Int → Option Nat} {st : Int → FS} {row : List Int} {N : Nat} {wr : World}
theorem RB.up (h : RB B w g ad st row N wr) : ∀ k, wr.heap.size ≤ k → B ≤ k := fun k hk => Nat.le_trans h.sz hk
theorem RB.set_ (h : RB B w g ad st row N wr) (hN : N ≤ 100000) {n q : Int} (h0 : 0 ≤ n) (h8 : n ≤ 8) (hq1 : 1 ≤ q) (hq2 : q ≤ 1048576) :
    Calls Try.prog 7 #[.pointer (some ⟨g, 0, none⟩), .int .i64 n, .int .i64 q] wr fun x w' => x = .returned (.int .i64 0) ∧
      ∃ ad', (∀ m, m ≠ n → ad' m = ad m) ∧ ad' n ≠ none ∧ (ad n ≠ none → ad' = ad) ∧ RB B w g ad' (setF st n (setQ (stOf ad st n) q)) row (N + 1) w' := by
  obtain ⟨M, rv, cv, hR⟩ := h.rg
  refine (set_c wr _ g M rv cv ad st row N hR h.up hN n q ⟨by omega, by omega⟩ h0 h8 hq1 hq2).mono ?_
  rintro x w' ⟨ad', h1, h2, h3, hr⟩
  obtain ⟨hx, hb⟩ := h.step hr
  exact ⟨hx, ad', h1, h2, h3, hb⟩
theorem RB.push_ (h : RB B w g ad st row N wr) (hN : N ≤ 100000) {n c : Int} (h0 : 0 ≤ n) (h8 : n ≤ 8) (h1 : 1 ≤ c) (h2 : c ≤ 1040) (hn : ad n ≠ none) :
    Calls Try.prog 8 #[.pointer (some ⟨g, 0, none⟩), .int .i64 n, .int .i64 c] wr fun x w' => x = .returned (.int .i64 0) ∧ RB B w g ad (pushA st row n c).1 (pushA st row n c).2 (N + 1) w' := by
  obtain ⟨M, rv, cv, hR⟩ := h.rg
  cases hb : ad n with
  | none => exact absurd hb hn
  | some b => exact (pushr_c wr _ g M rv cv ad st row N hR h.up hN n c ⟨by omega, by omega⟩ h1 h2 b hb).mono fun x w' r => h.step r
theorem RB.rest_ (h : RB B w g ad st row N wr) {n : Int} (h0 : 0 ≤ n) (h8 : n ≤ 8) (v : Bool) (hn : ad n ≠ none) :
    Calls Try.prog 9 #[.pointer (some ⟨g, 0, none⟩), .int .i64 n, .bool v] wr fun x w' => x = .returned (.int .i64 0) ∧ RB B w g ad (restA st row n v).1 (restA st row n v).2 N w' := by
  obtain ⟨M, rv, cv, hR⟩ := h.rg
  cases hb : ad n with
  | none => exact absurd hb hn
  | some b => exact (rest_c wr _ g M rv cv ad st row N hR h.up n ⟨by omega, by omega⟩ v b hb).mono fun x w' r => h.step r
theorem RB.turn_ (h : RB B w g ad st row N wr) (hN : N ≤ 100000) (hok : RowOk st row) (hne : row ≠ []) :
    Calls Try.prog 10 #[.pointer (some ⟨g, 0, none⟩)] wr fun x w' => ∃ st' row' n c, Turns st row st' row' n c ∧ x = .returned (.tuple #[.int .i64 n, .int .i64 c, .bool true]) ∧ RB B w g ad st' row' N w' := by
  obtain ⟨M, rv, cv, hR⟩ := h.rg
  refine (turn_c wr _ g M rv cv ad st row N hR h.up hok hne hN).mono ?_
  rintro x w' ⟨st', row', n, c, ht, hr⟩
  obtain ⟨hx, hb⟩ := h.step hr
  exact ⟨st', row', n, c, ht, hx, hb⟩
theorem RB.turn0 (h : RB B w g ad st [] N wr) :
    Calls Try.prog 10 #[.pointer (some ⟨g, 0, none⟩)] wr fun x w' => x = .returned (.tuple #[.int .i64 0, .int .i64 0, .bool false]) ∧ wr = w' := by
  obtain ⟨M, rv, cv, hR⟩ := h.rg
  exact turn_empty wr _ g M rv cv ad st N hR
theorem RB.waits_ (h : RB B w g ad st row N wr) {n : Int} (hi : I64 n) : Calls Try.prog 14 #[.pointer (some ⟨g, 0, none⟩), .int .i64 n] wr fun x w' => x = .returned (.int .i64 (stOf ad st n).cs.length) ∧ wr = w' := by
  obtain ⟨M, rv, cv, hR⟩ := h.rg
  exact waits_c wr _ g M rv cv ad st row N hR n hi
theorem RB.deficit_ (h : RB B w g ad st row N wr) {n : Int} (hi : I64 n) : Calls Try.prog 13 #[.pointer (some ⟨g, 0, none⟩), .int .i64 n] wr fun x w' => x = .returned (.int .i64 (stOf ad st n).d) ∧ wr = w' := by
  obtain ⟨M, rv, cv, hR⟩ := h.rg
  exact deficit_c wr _ g M rv cv ad st row N hR n hi
theorem RB.active_ (h : RB B w g ad st row N wr) : Calls Try.prog 12 #[.pointer (some ⟨g, 0, none⟩)] wr (ListRet wr row) := by
  obtain ⟨M, rv, cv, hR⟩ := h.rg
  exact activer_c wr _ g M rv cv ad st row N hR
end

theorem turns_serve {st st' : Int → FS} {rest row' : List Int} {n m c c' : Int} {cs : List Int} (h : Turns st (n :: rest) st' row' m c') (hc : (st n).cs = c :: cs) (hd : c ≤ (bumpF (st n)).d) :
    m = n ∧ c' = c ∧ st' = (serveA (setF st n (bumpF (st n))) (n :: rest) n c).1 ∧ row' = (serveA (setF st n (bumpF (st n))) (n :: rest) n c).2 := by
  cases h with
  | serve h1 h2 =>
    rw [hc] at h1
    injection h1 with h1 _
    subst h1
    exact ⟨rfl, rfl, rfl, rfl⟩
  | rot h1 h2 _ =>
    rw [hc] at h1
    injection h1 with h1 _
    subst h1
    omega

theorem awake25_c (w : World) : Calls Try.prog 6 #[] w (Tells w true) := by
  generalize hB : w.heap.size = B
  go_enter Try.func6, Try.ntmps6
  go_wp2_with fail
  refine (newr_c _).mono ?_
  rintro e w1 ⟨rfl, rfl⟩
  have h0 := RB.start w hB
  rw [hB]
  have H0 := Lib.hid h0
  clear h0
  generalize w.alloc (.cells #[.map none, .slice none 0 0] 28) = w1 at *
  go_wp2_with fail
  refine (H0.out.set_ (n := 1) (q := 1040) (by omega) (by omega) (by omega) (by omega) (by omega)).mono ?_
  rintro e w2 ⟨rfl, ad1, e1, e2, _, h1⟩
  have hs1 : setF (fun _ => zeroF) 1 (setQ (stOf (fun _ => none) (fun _ => zeroF) 1) 1040) 1 = ⟨1040, 0, [], false, false⟩ := by simp [setF, setQ, stOf, zeroF]
  generalize setF (fun _ => zeroF) 1 (setQ (stOf (fun _ => none) (fun _ => zeroF) 1) 1040) = st1 at *
  have H1 := Lib.hid h1
  have hz2 : stOf ad1 st1 2 = zeroF := by unfold stOf; rw [e1 2 (by decide)]; rfl
  clear h1 H0
  go_wp2_with fail
  refine (H1.out.set_ (n := 2) (q := 1040) (by omega) (by omega) (by omega) (by omega) (by omega)).mono ?_
  rintro e w3 ⟨rfl, ad2, f1, f2, _, h2⟩
  have hn1 : ad2 1 ≠ none := by rw [f1 1 (by decide)]; exact e2
  have ht1 : setF st1 2 (setQ (stOf ad1 st1 2) 1040) 1 = ⟨1040, 0, [], false, false⟩ := by rw [setF_ne _ _ (by decide)]; exact hs1
  have ht2 : setF st1 2 (setQ (stOf ad1 st1 2) 1040) 2 = ⟨1040, 0, [], false, false⟩ := by rw [setF_at, hz2]; simp [setQ, zeroF]
  generalize setF st1 2 (setQ (stOf ad1 st1 2) 1040) = st2 at *
  have H2 := Lib.hid h2
  clear h2 H1 hs1 hz2
  go_wp2_with fail
  refine (H2.out.push_ (n := 1) (c := 16) (by omega) (by omega) (by omega) (by omega) (by omega) hn1).mono ?_
  rintro e w4 ⟨rfl, h3⟩
  have a1 : (pushA st2 [] 1 16).1 1 = ⟨1040, 0, [16], false, true⟩ := by simp [pushA, settleA, setF, ht1, ht2, pushF, joinF, actF]
  have a2 : (pushA st2 [] 1 16).1 2 = ⟨1040, 0, [], false, false⟩ := by simp [pushA, settleA, setF, ht1, ht2, pushF, joinF, actF]
  have a3 : (pushA st2 [] 1 16).2 = [1] := by simp [pushA, settleA, setF, ht1, ht2, pushF, joinF, actF]
  rw [a3] at h3
  generalize (pushA st2 [] 1 16).1 = st3 at *
  have H3 := Lib.hid h3
  clear h3 H2 ht1 ht2 a3
  go_wp2_with fail
  refine (H3.out.push_ (n := 2) (c := 16) (by omega) (by omega) (by omega) (by omega) (by omega) f2).mono ?_
  rintro e w5 ⟨rfl, h4⟩
  have b1 : (pushA st3 [1] 2 16).1 1 = ⟨1040, 0, [16], false, true⟩ := by simp [pushA, settleA, setF, a1, a2, pushF, joinF, actF]
  have b2 : (pushA st3 [1] 2 16).1 2 = ⟨1040, 0, [16], false, true⟩ := by simp [pushA, settleA, setF, a1, a2, pushF, joinF, actF]
  have b3 : (pushA st3 [1] 2 16).2 = [1, 2] := by simp [pushA, settleA, setF, a1, a2, pushF, joinF, actF]
  rw [b3] at h4
  generalize (pushA st3 [1] 2 16).1 = st4 at *
  have H4 := Lib.hid h4
  clear h4 H3 a1 a2 b3
  go_wp2_with fail
  refine (H4.out.push_ (n := 1) (c := 16) (by omega) (by omega) (by omega) (by omega) (by omega) hn1).mono ?_
  rintro e w6 ⟨rfl, h5⟩
  have c1 : (pushA st4 [1, 2] 1 16).1 1 = ⟨1040, 0, [16, 16], false, true⟩ := by simp [pushA, settleA, setF, b1, b2, pushF, joinF, actF]
  have c2 : (pushA st4 [1, 2] 1 16).1 2 = ⟨1040, 0, [16], false, true⟩ := by simp [pushA, settleA, setF, b1, b2, pushF, joinF, actF]
  have c3 : (pushA st4 [1, 2] 1 16).2 = [1, 2] := by simp [pushA, settleA, setF, b1, b2, pushF, joinF, actF]
  rw [c3] at h5
  generalize (pushA st4 [1, 2] 1 16).1 = st5 at *
  have H5 := Lib.hid h5
  clear h5 H4 b1 b2 c3
  have hF1 : FOk (st5 1) := by rw [c1]; exact ⟨by decide, by decide, by decide, by decide, by decide, by simp⟩
  have hF2 : FOk (st5 2) := by rw [c2]; exact ⟨by decide, by decide, by decide, by decide, by decide, by simp⟩
  have hrow : RowOk st5 [1, 2] := by
    intro n hn
    simp at hn
    rcases hn with rfl | rfl
    · exact ⟨hF1, by rw [c1]; simp⟩
    · exact ⟨hF2, by rw [c2]; simp⟩
  go_wp2_with fail
  refine (H5.out.turn_ (by omega) hrow (by simp)).mono ?_
  rintro e w7 ⟨st6, row6, m1, k1, ht, rfl, h6⟩
  obtain ⟨rfl, rfl, hst, hrw⟩ := turns_serve ht (c := 16) (cs := [16]) (by rw [c1]) (by simp [bumpF, c1])
  have d1 : st6 1 = ⟨1040, 1024, [16], false, false⟩ := by rw [hst]; simp [serveA, serveF, setF, bumpF, c1, c2, actF]
  have d2 : st6 2 = ⟨1040, 0, [16], false, true⟩ := by rw [hst]; simp [serveA, serveF, setF, bumpF, c1, c2, actF]
  have d3 : row6 = [1, 2] := by rw [hrw]; simp [serveA, serveF, setF, bumpF, c1, c2, actF]
  subst d3
  have hrow6 : RowOk st6 [1, 2] := by
    intro n hn
    simp at hn
    rcases hn with rfl | rfl
    · exact ⟨by rw [d1]; exact ⟨by decide, by decide, by decide, by decide, by decide, by simp⟩, by rw [d1]; simp⟩
    · exact ⟨by rw [d2]; exact ⟨by decide, by decide, by decide, by decide, by decide, by simp⟩, by rw [d2]; simp⟩
  have H6 := Lib.hid h6
  clear h6 H5 ht hst hrw hrow hF1 hF2 c1 c2
  go_wp2_with fail
  refine (H6.out.turn_ (by omega) hrow6 (by simp)).mono ?_
  rintro e w8 ⟨st7, row7, m2, k2, ht, rfl, h7⟩
  obtain ⟨rfl, rfl, hst, hrw⟩ := turns_serve ht (c := 16) (cs := []) (by rw [d1]) (by simp [bumpF, d1])
  have g2 : st7 2 = ⟨1040, 0, [16], false, true⟩ := by rw [hst]; simp [serveA, serveF, setF, bumpF, d1, d2, actF, leaveF]
  have g3 : row7 = [2] := by rw [hrw]; simp [serveA, serveF, setF, bumpF, d1, d2, actF, leaveF]
  subst g3
  have hrow7 : RowOk st7 [2] := by
    intro n hn
    simp at hn
    subst hn
    exact ⟨by rw [g2]; exact ⟨by decide, by decide, by decide, by decide, by decide, by simp⟩, by rw [g2]; simp⟩
  have H7 := Lib.hid h7
  clear h7 H6 ht hst hrw hrow6 d1 d2
  go_wp2_with fail
  refine (H7.out.turn_ (by omega) hrow7 (by simp)).mono ?_
  rintro e w9 ⟨st8, row8, m3, k3, ht, rfl, h8⟩
  obtain ⟨rfl, rfl, hst, hrw⟩ := turns_serve ht (c := 16) (cs := []) (by rw [g2]) (by simp [bumpF, g2])
  have H8 := Lib.hid h8
  clear h8 hst hrw ht H7
  go_wp2_with fail
  go_ret
  exact ⟨rfl, hB ▸ H8.out.bel⟩
end Go.Proofs.Ytaenlieajlfkdaa
