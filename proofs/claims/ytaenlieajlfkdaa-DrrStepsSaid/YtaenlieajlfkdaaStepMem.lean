/- The memory of DrrSteps: the ring, and the document's beside it. -/
import Derived.Test.YtaenlieajlfkdaaStepSpec
namespace Go.Proofs.Ytaenlieajlfkdaa
open Go.RowKit Go.Maps
set_option linter.unusedVariables false
set_option linter.unnecessarySimpa false
set_option linter.unusedSimpArgs false

set_option maxHeartbeats 1000000 in
theorem set_refused (w : World) (S : Nat → Prop) (g : Nat) (M rv : Value) (cv : Int → Value) (ad : Int → Option Nat) (st : Int → FS) (row : List Int) (N : Nat) (h : RgE w S g M rv cv ad st row N) (n q : Int) (hn : ¬ (0 ≤ n ∧ n ≤ 8 ∧ 1 ≤ q ∧ q ≤ 1048576)) :
    Calls Try.prog 7 #[.pointer (some ⟨g, 0, none⟩), .int .i64 n, .int .i64 q] w fun x w' => x = .returned (.int .i64 1) ∧ w = w' := by
  have D1 := Lib.hid (numbered_c w n)
  clear h
  by_cases h9 : 0 ≤ n ∧ n ≤ 8
  · have hq : q < 1 ∨ 1048576 < q := by omega
    have hd : decide (0 ≤ n ∧ n ≤ 8) = true := by simpa using h9
    rw [hd] at D1
    clear hn hd h9
    by_cases h1 : q < 1
    · clear hq
      go_enter Try.func7, Try.ntmps7
      go_wp2_with fail
      refine D1.out.mono ?_
      rintro e w' ⟨rfl, rfl⟩
      go_wp2_with fail
      go_ret
      exact ⟨rfl, rfl⟩
    · have h2 : 1048576 < q := by omega
      clear hq
      go_enter Try.func7, Try.ntmps7
      go_wp2_with fail
      refine D1.out.mono ?_
      rintro e w' ⟨rfl, rfl⟩
      go_wp2_with fail
      go_ret
      exact ⟨rfl, rfl⟩
  · have hd : decide (0 ≤ n ∧ n ≤ 8) = false := by simpa using h9
    rw [hd] at D1
    clear hn hd h9
    go_enter Try.func7, Try.ntmps7
    go_wp2_with fail
    refine D1.out.mono ?_
    rintro e w' ⟨rfl, rfl⟩
    go_wp2_with fail
    go_ret
    exact ⟨rfl, rfl⟩

theorem RI.same {Q Q' : Nat → Prop} {w w' : World} {v : Value} {l : List Int} (h : RI Q w v l) (hs : ∀ k, Q k → k < w.heap.size → w'.heap[k]? = w.heap[k]? ∧ Q' k) : RI Q' w' v l := by
  obtain ⟨A, c, hv, hc, hr⟩ := h
  refine ⟨A, c, hv, hc, fun hl => ?_⟩
  obtain ⟨g, o, hA, hg, hcell⟩ := hr hl
  have hlt : g < w.heap.size := by
    have h1 := hcell 0 hl
    have hs1 : (ints l)[0]? = some (.int .i64 l[0]) := by simp [ints, hl]
    rw [hs1] at h1
    exact cell_lt h1
  obtain ⟨h1, h2⟩ := hs g hg hlt
  exact ⟨g, o, hA, h2, fun j hj => (World.cell?_of_block h1).trans (hcell j hj)⟩
theorem RefIs.same {Q Q' : Nat → Prop} {w w' : World} {v : Value} {fl : Nat → RFl} {row : List Int} (h : RefIs Q w v fl row) (hs : ∀ k, Q k → k < w.heap.size → w'.heap[k]? = w.heap[k]? ∧ Q' k) : RefIs Q' w' v fl row := by
  obtain ⟨g, c, kv, rv, hv, hc, hF, hr⟩ := h.ex
  have hlt : g < w.heap.size := cell_lt (hF.c0 0 (by omega))
  obtain ⟨h1, h2⟩ := hs g hF.qg hlt
  have k : ∀ {o : Nat} {u : Value}, w.cell? ⟨g, o, none⟩ = some u → w'.cell? ⟨g, o, none⟩ = some u := fun hp => (World.cell?_of_block h1).trans hp
  exact ⟨g, c, kv, rv, hv, hc, ⟨fun j hj => k (hF.c0 j hj), fun j hj => k (hF.c1 j hj), fun j hj => k (hF.c2 j hj), fun j hj => k (hF.c3 j hj), fun j hj => k (hF.c4 j hj), fun j hj => k (hF.c5 j hj), fun j hj => (hF.cs j hj).same hs, h2⟩, hr.same hs⟩

/-- The ring g knows the blocks S, the document's ring lies in the box W. -/
structure StB (w : World) (B : Nat) (S : Nat → Prop) (g W : Nat) (F R : Value) (ad : Int → Option Nat) (st : Int → FS) (row : List Int) (N : Nat) (wr : World) : Prop where
  ring : Rg wr S g ad st row N
  sB : ∀ k, S k → B ≤ k ∧ k < wr.heap.size
  nW : ¬ S W
  bW : B ≤ W
  box : Blk wr W 46 #[F, R]
  bel : Below B w wr

section
variable {w : World} {B : Nat} {S : Nat → Prop} {g W : Nat} {F R : Value} {ad : Int → Option Nat} {st : Int → FS} {row : List Int} {N : Nat} {wr w' : World}
theorem StB.up (h : StB w B S g W F R ad st row N wr) : Up (fun k => ¬ S k) wr := fun k hk hS => by have := (h.sB k hS).2; omega
theorem StB.sz (h : StB w B S g W F R ad st row N wr) : W < wr.heap.size := h.box.lt
theorem StB.below (h : StB w B S g W F R ad st row N wr) (hb : Below wr.heap.size wr w') : StB w B S g W F R ad st row N w' := by
  obtain ⟨M, rv, cv, hR⟩ := h.ring
  have := h.sz
  have hB := h.bW
  have hs := hb.size
  exact ⟨⟨M, rv, cv, hR.below hb⟩, fun k hk => ⟨(h.sB k hk).1, by have := (h.sB k hk).2; omega⟩, h.nW, h.bW, h.box.below hb h.sz, h.bel.trans (hb.mono (by omega))⟩
theorem StB.cells (h : StB w B S g W F R ad st row N wr) : wr.cell? ⟨W, 0, none⟩ = some F ∧ wr.cell? ⟨W, 1, none⟩ = some R ∧ wr.frozen? ⟨W, 0, none⟩ = false ∧ wr.frozen? ⟨W, 1, none⟩ = false :=
  ⟨by simpa using h.box.cell 0, by simpa using h.box.cell 1, h.box.frozen 0, h.box.frozen 1⟩
theorem StB.put1 (h : StB w B S g W F R ad st row N wr) (i : Nat) (u : Value) {F' R' : Value} (he : (#[F, R] : Array Value).setIfInBounds i u = #[F', R']) : StB w B S g W F' R' ad st row N (wr.setCell ⟨W, i, none⟩ u) := by
  obtain ⟨M, rv, cv, hR⟩ := h.ring
  refine ⟨⟨M, rv, cv, hR.same fun k hk _ => Below.heap_setCell _ _ _ _ (fun e => h.nW (by have e' : k = W := e; rw [← e']; exact hk))⟩, fun k hk => ⟨(h.sB k hk).1, by have := (h.sB k hk).2; simpa [World.setCell] using this⟩, h.nW, h.bW, he ▸ h.box.set_ i u, h.bel.setCell (p := ⟨W, i, none⟩) h.bW _⟩
theorem StB.setW (h : StB w B S g W F R ad st row N wr) (F' R' : Value) : StB w B S g W F' R' ad st row N ((wr.setCell ⟨W, 0, none⟩ F').setCell ⟨W, 1, none⟩ R') :=
  (h.put1 (F' := F') (R' := R) 0 F' rfl).put1 1 R' rfl
theorem RefIs.setW {Q : Nat → Prop} {v : Value} {fl : Nat → RFl} {row' : List Int} {A A' A2 : Option Addr} {n n' n2 c c' c2 : Nat} (h : StB w B S g W (.slice A n c) (.slice A' n' c') ad st row N wr) (hI : RefIs Q wr v fl row') (x : Value) : RefIs Q ((wr.setCell ⟨W, 0, none⟩ (.slice A2 n2 c2)).setCell ⟨W, 1, none⟩ x) v fl row' :=
  (hI.setBox (Sl.of_blk h.box) 0 _).setBox ((Sl.of_blk h.box).set_ 0 A2 n2 c2) 1 x

/-- What an operation of the ring hands back. -/
def StRet (w : World) (B : Nat) (S : Nat → Prop) (g W : Nat) (F R : Value) (ad : Int → Option Nat) (st : Int → FS) (row : List Int) (N : Nat) (wr : World) (v : Value) (x : Ending) (w' : World) : Prop :=
  x = .returned v ∧ ∃ S', StB w B S' g W F R ad st row N w' ∧ ∀ v' fl r, RefIs (fun k => ¬ S k) wr v' fl r → RefIs (fun k => ¬ S' k) w' v' fl r
theorem StB.ret (h : StB w B S g W F R ad st row N wr) {ad' : Int → Option Nat} {st' : Int → FS} {row' : List Int} {N' : Nat} {v : Value} {x : Ending} (r : RetR wr (fun k => S k ∨ wr.heap.size ≤ k) g ad' st' row' N' v x w') :
    StRet w B S g W F R ad' st' row' N' wr v x w' := by
  obtain ⟨hx, hm, M, rv, cv, hR⟩ := r
  have hsz := h.sz
  have hs' := hm.size
  have hB := h.bW
  have hkeep : ∀ k, k < wr.heap.size → ¬ S k → w'.heap[k]? = wr.heap[k]? := fun k hk hS => hm.block k hk (fun e => by rcases e with e | e; exact hS e; omega)
  refine ⟨hx, fun k => (S k ∨ wr.heap.size ≤ k) ∧ k < w'.heap.size, ⟨⟨M, rv, cv, hR.more fun k hk hlt => ⟨hk, hlt⟩⟩, fun k hk => ⟨?_, hk.2⟩, ?_, h.bW, ?_, ?_⟩, fun v' fl r hI => hI.same fun k hk hlt => ⟨hkeep k hlt hk, ?_⟩⟩
  · rcases hk.1 with e | e
    · exact (h.sB k e).1
    · omega
  · rintro ⟨e | e, _⟩
    · exact h.nW e
    · omega
  · show w'.heap[W]? = _
    rw [hkeep W hsz h.nW]; exact h.box
  · exact hm.below h.bel (fun k hk => by rcases hk with e | e; exact (h.sB k e).1; omega) (by omega)
  · rintro ⟨e | e, _⟩
    · exact hk e
    · omega
theorem StB.ret0 (h : StB w B S g W F R ad st row N wr) {v : Value} {x : Ending} (r : x = .returned v ∧ wr = w') : StRet w B S g W F R ad st row N wr v x w' := by
  obtain ⟨rfl, rfl⟩ := r
  exact ⟨rfl, S, h, fun _ _ _ hI => hI⟩
theorem StB.ringUp (h : StB w B S g W F R ad st row N wr) : Rg wr (fun k => S k ∨ wr.heap.size ≤ k) g ad st row N := by
  obtain ⟨M, rv, cv, hR⟩ := h.ring
  exact ⟨M, rv, cv, hR.more fun k hk _ => .inl hk⟩

theorem StB.set_ (h : StB w B S g W F R ad st row N wr) (hN : N ≤ 100000) {n q : Int} (h0 : 0 ≤ n) (h8 : n ≤ 8) (hq1 : 1 ≤ q) (hq2 : q ≤ 1048576) :
    Calls Try.prog 7 #[.pointer (some ⟨g, 0, none⟩), .int .i64 n, .int .i64 q] wr fun x w' => ∃ ad', (∀ m, m ≠ n → ad' m = ad m) ∧ ad' n ≠ none ∧ StRet w B S g W F R ad' (setF st n (setQ (stOf ad st n) q)) row (N + 1) wr (.int .i64 0) x w' := by
  obtain ⟨M, rv, cv, hR⟩ := h.ringUp
  refine (set_c wr _ g M rv cv ad st row N hR (fun k hk => .inr hk) hN n q ⟨by omega, by omega⟩ h0 h8 hq1 hq2).mono ?_
  rintro x w' ⟨ad', h1, h2, h3, hr⟩
  exact ⟨ad', h1, h2, h.ret hr⟩
theorem StB.setNo (h : StB w B S g W F R ad st row N wr) {n q : Int} (hn : ¬ (0 ≤ n ∧ n ≤ 8 ∧ 1 ≤ q ∧ q ≤ 1048576)) :
    Calls Try.prog 7 #[.pointer (some ⟨g, 0, none⟩), .int .i64 n, .int .i64 q] wr (StRet w B S g W F R ad st row N wr (.int .i64 1)) := by
  obtain ⟨M, rv, cv, hR⟩ := h.ring
  exact (set_refused wr S g M rv cv ad st row N hR n q hn).mono fun x w' r => h.ret0 r
theorem StB.push_ (h : StB w B S g W F R ad st row N wr) (hN : N ≤ 100000) {n c : Int} (hi : I64 n) (h1 : 1 ≤ c) (h2 : c ≤ 1040) (hn : ad n ≠ none) :
    Calls Try.prog 8 #[.pointer (some ⟨g, 0, none⟩), .int .i64 n, .int .i64 c] wr (StRet w B S g W F R ad (pushA st row n c).1 (pushA st row n c).2 (N + 1) wr (.int .i64 0)) := by
  obtain ⟨M, rv, cv, hR⟩ := h.ringUp
  cases hb : ad n with
  | none => exact absurd hb hn
  | some b => exact (pushr_c wr _ g M rv cv ad st row N hR (fun k hk => .inr hk) hN n c hi h1 h2 b hb).mono fun x w' r => h.ret r
theorem StB.pushForm (h : StB w B S g W F R ad st row N wr) {n c : Int} (hi : I64 n) (hc : ¬ (1 ≤ c ∧ c ≤ 1040)) :
    Calls Try.prog 8 #[.pointer (some ⟨g, 0, none⟩), .int .i64 n, .int .i64 c] wr (StRet w B S g W F R ad st row N wr (.int .i64 1)) := by
  obtain ⟨M, rv, cv, hR⟩ := h.ring
  exact ((push_refused wr S g M rv cv ad st row N hR n c hi).1 (by omega)).mono fun x w' r => h.ret0 r
theorem StB.pushNone (h : StB w B S g W F R ad st row N wr) {n c : Int} (hi : I64 n) (h1 : 1 ≤ c) (h2 : c ≤ 1040) (hn : ad n = none) :
    Calls Try.prog 8 #[.pointer (some ⟨g, 0, none⟩), .int .i64 n, .int .i64 c] wr (StRet w B S g W F R ad st row N wr (.int .i64 12)) := by
  obtain ⟨M, rv, cv, hR⟩ := h.ring
  exact ((push_refused wr S g M rv cv ad st row N hR n c hi).2 h1 h2 hn).mono fun x w' r => h.ret0 r
theorem StB.rest_ (h : StB w B S g W F R ad st row N wr) {n : Int} (hi : I64 n) (v : Bool) (hn : ad n ≠ none) :
    Calls Try.prog 9 #[.pointer (some ⟨g, 0, none⟩), .int .i64 n, .bool v] wr (StRet w B S g W F R ad (restA st row n v).1 (restA st row n v).2 N wr (.int .i64 0)) := by
  obtain ⟨M, rv, cv, hR⟩ := h.ringUp
  cases hb : ad n with
  | none => exact absurd hb hn
  | some b => exact (rest_c wr _ g M rv cv ad st row N hR (fun k hk => .inr hk) n hi v b hb).mono fun x w' r => h.ret r
theorem StB.restNone (h : StB w B S g W F R ad st row N wr) {n : Int} (hi : I64 n) (v : Bool) (hn : ad n = none) :
    Calls Try.prog 9 #[.pointer (some ⟨g, 0, none⟩), .int .i64 n, .bool v] wr (StRet w B S g W F R ad st row N wr (.int .i64 12)) := by
  obtain ⟨M, rv, cv, hR⟩ := h.ring
  exact (rest_none wr S g M rv cv ad st row N hR n hi v hn).mono fun x w' r => h.ret0 r
theorem StB.drop_ (h : StB w B S g W F R ad st row N wr) {n : Int} (hi : I64 n) (hn : ad n ≠ none) :
    Calls Try.prog 20 #[.pointer (some ⟨g, 0, none⟩), .int .i64 n] wr (StRet w B S g W F R (put ad n none) (setF st n (leaveF (st n))) (row.erase n) N wr (.int .i64 (st n).cs.length)) := by
  obtain ⟨M, rv, cv, hR⟩ := h.ringUp
  cases hb : ad n with
  | none => exact absurd hb hn
  | some b => exact (drop_c wr _ g M rv cv ad st row N hR (fun k hk => .inr hk) n hi b hb).mono fun x w' r => h.ret r
theorem StB.dropNone (h : StB w B S g W F R ad st row N wr) {n : Int} (hi : I64 n) (hn : ad n = none) :
    Calls Try.prog 20 #[.pointer (some ⟨g, 0, none⟩), .int .i64 n] wr (StRet w B S g W F R ad st row N wr (.int .i64 0)) := by
  obtain ⟨M, rv, cv, hR⟩ := h.ring
  exact (drop_none wr S g M rv cv ad st row N hR n hi hn).mono fun x w' r => h.ret0 r
theorem StB.turn_ (h : StB w B S g W F R ad st row N wr) (hN : N ≤ 100000) (hok : RowOk st row) (hne : row ≠ []) {st1 : Int → FS} {row1 : List Int} {m c : Int} (ht : Turns st row st1 row1 m c) :
    Calls Try.prog 10 #[.pointer (some ⟨g, 0, none⟩)] wr (StRet w B S g W F R ad st1 row1 N wr (.tuple #[.int .i64 m, .int .i64 c, .bool true])) := by
  obtain ⟨M, rv, cv, hR⟩ := h.ringUp
  refine (turn_c wr _ g M rv cv ad st row N hR (fun k hk => .inr hk) hok hne hN).mono ?_
  rintro x w' ⟨st', row', n, c', ht', hr⟩
  obtain ⟨rfl, rfl, rfl, rfl⟩ := turns_det ht ht'
  exact h.ret hr
theorem StB.turn0 (h : StB w B S g W F R ad st [] N wr) :
    Calls Try.prog 10 #[.pointer (some ⟨g, 0, none⟩)] wr (StRet w B S g W F R ad st [] N wr (.tuple #[.int .i64 0, .int .i64 0, .bool false])) := by
  obtain ⟨M, rv, cv, hR⟩ := h.ring
  exact (turn_empty wr S g M rv cv ad st N hR).mono fun x w' r => h.ret0 r
theorem StB.same_ (h : StB w B S g W F R ad st row N wr) (hI : StepI ad st row) (hN : N ≤ 100000) (hR : RefIs (fun k => ¬ S k) wr (.agg #[F, R]) (flA9 ad st) row) :
    Calls Try.prog 22 #[.pointer (some ⟨g, 0, none⟩), .agg #[F, R]] wr (Tells wr true) := by
  obtain ⟨M, rv, cv, hRg⟩ := h.ring
  exact same_c wr S g M rv cv ad st row N hRg hN (fun n hn => (hI.fl n hn).cs) _ hR
theorem StB.len (h : StB w B S g W F R ad st row N wr) (n : Int) (hn : ad n ≠ none) : (st n).cs.length ≤ N := by
  obtain ⟨M, rv, cv, hR⟩ := h.ring
  cases hb : ad n with
  | none => exact absurd hb hn
  | some b => exact hR.len n b hb
end

/-! The document's answers, as the ring's. -/
section
variable {ad ad' : Int → Option Nat} {st : Int → FS} {row : List Int}
theorem flA9_flOf (ad : Int → Option Nat) (st : Int → FS) : flA9 ad st = flOf (fun j => (ad j).isSome) st := by
  funext j
  unfold flA9 flOf stOf
  cases hh : ad (j : Int) <;> simp [hh]
theorem tie_set {n : Nat} {q : Int} (h1 : ∀ m, m ≠ (n : Int) → ad' m = ad m) (h2 : ad' (n : Int) ≠ none) : updV (flA9 ad st) n ⟨true, setQ (flA9 ad st n).f q⟩ = flA9 ad' (setF st n (setQ (stOf ad st n) q)) := by
  funext j
  by_cases e : j = n
  · subst e
    rw [updV_at]
    unfold flA9 stOf
    rw [if_neg h2, setF_at]
    cases hh : ad' (j : Int) with
    | none => exact absurd hh h2
    | some b => rfl
  · rw [updV_ne _ _ e]
    have e' : (j : Int) ≠ n := by omega
    unfold flA9 stOf
    rw [h1 _ e', setF_ne _ _ e']
theorem there_yes (hk : ∀ n, ad n ≠ none → 0 ≤ n ∧ n ≤ 8) {n : Int} (hn : ad n ≠ none) : ∃ m : Nat, n = m ∧ m < 9 ∧ (flA9 ad st m).there = true := by
  obtain ⟨h0, h8⟩ := hk n hn
  obtain ⟨m, rfl⟩ := Int.eq_ofNat_of_zero_le h0
  refine ⟨m, rfl, by omega, ?_⟩
  show (ad (m : Int)).isSome = true
  cases hh : ad (m : Int) with
  | none => exact absurd hh hn
  | some b => rfl
theorem there_no {n : Int} (hn : ad n = none) : thereB (flA9 ad st) n = false := by
  unfold thereB flA9
  by_cases h0 : 0 ≤ n
  · rw [show ((n.toNat : Nat) : Int) = n by omega, hn]
    simp
  · simp [h0]
theorem tie_settle {n : Nat} (hd : row.Nodup) (hn : (flA9 ad st n).there = true) (f : FS → FS) : setlA (updV (flA9 ad st) n ⟨true, f (flA9 ad st n).f⟩) row n = (flA9 ad (settleA (setF st n (f (st n))) row n).1, (settleA (setF st n (f (st n))) row n).2) := by
  have hf : (flA9 ad st n).f = st n := by
    show stOf ad st n = st n
    refine if_neg fun e => ?_
    have : (ad (n : Int)).isSome = true := hn
    rw [e] at this
    cases this
  have hT : (fun j : Nat => (ad j).isSome) n = true := hn
  rw [hf, flA9_flOf, flA9_flOf, flOf_set hT, setl_settle hT hd]
theorem tie_drop {n : Nat} (hd : row.Nodup) : setlA (updV (flA9 ad st) n ⟨false, zeroF⟩) row n = (flA9 (put ad n none) (setF st n (leaveF (st n))), row.erase n) := by
  unfold setlA settleF settleRow actR
  rw [updV_at]
  simp only [Bool.false_and, Bool.false_eq_true, if_false]
  rw [wo_erase _ hd]
  congr 1
  funext j
  by_cases e : j = n
  · subst e
    rw [updV_at]
    unfold flA9 stOf put
    simp [leaveF, zeroF]
  · rw [updV_ne _ _ e, updV_ne _ _ e]
    have e' : (j : Int) ≠ n := by omega
    unfold flA9 stOf put
    rw [setF_ne _ _ e']
    simp [e']
theorem drop_len {n : Nat} (hn : (flA9 ad st n).there = true) : (flA9 ad st n).f.cs.length = (st n).cs.length := by
  have hf : (flA9 ad st n).f = st n := by
    show stOf ad st n = st n
    refine if_neg fun e => ?_
    have : (ad (n : Int)).isSome = true := hn
    rw [e] at this
    cases this
  rw [hf]
theorem StepI.rOk (h : StepI ad st row) {N : Nat} (hl : ∀ n, ad n ≠ none → (st n).cs.length ≤ N) : ROk (fun j => (ad j).isSome) st row N := by
  refine ⟨h.rowOk, h.nd, fun n hn => ?_, fun n hn => hl n ((h.act n).1 hn).1, ?_⟩
  · have hne := ((h.act n).1 hn).1
    obtain ⟨h0, h8⟩ := h.key n hne
    refine ⟨h0, h8, ?_⟩
    show (ad (n.toNat : Int)).isSome = true
    rw [show ((n.toNat : Nat) : Int) = n by omega]
    cases hh : ad n with
    | none => exact absurd hh hne
    | some b => rfl
  · have := nodup_len (l' := (List.range 9).map fun (j : Nat) => (j : Int)) h.nd (fun x hx => by
      obtain ⟨h0, h8⟩ := h.key x ((h.act x).1 hx).1
      refine List.mem_map.2 ⟨x.toNat, by simp; omega, by omega⟩)
    simp at this
    omega
end
end Go.Proofs.Ytaenlieajlfkdaa
