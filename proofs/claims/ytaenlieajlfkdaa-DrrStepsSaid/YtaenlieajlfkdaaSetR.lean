/- What Set does. -/
import Derived.Test.YtaenlieajlfkdaaTurn2
namespace Go.Proofs.Ytaenlieajlfkdaa
open Go.RowKit Go.Maps
set_option linter.unusedVariables false
set_option linter.unnecessarySimpa false
set_option linter.unusedSimpArgs false

def setQ (f : FS) (q : Int) : FS := { f with q := q, d := if f.d < q then f.d else q }

section
variable {w : World} {S : Nat → Prop} {g : Nat} {M rv : Value} {cv : Int → Value} {ad : Int → Option Nat} {st : Int → FS} {row : List Int} {N : Nat}
theorem RgE.mkmap (h : RgE w S g (.map none) rv cv ad st row N) (hS : S w.heap.size) :
    RgE ((w.setCell ⟨g, 0, none⟩ (.map (some w.heap.size))).alloc (.map #[] 0)) S g (.map (some w.heap.size)) rv cv ad st row N ∧ (∀ k, ad k = none) ∧ Moved w ((w.setCell ⟨g, 0, none⟩ (.map (some w.heap.size))).alloc (.map #[] 0)) S := by
  have hno : ∀ k, ad k = none := by
    rcases h.map with ⟨_, h⟩ | ⟨m, D, hm, _⟩
    · exact h
    · cases hm
  have had : ad = fun _ => none := funext hno
  have hrow : row = [] := by
    cases row with
    | nil => rfl
    | cons n r => obtain ⟨b, hb⟩ := h.rin n (by simp); rw [hno n] at hb; cases hb
  have hz : (w.setCell ⟨g, 0, none⟩ (.map (some w.heap.size))).heap.size = w.heap.size := by simp [World.setCell]
  refine ⟨⟨?_, h.gS, ?_, fun n b hb => ?_, fun n b hb => ?_, ?_, h.rin, h.nd, h.dis, h.key, h.len⟩, hno, ?_⟩
  · exact (h.ring.set_ 0 (.map (some w.heap.size))).alloc _
  · have := MapIs.made (S := S) (w.setCell ⟨g, 0, none⟩ (.map (some w.heap.size))) (by rw [hz]; exact hS)
    rw [hz] at this
    rw [had]
    exact this.mono (Nat.zero_le _)
  · rw [hno n] at hb; cases hb
  · rw [hno n] at hb; cases hb
  · subst hrow
    refine h.rwin.same fun k hk => ?_
    obtain ⟨_, cur, hcur⟩ := h.rwin.lt k hk
    have hlt := heap_lt hcur
    rw [Below.heap_alloc _ _ _ (by rw [hz]; exact hlt)]
    exact Below.heap_setCell _ _ _ _ (show k ≠ g from ne_of hcur h.ring (by decide))
  · exact Moved.of_grown (row := some g) (only_alloc (only_setg (only_refl _ _) 0 _) _) (fun k e => by injection e with e; exact e ▸ h.gS)

theorem RgE.newflow {m : Nat} (h : RgE w S g (.map (some m)) rv cv ad st row N) (hS : S w.heap.size) {n : Int} (hn : ad n = none) (h0 : 0 ≤ n) (h8 : n ≤ 8) {w2 : World}
    (hm2 : MapIs w2 S (.map (some m)) (put ad n (some w.heap.size)) (N + 1)) (hg2 : (w.alloc (.cells #[.int .i64 n, .int .i64 0, .int .i64 0, .slice none 0 0, .bool false, .bool false] 59)).grownBy w2 (some m)) :
    RgE w2 S g (.map (some m)) rv (setV cv n (.slice none 0 0)) (put ad n (some w.heap.size)) (setF st n zeroF) row (N + 1) ∧ Moved w w2 S := by
  obtain ⟨hSm, es, cl, hm⟩ := h.map.lt
  have hmlt := heap_lt hm
  have hkeep : ∀ {k : Nat} {cs : Array Value} {t : TypeId} {fz : Nat × Nat}, w.heap[k]? = some (.cells cs t fz) → w2.heap[k]? = w.heap[k]? := fun hk => by
    have hlt := heap_lt hk
    rw [hg2.block _ (by simp; omega) (fun e => by injection e with e; exact ne_map hk hm e)]
    exact Below.heap_alloc _ _ _ hlt
  have hnr : ∀ k, k ∈ row → k ≠ n := fun k hk e => by
    obtain ⟨b, hb⟩ := h.rin k hk
    rw [e, hn] at hb; cases hb
  have hpat : put ad n (some w.heap.size) n = some w.heap.size := if_pos rfl
  have hpne : ∀ k, k ≠ n → put ad n (some w.heap.size) k = ad k := fun k e => if_neg e
  have hvat : setV cv n (.slice none 0 0) n = .slice none 0 0 := if_pos rfl
  have hvne : ∀ k, k ≠ n → setV cv n (.slice none 0 0) k = cv k := fun k e => if_neg e
  refine ⟨⟨(hkeep h.ring).trans h.ring, h.gS, hm2, fun k b hb => ?_, fun k b hb => ?_, ?_, fun k hk => ?_, h.nd, ?_, fun k b hb => ?_, fun k b hb => ?_⟩, ?_⟩
  · by_cases e : k = n
    · subst e
      rw [hpat] at hb; injection hb with hb; subst hb
      rw [setF_at, hvat]
      refine ⟨hS, ?_⟩
      have := (Blk.new w 59 #[.int .i64 k, .int .i64 0, .int .i64 0, .slice none 0 0, .bool false, .bool false]).grown hg2 (fun e => by injection e with e; omega)
      exact this
    · rw [hpne k e] at hb
      rw [setF_ne _ _ e, hvne k e]
      exact ⟨(h.fl k b hb).1, (hkeep (h.fl k b hb).2).trans (h.fl k b hb).2⟩
  · by_cases e : k = n
    · subst e
      rw [setF_at, hvat]
      exact .inl ⟨rfl, rfl⟩
    · rw [hpne k e] at hb
      rw [setF_ne _ _ e, hvne k e]
      refine (h.cs k b hb).same fun j hj => ?_
      obtain ⟨_, cur, hcur⟩ := (h.cs k b hb).lt j hj
      exact hkeep hcur
  · have e : blks (put ad n (some w.heap.size)) row = blks ad row := by
      unfold blks
      apply List.map_congr_left
      intro k hk
      unfold adr
      rw [hpne k (hnr k hk)]
    rw [e]
    refine h.rwin.same fun j hj => ?_
    obtain ⟨_, cur, hcur⟩ := h.rwin.lt j hj
    exact hkeep hcur
  · rw [hpne k (hnr k hk)]
    exact h.rin k hk
  · intro k k' b b' j hne hb hb' hj hj'
    by_cases e : k = n
    · subst e; rw [hvat] at hj; cases hj
    · by_cases e' : k' = n
      · subst e'; rw [hvat] at hj'; cases hj'
      · rw [hvne k e] at hj
        rw [hvne k' e'] at hj'
        rw [hpne k e] at hb
        rw [hpne k' e'] at hb'
        exact h.dis k k' b b' j hne hb hb' hj hj'
  · by_cases e : k = n
    · subst e; exact ⟨h0, h8⟩
    · rw [hpne k e] at hb; exact h.key k b hb
  · by_cases e : k = n
    · subst e; rw [setF_at]; exact Nat.zero_le _
    · rw [hpne k e] at hb; rw [setF_ne _ _ e]; exact Nat.le_trans (h.len k b hb) (Nat.le_succ _)
  · refine Moved.trans (Moved.of_grown (row := none) (only_of_below ((Below.refl _ _).alloc (Nat.le_refl _) _) none) (by simp)) (Moved.of_grown hg2 (fun k e => by injection e with e; exact e ▸ hSm))

theorem RgE.setQ_ (h : RgE w S g M rv cv ad st row N) {n : Int} {b : Nat} (hn : ad n = some b) (q : Int) :
    RgE ((w.setCell ⟨b, 1, none⟩ (.int .i64 q)).setCell ⟨b, 2, none⟩ (.int .i64 (setQ (st n) q).d)) S g M rv cv ad (setF st n (setQ (st n) q)) row N ∧
    Moved w ((w.setCell ⟨b, 1, none⟩ (.int .i64 q)).setCell ⟨b, 2, none⟩ (.int .i64 (setQ (st n) q).d)) S := by
  have hf : FlB ((w.setCell ⟨b, 1, none⟩ (.int .i64 q)).setCell ⟨b, 2, none⟩ (.int .i64 (setQ (st n) q).d)) b n (setQ (st n) q) (cv n) := ((h.fl n b hn).2.set_ 1 (.int .i64 q)).set_ 2 (.int .i64 (setQ (st n) q).d)
  refine ⟨h.flow hn (fun k hk hkb => ?_) hf rfl, Moved.of_grown (row := some b) (only_setg (only_setg (only_refl _ _) 1 _) 2 _) (fun k e => by injection e with e; exact e ▸ (h.fl n b hn).1)⟩
  rw [Below.heap_setCell _ _ _ _ (show k ≠ b from hkb), Below.heap_setCell _ _ _ _ (show k ≠ b from hkb)]
end

theorem eql_map_some (w : World) (m : Nat) : (binOp .eql 25 (.map (some m)) (.map none)).run Try.prog w = .ok (.bool false) w := run_eql_map_nil w 25 _ _ (some m) Try.underlying25
theorem eql_map_none (w : World) : (binOp .eql 25 (.map none) (.map none)).run Try.prog w = .ok (.bool true) w := run_eql_map_nil w 25 _ _ none Try.underlying25

def SetRet (w : World) (S : Nat → Prop) (g : Nat) (ad : Int → Option Nat) (st : Int → FS) (row : List Int) (N : Nat) (n q : Int) (x : Ending) (w' : World) : Prop :=
  ∃ ad', (∀ m, m ≠ n → ad' m = ad m) ∧ ad' n ≠ none ∧ (ad n ≠ none → ad' = ad) ∧ RetR w S g ad' (setF st n (setQ (stOf ad st n) q)) row (N + 1) (.int .i64 0) x w'

theorem num_ok (w : World) (n : Int) (h0 : 0 ≤ n) (h8 : n ≤ 8) : Calls Try.prog 23 #[.int .i64 n] w fun x w' => x = .returned (.bool true) ∧ w = w' :=
  (numbered_c w n).mono (by rintro x w' ⟨rfl, rfl⟩; exact ⟨ret_bool (by simp [h0, h8]), rfl⟩)

set_option maxHeartbeats 1000000 in
theorem set_there (w : World) (S : Nat → Prop) (g : Nat) (M rv : Value) (cv : Int → Value) (ad : Int → Option Nat) (st : Int → FS) (row : List Int) (N : Nat) (h : RgE w S g M rv cv ad st row N) (hup : ∀ k, w.heap.size ≤ k → S k) (hN : N ≤ 100000) (n q : Int) (hi : I64 n) (h0 : 0 ≤ n) (h8 : n ≤ 8) (hq1 : 1 ≤ q) (hq2 : q ≤ 1048576) (b : Nat) (hnb : ad n = some b) :
    Calls Try.prog 7 #[.pointer (some ⟨g, 0, none⟩), .int .i64 n, .int .i64 q] w (SetRet w S g ad st row N n q) := by
  obtain ⟨m, rfl⟩ : ∃ m, M = .map (some m) := by
    rcases h.map with ⟨_, h⟩ | ⟨m, D, hm, _⟩
    · rw [h n] at hnb; cases hnb
    · exact ⟨m, hm⟩
  have hl := h.map.lookup hi
  rw [hnb] at hl
  have c0 : w.cell? ⟨g, 0, none⟩ = some (.map (some m)) := by simpa using h.ring.cell 0
  have hso : stOf ad st n = st n := if_neg (by rw [hnb]; simp)
  have hb : setQ (stOf ad st n) q = setQ (st n) q := by rw [hso]
  have HRN := Lib.hid h
  have hR9 := HRN.out.setQ_ hnb q
  have k2 := (HRN.out.fl n b hnb).2.c2
  have k1 := (HRN.out.fl n b hnb).2.c1
  have j1 := (HRN.out.fl n b hnb).2.fz 1
  have j2 := (HRN.out.fl n b hnb).2.fz 2
  have HR9 := Lib.hid hR9
  clear hR9
  have D1 := Lib.hid (num_ok w n h0 h8)
  have hD : (setQ (st n) q).d = if (st n).d < q then (st n).d else q := rfl
  have HFin : Hid (∀ x, x = (setQ (st n) q).d → SetRet w S g ad st row N n q (.returned (.int .i64 0)) ((w.setCell ⟨b, 1, none⟩ (.int .i64 q)).setCell ⟨b, 2, none⟩ (.int .i64 x))) := Lib.hid (by
    rintro x rfl
    refine ⟨ad, fun _ _ => rfl, by rw [hnb]; simp, fun _ => rfl, rfl, HR9.out.2, .map (some m), rv, cv, ?_⟩
    rw [hb]
    exact HR9.out.1.mono (Nat.le_succ _))
  simp only [ptr, Option.map_some] at hl
  generalize (st n).d = d at *
  clear h hb hso HR9 HRN
  have heq := fun w => eql_map_some w m
  by_cases hdq : d < q
  · rw [if_pos hdq] at hD
    have HD := Lib.hid hD
    clear hD
    go_enter Try.func7, Try.ntmps7
    go_wp2_with fail
    refine D1.out.mono ?_
    rintro e w' ⟨rfl, rfl⟩
    go_wp2_with fail
    all_goals
      go_ret
      exact HFin.out _ (by have := HD.out; omega)
  · rw [if_neg hdq] at hD
    have HD := Lib.hid hD
    clear hD
    go_enter Try.func7, Try.ntmps7
    go_wp2_with fail
    refine D1.out.mono ?_
    rintro e w' ⟨rfl, rfl⟩
    go_wp2_with fail
    all_goals
      go_ret
      exact HFin.out _ (by have := HD.out; omega)

theorem RgE.up_ {w WB : World} {S : Nat → Prop} {g : Nat} {M rv : Value} {cv : Int → Value} {ad : Int → Option Nat} {st : Int → FS} {row : List Int} {N : Nat} (_h : RgE WB S g M rv cv ad st row N) (hm : Moved w WB S) (hup : ∀ k, w.heap.size ≤ k → S k) : S WB.heap.size := hup _ hm.size

set_option maxHeartbeats 1000000 in
theorem set_new (w : World) (S : Nat → Prop) (g : Nat) (M rv : Value) (cv : Int → Value) (ad : Int → Option Nat) (st : Int → FS) (row : List Int) (N : Nat) (h : RgE w S g M rv cv ad st row N) (hup : ∀ k, w.heap.size ≤ k → S k) (hN : N ≤ 100000) (n q : Int) (hi : I64 n) (h0 : 0 ≤ n) (h8 : n ≤ 8) (hq1 : 1 ≤ q) (hq2 : q ≤ 1048576) (m : Nat) (hMm : M = .map (some m)) (hnn : ad n = none) :
    Calls Try.prog 7 #[.pointer (some ⟨g, 0, none⟩), .int .i64 n, .int .i64 q] w (SetRet w S g ad st row N n q) := by
  subst hMm
  have c0 : w.cell? ⟨g, 0, none⟩ = some (.map (some m)) := by simpa using h.ring.cell 0
  have hgl : g < w.heap.size := h.ring.lt
  have HRB := Lib.hid h
  have HMB := Lib.hid (Moved.refl w S)
  clear h
  have hlk : (Instr.lookup 25 (.map (some m)) (.int .i64 n) false).run Try.prog w = .ok (ptr none) w := by
    have := HRB.out.map.lookup hi
    rw [hnn] at this
    exact this
  have hszB : w.heap.size = w.heap.size := by rfl
  have hup1 : S w.heap.size := HRB.out.up_ HMB.out hup
  obtain ⟨w2, hrun, hm2, hg2⟩ := MapIs.update (HRB.out.alloc (.cells #[.int .i64 n, .int .i64 0, .int .i64 0, .slice none 0 0, .bool false, .bool false] 59)).map hi (some w.heap.size) (by unfold maxLen; omega)
  obtain ⟨hR2, hM2⟩ := HRB.out.newflow hup1 hnn h0 h8 hm2 hg2
  have hnb : put ad n (some w.heap.size) n = some w.heap.size := if_pos rfl
  have hso : stOf ad st n = zeroF := if_pos hnn
  have HRN := Lib.hid hR2
  have HM2 := Lib.hid (HMB.out.trans hM2)
  have hR9 := HRN.out.setQ_ hnb q
  have k2 := (HRN.out.fl n _ hnb).2.c2
  have k1 := (HRN.out.fl n _ hnb).2.c1
  have j1 := (HRN.out.fl n _ hnb).2.fz 1
  have j2 := (HRN.out.fl n _ hnb).2.fz 2
  rw [setF_at] at k1 k2 hR9
  have hD : (setQ zeroF q).d = 0 := if_pos (show (0 : Int) < q by omega)
  rw [hD] at hR9
  rw [setF_setF] at hR9
  have HFin : Hid (SetRet w S g ad st row N n q (.returned (.int .i64 0)) ((w2.setCell ⟨w.heap.size, 1, none⟩ (.int .i64 q)).setCell ⟨w.heap.size, 2, none⟩ (.int .i64 0))) := Lib.hid (by
    refine ⟨put ad n (some w.heap.size), fun m hm => if_neg hm, by rw [hnb]; simp, fun hc => absurd hnn hc, rfl, HM2.out.trans hR9.2, .map (some m), rv, setV cv n (.slice none 0 0), ?_⟩
    rw [hso]
    exact hR9.1)
  simp only [ptr, Option.map_none, Option.map_some] at hlk hrun
  rw [hszB] at hrun k1 k2 j1 j2 HFin
  simp only [zeroF] at k1 k2
  have D1 := Lib.hid (num_ok w n h0 h8)
  have Hg2 := Lib.hid hg2
  have hq0 : (0 : Int) < q := by omega
  clear hR9 hR2 hM2 hm2 hg2 hD hso hnb HRN HM2 HRB HMB
  have heq := fun w => eql_map_some w m
  go_enter Try.func7, Try.ntmps7
  go_wp2_with fail
  refine D1.out.mono ?_
  rintro e w' ⟨rfl, rfl⟩
  go_wp2_with fail
  go_ret
  exact HFin.out

set_option maxHeartbeats 1000000 in
theorem set_nil (w : World) (S : Nat → Prop) (g : Nat) (M rv : Value) (cv : Int → Value) (ad : Int → Option Nat) (st : Int → FS) (row : List Int) (N : Nat) (h : RgE w S g M rv cv ad st row N) (hup : ∀ k, w.heap.size ≤ k → S k) (hN : N ≤ 100000) (n q : Int) (hi : I64 n) (h0 : 0 ≤ n) (h8 : n ≤ 8) (hq1 : 1 ≤ q) (hq2 : q ≤ 1048576) (hMm : M = .map none) :
    Calls Try.prog 7 #[.pointer (some ⟨g, 0, none⟩), .int .i64 n, .int .i64 q] w (SetRet w S g ad st row N n q) := by
  subst hMm
  have c0 : w.cell? ⟨g, 0, none⟩ = some (.map none) := by simpa using h.ring.cell 0
  have f0 := h.ring.frozen 0
  obtain ⟨hR1, hno, hM1⟩ := h.mkmap (hup _ (Nat.le_refl _))
  have hnn := hno n
  have hgl : g < w.heap.size := h.ring.lt
  have HRB := Lib.hid hR1
  have HMB := Lib.hid hM1
  clear h hR1 hM1 hno
  have hlk : (Instr.lookup 25 (.map (some w.heap.size)) (.int .i64 n) false).run Try.prog ((w.setCell ⟨g, 0, none⟩ (.map (some w.heap.size))).alloc (.map #[] 0)) = .ok (ptr none) ((w.setCell ⟨g, 0, none⟩ (.map (some w.heap.size))).alloc (.map #[] 0)) := by
    have := HRB.out.map.lookup hi
    rw [hnn] at this
    exact this
  have hszB : ((w.setCell ⟨g, 0, none⟩ (.map (some w.heap.size))).alloc (.map #[] 0)).heap.size = w.heap.size + 1 := by simp [World.setCell]
  have hup1 : S ((w.setCell ⟨g, 0, none⟩ (.map (some w.heap.size))).alloc (.map #[] 0)).heap.size := HRB.out.up_ HMB.out hup
  obtain ⟨w2, hrun, hm2, hg2⟩ := MapIs.update (HRB.out.alloc (.cells #[.int .i64 n, .int .i64 0, .int .i64 0, .slice none 0 0, .bool false, .bool false] 59)).map hi (some ((w.setCell ⟨g, 0, none⟩ (.map (some w.heap.size))).alloc (.map #[] 0)).heap.size) (by unfold maxLen; omega)
  obtain ⟨hR2, hM2⟩ := HRB.out.newflow hup1 hnn h0 h8 hm2 hg2
  have hnb : put ad n (some ((w.setCell ⟨g, 0, none⟩ (.map (some w.heap.size))).alloc (.map #[] 0)).heap.size) n = some ((w.setCell ⟨g, 0, none⟩ (.map (some w.heap.size))).alloc (.map #[] 0)).heap.size := if_pos rfl
  have hso : stOf ad st n = zeroF := if_pos hnn
  have HRN := Lib.hid hR2
  have HM2 := Lib.hid (HMB.out.trans hM2)
  have hR9 := HRN.out.setQ_ hnb q
  have k2 := (HRN.out.fl n _ hnb).2.c2
  have k1 := (HRN.out.fl n _ hnb).2.c1
  have j1 := (HRN.out.fl n _ hnb).2.fz 1
  have j2 := (HRN.out.fl n _ hnb).2.fz 2
  rw [setF_at] at k1 k2 hR9
  have hD : (setQ zeroF q).d = 0 := if_pos (show (0 : Int) < q by omega)
  rw [hD] at hR9
  rw [setF_setF] at hR9
  have HFin : Hid (SetRet w S g ad st row N n q (.returned (.int .i64 0)) ((w2.setCell ⟨((w.setCell ⟨g, 0, none⟩ (.map (some w.heap.size))).alloc (.map #[] 0)).heap.size, 1, none⟩ (.int .i64 q)).setCell ⟨((w.setCell ⟨g, 0, none⟩ (.map (some w.heap.size))).alloc (.map #[] 0)).heap.size, 2, none⟩ (.int .i64 0))) := Lib.hid (by
    refine ⟨put ad n (some ((w.setCell ⟨g, 0, none⟩ (.map (some w.heap.size))).alloc (.map #[] 0)).heap.size), fun m hm => if_neg hm, by rw [hnb]; simp, fun hc => absurd hnn hc, rfl, HM2.out.trans hR9.2, .map (some w.heap.size), rv, setV cv n (.slice none 0 0), ?_⟩
    rw [hso]
    exact hR9.1)
  simp only [ptr, Option.map_none, Option.map_some] at hlk hrun
  rw [hszB] at hrun k1 k2 j1 j2 HFin
  simp only [zeroF] at k1 k2
  have D1 := Lib.hid (num_ok w n h0 h8)
  have Hg2 := Lib.hid hg2
  have hq0 : (0 : Int) < q := by omega
  clear hR9 hR2 hM2 hm2 hg2 hD hso hnb HRN HM2 HRB HMB
  have heq := fun w => eql_map_none w
  have hmk := fun w => run_makeMap (P := Try.prog) 25 w
  go_enter Try.func7, Try.ntmps7
  go_wp2_with fail
  refine D1.out.mono ?_
  rintro e w' ⟨rfl, rfl⟩
  go_wp2_with fail
  go_ret
  exact HFin.out

/-- A quantum is set. -/
theorem set_c (w : World) (S : Nat → Prop) (g : Nat) (M rv : Value) (cv : Int → Value) (ad : Int → Option Nat) (st : Int → FS) (row : List Int) (N : Nat) (h : RgE w S g M rv cv ad st row N) (hup : ∀ k, w.heap.size ≤ k → S k) (hN : N ≤ 100000) (n q : Int) (hi : I64 n) (h0 : 0 ≤ n) (h8 : n ≤ 8) (hq1 : 1 ≤ q) (hq2 : q ≤ 1048576)  :
    Calls Try.prog 7 #[.pointer (some ⟨g, 0, none⟩), .int .i64 n, .int .i64 q] w (SetRet w S g ad st row N n q) := by
  cases hn : ad n with
  | some b => exact set_there w S g M rv cv ad st row N h hup hN n q hi h0 h8 hq1 hq2 b hn
  | none =>
    rcases h.map with ⟨hm, _⟩ | ⟨m, D, hm, _⟩
    · exact set_nil w S g M rv cv ad st row N h hup hN n q hi h0 h8 hq1 hq2 hm
    · exact set_new w S g M rv cv ad st row N h hup hN n q hi h0 h8 hq1 hq2 m hm hn
end Go.Proofs.Ytaenlieajlfkdaa
