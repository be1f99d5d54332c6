/- What Rest, Push, Waits, Deficit, Cost do. -/
import Derived.Test.YtaenlieajlfkdaaOps1
namespace Go.Proofs.Ytaenlieajlfkdaa
open Go.RowKit Go.Maps
set_option linter.unusedVariables false
set_option linter.unnecessarySimpa false
set_option linter.unusedSimpArgs false

def Rg (w : World) (S : Nat → Prop) (g : Nat) (ad : Int → Option Nat) (st : Int → FS) (row : List Int) (N : Nat) : Prop := ∃ M rv cv, RgE w S g M rv cv ad st row N
def RetR (w : World) (S : Nat → Prop) (g : Nat) (ad : Int → Option Nat) (st : Int → FS) (row : List Int) (N : Nat) (v : Value) (x : Ending) (w' : World) : Prop :=
  x = .returned v ∧ Moved w w' S ∧ Rg w' S g ad st row N
theorem Moved.upper {w w' : World} {S : Nat → Prop} (h : Moved w w' S) (hup : ∀ k, w.heap.size ≤ k → S k) : ∀ k, w'.heap.size ≤ k → S k := fun k hk => hup k (Nat.le_trans h.size hk)

def restF (f : FS) (v : Bool) : FS := { f with rests := v }
def restA (st : Int → FS) (row : List Int) (n : Int) (v : Bool) : (Int → FS) × List Int := settleA (setF st n (restF (st n) v)) row n
def pushF (f : FS) (c : Int) : FS := { f with cs := f.cs ++ [c] }
def pushA (st : Int → FS) (row : List Int) (n : Int) (c : Int) : (Int → FS) × List Int := settleA (setF st n (pushF (st n) c)) row n

theorem rest_none (w : World) (S : Nat → Prop) (g : Nat) (M rv : Value) (cv : Int → Value) (ad : Int → Option Nat) (st : Int → FS) (row : List Int) (N : Nat) (h : RgE w S g M rv cv ad st row N) (n : Int) (hi : I64 n) (v : Bool) (hn : ad n = none) :
    Calls Try.prog 9 #[.pointer (some ⟨g, 0, none⟩), .int .i64 n, .bool v] w fun x w' => x = .returned (.int .i64 12) ∧ w = w' := by
  have C1 := find_c w S g M rv ad N n hi h.ring h.map
  rw [hn] at C1
  have D1 := Lib.hid C1
  clear C1 h
  go_enter Try.func9, Try.ntmps9
  go_wp2_with fail
  refine D1.out.mono ?_
  rintro e w' ⟨rfl, rfl⟩
  simp only [ptr, Option.map_none]
  go_wp2_with fail
  go_ret
  exact ⟨rfl, rfl⟩

theorem rest_c (w : World) (S : Nat → Prop) (g : Nat) (M rv : Value) (cv : Int → Value) (ad : Int → Option Nat) (st : Int → FS) (row : List Int) (N : Nat) (h : RgE w S g M rv cv ad st row N) (hup : ∀ k, w.heap.size ≤ k → S k) (n : Int) (hi : I64 n) (v : Bool) (b : Nat) (hn : ad n = some b) :
    Calls Try.prog 9 #[.pointer (some ⟨g, 0, none⟩), .int .i64 n, .bool v] w (RetR w S g ad (restA st row n v).1 (restA st row n v).2 N (.int .i64 0)) := by
  have C1 := find_c w S g M rv ad N n hi h.ring h.map
  rw [hn] at C1
  have hfl := (h.fl n b hn).2
  have c4 := hfl.c4
  have f4 := hfl.fz 4
  have hw1 : RgE (w.setCell ⟨b, 4, none⟩ (.bool v)) S g M rv cv ad (setF st n (restF (st n) v)) row N :=
    h.flow hn (f' := restF (st n) v) (fun k hk hkb => Below.heap_setCell _ _ _ _ (by simpa using hkb)) (hfl.set_ 4 (.bool v)) rfl
  have hm1 : Moved w (w.setCell ⟨b, 4, none⟩ (.bool v)) S :=
    Moved.of_grown (row := some b) (only_setg (only_refl _ _) 4 _) (fun k e => by injection e with e; exact e ▸ (h.fl n b hn).1)
  have C2 := settle_c _ S g M rv cv ad _ row N hw1 (hm1.upper hup) n b hn
  unfold restA
  have D1 := Lib.hid C1
  have D2 := Lib.hid C2
  have HM1 := Lib.hid hm1
  clear C1 C2 h hfl hw1 hm1
  go_enter Try.func9, Try.ntmps9
  go_wp2_with fail
  refine D1.out.mono ?_
  rintro e w' ⟨rfl, rfl⟩
  simp only [ptr, Option.map_some]
  go_wp2_with fail
  refine D2.out.mono ?_
  rintro e w' ⟨rfl, hm2, rv', hR⟩
  have HR := Lib.hid hR
  have HM := Lib.hid (HM1.out.trans hm2)
  clear hR hm2
  go_wp2_with fail
  go_ret
  exact ⟨rfl, HM.out, M, rv', cv, HR.out⟩

/-- A push that is refused. -/
theorem push_refused (w : World) (S : Nat → Prop) (g : Nat) (M rv : Value) (cv : Int → Value) (ad : Int → Option Nat) (st : Int → FS) (row : List Int) (N : Nat) (h : RgE w S g M rv cv ad st row N) (n c : Int) (hi : I64 n) :
    (c < 1 ∨ 1040 < c → Calls Try.prog 8 #[.pointer (some ⟨g, 0, none⟩), .int .i64 n, .int .i64 c] w fun x w' => x = .returned (.int .i64 1) ∧ w = w') ∧
    (1 ≤ c → c ≤ 1040 → ad n = none → Calls Try.prog 8 #[.pointer (some ⟨g, 0, none⟩), .int .i64 n, .int .i64 c] w fun x w' => x = .returned (.int .i64 12) ∧ w = w') := by
  have C1 := find_c w S g M rv ad N n hi h.ring h.map
  have D1 := Lib.hid C1
  clear C1 h
  constructor
  · intro hc
    by_cases h1 : c < 1
    · go_enter Try.func8, Try.ntmps8
      go_wp2_with fail
      refine D1.out.mono ?_
      rintro e w' ⟨rfl, rfl⟩
      go_wp2_with fail
      go_ret
      exact ⟨rfl, rfl⟩
    · have h2 : 1040 < c := by omega
      go_enter Try.func8, Try.ntmps8
      go_wp2_with fail
      refine D1.out.mono ?_
      rintro e w' ⟨rfl, rfl⟩
      go_wp2_with fail
      go_ret
      exact ⟨rfl, rfl⟩
  · intro h1 h2 hn
    rw [hn] at D1
    go_enter Try.func8, Try.ntmps8
    go_wp2_with fail
    refine D1.out.mono ?_
    rintro e w' ⟨rfl, rfl⟩
    simp only [ptr, Option.map_none]
    go_wp2_with fail
    go_ret
    exact ⟨rfl, rfl⟩

set_option maxHeartbeats 1000000 in
theorem pushr_c (w : World) (S : Nat → Prop) (g : Nat) (M rv : Value) (cv : Int → Value) (ad : Int → Option Nat) (st : Int → FS) (row : List Int) (N : Nat) (h : RgE w S g M rv cv ad st row N) (hup : ∀ k, w.heap.size ≤ k → S k) (hN : N ≤ 100000) (n c : Int) (hi : I64 n) (h1 : 1 ≤ c) (h2 : c ≤ 1040) (b : Nat) (hn : ad n = some b) :
    Calls Try.prog 8 #[.pointer (some ⟨g, 0, none⟩), .int .i64 n, .int .i64 c] w (RetR w S g ad (pushA st row n c).1 (pushA st row n c).2 (N + 1) (.int .i64 0)) := by
  have C1 := find_c w S g M rv ad N n hi h.ring h.map
  rw [hn] at C1
  have hfl := (h.fl n b hn).2
  have hlen := h.len n b hn
  have c3 := hfl.c3
  have f3 := hfl.fz 3
  have hblt : b < w.heap.size := Blk.lt hfl
  have D1 := Lib.hid C1
  have H := Lib.hid h
  have Hup := Lib.hid hup
  obtain ⟨i0, hi0, hz0, hz1, hz2⟩ := info_parts info3
  have HA := Lib.hid (h.alloc (.cells #[.int .i64 c] 3))
  have hcl := (Blk.new w 3 #[.int .i64 c]).cell 0
  have hcu : (w.alloc (.cells #[.int .i64 c] 3)).cell? ⟨w.heap.size, 0, none⟩ = some (.int .i64 c) := by simpa using hcl
  have HCU := Lib.hid hcu
  clear C1 h hfl hup hcl hcu
  unfold pushA
  go_enter Try.func8, Try.ntmps8
  go_wp2_with fail
  refine D1.out.mono ?_
  rintro e w' ⟨rfl, rfl⟩
  simp only [ptr, Option.map_some]
  go_wp2_with (at_builtin; refine wpList_append_win _ rfl (.tmp 28) (.tmp 30) 36 rfl 3 i0 _ Try.underlying36 hi0 hz0 hz1 hz2 rfl (v := cv n) rfl (HA.out.cs n b hn) ⟨w.heap.size, 0, none⟩ 1 (.int .i64 c) rfl HCU.out rfl ?_ ?_ ?_)
  · simp [ints]; omega
  · exact Hup.out _ (by simp)
  intro v' w3 hwin hg3 hor
  obtain ⟨A', c', rfl, _⟩ := hwin.form
  have hle : (ints (st n).cs ++ [Value.int .i64 c]).length = (st n).cs.length + 1 := by simp [ints]
  rw [hle] at hwin hor
  have hnb : ∀ k, (cv n).ownBlock = some k → k ≠ b := by
    intro k hk
    obtain ⟨_, cur, hcur⟩ := (H.out.cs n b hn).lt k hk
    exact ne_of hcur (H.out.fl n b hn).2 (by decide)
  have hfl3 : FlB w3 b n (st n) (cv n) := Blk.grown (HA.out.fl n b hn).2 hg3 (fun e => hnb b e.symm rfl)
  have c3' := hfl3.c3
  have f3' := hfl3.fz 3
  have hm3 : Moved w w3 S := Moved.trans (Moved.of_grown (row := none) (only_of_below ((Below.refl _ _).alloc (Nat.le_refl _) _) none) (by simp)) (Moved.of_grown hg3 (fun k hk => ((HA.out.cs n b hn).lt k hk).1))
  have hm4 : Moved w (w3.setCell ⟨b, 3, none⟩ (.slice A' ((st n).cs.length + 1) c')) S := hm3.trans (Moved.of_grown (row := some b) (only_setg (only_refl _ _) 3 _) (fun k e => by injection e with e; exact e ▸ (H.out.fl n b hn).1))
  have hints : ints (pushF (st n) c).cs = ints (st n).cs ++ [.int .i64 c] := by simp [ints, pushF]
  have hnew : ∀ k, (Value.slice A' ((st n).cs.length + 1) c').ownBlock = some k → (cv n).ownBlock = some k ∨ (w.alloc (.cells #[.int .i64 c] 3)).heap.size ≤ k := by
    intro k hk
    rcases hor with ho | ho
    · exact .inl (ho ▸ hk)
    · rw [ho] at hk; injection hk with hk; simp at hk ⊢; omega
  have hR4 : RgE (w3.setCell ⟨b, 3, none⟩ (.slice A' ((st n).cs.length + 1) c')) S g M rv (setV cv n (.slice A' ((st n).cs.length + 1) c')) ad (setF st n (pushF (st n) c)) row (N + 1) := by
    refine HA.out.costs hn (f' := pushF (st n) c) (fun k hk hkb hkc => ?_) (hfl3.set_ 3 _) ?_ hnew (by omega) (by simp [pushF]; omega)
    · rw [Below.heap_setCell _ _ _ _ (by simpa using hkb)]
      exact hg3.block k hk (fun e => hkc e.symm)
    · rw [hints]
      refine hwin.same fun k hk => Below.heap_setCell _ _ _ _ ?_
      rcases hnew k hk with h' | h'
      · exact hnb k h'
      · simp at h'; show k ≠ b; omega
  have C4 := settle_c _ S g M rv _ ad _ row (N + 1) hR4 (hm4.upper Hup.out) n b hn
  have D4 := Lib.hid C4
  have HM4 := Lib.hid hm4
  clear C4 hR4 hm4 hm3 hfl3 hwin hg3 hor hints hnew
  go_wp2_with fail
  refine D4.out.mono ?_
  rintro e w5 ⟨rfl, hm5, rv', hR⟩
  have HR := Lib.hid hR
  have HM := Lib.hid (HM4.out.trans hm5)
  clear hR hm5
  go_wp2_with fail
  go_ret
  exact ⟨rfl, HM.out, M, rv', _, HR.out⟩

/-! ### what is told of a flow -/
def zeroF : FS := ⟨0, 0, [], false, false⟩
def stOf (ad : Int → Option Nat) (st : Int → FS) (n : Int) : FS := if ad n = none then zeroF else st n

theorem waits_c (w : World) (S : Nat → Prop) (g : Nat) (M rv : Value) (cv : Int → Value) (ad : Int → Option Nat) (st : Int → FS) (row : List Int) (N : Nat) (h : RgE w S g M rv cv ad st row N) (n : Int) (hi : I64 n) :
    Calls Try.prog 14 #[.pointer (some ⟨g, 0, none⟩), .int .i64 n] w fun x w' => x = .returned (.int .i64 (stOf ad st n).cs.length) ∧ w = w' := by
  have C1 := find_c w S g M rv ad N n hi h.ring h.map
  unfold stOf
  cases hn : ad n with
  | none =>
    rw [hn] at C1
    rw [if_pos rfl]
    have D1 := Lib.hid C1
    clear C1 h
    go_enter Try.func14, Try.ntmps14
    go_wp2_with fail
    refine D1.out.mono ?_
    rintro e w' ⟨rfl, rfl⟩
    simp only [ptr, Option.map_none]
    go_wp2_with fail
    go_ret
    exact ⟨rfl, rfl⟩
  | some b =>
    rw [hn] at C1
    rw [if_neg (by simp)]
    obtain ⟨A, c, hcv, _⟩ := (h.cs n b hn).form
    rw [show (ints (st n).cs).length = (st n).cs.length by simp [ints]] at hcv
    have c3 := (h.fl n b hn).2.c3
    rw [hcv] at c3
    generalize (st n).cs.length = l at *
    have D1 := Lib.hid C1
    clear C1 h hcv
    go_enter Try.func14, Try.ntmps14
    go_wp2_with fail
    refine D1.out.mono ?_
    rintro e w' ⟨rfl, rfl⟩
    simp only [ptr, Option.map_some]
    go_wp2_with fail
    go_ret
    exact ⟨rfl, rfl⟩

theorem deficit_c (w : World) (S : Nat → Prop) (g : Nat) (M rv : Value) (cv : Int → Value) (ad : Int → Option Nat) (st : Int → FS) (row : List Int) (N : Nat) (h : RgE w S g M rv cv ad st row N) (n : Int) (hi : I64 n) :
    Calls Try.prog 13 #[.pointer (some ⟨g, 0, none⟩), .int .i64 n] w fun x w' => x = .returned (.int .i64 (stOf ad st n).d) ∧ w = w' := by
  have C1 := find_c w S g M rv ad N n hi h.ring h.map
  unfold stOf
  cases hn : ad n with
  | none =>
    rw [hn] at C1
    rw [if_pos rfl]
    have D1 := Lib.hid C1
    clear C1 h
    go_enter Try.func13, Try.ntmps13
    go_wp2_with fail
    refine D1.out.mono ?_
    rintro e w' ⟨rfl, rfl⟩
    simp only [ptr, Option.map_none]
    go_wp2_with fail
    go_ret
    exact ⟨rfl, rfl⟩
  | some b =>
    rw [hn] at C1
    rw [if_neg (by simp)]
    have c2 := (h.fl n b hn).2.c2
    have D1 := Lib.hid C1
    clear C1 h
    go_enter Try.func13, Try.ntmps13
    go_wp2_with fail
    refine D1.out.mono ?_
    rintro e w' ⟨rfl, rfl⟩
    simp only [ptr, Option.map_some]
    go_wp2_with fail
    go_ret
    exact ⟨rfl, rfl⟩
end Go.Proofs.Ytaenlieajlfkdaa
