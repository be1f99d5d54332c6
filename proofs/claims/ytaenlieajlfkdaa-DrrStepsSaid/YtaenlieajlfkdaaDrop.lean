/- What Cost and Drop do, and Set's refusal. -/
import Derived.Test.YtaenlieajlfkdaaAwake
namespace Go.Proofs.Ytaenlieajlfkdaa
open Go.RowKit Go.Maps
set_option linter.unusedVariables false
set_option linter.unnecessarySimpa false
set_option linter.unusedSimpArgs false

theorem sum_take {l : List Int} (h : ∀ c, c ∈ l → 0 ≤ c ∧ c ≤ 1040) : ∀ k, 0 ≤ (l.take k).sum ∧ (l.take k).sum ≤ 1040 * k := by
  induction l with
  | nil => intro k; simp; omega
  | cons a l ih =>
    intro k
    cases k with
    | zero => simp
    | succ k =>
      have h1 := h a (by simp)
      have h2 := ih (fun c hc => h c (by simp [hc])) k
      simp only [List.take_succ_cons, List.sum_cons]
      omega
theorem sum_next {l : List Int} {k : Nat} {c : Int} (h : l[k]? = some c) : (l.take (k + 1)).sum = (l.take k).sum + c := by
  rw [List.take_add_one, h]
  simp

set_option maxHeartbeats 1000000 in
theorem cost_c (w : World) (S : Nat → Prop) (g : Nat) (M rv : Value) (cv : Int → Value) (ad : Int → Option Nat) (st : Int → FS) (row : List Int) (N : Nat) (h : RgE w S g M rv cv ad st row N) (n : Int) (hi : I64 n) (hN : N ≤ 100000) (hb : ∀ c, c ∈ (stOf ad st n).cs → 0 ≤ c ∧ c ≤ 1040) :
    Calls Try.prog 31 #[.pointer (some ⟨g, 0, none⟩), .int .i64 n] w fun x w' => x = .returned (.int .i64 (stOf ad st n).cs.sum) ∧ w = w' := by
  have C1 := find_c w S g M rv ad N n hi h.ring h.map
  cases hn : ad n with
  | none =>
    have e : stOf ad st n = zeroF := if_pos hn
    rw [hn] at C1
    rw [e]
    have D1 := Lib.hid C1
    clear C1 h hb
    go_enter Try.func31, Try.ntmps31
    go_wp2_with fail
    refine D1.out.mono ?_
    rintro e w' ⟨rfl, rfl⟩
    simp only [ptr, Option.map_none]
    go_wp2_with fail
    go_ret
    exact ⟨rfl, rfl⟩
  | some b =>
    have e : stOf ad st n = st n := if_neg (by rw [hn]; simp)
    rw [hn] at C1
    rw [e] at hb ⊢
    have hw := h.cs n b hn
    have hlen := h.len n b hn
    obtain ⟨A, c, hcv, hcl, _⟩ := hw.form
    have hil : (ints (st n).cs).length = (st n).cs.length := by simp [ints]
    rw [hil] at hcv hcl
    have c3 := (h.fl n b hn).2.c3
    have HW := Lib.hid hw
    have Hcv := Lib.hid hcv
    rw [hcv] at c3
    have Hb := Lib.hid (sum_take hb)
    generalize hl : (st n).cs = l at *
    have D1 := Lib.hid C1
    clear C1 h hw hb hcv
    go_enter Try.func31, Try.ntmps31
    go_wp2_with fail
    refine D1.out.mono ?_
    rintro e w' ⟨rfl, rfl⟩
    simp only [ptr, Option.map_some]
    go_wp2_with fail
    go_loopw [5, 19] (fun s i wr => ∃ k : Nat, k ≤ l.length ∧ i = .int .i64 k ∧ s = .int .i64 (l.take k).sum ∧ wr = w) (fun _ i _ => l.length - (intOf i).toNat)
    case atStart => exact ⟨0, by omega, rfl, by simp, rfl⟩
    case round =>
      obtain ⟨k, hk, rfl, rfl, rfl⟩ := hrel
      obtain ⟨s0, s1⟩ := Hb.out k
      by_cases hlt : k < l.length
      · have hx : l[k]? = some l[k] := List.getElem?_eq_getElem hlt
        obtain ⟨s2, s3⟩ := Hb.out (k + 1)
        rw [sum_next hx] at s2 s3
        obtain ⟨gc, oc, cp, hcv', _, _, hcell⟩ := HW.out.at_ (by rw [hil]; omega)
        have hcc := (hcell k (by rw [hil]; omega)).1
        rw [show (ints l)[k]? = some (.int .i64 l[k]) by simp [ints, hlt]] at hcc
        rw [hil, Hcv.out] at hcv'
        injection hcv' with g1 _ g3
        subst g1 g3
        have Hx := Lib.hid (sum_next hx)
        generalize l[k] = x at *
        generalize hln : l.length = ln at *
        have hwr : IntKind.i64.wrap ((l.take k).sum + x) = (l.take k).sum + x := by rw [IntKind.wrap_i64]; omega
        clear hcell hx
        generalize hsm : (l.take k).sum = sm at *
        go_wp2_with fail
        go_roundw
        case rel => exact ⟨k + 1, by omega, by go_num, by rw [Hx.out], by first | rfl | trivial⟩
        case measure => simp [intOf]; omega
      · obtain rfl : k = l.length := by omega
        rw [List.take_length]
        go_wp2_with fail
        go_ret
        exact ⟨rfl, rfl⟩

/-- A flow that is out of the row is forgotten. -/
theorem RgE.unmap {w w' : World} {S : Nat → Prop} {g : Nat} {M rv : Value} {cv : Int → Value} {ad : Int → Option Nat} {st : Int → FS} {row : List Int} {N : Nat} (h : RgE w S g M rv cv ad st row N) {n : Int} (hn : n ∉ row)
    (hm : MapIs w' S M (put ad n none) N) {rw' : Option Nat} (hg : w.grownBy w' rw') (hr : ∀ m, rw' = some m → M = .map (some m)) : RgE w' S g M rv cv (put ad n none) st row N ∧ Moved w w' S := by
  have hkeep : ∀ {k : Nat} {cs : Array Value} {t : TypeId} {fz : Nat × Nat}, w.heap[k]? = some (.cells cs t fz) → w'.heap[k]? = w.heap[k]? := fun hk =>
    hg.block _ (heap_lt hk) (fun e => by
      have hM := hr _ e.symm
      have := h.map
      rw [hM] at this
      obtain ⟨_, es, cl, hm⟩ := this.lt
      exact ne_map hk hm rfl)
  have hne : ∀ k b, put ad n none k = some b → k ≠ n ∧ ad k = some b := fun k b hb => by
    unfold put at hb
    split at hb
    · cases hb
    · rename_i e; exact ⟨e, hb⟩
  have hpne : ∀ k, k ≠ n → put ad n none k = ad k := fun k e => if_neg e
  have hrow : ∀ k, k ∈ row → k ≠ n := fun k hk e => hn (e ▸ hk)
  refine ⟨⟨(hkeep h.ring).trans h.ring, h.gS, hm, fun k b hb => ?_, fun k b hb => ?_, ?_, fun k hk => ?_, h.nd, fun k k' b b' j hkk hb hb' => h.dis k k' b b' j hkk (hne k b hb).2 (hne k' b' hb').2, fun k b hb => h.key k b (hne k b hb).2, fun k b hb => h.len k b (hne k b hb).2⟩, ?_⟩
  · have hb' := (hne k b hb).2
    exact ⟨(h.fl k b hb').1, (hkeep (h.fl k b hb').2).trans (h.fl k b hb').2⟩
  · have hb' := (hne k b hb).2
    refine (h.cs k b hb').same fun j hj => ?_
    obtain ⟨_, cur, hcur⟩ := (h.cs k b hb').lt j hj
    exact hkeep hcur
  · have e : blks (put ad n none) row = blks ad row := by
      unfold blks
      apply List.map_congr_left
      intro k hk
      unfold adr
      rw [hpne k (hrow k hk)]
    rw [e]
    refine h.rwin.same fun j hj => ?_
    obtain ⟨_, cur, hcur⟩ := h.rwin.lt j hj
    exact hkeep hcur
  · rw [hpne k (hrow k hk)]
    exact h.rin k hk
  · refine Moved.of_grown hg (fun k e => ?_)
    have hM := hr _ e
    have := h.map
    rw [hM] at this
    exact this.lt.1

set_option maxHeartbeats 1000000 in
theorem drop_none (w : World) (S : Nat → Prop) (g : Nat) (M rv : Value) (cv : Int → Value) (ad : Int → Option Nat) (st : Int → FS) (row : List Int) (N : Nat) (h : RgE w S g M rv cv ad st row N) (n : Int) (hi : I64 n) (hn : ad n = none) :
    Calls Try.prog 20 #[.pointer (some ⟨g, 0, none⟩), .int .i64 n] w fun x w' => x = .returned (.int .i64 0) ∧ w = w' := by
  have C1 := find_c w S g M rv ad N n hi h.ring h.map
  rw [hn] at C1
  have D1 := Lib.hid C1
  clear C1 h
  go_enter Try.func20, Try.ntmps20
  go_wp2_with fail
  refine D1.out.mono ?_
  rintro e w' ⟨rfl, rfl⟩
  simp only [ptr, Option.map_none]
  go_wp2_with fail
  go_ret
  exact ⟨rfl, rfl⟩

set_option maxHeartbeats 1000000 in
theorem drop_c (w : World) (S : Nat → Prop) (g : Nat) (M rv : Value) (cv : Int → Value) (ad : Int → Option Nat) (st : Int → FS) (row : List Int) (N : Nat) (h : RgE w S g M rv cv ad st row N) (hup : ∀ k, w.heap.size ≤ k → S k) (n : Int) (hi : I64 n) (b : Nat) (hn : ad n = some b) :
    Calls Try.prog 20 #[.pointer (some ⟨g, 0, none⟩), .int .i64 n] w (RetR w S g (put ad n none) (setF st n (leaveF (st n))) (row.erase n) N (.int .i64 (st n).cs.length)) := by
  have C1 := find_c w S g M rv ad N n hi h.ring h.map
  rw [hn] at C1
  have C2 := leave_c w S g M rv cv ad st row N h hup n b hn
  have hnd : n ∉ row.erase n := fun hm => by rw [List.Nodup.mem_erase_iff h.nd] at hm; exact hm.1 rfl
  have D1 := Lib.hid C1
  have D2 := Lib.hid C2
  clear C1 C2 h
  go_enter Try.func20, Try.ntmps20
  go_wp2_with fail
  refine D1.out.mono ?_
  rintro e w' ⟨rfl, rfl⟩
  simp only [ptr, Option.map_some]
  go_wp2_with fail
  refine D2.out.mono ?_
  rintro e w2 ⟨rfl, hm2, rv', hR⟩
  have c0 : w2.cell? ⟨g, 0, none⟩ = some M := by simpa using hR.ring.cell 0
  obtain ⟨w3, hrun, hm3, rwo, hg3, hr3⟩ := hR.map.delete hi 0
  obtain ⟨hR3, hM3⟩ := hR.unmap hnd hm3 hg3 hr3
  obtain ⟨A, c, hcv, _⟩ := (hR.cs n b hn).form
  have hfl2 := (hR.fl n b hn).2
  have hfl3 : FlB w3 b n _ (cv n) := Blk.grown hfl2 hg3 (fun e => by
    have hM := hr3 _ e.symm
    have := hR.map
    rw [hM] at this
    obtain ⟨_, es, cl, hm⟩ := this.lt
    exact ne_map hfl2 hm rfl)
  have c3 := hfl3.c3
  rw [setF_at] at hcv
  have hcv2 : cv n = .slice A (st n).cs.length c := by simpa [ints] using hcv
  clear hcv
  have hcv := hcv2
  rw [hcv] at c3
  have HR3 := Lib.hid hR3
  have HM := Lib.hid (hm2.trans hM3)
  generalize (st n).cs.length = l at *
  clear hR hR3 hM3 hm3 hg3 hr3 hfl2 hfl3 hcv hm2 D1 D2
  go_wp2_with fail
  go_ret
  exact ⟨rfl, HM.out, M, rv', cv, HR3.out⟩
end Go.Proofs.Ytaenlieajlfkdaa
