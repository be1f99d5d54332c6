/- What slices' DeleteFunc does of the ring's row. -/
import Derived.Test.YtaenlieajlfkdaaDrr2
namespace Go.Proofs.Ytaenlieajlfkdaa
open Go.RowKit Go.Maps
set_option linter.unusedVariables false
set_option linter.unusedSimpArgs false

/-- While the row is shifted: cells from i up to m have their follower's. -/
structure Shift (w : World) (g o : Nat) (bs : List Nat) (i m : Nat) (size : Nat) (wr : World) : Prop where
  only : w.grownBy wr (some g)
  blk : ∃ cur, wr.heap[g]? = some (.cells cur 57 (0, 0)) ∧ cur.size = size ∧ ∀ t x, bs[if i ≤ t ∧ t < m then t + 1 else t]? = some x → cur[o + t]? = some (.pointer (some ⟨x, 0, none⟩))

theorem Shift.cell {w : World} {g o : Nat} {bs : List Nat} {i m size : Nat} {wr : World} (h : Shift w g o bs i m size wr) {t : Nat} (ht : m ≤ t) {x : Nat} (hx : bs[t]? = some x) : wr.cell? ⟨g, o + t, none⟩ = some (.pointer (some ⟨x, 0, none⟩)) := by
  obtain ⟨cur, hb, _, hc⟩ := h.blk
  rw [cell_of_row wr g (o + t) cur 57 (0, 0) hb]
  exact hc t x (by rw [if_neg (by omega)]; exact hx)
theorem Shift.some_ {w : World} {g o : Nat} {bs : List Nat} {i m size : Nat} {wr : World} (h : Shift w g o bs i m size wr) {k : Nat} (hk : k < size) : ∃ u, wr.cell? ⟨g, k, none⟩ = some u := by
  obtain ⟨cur, hb, hs, hc⟩ := h.blk
  rw [cell_of_row wr g k cur 57 (0, 0) hb]
  exact ⟨_, Array.getElem?_eq_getElem (by omega)⟩
theorem Shift.fz {w : World} {g o : Nat} {bs : List Nat} {i m size : Nat} {wr : World} (h : Shift w g o bs i m size wr) (k : Nat) : wr.frozen? ⟨g, k, none⟩ = false := by
  obtain ⟨cur, hb, _⟩ := h.blk
  simp [World.frozen?, hb]
theorem setCell_block (w : World) (g k : Nat) (cur : Array Value) (t : TypeId) (fz : Nat × Nat) (v : Value) (h : w.heap[g]? = some (.cells cur t fz)) : (w.setCell ⟨g, k, none⟩ v).heap[g]? = some (.cells (cur.setIfInBounds k v) t fz) := by
  simp [World.setCell, Array.getElem?_modify, h]
theorem Shift.step {w : World} {g o : Nat} {bs : List Nat} {i m size : Nat} {wr : World} (h : Shift w g o bs i m size wr) (hi : i ≤ m) (hs : o + m < size) {x : Nat} (hx : bs[m + 1]? = some x) :
    Shift w g o bs i (m + 1) size (wr.setCell ⟨g, o + m, none⟩ (.pointer (some ⟨x, 0, none⟩))) := by
  obtain ⟨cur, hb, hz, hc⟩ := h.blk
  refine ⟨only_setg h.only _ _, _, setCell_block _ _ _ _ _ _ _ hb, by simpa using hz, fun t y hy => ?_⟩
  rw [Array.getElem?_setIfInBounds]
  by_cases ht : t = m
  · subst ht
    rw [if_pos (by omega)] at hy
    rw [if_pos rfl, if_pos (by omega)]
    rw [hx] at hy
    injection hy with hy
    rw [hy]
  · rw [if_neg (by omega)]
    refine hc t y ?_
    rw [← hy]
    congr 1
    split
    · rw [if_pos (by omega)]
    · rw [if_neg (by omega)]

theorem erase_at {b : Nat} : ∀ {bs : List Nat} {i : Nat}, bs[i]? = some b → (∀ j, j < i → bs[j]? ≠ some b) → bs.erase b = bs.eraseIdx i
  | [], i, hi, _ => by simp at hi
  | x :: xs, 0, hi, _ => by
    simp at hi
    subst hi
    simp
  | x :: xs, i + 1, hi, hno => by
    have hx : x ≠ b := fun e => hno 0 (by omega) (by simp [e])
    have := erase_at (bs := xs) (i := i) (by simpa using hi) (fun j hj h => hno (j + 1) (by omega) (by simpa using h))
    rw [List.erase_cons_tail (by simpa using hx), this]
    rfl

theorem Shift.done {w : World} {S : Nat → Prop} {g o : Nat} {bs : List Nat} {i n cap size b : Nat} {wr : World} (h : Shift w g o bs i n size wr) (hSg : S g) (hn : bs.length = n + 1) (hin : i ≤ n) (hc : n + 1 ≤ cap) (hm : cap ≤ maxLen) (hs : o + cap ≤ size)
    (hi : bs[i]? = some b) (hno : ∀ j, j < i → bs[j]? ≠ some b) (v : Value) :
    Win (wr.setCell ⟨g, o + n, none⟩ v) S 57 (.slice (some ⟨g, o, none⟩) n cap) (ptrs (bs.erase b)) := by
  obtain ⟨cur, hb, hz, hcur⟩ := h.blk
  have he := erase_at hi hno
  have hlen : (bs.erase b).length = n := by rw [he, List.length_eraseIdx]; split <;> omega
  have hpl : (ptrs (bs.erase b)).length = n := by rw [ptrs_len, hlen]
  refine .inr ⟨g, o, cap, _, by rw [hpl], hSg, setCell_block _ _ _ _ _ _ _ hb, by omega, hm, by simp; omega, fun t ht => ?_⟩
  rw [hpl] at ht
  rw [Array.getElem?_setIfInBounds, if_neg (by omega), ptrs_at (by omega)]
  refine hcur t _ ?_
  have hlt : t < (bs.erase b).length := by omega
  have e : (bs.erase b)[t]? = some (bs.erase b)[t] := List.getElem?_eq_getElem hlt
  rw [← e, he, List.getElem?_eraseIdx]
  split
  · rw [if_neg (by omega)]
  · rw [if_pos (by omega)]

/-- What DeleteFunc hands back. -/
def DelRet (w : World) (S : Nat → Prop) (v : Value) (bs : List Nat) (x : Ending) (w' : World) : Prop :=
  ∃ v', x = .returned v' ∧ Win w' S 57 v' (ptrs bs) ∧ w.grownBy w' v.ownBlock ∧ v'.ownBlock = v.ownBlock

theorem zero57' (w : World) : (zeroValue 57).run Try.prog w = .ok (.pointer none) w := zero57 w

set_option maxHeartbeats 2000000 in
theorem delfunc_c (w : World) (S : Nat → Prop) (v : Value) (bs : List Nat) (b c : Nat) (h : Win w S 57 v (ptrs bs)) (nd : bs.Nodup) (hl : bs.length ≤ 1048576) (hbs : ∀ x ∈ bs, Cel w x) (hb : Cel w b) (hcc : w.cell? ⟨c, 0, none⟩ = some (.pointer (some ⟨b, 0, none⟩)))
    (hne : ∀ k, v.ownBlock = some k → k ≠ c) (hno : ∀ k, v.ownBlock = some k → k ≠ b ∧ k ∉ bs) :
    Calls Try.prog 37 #[v, clos c] w (DelRet w S v (bs.erase b)) := by
  have C := indexfunc_c w S v bs b c h hl hbs hb hcc
  have D := Lib.hid C
  clear C
  by_cases hm : b ∈ bs
  · rcases h with ⟨rfl, h0⟩ | ⟨g, o, cap, cur, rfl, hSg, hg, hc, hcm, hs, hj⟩
    · have : bs = [] := by simpa [ptrs] using h0
      subst this
      simp at hm
    · simp only [ptrs_len] at hc hj
      rw [ptrs_len] at D ⊢
      have hgc := hne g rfl
      have hcw := hcc
      have HBS := Lib.hid hbs
      have HB := Lib.hid hb
      have HCC := Lib.hid hcc
      have Hno := Lib.hid (hno g rfl)
      clear hbs hb hcc hne hcw hno
      unfold clos at D ⊢
      have hcm' : cap ≤ 9223372036854775807 := hcm
      have hsh : ∀ i, Shift w g o bs i i cur.size w := fun i => ⟨World.grownBy.refl _ _, cur, hg, rfl, fun t x hx => by
        rw [if_neg (by omega)] at hx
        have ht := (List.getElem?_eq_some_iff.1 hx).1
        rw [hj t ht, ptrs_at ht]
        rw [List.getElem?_eq_getElem ht] at hx
        injection hx with hx
        rw [hx]⟩
      have Hsh := Lib.hid hsh
      clear hsh hg hj
      go_enter Try.func37, Try.ntmps37
      go_wp2_with fail
      refine D.out.mono ?_
      rintro e w' ⟨rfl, ir, rfl, hi⟩
      rcases hi with ⟨i, rfl, hi, hfirst⟩ | ⟨rfl, hno⟩
      · have hin : i < bs.length := (List.getElem?_eq_some_iff.1 hi).1
        obtain ⟨n, hn⟩ : ∃ n, bs.length = n + 1 := ⟨bs.length - 1, by omega⟩
        have hothers : ∀ j, i < j → ∀ x, bs[j]? = some x → x ≠ b := by
          intro j hij x hx e
          subst e
          obtain ⟨h1, e1⟩ := List.getElem?_eq_some_iff.1 hi
          obtain ⟨h2, e2⟩ := List.getElem?_eq_some_iff.1 hx
          exact (List.pairwise_iff_getElem.1 nd) i j h1 h2 hij (e1.trans e2.symm)
        have Hoth := Lib.hid hothers
        have Hfirst := Lib.hid hfirst
        have hne1 : ((i : Int) == -1) = false := by rw [beq_eq_false_iff_ne]; omega
        clear hothers hfirst D nd
        rw [hn] at hin hc hl ⊢
        go_wp2_with fail
        go_loopw [5, 6] (fun a j wr => ∃ m : Nat, i ≤ m ∧ m ≤ n ∧ a = .int .i64 m ∧ j = .int .i64 ((m + 1 : Nat) : Int) ∧ Shift w g o bs i m cur.size wr) (fun a _ _ => n - (intOf a).toNat)
        case atStart => exact ⟨i, Nat.le_refl _, by omega, rfl, by simp, Hsh.out i⟩
        case round =>
          obtain ⟨m, him, hmn, rfl, rfl, hS⟩ := hrel
          by_cases hlt : m < n
          · have hx : bs[m + 1]? = some bs[m + 1] := List.getElem?_eq_getElem (by omega)
            have hxb := Hoth.out (m + 1) (by omega) _ hx
            have hxm := HBS.out bs[m + 1] (List.getElem_mem _)
            have hcx := hS.cell (t := m + 1) (by omega) hx
            obtain ⟨u, hcm0⟩ := hS.some_ (k := o + m) (by omega)
            have hfm := hS.fz (o + m)
            have hst := hS.step him (by omega) hx
            have hcw := hS.only.cell HCC.out (by simpa using fun e => hgc e.symm)
            have hxg : g ≠ bs[m + 1] := fun e => Hno.out.2 (e ▸ List.getElem_mem _)
            generalize bs[m + 1] = x at *
            have hxm' : Cel wr x := by obtain ⟨cs, t, h⟩ := hxm; exact ⟨cs, t, (hS.only.block x (Array.getElem?_eq_some_iff.1 h).1 (by simpa using fun e => hxg e.symm)).trans h⟩
            have hb' : Cel wr b := by obtain ⟨cs, t, h⟩ := HB.out; exact ⟨cs, t, (hS.only.block b (Array.getElem?_eq_some_iff.1 h).1 (by simpa using fun e => Hno.out.1 e.symm)).trans h⟩
            have D := Lib.hid (clos_c wr x b c hcw hxm' hb')
            have Hst := Lib.hid hst
            clear hxm hxm' hb' hS hst hcw
            go_wp2_with fail
            refine D.out.mono ?_
            rintro e w' ⟨rfl, rfl⟩
            go_wp2_with fail
            go_roundw
            case rel => exact ⟨m + 1, by omega, by omega, by go_num, by go_num, Hst.out⟩
            case measure => simp [intOf]; omega
          · obtain rfl : m = n := by omega
            obtain ⟨u, hcm0⟩ := hS.some_ (k := o + m) (by omega)
            have hfm := hS.fz (o + m)
            have hcl : ∀ ty, (Builtin.clear_ #[26] ty #[.slice (some ⟨g, o + m, none⟩) 1 (cap - m)]).run Try.prog wr = .ok (.tuple #[]) (wr.setCell ⟨g, o + m, none⟩ (.pointer none)) := fun ty =>
              Lib.run_clear_slice wr 26 57 ty (.pointer none) Try.underlying26 (fun w => zero57 w) rfl rfl g (o + m) 1 (cap - m) (by omega)
                (fun j hj => by obtain rfl : j = 0 := by omega
                                rw [Nat.add_zero, hcm0]; rfl) (fun j hj => by obtain rfl : j = 0 := by omega
                                                                              exact hfm)
            have hW := hS.done (S := S) hSg hn (by omega) hc hcm hs hi Hfirst.out (.pointer none)
            have HW := Lib.hid hW
            have HS := Lib.hid hS
            have hcap : cap ≠ m := by omega
            have hsub : m + 1 - m = 1 := by omega
            clear hW hS
            go_wp2_with fail
            go_ret
            exact ⟨_, rfl, HW.out, only_setg HS.out.only _ _, rfl⟩
      · exact absurd hm hno
  · have hbs' : bs.erase b = bs := List.erase_of_not_mem hm
    rw [hbs']
    have H := Lib.hid h
    clear h
    unfold clos at D ⊢
    obtain ⟨A, cp, rfl, _⟩ := H.out.form
    go_enter Try.func37, Try.ntmps37
    go_wp2_with fail
    refine D.out.mono ?_
    rintro e w' ⟨rfl, i, rfl, hi⟩
    rcases hi with ⟨k, rfl, hk, _⟩ | ⟨rfl, _⟩
    · exact absurd (List.mem_of_getElem? hk) hm
    · go_wp2_with fail
      go_ret
      exact ⟨_, rfl, H.out, World.grownBy.refl _ _, rfl⟩
end Go.Proofs.Ytaenlieajlfkdaa
