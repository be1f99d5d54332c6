/- The reference's without and Ints. -/
import Derived.Test.YtaenlieajlfkdaaRef
namespace Go.Proofs.Ytaenlieajlfkdaa
open Go.RowKit Go.Maps
set_option linter.unusedVariables false
set_option linter.unnecessarySimpa false
set_option linter.unusedSimpArgs false
variable {Q : Nat → Prop}

theorem RI.at_ {w : World} {v : Value} {l : List Int} (h : RI Q w v l) {j : Nat} {x : Int} (hx : l[j]? = some x) : ∃ g o c, v = .slice (some ⟨g, o, none⟩) l.length c ∧ l.length ≤ c ∧ w.cell? ⟨g, o + j, none⟩ = some (.int .i64 x) := by
  obtain ⟨A, c, hv, hc, hr⟩ := h
  have hj := (List.getElem?_eq_some_iff.1 hx).1
  obtain ⟨g, o, rfl, _, hcell⟩ := hr (by omega)
  refine ⟨g, o, c, hv, hc, ?_⟩
  rw [hcell j hj]
  simp [ints, hx]

/-- A list without a number. -/
def wo (l : List Int) (n : Int) : List Int := l.filter fun x => x != n
theorem wo_take {l : List Int} {n : Int} {k : Nat} {x : Int} (hx : l[k]? = some x) : wo (l.take (k + 1)) n = if x = n then wo (l.take k) n else wo (l.take k) n ++ [x] := by
  unfold wo
  rw [List.take_add_one, hx, List.filter_append]
  by_cases e : x = n
  · rw [if_pos e]; simp [e]
  · rw [if_neg e]; simp [e]

set_option maxHeartbeats 1000000 in
theorem without_c (w : World) (v : Value) (l : List Int) (n : Int) (h : RI Q w v l) (hl : l.length ≤ 1000) :
    Calls Try.prog 36 #[v, .int .i64 n] w (ListRet w (wo l n)) := by
  have H := Lib.hid h
  obtain ⟨A, c, hv, hcl, _⟩ := h
  subst hv
  obtain ⟨i0, hi0, hz0, hz1, hz2⟩ := info_parts info3
  generalize hB : w.heap.size = B
  go_enter Try.func36, Try.ntmps36
  go_wp2_with fail
  go_loopw [5, 6] (fun u i wr => ∃ k : Nat, k ≤ l.length ∧ i = .int .i64 k ∧ Win wr (fun k => B ≤ k) 3 u (ints (wo (l.take k) n)) ∧ Below B w wr ∧ B ≤ wr.heap.size) (fun _ i _ => l.length - (intOf i).toNat)
  case atStart => exact ⟨0, by omega, rfl, .inl ⟨rfl, by simp [wo, ints]⟩, hB ▸ Below.refl _ _, by omega⟩
  case round =>
    obtain ⟨k, hk, rfl, hW, hbel, hsz⟩ := hrel
    have HW := Lib.hid hW
    have Hbel := Lib.hid hbel
    by_cases hlt : k < l.length
    · have hx : l[k]? = some l[k] := List.getElem?_eq_getElem hlt
      generalize l[k] = x at *
      obtain ⟨g, o, c', hv', _, hc0⟩ := H.out.at_ hx
      injection hv' with h1 _ h3
      subst h1 h3
      have hw0 := hbel.cell (p := ⟨g, o + k, none⟩) (by have := cell_lt hc0; rw [← hB]; exact this)
      rw [hc0] at hw0
      have htl := wo_take (n := n) hx
      have hll : (ints (wo (l.take k) n)).length ≤ 1000 := by
        have := List.length_filter_le (fun x => x != n) (l.take k)
        simp [ints, wo, List.length_take] at *
        omega
      have Htl := Lib.hid htl
      generalize hln : l.length = ln at *
      clear hc0 hW hbel htl hx
      by_cases e : x = n
      · subst e
        go_wp2_with fail
        go_roundw
        case rel =>
          refine ⟨k + 1, by omega, by go_num, ?_, Hbel.out, hsz⟩
          rw [Htl.out, if_pos rfl]
          exact HW.out
        case measure => simp [intOf]; omega
      · have hcu : (wr.alloc (.cells #[.int .i64 x] 3)).cell? ⟨wr.heap.size, 0, none⟩ = some (.int .i64 x) := by simpa using (Blk.new wr 3 #[.int .i64 x]).cell 0
        have HCU := Lib.hid hcu
        clear hcu
        have hne : (x != n) = true := by rw [bne_iff_ne]; exact e
        have HWA : Hid (Win (wr.alloc (.cells #[.int .i64 x] 3)) (fun k => B ≤ k) 3 u5 (ints (wo (l.take k) n))) := Lib.hid (HW.out.kept (row := none) (only_of_below ((Below.refl _ _).alloc (Nat.le_refl _) _) none) (by simp))
        go_wp2_with (at_builtin; refine wpList_append_win _ rfl (.tmp 19) (.tmp 24) 36 rfl 3 i0 _ Try.underlying36 hi0 hz0 hz1 hz2 rfl (v := u5) rfl HWA.out ⟨wr.heap.size, 0, none⟩ 1 (.int .i64 x) rfl HCU.out rfl ?_ ?_ ?_)
        · omega
        · show B ≤ _; omega
        intro v' w3 hwin hg3 hor
        have hs3 := hg3.size
        have hb3 : Below B w w3 := (Hbel.out.alloc hsz _).grown hg3 (by simp; omega) (fun j hj => (HWA.out.lt j hj).1)
        have Hwin := Lib.hid hwin
        have Hb3 := Lib.hid hb3
        clear hwin hb3 hg3 hor
        simp at hs3
        go_wp2_with fail
        go_roundw
        case rel =>
          refine ⟨k + 1, by omega, by go_num, ?_, Hb3.out, by omega⟩
          rw [Htl.out, if_neg e]
          simpa [ints] using Hwin.out
        case measure => simp [intOf]; omega
    · obtain rfl : k = l.length := by omega
      rw [List.take_length] at hW
      have HW := Lib.hid hW
      clear hW hbel
      go_wp2_with fail
      go_ret
      refine ⟨_, rfl, ?_, ?_⟩
      · rw [hB]; exact HW.out
      · rw [hB]; exact Hbel.out
end Go.Proofs.Ytaenlieajlfkdaa
