/- The reference's Ints, of two slices that read alike, and Cost. -/
import Derived.Test.YtaenlieajlfkdaaRef2
namespace Go.Proofs.Ytaenlieajlfkdaa
open Go.RowKit Go.Maps
set_option linter.unusedVariables false
set_option linter.unnecessarySimpa false
set_option linter.unusedSimpArgs false
variable {Q : Nat → Prop}

set_option maxHeartbeats 1000000 in
theorem ints_c (w : World) (v v' : Value) (l : List Int) (h1 : RI Q w v l) (h2 : RI Q w v' l) (hl : l.length ≤ 1000) :
    Calls Try.prog 33 #[v, v'] w (Tells w true) := by
  have H1 := Lib.hid h1
  have H2 := Lib.hid h2
  obtain ⟨A, c, hv, hcl, _⟩ := h1
  obtain ⟨A', c', hv', hcl', _⟩ := h2
  subst hv hv'
  go_enter Try.func33, Try.ntmps33
  go_wp2_with fail
  go_loopw [5] (fun i wr => ∃ k : Nat, k ≤ l.length ∧ i = .int .i64 k ∧ Below w.heap.size w wr) (fun i _ => l.length - (intOf i).toNat)
  case atStart => exact ⟨0, by omega, rfl, Below.refl _ _⟩
  case round =>
    obtain ⟨k, hk, rfl, hbel⟩ := hrel
    by_cases hlt : k < l.length
    · have hx : l[k]? = some l[k] := List.getElem?_eq_getElem hlt
      generalize l[k] = x at *
      obtain ⟨g, o, cc, hq, _, hc0⟩ := H1.out.at_ hx
      injection hq with q1 _ q3
      subst q1 q3
      obtain ⟨g', o', cc', hq', _, hc0'⟩ := H2.out.at_ hx
      injection hq' with r1 _ r3
      subst r1 r3
      have p1 := (hbel.cell (p := ⟨g, o + k, none⟩) (cell_lt hc0)).trans hc0
      have p2 := (hbel.cell (p := ⟨g', o' + k, none⟩) (cell_lt hc0')).trans hc0'
      have Hb := Lib.hid hbel
      generalize hn : l.length = n at *
      clear hc0 hc0' hbel hx
      go_wp2_with fail
      go_quiet (fail)
      go_wp2_with fail
      go_roundw
      case rel => exact ⟨k + 1, by omega, by go_num, below_drewN Hb.out _⟩
      case measure => simp [intOf]; omega
    · go_wp2_with fail
      go_ret
      exact ⟨rfl, hbel⟩
end Go.Proofs.Ytaenlieajlfkdaa
