/- What slices' IndexFunc and DeleteFunc do of the ring's row. -/
import Derived.Test.YtaenlieajlfkdaaDrr1
namespace Go.Proofs.Ytaenlieajlfkdaa
open Go.RowKit Go.Maps
set_option linter.unusedVariables false
set_option linter.unusedSimpArgs false

theorem clos_c (w : World) (x b c : Nat) (hc : w.cell? ⟨c, 0, none⟩ = some (.pointer (some ⟨b, 0, none⟩))) (hx : Cel w x) (hb : Cel w b) :
    Calls Try.prog 38 #[.pointer (some ⟨x, 0, none⟩), .pointer (some ⟨c, 0, none⟩)] w fun e w' => e = .returned (.bool (decide (x = b))) ∧ w = w' := by
  by_cases h : x = b
  · subst h
    have he := eql_same w x
    go_enter Try.func38, Try.ntmps38
    go_wp2_with fail
    go_ret
    exact ⟨ret_bool (by simp), rfl⟩
  · have he := eql_other w hx hb h
    go_enter Try.func38, Try.ntmps38
    go_wp2_with fail
    go_ret
    exact ⟨ret_bool (by simp [h]), rfl⟩

def clos (c : Nat) : Value := .func (.func 38) #[] #[.pointer (some ⟨c, 0, none⟩)]

set_option maxHeartbeats 1000000 in
theorem indexfunc_c (w : World) (S : Nat → Prop) (v : Value) (bs : List Nat) (b c : Nat) (h : Win w S 57 v (ptrs bs)) (hl : bs.length ≤ 1048576) (hbs : ∀ x ∈ bs, Cel w x) (hb : Cel w b) (hcc : w.cell? ⟨c, 0, none⟩ = some (.pointer (some ⟨b, 0, none⟩))) :
    Calls Try.prog 40 #[v, clos c] w fun x w' => w = w' ∧ ∃ i, x = .returned (.int .i64 i) ∧ FirstAt bs b i := by
  obtain ⟨A, cp, rfl, hc, hm⟩ := h.form
  rw [ptrs_len] at hc
  have H := Lib.hid h
  have HBS := Lib.hid hbs
  have HB := Lib.hid hb
  have HC := Lib.hid hcc
  clear h hbs hb hcc
  rw [ptrs_len]
  unfold maxLen at hm
  unfold clos
  go_enter Try.func40, Try.ntmps40
  go_wp2_with fail
  go_loopw [8] (fun i wr => ∃ k : Nat, k ≤ bs.length ∧ i = .int .i64 k ∧ wr = w ∧ ∀ j, j < k → bs[j]? ≠ some b) (fun i _ => bs.length - (intOf i).toNat)
  case atStart => exact ⟨0, by omega, rfl, rfl, fun j hj => by omega⟩
  case round =>
    obtain ⟨k, hk, rfl, rfl, hno⟩ := hrel
    by_cases hlt : k < bs.length
    · obtain ⟨g, o, c', hv, _, _, hcell⟩ := H.out.at_ (by rw [ptrs_len]; omega)
      obtain ⟨hc1, _⟩ := hcell k (by rw [ptrs_len]; omega)
      rw [ptrs_at hlt] at hc1
      injection hv with hv1 hv2 hv3
      subst hv1 hv3
      have hx : bs[k]? = some bs[k] := List.getElem?_eq_getElem hlt
      have hxm : Cel wr bs[k] := HBS.out _ (List.getElem_mem hlt)
      have Hno := Lib.hid hno
      clear hcell hv2 hno
      generalize bs[k] = x at *
      have D := Lib.hid (clos_c wr x b c HC.out hxm HB.out)
      clear hxm
      generalize hn : bs.length = n at *
      go_wp2_with fail
      refine D.out.mono ?_
      rintro e w' ⟨rfl, rfl⟩
      by_cases hxb : x = b
      · subst hxb
        go_wp2_with fail
        go_ret
        exact ⟨rfl, _, rfl, .inl ⟨k, rfl, hx, Hno.out⟩⟩
      · go_wp2_with fail
        go_roundw
        case rel =>
          refine ⟨k + 1, by omega, by go_num, by first | rfl | trivial, fun j hj => ?_⟩
          rcases Nat.lt_or_ge j k with hjk | hjk
          · exact Hno.out j hjk
          · obtain rfl : j = k := by omega
            rw [hx]
            intro e
            injection e with e
            exact hxb e
        case measure => simp [intOf]; omega
    · obtain rfl : k = bs.length := by omega
      have Hno := Lib.hid hno
      clear hno
      generalize hn : bs.length = n at *
      go_wp2_with fail
      go_ret
      exact ⟨rfl, _, rfl, firstAt_none (fun j hj => Hno.out j (by omega))⟩
end Go.Proofs.Ytaenlieajlfkdaa
