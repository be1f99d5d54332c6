/- s[1:] of a slice of ints, in a walk. -/
import Derived.Test.YtaenlieajlfkdaaRef6
namespace Go.Proofs.Ytaenlieajlfkdaa
open Go.RowKit Go.Maps
set_option linter.unusedVariables false
set_option linter.unnecessarySimpa false
set_option linter.unusedSimpArgs false
variable {Q : Nat → Prop}

def tailV (g o n c : Nat) : Value := .slice (if c = 1 then some ⟨g, o, none⟩ else some ⟨g, o + 1, none⟩) n (c - 1)
theorem run_tailV (w : World) (g o n c : Nat) (hc : n + 1 ≤ c) : (Instr.sliceAt 36 (.slice (some ⟨g, o, none⟩) (n + 1) c) (some (.int .i64 1)) none none).run Try.prog w = .ok (tailV g o n c) w := by
  have hu : Try.prog.underlying 36 = some (.slice (Try.prog.elem 36)) := by kernel_rfl
  have hs : ∀ w, (sizeOf (Try.prog.elem 36)).run Try.prog w = .ok 1 w := fun _ => by kernel_rfl
  rw [run_sliceAt_slice _ _ _ _ _ _ hu, run_slice_l _ _ _ _ _ hu _ _ (by omega) (by omega), hs]
  simp only [Result.andThen_ok, sliced, tailV]
  by_cases h : c = 1
  · subst h
    simp
  · simp [h, Addr.add]
theorem RI.tailV {w : World} {g o c n : Nat} {x : Int} {xs : List Int} (h : RI Q w (.slice (some ⟨g, o, none⟩) n c) (x :: xs)) : RI Q w (tailV g o xs.length c) xs := by
  obtain ⟨A, c', hv, hc, hr⟩ := h
  injection hv with h1 h2 h3
  subst h3
  obtain ⟨g', o', hA, hg, hcell⟩ := hr (by simp)
  rw [← h1] at hA
  injection hA with hA
  injection hA with e1 e2
  subst e1 e2
  simp only [List.length_cons] at hc
  refine ⟨_, _, rfl, by omega, fun h0 => ?_⟩
  rw [if_neg (by omega)]
  refine ⟨g, o + 1, rfl, hg, fun j hj => ?_⟩
  have := hcell (j + 1) (by simpa using hj)
  rw [show o + 1 + j = o + (j + 1) by omega, this]
  simp [ints]
theorem wpList_tail_ints {ops : Array Oper} {rest : List Oper} {o : Oper} {a : Act} {QE : Exit → Act → World → Prop} (w : World) (hgd : o.guard = none) (x : Operand)
    (ho : o.op = .slice 36 x (some (.const (.int .i64 1))) none none) (g b n c : Nat) (hx : a.eval x = .slice (some ⟨g, b, none⟩) (n + 1) c) (hc : n + 1 ≤ c)
    (hK : wpList Try.prog ops QE rest (a.put o.dst (tailV g b n c)) w) : wpList Try.prog ops QE (o :: rest) a w :=
  wpList_plain hgd fun _ hK' => by
    have hrun := run_tailV w g b n c hc
    have hcst : a.eval (.const (.int .i64 1)) = .int .i64 1 := rfl
    unfold Oper.wp execOp
    simp only [ho, hx, hcst, Option.map_some, Option.map_none, hrun, Sem.run_bind, Sem.run_pure, Result.andThen_ok]
    exact hK' _ _ hK
end Go.Proofs.Ytaenlieajlfkdaa
