/- The reference's with. -/
import Derived.Test.YtaenlieajlfkdaaRef3
import Derived.Test.YtaenlieajlfkdaaApp
namespace Go.Proofs.Ytaenlieajlfkdaa
open Go.RowKit Go.Maps
set_option linter.unusedVariables false
set_option linter.unnecessarySimpa false
set_option linter.unusedSimpArgs false
variable {Q : Nat → Prop}

def oneFl (kv : Value) (f : RFl) : List Value := [.bool f.there, .int .i64 f.f.q, .int .i64 f.f.d, kv, .bool f.f.rests, .bool f.f.anew]
def flCells (kv : Nat → Value) (fl : Nat → RFl) : List Value := (List.range 9).flatMap fun j => oneFl (kv j) (fl j)
theorem flCells_len (kv : Nat → Value) (fl : Nat → RFl) : (flCells kv fl).length = 54 := by simp [flCells, oneFl, List.range, List.range.loop]
theorem flCells_key (kv : Nat → Value) (fl : Nat → RFl) : ∀ i k, i < 9 → k < 6 → (flCells kv fl)[i * 6 + k]? = (oneFl (kv i) (fl i))[k]? := by
  intro i k hi hk
  have hi' : i = 0 ∨ i = 1 ∨ i = 2 ∨ i = 3 ∨ i = 4 ∨ i = 5 ∨ i = 6 ∨ i = 7 ∨ i = 8 := by omega
  have hk' : k = 0 ∨ k = 1 ∨ k = 2 ∨ k = 3 ∨ k = 4 ∨ k = 5 := by omega
  rcases hi' with rfl | rfl | rfl | rfl | rfl | rfl | rfl | rfl | rfl <;> rcases hk' with rfl | rfl | rfl | rfl | rfl | rfl <;> rfl
theorem RefF.all {w : World} {g : Nat} {kv : Nat → Value} {fl : Nat → RFl} (h : RefF Q w g kv fl) : ∀ j u, (flCells kv fl)[j]? = some u → w.cell? ⟨g, j, none⟩ = some u := by
  intro j u hu
  have hj : j < 54 := by rw [← flCells_len kv fl]; exact (List.getElem?_eq_some_iff.1 hu).1
  have key := flCells_key kv fl
  have hd : j = j / 6 * 6 + j % 6 := by omega
  have h9 : j / 6 < 9 := by omega
  have h6 : j % 6 < 6 := by omega
  rw [hd, key _ _ h9 h6] at hu
  rw [hd]
  have hk' : j % 6 = 0 ∨ j % 6 = 1 ∨ j % 6 = 2 ∨ j % 6 = 3 ∨ j % 6 = 4 ∨ j % 6 = 5 := by omega
  rcases hk' with e | e | e | e | e | e <;> rw [e] at hu ⊢ <;> simp only [oneFl, List.getElem?_cons_zero, List.getElem?_cons_succ, Option.some.injEq] at hu <;> subst hu
  · exact h.c0 _ h9
  · exact h.c1 _ h9
  · exact h.c2 _ h9
  · exact h.c3 _ h9
  · exact h.c4 _ h9
  · exact h.c5 _ h9

theorem info64 : (Try.prog.info? 64).map (fun i => (i.zero, i.size, i.bytes)) = some (some (.agg #[.bool false, .int .i64 0, .int .i64 0, .slice none 0 0, .bool false, .bool false]), 6, 56) := by kernel_rfl
end Go.Proofs.Ytaenlieajlfkdaa
