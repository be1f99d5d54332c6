/- The reference's flows as the ring's. -/
import Derived.Test.YtaenlieajlfkdaaTail
namespace Go.Proofs.Ytaenlieajlfkdaa
open Go.RowKit Go.Maps
set_option linter.unusedVariables false
set_option linter.unnecessarySimpa false
set_option linter.unusedSimpArgs false
variable {Q : Nat → Prop}

theorem RefIs.congr {w : World} {v : Value} {fl fl' : Nat → RFl} {row : List Int} (h : RefIs Q w v fl row) (he : ∀ j, j < 9 → fl j = fl' j) : RefIs Q w v fl' row := by
  obtain ⟨g, c, kv, rv, hv, hc, hF, hr⟩ := h.ex
  exact ⟨g, c, kv, rv, hv, hc, ⟨fun j hj => he j hj ▸ hF.c0 j hj, fun j hj => he j hj ▸ hF.c1 j hj, fun j hj => he j hj ▸ hF.c2 j hj, hF.c3, fun j hj => he j hj ▸ hF.c4 j hj, fun j hj => he j hj ▸ hF.c5 j hj, fun j hj => he j hj ▸ hF.cs j hj, hF.qg⟩, hr⟩

def flOf (T : Nat → Bool) (st : Int → FS) (j : Nat) : RFl := ⟨T j, if T j then st j else zeroF⟩
theorem flOf_at {T : Nat → Bool} {st : Int → FS} {n : Nat} (hn : T n = true) : flOf T st n = ⟨true, st n⟩ := by unfold flOf; rw [hn]; rfl
theorem flOf_set {T : Nat → Bool} {st : Int → FS} {n : Nat} (hn : T n = true) (f : FS) : updV (flOf T st) n ⟨true, f⟩ = flOf T (setF st n f) := by
  funext j
  by_cases e : j = n
  · subst e
    rw [updV_at, flOf_at hn, setF_at]
  · rw [updV_ne _ _ e]
    unfold flOf
    rw [setF_ne _ _ (show (j : Int) ≠ n by omega)]
theorem updV_self {α : Type} (f : Nat → α) (n : Nat) : updV f n (f n) = f := by
  funext j
  by_cases e : j = n
  · subst e; rw [updV_at]
  · rw [updV_ne _ _ e]
theorem wo_erase {l : List Int} (n : Int) (h : l.Nodup) : wo l n = l.erase n := by
  rw [List.Nodup.erase_eq_filter h]; rfl
theorem setl_settle {T : Nat → Bool} {st : Int → FS} {row : List Int} {n : Nat} (hn : T n = true) (hd : row.Nodup) : setlA (flOf T st) row n = (flOf T (settleA st row n).1, (settleA st row n).2) := by
  unfold setlA settleF settleRow settleA actR
  rw [flOf_at hn]
  simp only [Bool.true_and]
  by_cases ha : actF (st n) = true
  · by_cases hin : (n : Int) ∈ row
    · simp only [ha, if_true, hin, decide_true]
      rw [flOf_set hn, setF_self]
    · simp only [ha, if_true, hin, decide_false, if_false, Bool.false_eq_true]
      rw [flOf_set hn]
  · simp only [ha, if_false, Bool.false_eq_true]
    rw [flOf_set hn, wo_erase _ hd]
theorem settle_serve {st : Int → FS} {row : List Int} {n c : Int} (hin : n ∈ row) : settleA (setF st n (serveF (st n) c)) row n = serveA st row n c := by
  unfold settleA serveA
  rw [setF_at, if_pos hin]

theorem turns_det {st st1 st2 : Int → FS} {row row1 row2 : List Int} {n1 n2 c1 c2 : Int} (h1 : Turns st row st1 row1 n1 c1) (h2 : Turns st row st2 row2 n2 c2) : st1 = st2 ∧ row1 = row2 ∧ n1 = n2 ∧ c1 = c2 := by
  induction h1 with
  | serve hc hd =>
    obtain ⟨e1, e2, e3, e4⟩ := turns_serve h2 hc hd
    exact ⟨e3.symm, e4.symm, e1.symm, e2.symm⟩
  | rot hc hd _ ih =>
    cases h2 with
    | serve hc' hd' =>
      rw [hc] at hc'
      injection hc' with e _
      subst e
      omega
    | rot hc' hd' ht => exact ih ht
end Go.Proofs.Ytaenlieajlfkdaa
