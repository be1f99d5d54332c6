/- The reference's ring as a value: what it reads as. -/
import Derived.Test.YtaenlieajlfkdaaDrop
namespace Go.Proofs.Ytaenlieajlfkdaa
open Go.RowKit Go.Maps
set_option linter.unusedVariables false
set_option linter.unnecessarySimpa false
set_option linter.unusedSimpArgs false
variable {Q : Nat → Prop}

/-- A flow of the reference. -/
structure RFl where
  there : Bool
  f : FS

/-- A slice of ints that reads as l. -/
def RI (Q : Nat → Prop) (w : World) (v : Value) (l : List Int) : Prop :=
  ∃ A c, v = .slice A l.length c ∧ l.length ≤ c ∧ (0 < l.length → ∃ g o, A = some ⟨g, o, none⟩ ∧ Q g ∧ ∀ j, j < l.length → w.cell? ⟨g, o + j, none⟩ = (ints l)[j]?)
/-- All new blocks are known. -/
def Up (Q : Nat → Prop) (w : World) : Prop := ∀ k, w.heap.size ≤ k → Q k
theorem Up.below {B : Nat} {w w' : World} (h : Up Q w) (hb : Below B w w') : Up Q w' := fun k hk => h k (Nat.le_trans hb.size hk)
theorem RI.nil_ (w : World) : RI Q w (.slice none 0 0) [] := ⟨none, 0, rfl, Nat.le_refl _, fun h => by simp at h⟩
theorem RI.below {w w' : World} {v : Value} {l : List Int} (h : RI Q w v l) (hb : Below w.heap.size w w') : RI Q w' v l := by
  obtain ⟨A, c, hv, hc, hr⟩ := h
  refine ⟨A, c, hv, hc, fun hl => ?_⟩
  obtain ⟨g, o, hA, hg, hcell⟩ := hr hl
  refine ⟨g, o, hA, hg, fun j hj => ?_⟩
  have h1 := hcell j hj
  have hs : (ints l)[j]? = some (.int .i64 l[j]) := by simp [ints, hj]
  rw [hs] at h1 ⊢
  exact (hb.cell (p := ⟨g, o + j, none⟩) (cell_lt h1)).trans h1
theorem RI.of_win {w : World} {S : Nat → Prop} {v : Value} {l : List Int} (h : Win w S 3 v (ints l)) (hS : ∀ k, S k → Q k) : RI Q w v l := by
  obtain ⟨A, c, hv, hc, _⟩ := h.form
  have hl : (ints l).length = l.length := by simp [ints]
  rw [hl] at hv hc
  refine ⟨A, c, hv, hc, fun h0 => ?_⟩
  obtain ⟨g, o, c', hv', hg, _, hcell⟩ := h.at_ (by rw [hl]; exact h0)
  rw [hl, hv] at hv'
  injection hv' with h1 _ _
  exact ⟨g, o, h1, hS g hg, fun j hj => (hcell j (by rw [hl]; exact hj)).1⟩
theorem RI.of_up {w w' : World} {B : Nat} {v : Value} {l : List Int} (hQ : Up Q w) (h : Win w' (fun k => B ≤ k) 3 v (ints l)) (hB : w.heap.size ≤ B) : RI Q w' v l := RI.of_win h fun k hk => hQ k (Nat.le_trans hB hk)

/-- The nine flows in their slice. -/
structure RefF (Q : Nat → Prop) (w : World) (g : Nat) (kv : Nat → Value) (fl : Nat → RFl) : Prop where
  c0 : ∀ j, j < 9 → w.cell? ⟨g, j * 6, none⟩ = some (.bool (fl j).there)
  c1 : ∀ j, j < 9 → w.cell? ⟨g, j * 6 + 1, none⟩ = some (.int .i64 (fl j).f.q)
  c2 : ∀ j, j < 9 → w.cell? ⟨g, j * 6 + 2, none⟩ = some (.int .i64 (fl j).f.d)
  c3 : ∀ j, j < 9 → w.cell? ⟨g, j * 6 + 3, none⟩ = some (kv j)
  c4 : ∀ j, j < 9 → w.cell? ⟨g, j * 6 + 4, none⟩ = some (.bool (fl j).f.rests)
  c5 : ∀ j, j < 9 → w.cell? ⟨g, j * 6 + 5, none⟩ = some (.bool (fl j).f.anew)
  cs : ∀ j, j < 9 → RI Q w (kv j) (fl j).f.cs
  qg : Q g
theorem RefF.below {w w' : World} {g : Nat} {kv : Nat → Value} {fl : Nat → RFl} (h : RefF Q w g kv fl) (hb : Below w.heap.size w w') : RefF Q w' g kv fl := by
  have k : ∀ {p : Addr} {v : Value}, w.cell? p = some v → w'.cell? p = some v := fun hp => (hb.cell (cell_lt hp)).trans hp
  exact ⟨fun j hj => k (h.c0 j hj), fun j hj => k (h.c1 j hj), fun j hj => k (h.c2 j hj), fun j hj => k (h.c3 j hj), fun j hj => k (h.c4 j hj), fun j hj => k (h.c5 j hj), fun j hj => (h.cs j hj).below hb, h.qg⟩

/-- A ring of the reference. -/
structure RefIs (Q : Nat → Prop) (w : World) (v : Value) (fl : Nat → RFl) (row : List Int) : Prop where
  ex : ∃ g c kv rv, v = .agg #[.slice (some ⟨g, 0, none⟩) 9 c, rv] ∧ 9 ≤ c ∧ RefF Q w g kv fl ∧ RI Q w rv row
theorem RefIs.below {w w' : World} {v : Value} {fl : Nat → RFl} {row : List Int} (h : RefIs Q w v fl row) (hb : Below w.heap.size w w') : RefIs Q w' v fl row := by
  obtain ⟨g, c, kv, rv, hv, hc, hF, hr⟩ := h.ex
  exact ⟨g, c, kv, rv, hv, hc, hF.below hb, hr.below hb⟩

theorem there_c (w : World) (v : Value) (fl : Nat → RFl) (row : List Int) (h : RefIs Q w v fl row) (n : Int) :
    Calls Try.prog 28 #[v, .int .i64 n] w fun x w' => x = .returned (.bool (decide (0 ≤ n ∧ n ≤ 8) && (fl n.toNat).there)) ∧ Below w.heap.size w w' := by
  obtain ⟨g, c, kv, rv, rfl, hc, hF, hr⟩ := h.ex
  obtain ⟨A, cr, rfl, _⟩ := hr
  by_cases h0 : 0 ≤ n
  · by_cases h8 : n ≤ 8
    · obtain ⟨k, rfl⟩ := Int.eq_ofNat_of_zero_le h0
      have c0 := hF.c0 k (by omega)
      have hgl : g < w.heap.size := cell_lt c0
      have hk9 : k < 9 := by omega
      simp only [Int.toNat_natCast]
      generalize (fl k).there = t at *
      clear hF
      go_enter Try.func28, Try.ntmps28
      go_wp2_with fail
      go_ret
      exact ⟨ret_bool (by simp [h8]), (Below.refl _ _).alloc (Nat.le_refl _) _⟩
    · clear hF
      go_enter Try.func28, Try.ntmps28
      go_wp2_with fail
      go_ret
      exact ⟨ret_bool (by rw [decide_eq_false (show ¬ n ≤ 8 by omega)]; rfl), (Below.refl _ _).alloc (Nat.le_refl _) _⟩
  · clear hF
    go_enter Try.func28, Try.ntmps28
    go_wp2_with fail
    go_ret
    exact ⟨ret_bool (by rw [decide_eq_false (show ¬ 0 ≤ n by omega)]; rfl), (Below.refl _ _).alloc (Nat.le_refl _) _⟩
end Go.Proofs.Ytaenlieajlfkdaa
