/- What the document's Same does of two lists that are the same. -/
import Derived.Test.YthifnnogpcgjpaaFeed
import Derived.Test.YthifnnogpcgjpaaAll2
namespace Go.Proofs.Ythifnnogpcgjpaa
open Go.RowKit
set_option linter.unusedSimpArgs false

theorem cellsF_at {l : List Fr} : ∀ {k : Nat} {x : Fr}, l[k]? = some x → (cellsF l)[k * 3]? = some (.int .i64 x.k) ∧ (cellsF l)[k * 3 + 1]? = some (.int .i64 x.f) ∧ (cellsF l)[k * 3 + 2]? = some (.string x.b) := by
  induction l with
  | nil => intro k x h; simp at h
  | cons y l ih =>
    intro k x h
    have e : cellsF (y :: l) = .int .i64 y.k :: .int .i64 y.f :: .string y.b :: cellsF l := rfl
    rw [e]
    cases k with
    | zero =>
      simp at h
      subst h
      exact ⟨rfl, rfl, rfl⟩
    | succ k =>
      have := ih (k := k) (x := x) (by simpa using h)
      rw [show (k + 1) * 3 = k * 3 + 3 by omega]
      exact this

theorem own_at {w : World} {base g c : Nat} {l : List Fr} {k : Nat} {x : Fr} (h : w.ownsRow base 23 3 (.slice (some ⟨g, 0, none⟩) l.length c) l.length (cellsF l)) (hx : l[k]? = some x) :
    w.cell? ⟨g, k * 3, none⟩ = some (.int .i64 x.k) ∧ w.cell? ⟨g, k * 3 + 1, none⟩ = some (.int .i64 x.f) ∧ w.cell? ⟨g, k * 3 + 2, none⟩ = some (.string x.b) := by
  obtain ⟨h0, h1, h2⟩ := cellsF_at hx
  have e : ∀ j, (⟨g, 0, none⟩ : Addr).add j = ⟨g, j, none⟩ := fun j => by unfold Addr.add; split <;> simp_all
  refine ⟨?_, ?_, ?_⟩
  · rw [← e]; exact h.cells (g := g) rfl _ _ h0
  · rw [← e]; exact h.cells (g := g) rfl _ _ h1
  · rw [← e]; exact h.cells (g := g) rfl _ _ h2

set_option maxHeartbeats 1000000 in
theorem same_c (w : World) (l : List Fr) (b1 b2 : Nat) (v1 v2 : Value) (h1 : w.ownsRow b1 23 3 v1 l.length (cellsF l)) (h2 : w.ownsRow b2 23 3 v2 l.length (cellsF l)) (hn : l.length ≤ 1048576) :
    Calls Try.prog 24 #[v1, v2] w (Tells w true) := by
  obtain ⟨A1, c1, rfl, _⟩ := own_form h1
  obtain ⟨A2, c2, rfl, _⟩ := own_form h2
  have H1 := Lib.hid h1
  have H2 := Lib.hid h2
  clear h1 h2
  go_enter Try.func24, Try.ntmps24
  go_wp2_with fail
  go_loopw [5] (fun i wr => ∃ k : Nat, k ≤ l.length ∧ i = .int .i64 k ∧ Below w.heap.size w wr) (fun i _ => l.length - (intOf i).toNat)
  case atStart => exact ⟨0, by omega, rfl, Below.refl _ _⟩
  case round =>
    obtain ⟨k, hk, rfl, hbel⟩ := hrel
    by_cases hlt : k < l.length
    · have o1 := own_below H1.out hbel
      have o2 := own_below H2.out hbel
      obtain ⟨g1, cap1, e1, hg1, _⟩ := o1.form (by omega)
      obtain ⟨g2, cap2, e2, hg2, _⟩ := o2.form (by omega)
      cases e1
      cases e2
      have hx : l[k]? = some l[k] := List.getElem?_eq_getElem hlt
      obtain ⟨p0, p1, p2⟩ := own_at o1 hx
      obtain ⟨q0, q1, q2⟩ := own_at o2 hx
      generalize l[k] = x at *
      have Hb := Lib.hid hbel
      clear o1 o2 hx hbel
      generalize hn : l.length = n at *
      go_wp2_with fail
      go_quiet (fail)
      go_wp2_with fail
      go_roundw
      case rel => exact ⟨k + 1, by omega, by go_num, below_drewN Hb.out _⟩
      case measure => simp [intOf]; omega
    · go_wp2_with fail
      go_ret
      exact ⟨rfl, hbel⟩
end Go.Proofs.Ythifnnogpcgjpaa
