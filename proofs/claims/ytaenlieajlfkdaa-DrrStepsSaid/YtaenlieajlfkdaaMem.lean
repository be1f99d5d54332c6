/- Words for memory that the walks of this seat share: a block known whole, and what a step leaves alone. No statement of the seat is proved here. -/
import Derived.Test.YtaenlieajlfkdaaProg
import Derived.WalkKit
import Derived.KernelRfl
import Derived.Lib.Hide
import Derived.Deep.QuietTactic
import Derived.BigQuiet
import Derived.WalkSpells
import Derived.Deep.DeepFit
import Derived.Deep.Draws
namespace Go.Proofs.Ytaenlieajlfkdaa
open Go.RowKit

def Blk (w : World) (g : Nat) (t : TypeId) (cs : Array Value) : Prop := w.heap[g]? = some (.cells cs t (0, 0))

section
variable {w w' : World} {g : Nat} {t : TypeId} {cs : Array Value}
theorem Blk.lt (h : Blk w g t cs) : g < w.heap.size := by
  rcases Nat.lt_or_ge g w.heap.size with hlt | hge
  · exact hlt
  · unfold Blk at h; rw [Array.getElem?_eq_none hge] at h; cases h
theorem Blk.cell (h : Blk w g t cs) (i : Nat) : w.cell? ⟨g, i, none⟩ = cs[i]? := cell_of_row w g i cs t (0, 0) h
theorem Blk.frozen (h : Blk w g t cs) (i : Nat) : w.frozen? ⟨g, i, none⟩ = false := by
  unfold Blk at h
  simp [World.frozen?, h]
theorem Blk.new (w : World) (t : TypeId) (cs : Array Value) : Blk (w.alloc (.cells cs t)) w.heap.size t cs := heap_alloc_new w _
theorem Blk.drew (h : Blk w g t cs) : Blk w.drew g t cs := h
theorem Blk.drewN (h : Blk w g t cs) (n : Nat) : Blk (w.drewN n) g t cs := h
theorem Blk.alloc (h : Blk w g t cs) (o : Obj) : Blk (w.alloc o) g t cs := (Below.heap_alloc w o g h.lt).trans h
theorem Blk.set_ (h : Blk w g t cs) (i : Nat) (u : Value) : Blk (w.setCell ⟨g, i, none⟩ u) g t (cs.setIfInBounds i u) := by
  unfold Blk at h ⊢
  simp [World.setCell, Array.getElem?_modify, h]
theorem Blk.far (h : Blk w g t cs) {p : Addr} (hp : g ≠ p.block) (u : Value) : Blk (w.setCell p u) g t cs := (Below.heap_setCell w p u g hp).trans h
theorem Blk.below {B : Nat} (h : Blk w g t cs) (hb : Below B w w') (hg : g < B) : Blk w' g t cs := (hb.block g hg).trans h
theorem Blk.grown {row : Option Nat} (h : Blk w g t cs) (hb : w.grownBy w' row) (hg : some g ≠ row) : Blk w' g t cs := (hb.block g h.lt hg).trans h
end

theorem only_refl (w : World) (g : Nat) : w.grownBy w (some g) := World.grownBy.refl _ _
theorem only_drewN {a w : World} {row : Option Nat} (h : a.grownBy w row) (n : Nat) : a.grownBy (w.drewN n) row := ⟨h.os, h.tape, h.output, h.size, h.block⟩
theorem only_drew {a w : World} {row : Option Nat} (h : a.grownBy w row) : a.grownBy w.drew row := ⟨h.os, h.tape, h.output, h.size, h.block⟩
theorem only_alloc {a w : World} {row : Option Nat} (h : a.grownBy w row) (o : Obj) : a.grownBy (w.alloc o) row :=
  ⟨h.os, h.tape, h.output, Nat.le_trans h.size (by simp), fun i hi hne => (Below.heap_alloc w o i (Nat.lt_of_lt_of_le hi h.size)).trans (h.block i hi hne)⟩
theorem only_setCell {a w : World} {g : Nat} (h : a.grownBy w (some g)) {p : Addr} (hp : p.block = g ∨ a.heap.size ≤ p.block) (u : Value) : a.grownBy (w.setCell p u) (some g) :=
  ⟨h.os, h.tape, h.output, by simpa [World.setCell] using h.size, fun i hi hne => (Below.heap_setCell w p u i (by
    rintro rfl
    rcases hp with hp | hp
    · exact hne (by rw [hp])
    · omega)).trans (h.block i hi hne)⟩
theorem only_setg {a w : World} {g : Nat} (h : a.grownBy w (some g)) (i : Nat) (u : Value) : a.grownBy (w.setCell ⟨g, i, none⟩ u) (some g) := only_setCell (p := ⟨g, i, none⟩) h (.inl rfl) u
theorem only_trans {a b c : World} {row : Option Nat} (h : a.grownBy b row) (k : b.grownBy c row) : a.grownBy c row :=
  ⟨k.os.trans h.os, k.tape.trans h.tape, k.output.trans h.output, Nat.le_trans h.size k.size, fun i hi hne => (k.block i (Nat.lt_of_lt_of_le hi h.size) hne).trans (h.block i hi hne)⟩
theorem only_of_below {a w : World} (h : Below a.heap.size a w) (row : Option Nat) : a.grownBy w row := ⟨h.os, h.tape, h.output, h.size, fun i hi _ => h.block i hi⟩
theorem below_of_none {a w : World} (h : a.grownBy w none) : Below a.heap.size a w := ⟨h.os, h.tape, h.output, h.size, fun i hi => h.block i hi (by simp)⟩
theorem below_drewN {B : Nat} {a w : World} (h : Below B a w) (n : Nat) : Below B a (w.drewN n) := ⟨h.os, h.tape, h.output, h.size, h.block⟩
theorem below_of_only {w w' : World} {g : Nat} (o : Obj) (h : (w.alloc o).grownBy w' (some g)) (hg : w.heap.size ≤ g) : Below w.heap.size w w' :=
  ((Below.refl _ _).alloc (Nat.le_refl _) o).trans ⟨h.os, h.tape, h.output, h.size, fun k hk => h.block k (by simp; omega) (by simp; omega)⟩
/-- From behind a step that wrote to one block of the call's own. -/
theorem below_only {B : Nat} {a w w' : World} {g : Nat} (h : Below B a w) (hg : w.grownBy w' (some g)) (hB : B ≤ w.heap.size) (hr : B ≤ g) : Below B a w' :=
  h.grown hg hB (fun k hk => by injection hk with hk; omega)

theorem block_of_add (a : Addr) (n : Nat) : (a.add n).block = a.block := by unfold Addr.add; split <;> rfl
theorem cell_lt {w : World} {a : Addr} {v : Value} (h : w.cell? a = some v) : a.block < w.heap.size := by
  rcases Nat.lt_or_ge a.block w.heap.size with hlt | hge
  · exact hlt
  · unfold World.cell? at h; rw [Array.getElem?_eq_none hge] at h; cases h
/-- What a step that only makes memory leaves: in the form in which a walk's simp takes it. -/
theorem keeps {B : Nat} {w w' : World} (h : Below B w w') (hB : w.heap.size ≤ B) : ∀ a v, w.cell? a = some v → w'.cell? a = some v := fun a v hc => by
  rw [h.cell (by have := cell_lt hc; omega)]; exact hc
theorem keepf {B : Nat} {w w' : World} (h : Below B w w') (hB : w.heap.size ≤ B) : ∀ a v, w.cell? a = some v → w'.frozen? a = w.frozen? a := fun a v hc => h.frozen (by have := cell_lt hc; omega)

theorem below_step {B : Nat} {a w w' : World} (h : Below B a w) (hB : B ≤ a.heap.size) (hb : Below w.heap.size w w') : Below B a w' := h.trans (hb.mono (by have := h.size; omega))

theorem ret_int {k : IntKind} {a b : Int} (h : a = b) : Ending.returned (.int k a) = .returned (.int k b) := by rw [h]
theorem ret_bool {a b : Bool} (h : a = b) : Ending.returned (.bool a) = .returned (.bool b) := by rw [h]

/-- A struct's value that a region puts into a new variable, laid behind the call that made it, or ahead of it. -/
theorem put_behind {W w3 : World} (h : Below W.heap.size W w3) (t : TypeId) (cs : Array Value) : Blk (w3.alloc (.cells cs t)) w3.heap.size t cs ∧ Below W.heap.size W (w3.alloc (.cells cs t)) ∧ W.heap.size ≤ w3.heap.size :=
  ⟨Blk.new _ _ _, h.alloc h.size _, h.size⟩
theorem put_ahead2 {W w3 : World} {t : TypeId} {a b c d : Value} (h : Below (W.alloc (.cells #[a, b] t)).heap.size (W.alloc (.cells #[a, b] t)) w3) :
    Blk ((w3.setCell ⟨W.heap.size, 0, none⟩ c).setCell ⟨W.heap.size, 1, none⟩ d) W.heap.size t #[c, d] ∧ Below W.heap.size W ((w3.setCell ⟨W.heap.size, 0, none⟩ c).setCell ⟨W.heap.size, 1, none⟩ d) := by
  have h0 : Blk w3 W.heap.size t #[a, b] := (Blk.new W t #[a, b]).below h (by simp)
  refine ⟨(h0.set_ 0 c).set_ 1 d, ?_⟩
  have h1 : Below W.heap.size W w3 := ((Below.refl _ _).alloc (Nat.le_refl _) _).trans (h.mono (by simp))
  exact (h1.setCell (p := ⟨W.heap.size, 0, none⟩) (Nat.le_refl _) c).setCell (p := ⟨W.heap.size, 1, none⟩) (Nat.le_refl _) d

theorem put_behind_d {W w3 : World} (h : Below W.drew.heap.size W.drew w3) (t : TypeId) (cs : Array Value) : Blk (w3.alloc (.cells cs t)) w3.heap.size t cs ∧ Below W.heap.size W (w3.alloc (.cells cs t)) ∧ W.heap.size ≤ w3.heap.size :=
  put_behind (W := W) ⟨h.os, h.tape, h.output, h.size, h.block⟩ t cs
theorem put_ahead2_d {W w3 : World} {t : TypeId} {a b : Value} (c d : Value) (h : Below (W.alloc (.cells #[a, b] t)).drew.heap.size (W.alloc (.cells #[a, b] t)).drew w3) :
    Blk ((w3.setCell ⟨W.heap.size, 0, none⟩ c).setCell ⟨W.heap.size, 1, none⟩ d) W.heap.size t #[c, d] ∧ Below W.heap.size W ((w3.setCell ⟨W.heap.size, 0, none⟩ c).setCell ⟨W.heap.size, 1, none⟩ d) :=
  put_ahead2 (W := W) (a := a) (b := b) ⟨h.os, h.tape, h.output, h.size, h.block⟩

/-- What a law owes: it tells true, and what was there is as it was. -/
def Tells (w : World) (b : Bool) (e : Ending) (w' : World) : Prop := e = .returned (.bool b) ∧ Below w.heap.size w w'
end Go.Proofs.Ytaenlieajlfkdaa
