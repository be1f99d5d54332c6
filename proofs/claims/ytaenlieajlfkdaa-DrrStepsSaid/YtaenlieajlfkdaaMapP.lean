/- The ring's map from numbers to flows. -/
import Derived.Test.YtaenlieajlfkdaaOwn
import Derived.Test.YtaenlieajlfkdaaRow
namespace Go.Proofs.Ytaenlieajlfkdaa
open Go.RowKit Go.Maps
set_option linter.unusedVariables false

def ptr (b : Option Nat) : Value := .pointer (b.map fun b => ⟨b, 0, none⟩)
def code : Option Nat → Int | none => -1 | some b => b
/-- How a pointer reads. -/
def ptrR (v : Value) : Option (DataW Unit × List MemPlace) := match v with
  | .pointer none => some (.lit (.int .i64 (-1)), [])
  | .pointer (some ⟨b, 0, none⟩) => some (.lit (.int .i64 b), [])
  | _ => none
theorem ptrR_ptr (b : Option Nat) : ptrR (ptr b) = some (.lit (.int .i64 (code b)), []) := by cases b <;> rfl
theorem ptrR_inv {v : Value} {b : Option Nat} {ps : List MemPlace} (h : ptrR v = some (.lit (.int .i64 (code b)), ps)) : v = ptr b := by
  unfold ptrR at h
  split at h
  · cases b with
    | none => rfl
    | some b => simp [code] at h <;> omega
  · rename_i c
    cases b with
    | none => simp [code] at h <;> omega
    | some b =>
      simp [code] at h
      obtain ⟨h, _⟩ := h
      have h' : c = b := by omega
      rw [h']
      rfl
  · cases h

def put (ad : Int → Option Nat) (k : Int) (b : Option Nat) : Int → Option Nat := fun n => if n = k then b else ad n

/-- The map value M tells of each number which flow it is; at most n were laid. -/
def MapIs (w : World) (S : Nat → Prop) (M : Value) (ad : Int → Option Nat) (n : Nat) : Prop :=
  (M = .map none ∧ ∀ k, ad k = none) ∨
  ∃ m D, M = .map (some m) ∧ S m ∧ w.ownsMap Try.prog 3 ptrR m n D ∧ IsMap D ∧ ∀ k, D.atKey (.int .i64 k) (.lit (.int .i64 (-1))) = .lit (.int .i64 (code (ad k)))

section
variable {w w' : World} {S S' : Nat → Prop} {M : Value} {ad : Int → Option Nat} {n : Nat}
theorem keyed3 : Keyed Try.prog 3 := int_keyed Try.underlying3
theorem key3 {k : Int} (hk : I64 k) : keyOf Try.prog 3 (.int .i64 k) = some (.int .i64 k) := keyOf_int_mk Try.underlying3 (by obtain ⟨a, b⟩ := hk; simp [Lit.wf]; exact ⟨a, b⟩)
theorem zero57 (w : World) : (zeroValue 57).run Try.prog w = .ok (ptr none) w := by kernel_rfl

theorem MapIs.kept {row : Option Nat} (h : MapIs w S M ad n) (hg : w.grownBy w' row) (hne : ∀ k, row = some k → M ≠ .map (some k)) : MapIs w' S M ad n := by
  rcases h with h | ⟨m, D, rfl, hS, hD, r⟩
  · exact .inl h
  · exact .inr ⟨m, D, rfl, hS, hD.kept hg (fun e => hne m e.symm rfl), r⟩
theorem MapIs.lt {m : Nat} (h : MapIs w S (.map (some m)) ad n) : S m ∧ ∃ es c, w.heap[m]? = some (.map es c) := by
  rcases h with ⟨h, _⟩ | ⟨m', D, hm, hS, ⟨es, c, hb, _⟩, _⟩
  · cases h
  · injection hm with hm; injection hm with hm; subst hm; exact ⟨hS, es, c, hb⟩
theorem MapIs.more (h : MapIs w S M ad n) (hS : ∀ k, S k → k < w.heap.size → S' k) : MapIs w S' M ad n := by
  rcases h with h | ⟨m, D, rfl, hm, hD, r⟩
  · exact .inl h
  · exact .inr ⟨m, D, rfl, hS m hm hD.lt, hD, r⟩
theorem MapIs.mono {n' : Nat} (h : MapIs w S M ad n) (hn : n ≤ n') : MapIs w S M ad n' := by
  rcases h with h | ⟨m, D, rfl, hm, hD, r⟩
  · exact .inl h
  · exact .inr ⟨m, D, rfl, hm, hD.mono hn, r⟩
theorem MapIs.made (w : World) (hS : S w.heap.size) : MapIs (w.alloc (.map #[] 0)) S (.map (some w.heap.size)) (fun _ => none) 0 :=
  .inr ⟨_, _, rfl, hS, World.ownsMap_made w _ _ _, isMap_empty, fun k => rfl⟩
theorem MapIs.lookup (h : MapIs w S M ad n) {k : Int} (hk : I64 k) : (Instr.lookup 25 M (.int .i64 k) false).run Try.prog w = .ok (ptr (ad k)) w := by
  rcases h with ⟨rfl, h⟩ | ⟨m, D, rfl, hS, hD, hm, ha⟩
  · rw [h k]
    exact Maps.look_nil false keyed3 Try.underlying25 (zero57 w) (key3 hk)
  · obtain ⟨v, ps, hr, hv⟩ := hD.lookup keyed3 Try.underlying25 (zero57 w) (zd := .lit (.int .i64 (-1))) (zp := []) rfl (key3 hk)
    rw [ha k] at hv
    rw [ptrR_inv hv] at hr
    exact hr
theorem isKey (k : Int) : WideAt.IsKeyLit (.int .i64 k) := by simp [WideAt.IsKeyLit]
theorem MapIs.update {m : Nat} (h : MapIs w S (.map (some m)) ad n) {k : Int} (hk : I64 k) (b : Option Nat) (hn : n < maxLen) :
    ∃ w', (Instr.mapUpdate 25 (.map (some m)) (.int .i64 k) (ptr b)).run Try.prog w = .ok () w' ∧ MapIs w' S (.map (some m)) (put ad k b) (n + 1) ∧ w.grownBy w' (some m) := by
  rcases h with ⟨h, _⟩ | ⟨m', D, hm, hS, hD, hi, ha⟩
  · cases h
  · injection hm with hm; injection hm with hm; subst hm
    obtain ⟨w', hr, h2, h3⟩ := hD.update keyed3 Try.underlying25 hn (key3 hk) (ptrR_ptr b)
    refine ⟨w', hr, .inr ⟨m, _, rfl, hS, h2, hi.put _ _, fun j => ?_⟩, h3⟩
    unfold put
    by_cases hj : j = k
    · subst hj
      rw [if_pos rfl, atKey_put_same hi (isKey _)]
    · rw [if_neg hj, atKey_put_other (by simpa using hj), ha]
theorem MapIs.delete (h : MapIs w S M ad n) {k : Int} (hk : I64 k) (ty : TypeId) :
    ∃ w', (Builtin.delete_ #[25, 3] ty #[M, .int .i64 k]).run Try.prog w = .ok (.tuple #[]) w' ∧ MapIs w' S M (put ad k none) n ∧ ∃ row, w.grownBy w' row ∧ ∀ m, row = some m → M = .map (some m) := by
  rcases h with ⟨rfl, h⟩ | ⟨m, D, rfl, hS, hD, hi, ha⟩
  · refine ⟨w, Maps.drop_nil keyed3 Try.underlying25 (key3 hk) ty, .inl ⟨rfl, fun j => ?_⟩, none, World.grownBy.refl _ _, by simp⟩
    unfold put; split
    · rfl
    · exact h j
  · obtain ⟨w', hr, h2, h3⟩ := hD.drop keyed3 Try.underlying25 (key3 hk) ty
    refine ⟨w', hr, .inr ⟨m, _, rfl, hS, h2, hi.del _, fun j => ?_⟩, some m, h3.grown, fun m' e => by injection e with e; rw [e]⟩
    unfold put
    by_cases hj : j = k
    · subst hj
      rw [if_pos rfl, atKey_del_same]; rfl
    · rw [if_neg hj, atKey_del_other (by simpa using hj), ha]
end
end Go.Proofs.Ytaenlieajlfkdaa
