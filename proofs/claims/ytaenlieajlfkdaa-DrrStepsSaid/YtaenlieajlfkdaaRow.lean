/- How a law's arguments are opened, and shut again behind a call that leaves what was there as it was. -/
import Derived.Test.YtaenlieajlfkdaaMem
import Derived.Test.YtaenlieajlfkdaaRows
import Derived.ProofKit
import Derived.OpenShut
import Derived.ShutString
import Derived.ChangeOld
import Derived.SizedLaws
import Derived.Deep.Slices
import Derived.Deep.Fields
import Derived.ChangeSame
namespace Go.Proofs.Ytaenlieajlfkdaa
open Go.ChangeShapes Go.WideShapes Go.ChangeAt Go.RowKit Go.Deep
open Go.ChangeMaps (open_string shut_string)

theorem Try.own : ownKnob Try.prog.godebug = none := by kernel_rfl
theorem Try.laidOut : laidOutB Try.prog = true := by kernel_rfl

theorem trodAll_stays {H : Type} {enc : TypeId × Value → H} {P : Program} (hl : laidOutB P = true) {W W' : World} (hb : Below W.heap.size W W') :
    ∀ (ts : List TypeId) (vs : List Value) (ds : List (DataW H)) (p : List MemPlace), (∀ t ∈ ts, P.readableRec t = true ∧ t < P.types.size) → (∀ x ∈ p, x.block < W.heap.size) →
    DataW.TrodAll enc P W 0 (fun _ => true) true ts vs ds p → DataW.TrodAll enc P W' 0 (fun b => decide (b < W.heap.size)) true ts vs ds p
  | [], vs, ds, p, _, _, h => by
    obtain ⟨rfl, rfl, rfl⟩ := trodAll_nil h
    exact trodAll_mk0
  | t :: ts, vs, ds, p, ht, hp, h => by
    obtain ⟨v0, vs0, d0, ds0, p0, q0, rfl, rfl, rfl, h0, r0⟩ := trodAll_cons h
    exact trodAll_cons_mk (Below.trod hl (ht t (by simp)).1 (ht t (by simp)).2 h0 hb (fun x hx => hp x (by simp [hx])))
      (trodAll_stays hl hb ts vs0 ds0 q0 (fun t' h' => ht t' (by simp [h'])) (fun x hx => hp x (by simp [hx])) r0)

section
variable {H : Type} {enc : TypeId × Value → H} {P : Program} {w : World} {base : Nat} {spare : Nat → Bool} {held : Bool}
theorem open_slice_fields {t e : TypeId} {fs : Array Field} {fuel : Nat} {cs : List Value} {x : DataW H × List MemPlace} (ht : P.underlying t = some (.slice e)) (he : P.underlying e = some (.struct fs))
    (hone : oneCellFields P fs = true) (hC : P.cellsOf e = fs.size) (h : DataW.trod enc P w base spare held fuel t cs = some x) :
    (cs = [.slice none 0 0] ∧ x = (.nil, [])) ∨
    ∃ (a : Addr) (len cap m : Nat) (D : Nat → DataW H) (Pl : Nat → List MemPlace), cs = [.slice (some a) len cap] ∧ base ≤ a.block ∧ len ≤ cap ∧ cap ≤ maxLen ∧ m = (if spare a.block then cap else len) ∧
      x = (.slice ((List.range len).map D) ((List.range (m - len)).map fun j => D (len + j)), MemPlace.row a (m * fs.size) ++ (List.range m).flatMap Pl) ∧
      ∀ i, i < m → ∃ (ys : List (DataW H × List MemPlace)) (n : Nat), D i = .agg (ys.map (·.1)) ∧ Pl i = ys.flatMap (·.2) ∧ ys.length = fs.size ∧
        ∀ (j : Nat) (f : Field), fs[j]? = some f → ∃ (v : Value) (y : DataW H × List MemPlace), w.cell? (a.add (i * fs.size + j)) = some v ∧ ys[j]? = some y ∧ DataW.trod enc P w base spare held n f.type [v] = some y := by
  rcases Go.Deep.open_slice ht h with h0 | ⟨a, len, cap, m, n, D, Pl, hcs, hb, hl, hm, hmm, hx, hi⟩
  · exact .inl h0
  · refine .inr ⟨a, len, cap, m, D, Pl, hcs, hb, hl, hm, hmm, by rw [hC] at hx; exact hx, fun i him => ?_⟩
    obtain ⟨cs', hc, ht'⟩ := hi i him
    rw [hC] at hc
    obtain ⟨ys, n', hn', hy, hlen, hyl, hf⟩ := DataW.trod_struct he ht'
    obtain ⟨_, hcl, hat⟩ := World.cells?_some hc
    simp only [Prod.mk.injEq] at hy
    refine ⟨ys, n', hy.1, hy.2, hyl, fun j f hj => ?_⟩
    obtain ⟨ho, hk⟩ := Go.Deep.hone_of hone j f hj
    have hjl : j < fs.size := (Array.getElem?_eq_some_iff.1 hj).1
    have hcell := hat j hjl
    have hv : cs'[j]? = some (cs'[j]'(by omega)) := List.getElem?_eq_getElem (by omega)
    have h1 := hf j f hj
    rw [ho, hk] at h1
    have hone' : (cs'.drop j).take 1 = [cs'[j]'(by omega)] := by
      rw [List.drop_eq_getElem_cons (by omega)]
      rfl
    rw [hone'] at h1
    have hys : ys[j]? = some (ys[j]'(by omega)) := List.getElem?_eq_getElem (by omega)
    refine ⟨_, _, ?_, hys, h1.trans hys⟩
    rw [← Go.Deep.add_add, hcell, hv]
end

def I64 (n : Int) : Prop := -9223372036854775808 ≤ n ∧ n ≤ 9223372036854775807
theorem i64_of_wf {n : Int} (h : (Lit.int .i64 n).wf = true) : I64 n := by
  have := bounds_i64 h
  exact ⟨by omega, by omega⟩

/-- Row i, field j of a slice of structs of s fields, each a number of kind int, as the walk spells its place. -/
def cellAt (ad : Addr) (s i j : Nat) : Addr := if j = 0 then ad.add (i * s) else ⟨(ad.add (i * s)).block, (ad.add (i * s)).off + j, none⟩
theorem cellAt_block (ad : Addr) (s i j : Nat) : (cellAt ad s i j).block = ad.block := by
  unfold cellAt; split
  · exact block_of_add _ _
  · exact block_of_add _ _
theorem cellAt_add (ad : Addr) (s i j : Nat) : ad.add (i * s + j) = cellAt ad s i j := by
  unfold cellAt
  split
  · rename_i h; rw [h, Nat.add_zero]
  · rename_i h
    rw [← Go.Deep.add_add]
    unfold Addr.add
    rw [if_neg h]

def Ints (w : World) (A : Option Addr) (n s : Nat) (f : Nat → Nat → Int) : Prop :=
  ∀ i, i < n → ∃ ad, A = some ad ∧ ad.block < w.heap.size ∧ ∀ j, j < s → w.cell? (cellAt ad s i j) = some (.int .i64 (f i j)) ∧ I64 (f i j)

theorem open_int_structs {H : Type} {enc : TypeId × Value → H} {W : World} {t e i : TypeId} {fs : Array Field} {v : Value} {d : DataW H} {p : List MemPlace}
    (ht : Try.prog.underlying t = some (.slice e)) (he : Try.prog.underlying e = some (.struct fs)) (hone : oneCellFields Try.prog fs = true) (hC : Try.prog.cellsOf e = fs.size)
    (h0 : 0 < fs.size) (hi : Try.prog.underlying i = some (.int .i64)) (hfi : ∀ (j : Nat) (f : Field), fs[j]? = some f → f.type = i) {r : Reach} {b : Nat} (hv : Value.okWide Try.prog W r b t v)
    (h : DataW.Trod enc Try.prog W 0 (fun _ => true) true t v d p) :
    ∃ (A : Option Addr) (n c : Nat) (f : Nat → Nat → Int), v = .slice A n c ∧ n ≤ maxLen ∧ Ints W A n fs.size f := by
  obtain ⟨a0, len0, cap0, rfl⟩ := okWide_slice ht hv
  obtain ⟨fuel, hf⟩ := h
  have hf : DataW.trod enc Try.prog W 0 (fun _ => true) true fuel t [.slice a0 len0 cap0] = some (d, p) := by simpa [Value.cells] using hf
  rcases open_slice_fields ht he hone hC hf with ⟨hcs, _⟩ | ⟨a, len, cap, m, D, Pl, hcs, _, hl, hm, hmm, _, hall⟩
  · injection hcs with hcs; injection hcs with h1 h2 h3
    subst h1 h2 h3
    exact ⟨none, 0, 0, fun _ _ => 0, rfl, by simp [maxLen], fun i hi => absurd hi (by omega)⟩
  · injection hcs with hcs; injection hcs with h1 h2 h3
    subst h1 h2 h3
    have hmm : m = cap0 := by simpa using hmm
    subst hmm
    have key : ∀ i, i < len0 → ∀ j, j < fs.size → ∃ x : Int, W.cell? (cellAt a fs.size i j) = some (.int .i64 x) ∧ I64 x := by
      intro i hi j hj
      obtain ⟨ys, n, _, _, _, hall⟩ := hall i (by omega)
      obtain ⟨v, y, hc, _, hy⟩ := hall j _ (Array.getElem?_eq_getElem hj)
      rw [hfi j _ (Array.getElem?_eq_getElem hj)] at hy
      obtain ⟨x, hx, hcs, hw⟩ := DataW.trod_int ‹Try.prog.underlying _ = some (.int .i64)› hy
      rw [cellAt_add] at hc
      injection hx with hx
      subst hx
      exact ⟨x, hc, i64_of_wf hw⟩
    refine ⟨some a, len0, m, fun i j => if h : i < len0 ∧ j < fs.size then (key i h.1 j h.2).choose else 0, rfl, by omega, fun i hi => ?_⟩
    refine ⟨a, rfl, ?_, fun j hj => ?_⟩
    · have := cell_lt (key i hi 0 h0).choose_spec.1
      rwa [cellAt_block] at this
    · show W.cell? _ = some (.int .i64 (if h : i < len0 ∧ j < fs.size then (key i h.1 j h.2).choose else 0)) ∧ I64 (if h : i < len0 ∧ j < fs.size then (key i h.1 j h.2).choose else 0)
      rw [dif_pos ⟨hi, hj⟩]
      exact (key i hi j hj).choose_spec

section
variable {H : Type} {enc : TypeId × Value → H} {P : Program}
theorem post_of_tells {f : Func} {s : ChangeSpec} {W W' : World} {args : Array Value} {e : Ending} {ds gs : List (DataW H)} {before : List MemPlace}
    (hl : laidOutB P = true) (hr0 : f.params.toList.all (fun t => P.readableRec t && decide (t < P.types.size)) = true)
    (hrt : ∃ t, f.resultTypes = #[t] ∧ P.underlying t = some .bool) (hvars : s.vars = [])
    (hs : s.fn H (ds ++ gs) = { results := [.lit (.bool true)], args := ds })
    (hW : DataW.Whole enc P f.params.toList s.vars false W args.toList ds gs before) (ht : Tells W true e W') :
    ∃ v, e = .returned v ∧ s.post enc P f false true false false W args v W' := by
  have hr : ∀ t ∈ f.params.toList, P.readableRec t = true ∧ t < P.types.size := fun t h => by
    have := List.all_eq_true.1 hr0 t h
    simp only [Bool.and_eq_true, decide_eq_true_eq] at this
    exact this
  obtain ⟨he, hb⟩ := ht
  obtain ⟨t, hrt, htu⟩ := hrt
  have hW' := hW
  obtain ⟨p, q, hA, hV, rfl, _, _⟩ := hW
  rw [hvars] at hV
  obtain ⟨rfl, rfl⟩ := trodVars_none hV
  have hlt : ∀ x ∈ p ++ [], x.block < W.heap.size := fun x hx => hW'.lt x hx
  refine ⟨_, he, ds, [], p ++ [], [], p, [], hW', ?_, ?_, ?_, hb.frame _, fun h => by cases h⟩
  · rw [hrt, hs]
    exact trodAll_mk1 (shut_bool htu _)
  · rw [hs]
    exact trodAll_stays hl hb _ _ _ _ hr (fun x hx => hlt x (by simp [hx])) hA
  · rw [hvars]
    have e : (s.fn H (ds ++ [])).vars = [] := by rw [hs]
    rw [e]
    exact rfl
end
end Go.Proofs.Ytaenlieajlfkdaa
