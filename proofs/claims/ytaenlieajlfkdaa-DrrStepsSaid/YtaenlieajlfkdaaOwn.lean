/- A slice of the call's own that is cut in front and grows behind: a window in a block of its own. -/
import Derived.Test.YtaenlieajlfkdaaMem
import Derived.Laws.OwnMore
import Derived.Deep.AppendLies
import Derived.Maps.AppendAt
import Derived.RegionTactic
import Derived.OwnWalk
import Derived.Lib.SliceRun
import Derived.LaidEqlPtr
import Derived.Maps.OwnSet
import Derived.Maps.Views
namespace Go.Proofs.Ytaenlieajlfkdaa
open Go.RowKit
set_option linter.unusedVariables false
theorem add_of_add (a : Addr) (i j : Nat) : (a.add i).add j = a.add (i + j) := by
  unfold Addr.add
  by_cases hi : i = 0 <;> by_cases hj : j = 0 <;> simp [hi, hj, Nat.add_assoc]
theorem add_lit (b o n : Nat) : Addr.add ⟨b, o, none⟩ n = ⟨b, o + n, none⟩ := by
  unfold Addr.add; split <;> simp_all

/-- The slice v owns xs: cells of one each, in a block of type e that S knows. -/
def Win (w : World) (S : Nat → Prop) (e : TypeId) (v : Value) (xs : List Value) : Prop :=
  (v = .slice none 0 0 ∧ xs = []) ∨
  ∃ g o cap cur, v = .slice (some ⟨g, o, none⟩) xs.length cap ∧ S g ∧ w.heap[g]? = some (.cells cur e (0, 0)) ∧ xs.length ≤ cap ∧ cap ≤ maxLen ∧ o + cap ≤ cur.size ∧ ∀ j, j < xs.length → cur[o + j]? = xs[j]?

section
variable {w w' : World} {S : Nat → Prop} {e : TypeId} {v : Value} {xs : List Value}
theorem Win.nil_ : Win w S e (.slice none 0 0) [] := .inl ⟨rfl, rfl⟩
theorem Win.lt (h : Win w S e v xs) : ∀ k, v.ownBlock = some k → S k ∧ ∃ cur, w.heap[k]? = some (.cells cur e (0, 0)) := by
  intro k hk
  rcases h with ⟨rfl, _⟩ | ⟨g, o, cap, cur, rfl, hb, hg, _⟩
  · simp [Value.ownBlock] at hk
  · simp [Value.ownBlock] at hk
    subst hk
    exact ⟨hb, cur, hg⟩
theorem Win.kept {row : Option Nat} (h : Win w S e v xs) (hg : w.grownBy w' row) (hne : ∀ k, v.ownBlock = some k → row ≠ some k) : Win w' S e v xs := by
  rcases h with hn | ⟨g, o, cap, cur, rfl, hb, hgg, rest⟩
  · exact .inl hn
  · refine .inr ⟨g, o, cap, cur, rfl, hb, ?_, rest⟩
    rw [hg.block g (Array.getElem?_eq_some_iff.1 hgg).1 (fun e => hne g rfl e.symm)]
    exact hgg
theorem Win.form (h : Win w S e v xs) : ∃ A c, v = .slice A xs.length c ∧ xs.length ≤ c ∧ c ≤ maxLen := by
  rcases h with ⟨rfl, rfl⟩ | ⟨g, o, cap, cur, rfl, _, _, hc, hm, _⟩
  · exact ⟨none, 0, rfl, Nat.le_refl _, Nat.zero_le _⟩
  · exact ⟨_, cap, rfl, hc, hm⟩
theorem Win.at_ (h : Win w S e v xs) (hn : 0 < xs.length) : ∃ g o c, v = .slice (some ⟨g, o, none⟩) xs.length c ∧ S g ∧ xs.length ≤ c ∧ ∀ j, j < xs.length → w.cell? ⟨g, o + j, none⟩ = xs[j]? ∧ w.frozen? ⟨g, o + j, none⟩ = false := by
  rcases h with ⟨rfl, rfl⟩ | ⟨g, o, cap, cur, rfl, hb, hg, hc, hm, hs, hj⟩
  · simp at hn
  · refine ⟨g, o, cap, rfl, hb, hc, fun j hjl => ⟨?_, ?_⟩⟩
    · rw [cell_of_row w g (o + j) cur e (0, 0) hg]
      exact hj j hjl
    · simp [World.frozen?, hg]
theorem Win.of_own {B n : Nat} (h : w.ownsRow B e 1 v n xs) (hS : ∀ g, v.ownBlock = some g → S g) : Win w S e v xs := by
  have hl : xs.length = n := by simpa using h.1
  rcases h.2 with ⟨rfl, rfl⟩ | ⟨g, cap, cur, rfl, hb, hg, hc, hm, hs, ht⟩
  · exact .inl ⟨rfl, List.eq_nil_of_length_eq_zero hl⟩
  · refine .inr ⟨g, 0, cap, cur, by rw [hl], hS g rfl, hg, by omega, hm, by omega, fun j hj => ?_⟩
    rw [← ht, List.getElem?_take]
    rw [if_pos (by omega)]
    simp
theorem Win.more {S' : Nat → Prop} (h : Win w S e v xs) (hS : ∀ k, S k → k < w.heap.size → S' k) : Win w S' e v xs := by
  rcases h with hn | ⟨g, o, cap, cur, hv, hb, hg, rest⟩
  · exact .inl hn
  · exact .inr ⟨g, o, cap, cur, hv, hS g hb (Array.getElem?_eq_some_iff.1 hg).1, hg, rest⟩
/-- s[1:]. -/
theorem Win.tail {x : Value} {A : Option Addr} {n c : Nat} (h : Win w S e (.slice A n c) (x :: xs)) : Win w S e (.slice (if c = 1 then A else A.map (·.add 1)) xs.length (c - 1)) xs ∧
    (Value.slice (if c = 1 then A else A.map (·.add 1)) xs.length (c - 1)).ownBlock = (Value.slice A n c).ownBlock := by
  rcases h with ⟨_, h⟩ | ⟨g, o, cap, cur, hv, hb, hg, hc, hm, hs, hj⟩
  · cases h
  · injection hv with h1 h2 h3
    subst h1 h2 h3
    simp only [List.length_cons] at hc hj
    by_cases hc1 : c = 1
    · subst hc1
      have hx : xs = [] := List.eq_nil_of_length_eq_zero (by omega)
      subst hx
      rw [if_pos rfl]
      exact ⟨.inr ⟨g, o, 0, cur, rfl, hb, hg, Nat.le_refl _, Nat.zero_le _, by omega, fun j hj => by simp at hj⟩, rfl⟩
    · rw [if_neg hc1]
      refine ⟨.inr ⟨g, o + 1, c - 1, cur, by simp [add_lit], hb, hg, by omega, by omega, by omega, fun j hjl => ?_⟩, by simp [Value.ownBlock, add_lit]⟩
      have := hj (j + 1) (by omega)
      simp only [List.getElem?_cons_succ] at this
      rw [← this]
      congr 1
      omega
end

/-- append(v, u) of one element that lies at ad. -/
theorem run_append_win {P : Program} (w : World) (t ty e : TypeId) (i : TypeInfo) (z : Value) (ht : P.underlying t = some (.slice e)) (hi : P.info? e = some i) (hz : i.zero = some z)
    (hsize : i.size = 1) (hby : i.bytes = 8) (hzs : z.cells.size = 1) {S : Nat → Prop} {v : Value} {xs : List Value} (h : Win w S e v xs) (ad : Addr) (c : Nat) (u : Value) (hu : w.cell? ad = some u) (h1 : u.oneCell' = true)
    (hl : xs.length + 1 ≤ 1048576) (hS : S w.heap.size) :
    ∃ v' w', (Builtin.append_ #[t, t] ty #[v, .slice (some ad) 1 c]).run P w = .ok v' w' ∧ Win w' S e v' (xs ++ [u]) ∧ w.grownBy w' v.ownBlock ∧ (v'.ownBlock = v.ownBlock ∨ v'.ownBlock = some w.heap.size) := by
  have hnews : ∀ j v, [u][j]? = some v → w.cell? (ad.add j) = some v := by
    intro j v hj
    match j, hj with
    | 0, hj =>
      simp at hj
      subst hj
      simpa [Addr.add] using hu
  have h1' : ∀ v ∈ [u], v.oneCell' = true := by simpa using h1
  rcases h with ⟨rfl, rfl⟩ | ⟨g, o, cap, cur, rfl, hb, hg, hc, hm, hs, hj⟩
  · obtain ⟨v', w', hr, h2, h3, _, h5⟩ := run_append_own_at (P := P) w w.heap.size t ty e i z 1 8 ht hi hz hsize hby hzs (by omega) _ 0 [] (World.ownsRow_nil _ _ _ _) ad 1 c [u] (by simp) hnews h1' (by unfold maxLen; omega) (by omega) (Nat.le_refl _)
    have hSv : ∀ g, v'.ownBlock = some g → S g := fun g hg => by
      rcases h5 with h5 | h5
      · rw [h5] at hg; cases hg
      · rw [h5] at hg; injection hg with hg; exact hg ▸ hS
    exact ⟨v', w', hr, by simpa using Win.of_own (S := S) h2 hSv, h3, h5⟩
  · by_cases hroom : xs.length + 1 ≤ cap
    · have hf := run_firstCells_some (P := P) w i.size 1 ad 1 c [u] (by rw [hsize]; rfl) hnews
      have hst := run_storeCells_at P g (o + xs.length) e [u] 0 cur w hg (by simp; omega) h1'
      simp only [Nat.add_zero] at hst
      rw [hsize] at hf
      have hta : (#[u] : Array Value).toList = [u] := rfl
      simp only [List.singleton_append, List.append_assoc, List.length_cons, List.length_nil, Nat.zero_add] at hst
      refine ⟨.slice (some ⟨g, o, none⟩) (xs.length + 1) cap, w.setRow g (cur.toList.take (o + xs.length) ++ [u] ++ cur.toList.drop (o + xs.length + [u].length)).toArray, ?_, ?_, ?_, .inl rfl⟩
      · simp [Builtin.append_, run_underlying ht, sizeOf, typeInfo, hi, Builtin.lenOf, hroom, hsize, Addr.add_lit, hf, hst, Result.andThen]
      · refine .inr ⟨g, o, cap, _, by simp, hb, setRow_heap w g cur _ e _ hg, by simpa using hroom, hm, ?_, fun j hjl => ?_⟩
        · simp; omega
        · simp only [List.length_append, List.length_cons, List.length_nil] at hjl
          have hln : (cur.toList.take (o + xs.length)).length = o + xs.length := by simp; omega
          rw [List.getElem?_toArray, List.append_assoc]
          rcases Nat.lt_or_ge j xs.length with hlt | hge
          · rw [List.getElem?_append_left (by omega), List.getElem?_append_left hlt, List.getElem?_take, if_pos (by omega), ← hj j hlt]
            simp
          · obtain rfl : j = xs.length := by omega
            rw [List.getElem?_append_right (by omega), hln, Nat.sub_self, List.getElem?_append_right (Nat.le_refl _), Nat.sub_self]
            rfl
      · exact ⟨rfl, rfl, rfl, by simp, fun k _ hk => setRow_other w g k _ (fun e => hk (by simp [Value.ownBlock, e]))⟩
    · have holds : ∀ j u, xs[j]? = some u → w.cell? ((⟨g, o, none⟩ : Addr).add j) = some u := by
        intro j u hju
        rw [add_lit, cell_of_row w g (o + j) cur e (0, 0) hg, hj j (List.getElem?_eq_some_iff.1 hju).1]
        exact hju
      have hr := run_append_grow (P := P) w t ty e i z ht hi hz ⟨g, o, none⟩ xs.length cap xs (by rw [hsize]; omega) holds ad 1 c [u] (by rw [hsize]; rfl) hnews (by omega) (by omega) (growslice_fits (by omega) (by rw [hby]; omega))
      have hge := grownCap_ge w (xs.length + 1) cap e
      have hcm : grownCap w (xs.length + 1) cap e ≤ maxLen := grownCap_le_maxLen w (xs.length + 1) cap e (by unfold maxLen; omega)
      refine ⟨_, _, hr, ?_, ⟨rfl, rfl, rfl, by simp, fun k hk _ => heap_alloc_old w.drew _ hk⟩, .inr rfl⟩
      refine .inr ⟨w.heap.size, 0, _, _, by simp, hS, heap_alloc_new w.drew _, by simpa using hge, hcm, ?_, fun j hjl => ?_⟩
      · simp only [Array.size_append, List.size_toArray, size_zeroCells, hzs, List.length_cons, List.length_nil]
        omega
      · rw [Nat.zero_add, Array.getElem?_append_left (by simpa using hjl)]
        simp

theorem wpList_append_win {P : Program} (w : World) {ops : Array Oper} {rest : List Oper} {o : Oper} {a : Act} {Q : Exit → Act → World → Prop} (hgd : o.guard = none) (s x : Operand) (t : TypeId)
    (ho : o.op = .call { callee := .builtin .append, args := #[s, x], argTypes := #[t, t] })
    (e : TypeId) (i : TypeInfo) (z : Value) (ht : P.underlying t = some (.slice e)) (hi : P.info? e = some i) (hz : i.zero = some z)
    (hsize : i.size = 1) (hby : i.bytes = 8) (hzs : z.cells.size = 1) {S : Nat → Prop} {v : Value} {xs : List Value} (hs : a.eval s = v) (h : Win w S e v xs) (ad : Addr) (c : Nat) (u : Value) (hx : a.eval x = .slice (some ad) 1 c) (hu : w.cell? ad = some u) (h1 : u.oneCell' = true)
    (hl : xs.length + 1 ≤ 1048576) (hS : S w.heap.size)
    (hK : ∀ v' w', Win w' S e v' (xs ++ [u]) → w.grownBy w' v.ownBlock → (v'.ownBlock = v.ownBlock ∨ v'.ownBlock = some w.heap.size) → wpList P ops Q rest (a.put o.dst v') w') : wpList P ops Q (o :: rest) a w :=
  wpList_plain hgd fun _ hK' => by
    obtain ⟨v', w', hrun, h2, h3, h4⟩ := run_append_win (P := P) w t o.type e i z ht hi hz hsize hby hzs h ad c u hu h1 hl hS
    unfold Oper.wp execOp
    simp only [ho, resolve, invoke, builtin, Sem.run_bind, Sem.run_pure, Result.andThen_ok, List.map_toArray, List.map_cons, List.map_nil, hs, hx, hrun]
    exact hK' _ _ (hK v' w' h2 h3 h4)

end Go.Proofs.Ytaenlieajlfkdaa
