/- The memory of DrrOrder: the ring, what came, and who rests. -/
import Derived.Test.YtaenlieajlfkdaaOrdSpec
namespace Go.Proofs.Ytaenlieajlfkdaa
open Go.RowKit Go.Maps
set_option linter.unusedVariables false
set_option linter.unnecessarySimpa false
set_option linter.unusedSimpArgs false

/-- A row of nine. -/
def RowV (w : World) (b : Nat) (t : TypeId) (F : Nat → Value) : Prop := ∃ cs, Blk w b t cs ∧ cs.size = 9 ∧ ∀ j, j < 9 → cs[j]? = some (F j)
def updV {α : Type} (F : Nat → α) (j : Nat) (v : α) : Nat → α := fun k => if k = j then v else F k
theorem updV_at {α : Type} (F : Nat → α) (j : Nat) (v : α) : updV F j v j = v := if_pos rfl
theorem updV_ne {α : Type} (F : Nat → α) {j k : Nat} (v : α) (h : k ≠ j) : updV F j v k = F k := if_neg h
section
variable {w w' : World} {b : Nat} {t : TypeId} {F : Nat → Value}
theorem RowV.cell (h : RowV w b t F) {j : Nat} (hj : j < 9) : w.cell? ⟨b, j, none⟩ = some (F j) := by
  obtain ⟨cs, hb, _, hc⟩ := h
  rw [hb.cell]; exact hc j hj
theorem RowV.frozen (h : RowV w b t F) (j : Nat) : w.frozen? ⟨b, j, none⟩ = false := by
  obtain ⟨cs, hb, _⟩ := h
  exact hb.frozen j
theorem RowV.lt (h : RowV w b t F) : b < w.heap.size := by obtain ⟨cs, hb, _⟩ := h; exact hb.lt
theorem RowV.blk (h : RowV w b t F) : ∃ cs, w.heap[b]? = some (.cells cs t (0, 0)) := by obtain ⟨cs, hb, _⟩ := h; exact ⟨cs, hb⟩
theorem RowV.set_ (h : RowV w b t F) (j : Nat) (v : Value) : RowV (w.setCell ⟨b, j, none⟩ v) b t (updV F j v) := by
  obtain ⟨cs, hb, hs, hc⟩ := h
  refine ⟨_, hb.set_ j _, by simpa using hs, fun k hk => ?_⟩
  rw [Array.getElem?_setIfInBounds]
  unfold updV
  split
  · rename_i e
    subst e
    rw [if_pos (by omega), if_pos rfl]
  · rename_i e
    rw [if_neg (fun e' => e e'.symm)]
    exact hc k hk
theorem RowV.same (h : RowV w b t F) (hs : w'.heap[b]? = w.heap[b]?) : RowV w' b t F := by
  obtain ⟨cs, hb, r⟩ := h
  exact ⟨cs, hs.trans hb, r⟩
theorem RowV.congr {F' : Nat → Value} (h : RowV w b t F) (he : ∀ j, j < 9 → F j = F' j) : RowV w b t F' := by
  obtain ⟨cs, hb, hs, hc⟩ := h
  exact ⟨cs, hb, hs, fun j hj => by rw [← he j hj]; exact hc j hj⟩
end

structure OrdM (w : World) (B : Nat) (S : Nat → Prop) (ad : Int → Option Nat) (st : Int → FS) (row : List Int) (N : Nat) (C : Nat → List Int) (R : Nat → Bool) (cm : Nat → Value) (wr : World) : Prop where
  ring : Rg wr S B ad st row N
  sB : ∀ k, S k → B ≤ k ∧ k < wr.heap.size
  n1 : ¬ S (B + 1)
  n2 : ¬ S (B + 2)
  came : RowV wr (B + 1) 36 cm
  win : ∀ j, j < 9 → Win wr (fun k => B ≤ k ∧ ¬ S k) 3 (cm j) (ints (C j))
  dis : ∀ i j k, i < 9 → j < 9 → i ≠ j → (cm i).ownBlock = some k → (cm j).ownBlock ≠ some k
  rests : RowV wr (B + 2) 4 (fun j => .bool (R j))
  bel : Below B w wr

section
variable {w : World} {B : Nat} {S : Nat → Prop} {ad : Int → Option Nat} {st : Int → FS} {row : List Int} {N : Nat} {C : Nat → List Int} {R : Nat → Bool} {cm : Nat → Value} {wr : World}
theorem OrdM.sz (h : OrdM w B S ad st row N C R cm wr) : B + 2 < wr.heap.size := h.rests.lt
/-- All that the ring does not know is as it was. -/
theorem OrdM.moved (h : OrdM w B S ad st row N C R cm wr) {ad' : Int → Option Nat} {st' : Int → FS} {row' : List Int} {N' : Nat} {w' : World} (hm : Moved wr w' (fun k => S k ∨ wr.heap.size ≤ k)) (hr : Rg w' (fun k => S k ∨ wr.heap.size ≤ k) B ad' st' row' N') :
    OrdM w B (fun k => (S k ∨ wr.heap.size ≤ k) ∧ k < w'.heap.size) ad' st' row' N' C R cm w' := by
  have hsz := h.sz
  have hs' := hm.size
  have hkeep : ∀ k, k < wr.heap.size → ¬ S k → w'.heap[k]? = wr.heap[k]? := fun k hk hS => hm.block k hk (fun e => by rcases e with e | e; exact hS e; omega)
  refine ⟨?_, fun k hk => ⟨?_, hk.2⟩, ?_, ?_, h.came.same (hkeep _ (by omega) h.n1), fun j hj => ?_, h.dis, h.rests.same (hkeep _ (by omega) h.n2), ?_⟩
  · obtain ⟨M, rv, cv, hR⟩ := hr
    exact ⟨M, rv, cv, hR.more fun k hk hlt => ⟨hk, hlt⟩⟩
  · rcases hk.1 with e | e
    · exact (h.sB k e).1
    · omega
  · rintro ⟨e | e, _⟩
    · exact h.n1 e
    · omega
  · rintro ⟨e | e, _⟩
    · exact h.n2 e
    · omega
  · have hw := (h.win j hj).same (w' := w') (fun k hk => by
      obtain ⟨⟨_, hS⟩, cur, hcur⟩ := (h.win j hj).lt k hk
      exact hkeep k (heap_lt hcur) hS)
    rcases hw with hn | ⟨g, o, cap, cur, hv, hb, hg, rest⟩
    · exact .inl hn
    · refine .inr ⟨g, o, cap, cur, hv, ⟨hb.1, ?_⟩, hg, rest⟩
      rintro ⟨e | e, _⟩
      · exact hb.2 e
      · obtain ⟨_, cur', hcur'⟩ := (h.win j hj).lt g (by rw [hv]; rfl)
        have := heap_lt hcur'
        omega
  · exact hm.below h.bel (fun k hk => by rcases hk with e | e; exact (h.sB k e).1; omega) (by omega)
theorem OrdM.up (h : OrdM w B S ad st row N C R cm wr) : Rg wr (fun k => S k ∨ wr.heap.size ≤ k) B ad st row N := by
  obtain ⟨M, rv, cv, hR⟩ := h.ring
  exact ⟨M, rv, cv, hR.more fun k hk _ => .inl hk⟩
theorem OrdM.rop (h : OrdM w B S ad st row N C R cm wr) {ad' : Int → Option Nat} {st' : Int → FS} {row' : List Int} {N' : Nat} {w' : World} {v : Value} {x : Ending} (r : RetR wr (fun k => S k ∨ wr.heap.size ≤ k) B ad' st' row' N' v x w') :
    x = .returned v ∧ ∃ S', OrdM w B S' ad' st' row' N' C R cm w' := ⟨r.1, _, h.moved r.2.1 r.2.2⟩

theorem OrdM.set_ (h : OrdM w B S ad st row N C R cm wr) (hN : N ≤ 100000) {n q : Int} (h0 : 0 ≤ n) (h8 : n ≤ 8) (hq1 : 1 ≤ q) (hq2 : q ≤ 1048576) :
    Calls Try.prog 7 #[.pointer (some ⟨B, 0, none⟩), .int .i64 n, .int .i64 q] wr fun x w' => x = .returned (.int .i64 0) ∧
      ∃ ad' S', (∀ m, m ≠ n → ad' m = ad m) ∧ ad' n ≠ none ∧ OrdM w B S' ad' (setF st n (setQ (stOf ad st n) q)) row (N + 1) C R cm w' := by
  obtain ⟨M, rv, cv, hR⟩ := h.up
  refine (set_c wr _ B M rv cv ad st row N hR (fun k hk => .inr hk) hN n q ⟨by omega, by omega⟩ h0 h8 hq1 hq2).mono ?_
  rintro x w' ⟨ad', h1, h2, h3, hr⟩
  obtain ⟨hx, S', hb⟩ := h.rop hr
  exact ⟨hx, ad', S', h1, h2, hb⟩
theorem OrdM.push_ (h : OrdM w B S ad st row N C R cm wr) (hN : N ≤ 100000) {n c : Int} (h0 : 0 ≤ n) (h8 : n ≤ 8) (h1 : 1 ≤ c) (h2 : c ≤ 1040) (hn : ad n ≠ none) :
    Calls Try.prog 8 #[.pointer (some ⟨B, 0, none⟩), .int .i64 n, .int .i64 c] wr fun x w' => x = .returned (.int .i64 0) ∧ ∃ S', OrdM w B S' ad (pushA st row n c).1 (pushA st row n c).2 (N + 1) C R cm w' := by
  obtain ⟨M, rv, cv, hR⟩ := h.up
  cases hb : ad n with
  | none => exact absurd hb hn
  | some b => exact (pushr_c wr _ B M rv cv ad st row N hR (fun k hk => .inr hk) hN n c ⟨by omega, by omega⟩ h1 h2 b hb).mono fun x w' r => h.rop r
theorem OrdM.rest_ (h : OrdM w B S ad st row N C R cm wr) {n : Int} (h0 : 0 ≤ n) (h8 : n ≤ 8) (v : Bool) (hn : ad n ≠ none) :
    Calls Try.prog 9 #[.pointer (some ⟨B, 0, none⟩), .int .i64 n, .bool v] wr fun x w' => x = .returned (.int .i64 0) ∧ ∃ S', OrdM w B S' ad (restA st row n v).1 (restA st row n v).2 N C R cm w' := by
  obtain ⟨M, rv, cv, hR⟩ := h.up
  cases hb : ad n with
  | none => exact absurd hb hn
  | some b => exact (rest_c wr _ B M rv cv ad st row N hR (fun k hk => .inr hk) n ⟨by omega, by omega⟩ v b hb).mono fun x w' r => h.rop r
theorem OrdM.turn_ (h : OrdM w B S ad st row N C R cm wr) (hN : N ≤ 100000) (hok : RowOk st row) (hne : row ≠ []) :
    Calls Try.prog 10 #[.pointer (some ⟨B, 0, none⟩)] wr fun x w' => ∃ st' row' n c S', Turns st row st' row' n c ∧ x = .returned (.tuple #[.int .i64 n, .int .i64 c, .bool true]) ∧ OrdM w B S' ad st' row' N C R cm w' := by
  obtain ⟨M, rv, cv, hR⟩ := h.up
  refine (turn_c wr _ B M rv cv ad st row N hR (fun k hk => .inr hk) hok hne hN).mono ?_
  rintro x w' ⟨st', row', n, c, ht, hr⟩
  obtain ⟨hx, S', hb⟩ := h.rop hr
  exact ⟨st', row', n, c, S', ht, hx, hb⟩
theorem OrdM.turn0 (h : OrdM w B S ad st [] N C R cm wr) :
    Calls Try.prog 10 #[.pointer (some ⟨B, 0, none⟩)] wr fun x w' => x = .returned (.tuple #[.int .i64 0, .int .i64 0, .bool false]) ∧ wr = w' := by
  obtain ⟨M, rv, cv, hR⟩ := h.ring
  exact turn_empty wr _ B M rv cv ad st N hR

/-- A step that leaves all that was there. -/
theorem OrdM.below (h : OrdM w B S ad st row N C R cm wr) {w' : World} (hb : Below wr.heap.size wr w') : OrdM w B S ad st row N C R cm w' := by
  have hsz := h.sz
  refine ⟨?_, fun k hk => ⟨(h.sB k hk).1, Nat.lt_of_lt_of_le (h.sB k hk).2 hb.size⟩, h.n1, h.n2, h.came.same (hb.block _ (by omega)), fun j hj => (h.win j hj).same fun k hk => ?_, h.dis, h.rests.same (hb.block _ (by omega)), h.bel.trans (hb.mono (by omega))⟩
  · obtain ⟨M, rv, cv, hR⟩ := h.ring
    exact ⟨M, rv, cv, hR.below hb⟩
  · obtain ⟨_, cur, hcur⟩ := (h.win j hj).lt k hk
    exact hb.block k (heap_lt hcur)
theorem OrdM.setRest (h : OrdM w B S ad st row N C R cm wr) (j : Nat) (v : Bool) : OrdM w B S ad st row N C (updV R j v) cm (wr.setCell ⟨B + 2, j, none⟩ (.bool v)) := by
  have hsz := h.sz
  have hk : ∀ k, k ≠ B + 2 → (wr.setCell ⟨B + 2, j, none⟩ (.bool v)).heap[k]? = wr.heap[k]? := fun k hne => Below.heap_setCell _ _ _ _ hne
  obtain ⟨cr, hcr⟩ := h.rests.blk
  refine ⟨?_, fun k hS => ⟨(h.sB k hS).1, by simpa [World.setCell] using (h.sB k hS).2⟩, h.n1, h.n2, h.came.same (hk _ (by omega)), fun i hi => (h.win i hi).same fun k hkk => ?_, h.dis, (h.rests.set_ j _).congr fun i hi => ?_, h.bel.setCell (p := ⟨B + 2, j, none⟩) (by show B ≤ B + 2; omega) _⟩
  · obtain ⟨M, rv, cv, hR⟩ := h.ring
    exact ⟨M, rv, cv, hR.same fun k hS _ => hk k (fun e => h.n2 (e ▸ hS))⟩
  · obtain ⟨_, cur, hcur⟩ := (h.win i hi).lt k hkk
    exact hk k (fun e => ne_of hcur hcr (by decide) e)
  · unfold updV; split <;> rfl
/-- What came of one flow is another list, in a block of its own. -/
theorem OrdM.setCame (h : OrdM w B S ad st row N C R cm wr) {w3 : World} {j : Nat} (hj : j < 9) {v' : Value} {l : List Int} (hg : wr.grownBy w3 (cm j).ownBlock) (hw : Win w3 (fun k => B ≤ k ∧ ¬ S k) 3 v' (ints l)) (hor : ∀ k, v'.ownBlock = some k → (cm j).ownBlock = some k ∨ wr.heap.size ≤ k) :
    w3.cell? ⟨B + 1, j, none⟩ = some (cm j) ∧ w3.frozen? ⟨B + 1, j, none⟩ = false ∧ OrdM w B S ad st row N (updV C j l) R (updV cm j v') (w3.setCell ⟨B + 1, j, none⟩ v') := by
  have hsz := h.sz
  obtain ⟨cc, hcc⟩ := h.came.blk
  obtain ⟨cr, hcr⟩ := h.rests.blk
  have hown : ∀ k, (cm j).ownBlock = some k → (B ≤ k ∧ ¬ S k) ∧ k ≠ B + 1 ∧ k ≠ B + 2 := fun k hk => by
    obtain ⟨hS, cur, hcur⟩ := (h.win j hj).lt k hk
    exact ⟨hS, fun e => ne_of hcur hcc (by decide) e, fun e => ne_of hcur hcr (by decide) e⟩
  have hk3 : ∀ k, k < wr.heap.size → (cm j).ownBlock ≠ some k → w3.heap[k]? = wr.heap[k]? := fun k hk hne => hg.block k hk (fun e => hne e.symm)
  have hk4 : ∀ k, k < wr.heap.size → k ≠ B + 1 → (cm j).ownBlock ≠ some k → (w3.setCell ⟨B + 1, j, none⟩ v').heap[k]? = wr.heap[k]? := fun k hk hne h2 => (Below.heap_setCell _ _ _ _ hne).trans (hk3 k hk h2)
  have hc3 : RowV w3 (B + 1) 36 cm := h.came.same (hk3 _ (by omega) (fun e => (hown _ e).2.1 rfl))
  refine ⟨hc3.cell hj, hc3.frozen j, ?_, fun k hS => ⟨(h.sB k hS).1, ?_⟩, h.n1, h.n2, hc3.set_ j v', fun i hi => ?_, ?_, h.rests.same (hk4 _ (by omega) (by omega) (fun e => (hown _ e).2.2 rfl)), ?_⟩
  · obtain ⟨M, rv, cv, hR⟩ := h.ring
    exact ⟨M, rv, cv, hR.same fun k hS hlt => hk4 k hlt (fun e => h.n1 (e ▸ hS)) (fun e => (hown k e).1.2 hS)⟩
  · have := (h.sB k hS).2
    have := hg.size
    simp [World.setCell]
    omega
  · by_cases e : i = j
    · subst e
      rw [updV_at, updV_at]
      refine hw.same fun k hk => Below.heap_setCell _ _ _ _ ?_
      rcases hor k hk with h1 | h1
      · exact (hown k h1).2.1
      · show k ≠ B + 1; omega
    · rw [updV_ne _ _ e, updV_ne _ _ e]
      refine (h.win i hi).same fun k hk => ?_
      obtain ⟨_, cur, hcur⟩ := (h.win i hi).lt k hk
      exact hk4 k (heap_lt hcur) (fun e' => ne_of hcur hcc (by decide) e') (fun e' => h.dis i j k hi hj e hk e')
  · intro a b k ha hb hne hk hk'
    by_cases e : a = j
    · subst e
      rw [updV_at] at hk
      rw [updV_ne _ _ (fun e => hne e.symm)] at hk'
      rcases hor k hk with h1 | h1
      · exact h.dis a b k ha hb hne h1 hk'
      · obtain ⟨_, cur, hcur⟩ := (h.win b hb).lt k hk'
        have := heap_lt hcur
        omega
    · rw [updV_ne _ _ e] at hk
      by_cases e' : b = j
      · subst e'
        rw [updV_at] at hk'
        rcases hor k hk' with h1 | h1
        · exact h.dis a b k ha hb hne hk h1
        · obtain ⟨_, cur, hcur⟩ := (h.win a ha).lt k hk
          have := heap_lt hcur
          omega
      · rw [updV_ne _ _ e'] at hk'
        exact h.dis a b k ha hb hne hk hk'
  · exact (h.bel.grown hg (by omega) (fun k hk => (hown k hk).1.1)).setCell (p := ⟨B + 1, j, none⟩) (by show B ≤ B + 1; omega) _
end
end Go.Proofs.Ytaenlieajlfkdaa
