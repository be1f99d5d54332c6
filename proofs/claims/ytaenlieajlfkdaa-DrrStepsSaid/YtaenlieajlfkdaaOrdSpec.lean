/- What a ring keeps, whatever its quanta: plain, no program here. -/
import Derived.Test.YtaenlieajlfkdaaFairSpec
namespace Go.Proofs.Ytaenlieajlfkdaa
open Go.RowKit Go.Maps
set_option linter.unusedVariables false
set_option linter.unnecessarySimpa false
set_option linter.unusedSimpArgs false

/-- One flow. -/
structure FlQ (Q : Int → Int) (n : Int) (f : FS) : Prop where
  q : f.q = Q n ∧ 1 ≤ f.q ∧ f.q ≤ 1000000
  d0 : 0 ≤ f.d
  d1 : f.d ≤ f.q + 1040
  an : f.anew = true → f.d < 1040
  cs : ∀ c, c ∈ f.cs → 1 ≤ c ∧ c ≤ 1040

structure FairQ (Q : Int → Int) (st : Int → FS) (row : List Int) : Prop where
  fl : ∀ n, In8 n → FlQ Q n (st n)
  tl : ∀ m, m ∈ row.tail → (st m).d < 1040
  act : ∀ n, n ∈ row ↔ (In8 n ∧ actF (st n) = true)
  nd : row.Nodup

/-- But for the flow n itself. -/
structure PreQ (Q : Int → Int) (st : Int → FS) (row : List Int) (n : Int) : Prop where
  fl : ∀ n, In8 n → FlQ Q n (st n)
  tl : ∀ m, m ∈ row.tail → (st m).d < 1040
  act : ∀ m, m ≠ n → (m ∈ row ↔ (In8 m ∧ actF (st m) = true))
  nd : row.Nodup
  hn : In8 n

theorem settle_q {Q : Int → Int} {st : Int → FS} {row : List Int} {n : Int} (h : PreQ Q st row n) : FairQ Q (settleA st row n).1 (settleA st row n).2 := by
  have hfn := h.fl n h.hn
  unfold settleA
  cases ha : actF (st n)
  · simp only [Bool.false_eq_true, if_false]
    refine ⟨fun m hm => ?_, fun m hm => ?_, fun m => ?_, h.nd.erase n⟩
    · by_cases e : m = n
      · subst e
        rw [setF_at]
        have := hfn.q
        exact ⟨hfn.q, Int.le_refl _, by show 0 ≤ (st m).q + 1040; obtain ⟨a, b⟩ := hm; omega, fun _ => by show (0 : Int) < 1040; omega, hfn.cs⟩
      · rw [setF_ne _ _ e]; exact h.fl m hm
    · have hsub : m ∈ row.tail := by
        cases row with
        | nil => simp at hm
        | cons x rest =>
          by_cases e : x = n
          · subst e
            rw [List.erase_cons_head] at hm
            exact List.mem_of_mem_tail hm
          · rw [List.erase_cons_tail (by simpa using e)] at hm
            exact List.mem_of_mem_erase hm
      by_cases e : m = n
      · subst e; rw [setF_at]; show (0 : Int) < 1040; omega
      · rw [setF_ne _ _ e]; exact h.tl m hsub
    · by_cases e : m = n
      · subst e
        rw [setF_at]
        have hl : actF (leaveF (st m)) = false := ha
        rw [hl]
        have := (List.Nodup.mem_erase_iff h.nd (a := m) (b := m))
        simp [this]
      · rw [setF_ne _ _ e, List.mem_erase_of_ne e]; exact h.act m e
  · simp only [if_true]
    by_cases hin : n ∈ row
    · rw [if_pos hin]
      refine ⟨h.fl, h.tl, fun m => ?_, h.nd⟩
      by_cases e : m = n
      · subst e; simp [hin, ha, h.hn]
      · exact h.act m e
    · rw [if_neg hin]
      show FairQ Q (setF st n (joinF (st n))) (row ++ [n])
      refine ⟨fun m hm => ?_, fun m hm => ?_, fun m => ?_, ?_⟩
      · by_cases e : m = n
        · subst e
          rw [setF_at]
          have := hfn.q
          exact ⟨hfn.q, Int.le_refl _, by show 0 ≤ (st m).q + 1040; obtain ⟨a, b⟩ := hm; omega, fun _ => by show (0 : Int) < 1040; omega, hfn.cs⟩
        · rw [setF_ne _ _ e]; exact h.fl m hm
      · by_cases e : m = n
        · subst e; rw [setF_at]; show (0 : Int) < 1040; omega
        · rw [setF_ne _ _ e]
          refine h.tl m ?_
          cases row with
          | nil => simp at hm
          | cons x rest =>
            simp only [List.cons_append, List.tail_cons, List.mem_append, List.mem_singleton] at hm ⊢
            rcases hm with hm | hm
            · exact hm
            · exact absurd hm e
      · rw [List.mem_append, List.mem_singleton]
        by_cases e : m = n
        · subst e
          rw [setF_at]
          have hj : actF (joinF (st m)) = true := ha
          simp [hj, h.hn]
        · rw [setF_ne _ _ e]
          simp only [e, or_false]
          exact h.act m e
      · rw [List.nodup_append]
        refine ⟨h.nd, by simp, fun x hx y hy => ?_⟩
        simp at hy
        subst hy
        exact fun e => hin (e ▸ hx)

theorem push_q {Q : Int → Int} {st : Int → FS} {row : List Int} {n c : Int} (h : FairQ Q st row) (hn : In8 n) (h1 : 1 ≤ c) (h2 : c ≤ 1040) : FairQ Q (pushA st row n c).1 (pushA st row n c).2 := by
  refine settle_q ⟨fun m hm => ?_, fun m hm => ?_, fun m hm => ?_, h.nd, hn⟩
  · by_cases e : m = n
    · subst e
      rw [setF_at]
      have hf := h.fl m hm
      refine ⟨hf.q, hf.d0, hf.d1, hf.an, fun x hx => ?_⟩
      rcases List.mem_append.1 hx with hx | hx
      · exact hf.cs x hx
      · simp at hx; subst hx; exact ⟨h1, h2⟩
    · rw [setF_ne _ _ e]; exact h.fl m hm
  · by_cases e : m = n
    · subst e; rw [setF_at]; exact h.tl m hm
    · rw [setF_ne _ _ e]; exact h.tl m hm
  · rw [setF_ne _ _ hm]; exact h.act m
theorem rest_q {Q : Int → Int} {st : Int → FS} {row : List Int} {n : Int} {v : Bool} (h : FairQ Q st row) (hn : In8 n) : FairQ Q (restA st row n v).1 (restA st row n v).2 := by
  refine settle_q ⟨fun m hm => ?_, fun m hm => ?_, fun m hm => ?_, h.nd, hn⟩
  · by_cases e : m = n
    · subst e
      rw [setF_at]
      have hf := h.fl m hm
      exact ⟨hf.q, hf.d0, hf.d1, hf.an, hf.cs⟩
    · rw [setF_ne _ _ e]; exact h.fl m hm
  · by_cases e : m = n
    · subst e; rw [setF_at]; exact h.tl m hm
    · rw [setF_ne _ _ e]; exact h.tl m hm
  · rw [setF_ne _ _ hm]; exact h.act m

theorem FairQ.rowOk {Q : Int → Int} {st : Int → FS} {row : List Int} (h : FairQ Q st row) : RowOk st row := by
  intro n hn
  obtain ⟨h8, ha⟩ := (h.act n).1 hn
  have hf := h.fl n h8
  have hq := hf.q
  obtain ⟨a, b⟩ := h8
  exact ⟨⟨by omega, by omega, hf.d0, by have := hf.d1; omega, hf.an, hf.cs⟩, act_cs ha⟩

theorem bump_flq {Q : Int → Int} {n : Int} {f : FS} (hn : In8 n) (h : FlQ Q n f) : 0 ≤ (bumpF f).d ∧ (bumpF f).d ≤ f.q + 1040 := by
  have hq := h.q
  have h0 := h.d0
  have h1 := h.d1
  obtain ⟨a, b⟩ := hn
  unfold bumpF
  split
  · rename_i ha
    have := h.an ha
    show 0 ≤ f.d + f.q ∧ f.d + f.q ≤ f.q + 1040
    omega
  · exact ⟨h0, h1⟩

/-- A turn keeps what a fair ring keeps; who was served, and has no costs any more, has no deficit. -/
theorem turns_q {Q : Int → Int} {st st' : Int → FS} {row row' : List Int} {m c : Int} (h : Turns st row st' row' m c) : FairQ Q st row → FairQ Q st' row' ∧ In8 m ∧ ((st' m).cs = [] → (st' m).d = 0) := by
  induction h with
  | @serve st rest n c cs hc hd =>
    intro hF
    obtain ⟨h8, ha⟩ := (hF.act n).1 (by simp)
    have hf := hF.fl n h8
    obtain ⟨b0, b1⟩ := bump_flq h8 hf
    have hnd := List.nodup_cons.1 hF.nd
    have hcb := hf.cs c (by rw [hc]; simp)
    have hcs : (serveF (bumpF (st n)) c).cs = cs := by simp [serveF, bumpF_cs, hc]
    have hfl : FlQ Q n (serveF (bumpF (st n)) c) := by
      refine ⟨by show (bumpF (st n)).q = Q n ∧ 1 ≤ (bumpF (st n)).q ∧ (bumpF (st n)).q ≤ 1000000; rw [bumpF_q]; exact hf.q, by show 0 ≤ (bumpF (st n)).d - c; omega, by show (bumpF (st n)).d - c ≤ (bumpF (st n)).q + 1040; rw [bumpF_q]; omega, fun h => ?_, fun x hx => ?_⟩
      · have : (serveF (bumpF (st n)) c).anew = false := bumpF_an _
        rw [this] at h; cases h
      · rw [hcs] at hx
        exact hf.cs x (by rw [hc]; simp [hx])
    unfold serveA
    rw [setF_at]
    split
    · rename_i hact
      simp only [setF_setF]
      refine ⟨⟨fun k hk => ?_, fun k hk => ?_, fun k => ?_, hF.nd⟩, h8, fun h => ?_⟩
      · by_cases e : k = n
        · subst e; rw [setF_at]; exact hfl
        · rw [setF_ne _ _ e]; exact hF.fl k hk
      · have e : k ≠ n := fun e => hnd.1 (e ▸ hk)
        rw [setF_ne _ _ e]; exact hF.tl k hk
      · by_cases e : k = n
        · subst e; rw [setF_at]; simp [hact, h8]
        · rw [setF_ne _ _ e]; exact hF.act k
      · rw [setF_at] at h
        exact absurd h (act_cs hact)
    · rename_i hact
      simp only [setF_setF, List.erase_cons_head]
      refine ⟨⟨fun k hk => ?_, fun k hk => ?_, fun k => ?_, hnd.2⟩, h8, fun _ => ?_⟩
      · by_cases e : k = n
        · subst e
          rw [setF_at]
          have := hfl.q
          exact ⟨hfl.q, Int.le_refl _, by show 0 ≤ (serveF (bumpF (st k)) c).q + 1040; obtain ⟨a, b⟩ := hk; omega, fun _ => by show (0 : Int) < 1040; omega, hfl.cs⟩
        · rw [setF_ne _ _ e]; exact hF.fl k hk
      · have hk' : k ∈ rest := List.mem_of_mem_tail hk
        have e : k ≠ n := fun e => hnd.1 (e ▸ hk')
        rw [setF_ne _ _ e]; exact hF.tl k hk'
      · by_cases e : k = n
        · subst e
          rw [setF_at]
          have hl : actF (leaveF (serveF (bumpF (st k)) c)) = false := by
            have e2 : actF (leaveF (serveF (bumpF (st k)) c)) = actF (serveF (bumpF (st k)) c) := rfl
            rw [e2]; simpa using hact
          simp [hl, hnd.1]
        · rw [setF_ne _ _ e]
          have := hF.act k
          simp only [List.mem_cons, e, false_or] at this
          exact this
      · rw [setF_at]; rfl
  | @rot st rest n c cs st' row' m c' hc hd _ ih =>
    intro hF
    refine ih ?_
    obtain ⟨h8, ha⟩ := (hF.act n).1 (by simp)
    have hf := hF.fl n h8
    obtain ⟨b0, b1⟩ := bump_flq h8 hf
    have hnd := List.nodup_cons.1 hF.nd
    have hcb := hf.cs c (by rw [hc]; simp)
    have hact : actF (rotF (bumpF (st n))) = actF (st n) := by
      unfold actF
      show (decide (0 < (bumpF (st n)).cs.length) && !(bumpF (st n)).rests) = _
      rw [bumpF_cs, bumpF_rests]
    refine ⟨fun k hk => ?_, fun k hk => ?_, fun k => ?_, ?_⟩
    · by_cases e : k = n
      · subst e
        rw [setF_at]
        exact ⟨by show (bumpF (st k)).q = Q k ∧ 1 ≤ (bumpF (st k)).q ∧ (bumpF (st k)).q ≤ 1000000; rw [bumpF_q]; exact hf.q, b0, by show (bumpF (st k)).d ≤ (bumpF (st k)).q + 1040; rw [bumpF_q]; exact b1, fun _ => by show (bumpF (st k)).d < 1040; omega, by intro x hx; refine hf.cs x ?_; have : x ∈ (bumpF (st k)).cs := hx; rw [bumpF_cs] at this; exact this⟩
      · rw [setF_ne _ _ e]; exact hF.fl k hk
    · by_cases e : k = n
      · subst e; rw [setF_at]; show (bumpF (st k)).d < 1040; omega
      · rw [setF_ne _ _ e]
        refine hF.tl k ?_
        have := List.mem_of_mem_tail hk
        rcases List.mem_append.1 this with h | h
        · exact h
        · simp at h; exact absurd h e
    · rw [List.mem_append, List.mem_singleton]
      by_cases e : k = n
      · subst e; rw [setF_at, hact]; simp [ha, h8]
      · rw [setF_ne _ _ e]
        have := hF.act k
        simp only [List.mem_cons, e, false_or] at this
        simp only [e, or_false]
        exact this
    · rw [List.nodup_append]
      refine ⟨hnd.2, by simp, fun x hx y hy => ?_⟩
      simp at hy
      subst hy
      exact fun e => hnd.1 (e ▸ hx)

/-- Whom a turn serves stood in the row; its first cost goes, and nothing else of costs and rests. -/
theorem turns_cs {st st' : Int → FS} {row row' : List Int} {m c : Int} (h : Turns st row st' row' m c) :
    m ∈ row ∧ (st m).cs = c :: (st' m).cs ∧ (∀ k, k ≠ m → (st' k).cs = (st k).cs) ∧ ∀ k, (st' k).rests = (st k).rests := by
  induction h with
  | @serve st rest n c cs hc hd =>
    have hcs : (serveF (bumpF (st n)) c).cs = cs := by simp [serveF, bumpF_cs, hc]
    have hr : (serveF (bumpF (st n)) c).rests = (st n).rests := bumpF_rests _
    unfold serveA
    rw [setF_at]
    split
    · simp only [setF_setF]
      refine ⟨by simp, by rw [setF_at, hcs]; exact hc, fun k hk => by rw [setF_ne _ _ hk], fun k => ?_⟩
      by_cases e : k = n
      · subst e; rw [setF_at]; exact hr
      · rw [setF_ne _ _ e]
    · simp only [setF_setF]
      have hcs' : (leaveF (serveF (bumpF (st n)) c)).cs = cs := hcs
      refine ⟨by simp, by rw [setF_at, hcs']; exact hc, fun k hk => by rw [setF_ne _ _ hk], fun k => ?_⟩
      by_cases e : k = n
      · subst e; rw [setF_at]; exact hr
      · rw [setF_ne _ _ e]
  | @rot st rest n c cs st' row' m c' hc hd _ ih =>
    obtain ⟨h1, h2, h3, h4⟩ := ih
    have hcs : ∀ k, (setF st n (rotF (bumpF (st n))) k).cs = (st k).cs := fun k => by
      by_cases e : k = n
      · subst e; rw [setF_at]; exact bumpF_cs _
      · rw [setF_ne _ _ e]
    have hr : ∀ k, (setF st n (rotF (bumpF (st n))) k).rests = (st k).rests := fun k => by
      by_cases e : k = n
      · subst e; rw [setF_at]; exact bumpF_rests _
      · rw [setF_ne _ _ e]
    refine ⟨?_, by rw [← hcs m]; exact h2, fun k hk => by rw [h3 k hk, hcs], fun k => by rw [h4 k, hr]⟩
    rcases List.mem_append.1 h1 with h | h
    · simp [h]
    · simp at h; simp [h]

theorem settle_cs (st : Int → FS) (row : List Int) (n k : Int) : ((settleA st row n).1 k).cs = (st k).cs ∧ ((settleA st row n).1 k).rests = (st k).rests := by
  unfold settleA
  split
  · split
    · exact ⟨rfl, rfl⟩
    · by_cases e : k = n
      · subst e; simp only [setF_at]; exact ⟨rfl, rfl⟩
      · simp only [setF_ne _ _ e]; first | exact ⟨rfl, rfl⟩ | exact ⟨trivial, trivial⟩
  · by_cases e : k = n
    · subst e; simp only [setF_at]; exact ⟨rfl, rfl⟩
    · simp only [setF_ne _ _ e]; first | exact ⟨rfl, rfl⟩ | exact ⟨trivial, trivial⟩
theorem push_cs (st : Int → FS) (row : List Int) (n c k : Int) : ((pushA st row n c).1 k).cs = (if k = n then (st n).cs ++ [c] else (st k).cs) ∧ ((pushA st row n c).1 k).rests = (st k).rests := by
  unfold pushA
  obtain ⟨h1, h2⟩ := settle_cs (setF st n (pushF (st n) c)) row n k
  rw [h1, h2]
  by_cases e : k = n
  · subst e; simp only [setF_at, if_true]; exact ⟨rfl, rfl⟩
  · simp only [setF_ne _ _ e, if_neg e]; exact ⟨trivial, trivial⟩
theorem rest_cs (st : Int → FS) (row : List Int) (n : Int) (v : Bool) (k : Int) : ((restA st row n v).1 k).cs = (st k).cs ∧ ((restA st row n v).1 k).rests = (if k = n then v else (st k).rests) := by
  unfold restA
  obtain ⟨h1, h2⟩ := settle_cs (setF st n (restF (st n) v)) row n k
  rw [h1, h2]
  by_cases e : k = n
  · subst e; simp only [setF_at, if_true]; exact ⟨rfl, rfl⟩
  · simp only [setF_ne _ _ e, if_neg e]; exact ⟨trivial, trivial⟩
end Go.Proofs.Ytaenlieajlfkdaa

