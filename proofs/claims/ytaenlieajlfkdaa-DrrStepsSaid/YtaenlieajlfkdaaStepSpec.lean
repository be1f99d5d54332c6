/- What a ring keeps, whatever is done to it: plain, no program here. -/
import Derived.Test.YtaenlieajlfkdaaSame
namespace Go.Proofs.Ytaenlieajlfkdaa
open Go.RowKit Go.Maps
set_option linter.unusedVariables false
set_option linter.unnecessarySimpa false
set_option linter.unusedSimpArgs false

structure StepI (ad : Int → Option Nat) (st : Int → FS) (row : List Int) : Prop where
  fl : ∀ n, ad n ≠ none → FOk (st n)
  act : ∀ n, n ∈ row ↔ (ad n ≠ none ∧ actF (st n) = true)
  nd : row.Nodup
  key : ∀ n, ad n ≠ none → 0 ≤ n ∧ n ≤ 8

section
variable {ad ad' : Int → Option Nat} {st : Int → FS} {row : List Int}
theorem StepI.start : StepI (fun _ => none) (fun _ => zeroF) [] := ⟨fun n h => absurd rfl h, fun n => by simp, List.nodup_nil, fun n h => absurd rfl h⟩
theorem StepI.rowOk (h : StepI ad st row) : RowOk st row := fun n hn => by
  obtain ⟨h1, h2⟩ := (h.act n).1 hn
  exact ⟨h.fl n h1, act_cs h2⟩

theorem FOk.leave {f : FS} (h : FOk f) : FOk (leaveF f) := ⟨h.q0, h.q1, Int.le_refl _, by show (0 : Int) ≤ 1049616; omega, fun _ => by show (0 : Int) < 1040; omega, h.cs⟩
theorem FOk.join {f : FS} (h : FOk f) : FOk (joinF f) := ⟨h.q0, h.q1, Int.le_refl _, by show (0 : Int) ≤ 1049616; omega, fun _ => by show (0 : Int) < 1040; omega, h.cs⟩
theorem FOk.bump {f : FS} (h : FOk f) : FOk (bumpF f) := by
  unfold bumpF
  split
  · rename_i ha
    have h1 := h.an ha
    have h2 := h.d0
    have h3 := h.q0
    have h4 := h.q1
    exact ⟨h.q0, h.q1, by show 0 ≤ f.d + f.q; omega, by show f.d + f.q ≤ 1049616; omega, fun h => (by cases h), h.cs⟩
  · exact h
theorem bump_anew (f : FS) : (bumpF f).anew = false := by
  unfold bumpF
  split
  · rfl
  · rename_i h; simpa using h

theorem settle_s {n : Int} (fl : ∀ n, ad n ≠ none → FOk (st n)) (act : ∀ m, m ≠ n → (m ∈ row ↔ (ad m ≠ none ∧ actF (st m) = true))) (nd : row.Nodup) (key : ∀ n, ad n ≠ none → 0 ≤ n ∧ n ≤ 8) (hn : ad n ≠ none) :
    StepI ad (settleA st row n).1 (settleA st row n).2 := by
  unfold settleA
  cases ha : actF (st n)
  · simp only [Bool.false_eq_true, if_false]
    refine ⟨fun m hm => ?_, fun m => ?_, nd.erase n, key⟩
    · by_cases e : m = n
      · subst e; rw [setF_at]; exact (fl m hm).leave
      · rw [setF_ne _ _ e]; exact fl m hm
    · by_cases e : m = n
      · subst e
        rw [setF_at]
        have hl : actF (leaveF (st m)) = false := ha
        rw [hl]
        have := (List.Nodup.mem_erase_iff nd (a := m) (b := m))
        simp [this]
      · rw [setF_ne _ _ e, List.mem_erase_of_ne e]; exact act m e
  · simp only [if_true]
    by_cases hin : n ∈ row
    · rw [if_pos hin]
      refine ⟨fl, fun m => ?_, nd, key⟩
      by_cases e : m = n
      · subst e; simp [hin, ha, hn]
      · exact act m e
    · rw [if_neg hin]
      show StepI ad (setF st n (joinF (st n))) (row ++ [n])
      refine ⟨fun m hm => ?_, fun m => ?_, ?_, key⟩
      · by_cases e : m = n
        · subst e; rw [setF_at]; exact (fl m hm).join
        · rw [setF_ne _ _ e]; exact fl m hm
      · rw [List.mem_append, List.mem_singleton]
        by_cases e : m = n
        · subst e
          rw [setF_at]
          have hj : actF (joinF (st m)) = true := ha
          simp [hj, hn]
        · rw [setF_ne _ _ e]
          simp only [e, or_false]
          exact act m e
      · rw [List.nodup_append]
        refine ⟨nd, by simp, fun x hx y hy => ?_⟩
        simp at hy
        subst hy
        exact fun e => hin (e ▸ hx)

/-- With another flow, settled. -/
theorem StepI.settle (h : StepI ad st row) {n : Int} (hn : ad n ≠ none) {f : FS} (hf : FOk f) : StepI ad (settleA (setF st n f) row n).1 (settleA (setF st n f) row n).2 := by
  refine settle_s (fun m hm => ?_) (fun m hm => ?_) h.nd h.key hn
  · by_cases e : m = n
    · subst e; rw [setF_at]; exact hf
    · rw [setF_ne _ _ e]; exact h.fl m hm
  · rw [setF_ne _ _ hm]; exact h.act m
theorem StepI.push (h : StepI ad st row) {n c : Int} (hn : ad n ≠ none) (h1 : 1 ≤ c) (h2 : c ≤ 1040) : StepI ad (pushA st row n c).1 (pushA st row n c).2 := by
  have hf := h.fl n hn
  refine h.settle hn ⟨hf.q0, hf.q1, hf.d0, hf.d1, hf.an, fun x hx => ?_⟩
  rcases List.mem_append.1 hx with hx | hx
  · exact hf.cs x hx
  · simp at hx; subst hx; exact ⟨h1, h2⟩
theorem StepI.rest (h : StepI ad st row) {n : Int} (hn : ad n ≠ none) (v : Bool) : StepI ad (restA st row n v).1 (restA st row n v).2 := by
  have hf := h.fl n hn
  exact h.settle hn ⟨hf.q0, hf.q1, hf.d0, hf.d1, hf.an, hf.cs⟩
theorem setQ_ok {f : FS} {q : Int} (h : f = zeroF ∨ FOk f) (h1 : 1 ≤ q) (h2 : q ≤ 1048576) : FOk (setQ f q) := by
  rcases h with rfl | h
  · refine ⟨h1, h2, ?_, ?_, fun h => (by cases h), fun c hc => (by cases hc)⟩
    · show 0 ≤ if (0 : Int) < q then 0 else q
      split <;> omega
    · show (if (0 : Int) < q then 0 else q) ≤ 1049616
      split <;> omega
  · have h3 := h.d0
    have h4 := h.d1
    refine ⟨h1, h2, ?_, ?_, fun ha => ?_, h.cs⟩
    · show 0 ≤ if f.d < q then f.d else q
      split <;> omega
    · show (if f.d < q then f.d else q) ≤ 1049616
      split <;> omega
    · show (if f.d < q then f.d else q) < 1040
      have := h.an ha
      split <;> omega
theorem StepI.set_ (h : StepI ad st row) {n q : Int} (h1 : ∀ m, m ≠ n → ad' m = ad m) (h2 : ad' n ≠ none) (h0 : 0 ≤ n) (h8 : n ≤ 8) (hq1 : 1 ≤ q) (hq2 : q ≤ 1048576) : StepI ad' (setF st n (setQ (stOf ad st n) q)) row := by
  refine ⟨fun m hm => ?_, fun m => ?_, h.nd, fun m hm => ?_⟩
  · by_cases e : m = n
    · subst e
      rw [setF_at]
      refine setQ_ok ?_ hq1 hq2
      unfold stOf
      split
      · exact .inl rfl
      · rename_i hne; exact .inr (h.fl m hne)
    · rw [setF_ne _ _ e]; rw [h1 m e] at hm; exact h.fl m hm
  · by_cases e : m = n
    · subst e
      rw [setF_at, h.act m]
      show _ ↔ ad' m ≠ none ∧ actF (stOf ad st m) = true
      unfold stOf
      split
      · rename_i hn
        simp [hn, zeroF, actF]
      · rename_i hn
        simp [hn, h2]
    · rw [setF_ne _ _ e, h1 m e]; exact h.act m
  · by_cases e : m = n
    · subst e; exact ⟨h0, h8⟩
    · rw [h1 m e] at hm; exact h.key m hm
theorem StepI.drop (h : StepI ad st row) (n : Int) : StepI (put ad n none) (setF st n (leaveF (st n))) (row.erase n) := by
  have hp : ∀ m, m ≠ n → put ad n none m = ad m := fun m e => if_neg e
  have hpn : put ad n none n = none := if_pos rfl
  refine ⟨fun m hm => ?_, fun m => ?_, h.nd.erase n, fun m hm => ?_⟩
  · by_cases e : m = n
    · subst e; exact absurd hpn hm
    · rw [setF_ne _ _ e]; rw [hp m e] at hm; exact h.fl m hm
  · by_cases e : m = n
    · subst e
      have := (List.Nodup.mem_erase_iff h.nd (a := m) (b := m))
      simp [this, hpn]
    · rw [setF_ne _ _ e, hp m e, List.mem_erase_of_ne e]; exact h.act m
  · by_cases e : m = n
    · subst e; exact absurd hpn hm
    · rw [hp m e] at hm; exact h.key m hm
theorem StepI.turn {st' : Int → FS} {row' : List Int} {m c : Int} (ht : Turns st row st' row' m c) (h : StepI ad st row) : StepI ad st' row' := by
  induction ht with
  | @serve st rest n c cs hc hd =>
    have hin : n ∈ n :: rest := by simp
    have hn := ((h.act n).1 hin).1
    have hf := (h.fl n hn).bump
    have hss := settle_serve (st := setF st n (bumpF (st n))) (row := n :: rest) (n := n) (c := c) hin
    rw [← hss, setF_setF, setF_at]
    refine h.settle hn ?_
    have hcs : (bumpF (st n)).cs = c :: cs := by rw [bumpF_cs]; exact hc
    have hcc := hf.cs c (by rw [hcs]; simp)
    have h1 := hf.d1
    refine ⟨hf.q0, hf.q1, by show 0 ≤ (bumpF (st n)).d - c; omega, by show (bumpF (st n)).d - c ≤ 1049616; omega, fun ha => ?_, fun x hx => ?_⟩
    · have : (bumpF (st n)).anew = true := ha
      rw [bump_anew] at this
      cases this
    · refine hf.cs x ?_
      have : x ∈ (bumpF (st n)).cs.tail := hx
      exact List.mem_of_mem_tail this
  | @rot st rest n c cs st' row' m c' hc hd _ ih =>
    have hin : n ∈ n :: rest := by simp
    have hn := (h.act n).1 hin
    have hnd := List.nodup_cons.1 h.nd
    refine ih ⟨fun k hk => ?_, fun k => ?_, ?_, h.key⟩
    · by_cases e : k = n
      · subst e; rw [setF_at]; exact rot_ok (h.fl k hk) hc hd
      · rw [setF_ne _ _ e]; exact h.fl k hk
    · rw [List.mem_append, List.mem_singleton]
      by_cases e : k = n
      · subst e
        rw [setF_at]
        have ha : actF (rotF (bumpF (st k))) = true := by
          rw [← hn.2]
          unfold actF rotF bumpF
          split <;> rfl
        simp [ha, hn.1]
      · rw [setF_ne _ _ e]
        simp only [e, or_false]
        rw [← h.act k]
        simp [e]
    · rw [List.nodup_append]
      refine ⟨hnd.2, by simp, fun x hx y hy => ?_⟩
      simp at hy
      subst hy
      exact fun e => hnd.1 (e ▸ hx)
end
end Go.Proofs.Ytaenlieajlfkdaa
