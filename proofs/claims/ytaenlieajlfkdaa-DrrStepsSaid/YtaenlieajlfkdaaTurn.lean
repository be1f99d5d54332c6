/- What Turn does. -/
import Derived.Test.YtaenlieajlfkdaaOps3
import Derived.Deep.RegionWith
import Derived.Deep.DeepCutAuto
import Derived.Deep.CutBlock
import Derived.Deep.RegionHeld3
namespace Go.Proofs.Ytaenlieajlfkdaa
open Go.RowKit Go.Maps
set_option linter.unusedVariables false
set_option linter.unnecessarySimpa false
set_option linter.unusedSimpArgs false

theorem exists_least (P : Nat → Prop) : (∃ m, P m) → ∃ m, P m ∧ ∀ k, P k → m ≤ k := by
  rintro ⟨m, hm⟩
  induction m using Nat.strongRecOn with
  | _ m ih =>
    by_cases h : ∃ k, k < m ∧ P k
    · obtain ⟨k, hk, hp⟩ := h
      exact ih k hk hp
    · exact ⟨m, hm, fun k hk => Nat.le_of_not_lt fun hlt => h ⟨k, hlt, hk⟩⟩
open Classical in
noncomputable def least (P : Nat → Prop) : Nat := if h : ∃ m, P m then Classical.choose (exists_least P h) else 0
theorem least_spec {P : Nat → Prop} (h : ∃ m, P m) : P (least P) := by
  unfold least; rw [dif_pos h]; exact (Classical.choose_spec (exists_least P h)).1
theorem least_le {P : Nat → Prop} {m : Nat} (h : P m) : least P ≤ m := by
  have h' : ∃ m, P m := ⟨m, h⟩
  unfold least; rw [dif_pos h']; exact (Classical.choose_spec (exists_least P h')).2 m h

def bumpF (f : FS) : FS := if f.anew then { f with d := f.d + f.q, anew := false } else f
def rotF (f : FS) : FS := { f with anew := true }
theorem bumpF_cs (f : FS) : (bumpF f).cs = f.cs := by unfold bumpF; split <;> rfl

/-- A turn: whom it serves at last, and what it leaves. -/
inductive Turns : (Int → FS) → List Int → (Int → FS) → List Int → Int → Int → Prop
  | serve {st : Int → FS} {rest : List Int} {n c : Int} {cs : List Int} : (st n).cs = c :: cs → c ≤ (bumpF (st n)).d →
      Turns st (n :: rest) (serveA (setF st n (bumpF (st n))) (n :: rest) n c).1 (serveA (setF st n (bumpF (st n))) (n :: rest) n c).2 n c
  | rot {st : Int → FS} {rest : List Int} {n c : Int} {cs : List Int} {st' : Int → FS} {row' : List Int} {m c' : Int} : (st n).cs = c :: cs → (bumpF (st n)).d < c →
      Turns (setF st n (rotF (bumpF (st n)))) (rest ++ [n]) st' row' m c' → Turns st (n :: rest) st' row' m c'

structure FOk (f : FS) : Prop where
  q0 : 1 ≤ f.q
  q1 : f.q ≤ 1048576
  d0 : 0 ≤ f.d
  d1 : f.d ≤ 1049616
  an : f.anew = true → f.d < 1040
  cs : ∀ c, c ∈ f.cs → 1 ≤ c ∧ c ≤ 1040

def RowOk (st : Int → FS) (row : List Int) : Prop := ∀ n, n ∈ row → FOk (st n) ∧ (st n).cs ≠ []

def kap (f : FS) : Nat := 2 * ((f.cs.headD 0) - f.d).toNat + (if f.anew then 0 else 1)
def meas (st : Int → FS) (row : List Int) : Nat := (row.map fun n => kap (st n)).sum
theorem kap_rot {f : FS} {c : Int} {cs : List Int} (hc : f.cs = c :: cs) (hd : (bumpF f).d < c) (hq : 1 ≤ f.q) : kap (rotF (bumpF f)) < kap f := by
  cases f with
  | mk q d l r a =>
    simp only at hc hq
    subst hc
    cases a
    · simp only [bumpF, Bool.false_eq_true, if_false] at hd
      simp [kap, rotF, bumpF]
    · simp only [bumpF, if_true] at hd
      simp [kap, rotF, bumpF]
      omega
theorem meas_rot {st : Int → FS} {n : Int} {rest : List Int} {f' : FS} (hn : n ∉ rest) (hk : kap f' < kap (st n)) : meas (setF st n f') (rest ++ [n]) < meas st (n :: rest) := by
  unfold meas
  have e : rest.map (fun m => kap (setF st n f' m)) = rest.map (fun m => kap (st m)) := by
    apply List.map_congr_left
    intro m hm
    rw [setF_ne _ _ (show m ≠ n from fun e => hn (by rw [← e]; exact hm))]
  rw [List.map_append, e]
  simp [setF_at]
  omega
theorem rot_ok {f : FS} (h : FOk f) {c : Int} {cs : List Int} (hc : f.cs = c :: cs) (hd : (bumpF f).d < c) : FOk (rotF (bumpF f)) := by
  have hc1 := (h.cs c (by rw [hc]; simp))
  cases f with
  | mk q d l r a =>
    cases a
    · simp only [bumpF, Bool.false_eq_true, if_false] at hd
      exact ⟨h.q0, h.q1, h.d0, h.d1, fun _ => by show d < 1040; omega, h.cs⟩
    · simp only [bumpF, if_true] at hd
      have h0 := h.q0
      have h2 := h.d0
      simp only at h0 h2
      exact ⟨h.q0, h.q1, by show 0 ≤ d + q; omega, by show d + q ≤ 1049616; omega, fun _ => by show d + q < 1040; omega, h.cs⟩


theorem setF_setF (st : Int → FS) (n : Int) (f f' : FS) : setF (setF st n f) n f' = setF st n f' := by
  funext k; unfold setF; split <;> rfl
theorem setF_self (st : Int → FS) (n : Int) : setF st n (st n) = st := by
  funext k; unfold setF; split
  · rename_i h; rw [h]
  · rfl

/-- The row's first goes behind the others. -/
theorem rot_mem {W w3 : World} {S : Nat → Prop} {g : Nat} {M rv : Value} {cv : Int → Value} {ad : Int → Option Nat} {st3 : Int → FS} {n : Int} {rest : List Int} {N b : Nat} (h : RgE W S g M rv cv ad st3 (n :: rest) N) (hn : ad n = some b) {tv v' : Value} {H : Nat} (hob : tv.ownBlock = rv.ownBlock)
    (hw3 : Win w3 S 57 v' (ptrs (blks ad rest) ++ [.pointer (some ⟨b, 0, none⟩)])) (hg3 : W.grownBy w3 tv.ownBlock) (hor : v'.ownBlock = tv.ownBlock ∨ v'.ownBlock = some H) (hH : W.heap.size = H) :
    w3.cell? ⟨g, 1, none⟩ = some rv ∧ w3.frozen? ⟨g, 1, none⟩ = false ∧ RgE (w3.setCell ⟨g, 1, none⟩ v') S g M v' cv ad st3 (rest ++ [n]) N ∧ Moved W (w3.setCell ⟨g, 1, none⟩ v') S := by
  rw [hob] at hg3 hor
  have hown : ∀ k, rv.ownBlock = some k → k ≠ g := by
    intro k hk
    obtain ⟨_, cur, hcur⟩ := h.rwin.lt k hk
    exact ne_of hcur h.ring (by decide)
  have hng : some g ≠ rv.ownBlock := fun e => hown g e.symm rfl
  have hring := h.ring.grown hg3 hng
  have hnd := List.nodup_cons.1 h.nd
  refine ⟨by simpa using hring.cell 1, hring.frozen 1, ?_, ?_⟩
  · refine h.rowm (fun k hk hkg hkr => ?_) (hring.set_ 1 _) ?_ (fun m hm => ?_) ?_
    · rw [Below.heap_setCell _ _ _ _ (by simpa using hkg)]
      exact hg3.block k hk (fun e => hkr e.symm)
    · have e : ptrs (blks ad (rest ++ [n])) = ptrs (blks ad rest) ++ [.pointer (some ⟨b, 0, none⟩)] := by simp [ptrs, blks, adr_some hn]
      rw [e]
      refine hw3.same fun k hk => Below.heap_setCell _ _ _ _ ?_
      rcases hor with ho | ho
      · rw [ho] at hk; exact hown k hk
      · rw [ho] at hk; injection hk with hk
        have := h.ring.lt
        show k ≠ g
        omega
    · rcases List.mem_append.1 hm with hm | hm
      · exact h.rin m (by simp [hm])
      · simp at hm; subst hm; exact ⟨b, hn⟩
    · rw [List.nodup_append]
      refine ⟨hnd.2, by simp, fun x hx y hy => ?_⟩
      simp at hy
      subst hy
      exact fun e => hnd.1 (e ▸ hx)
  · exact Moved.trans (Moved.of_grown hg3 (fun k hk => (h.rwin.lt k hk).1)) (Moved.of_grown (row := some g) (only_setg (only_refl _ _) 1 _) (fun k e => by injection e with e; exact e ▸ h.gS))

/-- What the walk of a turn reads of the row's first, in a world W. -/
structure Head (W : World) (g : Nat) (rv cvn : Value) (n : Int) (b : Nat) (f : FS) (c : Int) (rl cl gr orr cr gc oc cp : Nat) : Prop where
  c1 : W.cell? ⟨g, 1, none⟩ = some (.slice (some ⟨gr, orr, none⟩) (rl + 1) cr)
  r0 : W.cell? ⟨gr, orr, none⟩ = some (.pointer (some ⟨b, 0, none⟩))
  k0 : W.cell? ⟨b, 0, none⟩ = some (.int .i64 n)
  k1 : W.cell? ⟨b, 1, none⟩ = some (.int .i64 f.q)
  k2 : W.cell? ⟨b, 2, none⟩ = some (.int .i64 f.d)
  k3 : W.cell? ⟨b, 3, none⟩ = some (.slice (some ⟨gc, oc, none⟩) (cl + 1) cp)
  k5 : W.cell? ⟨b, 5, none⟩ = some (.bool f.anew)
  j2 : W.frozen? ⟨b, 2, none⟩ = false
  j5 : W.frozen? ⟨b, 5, none⟩ = false
  cc : W.cell? ⟨gc, oc, none⟩ = some (.int .i64 c)
  gb : g ≠ b
  cb : gc ≠ b
  rb : gr ≠ b
  rg : gr ≠ g
  cg : gc ≠ g
  hrv : rv = .slice (some ⟨gr, orr, none⟩) (rl + 1) cr
  hcv : cvn = .slice (some ⟨gc, oc, none⟩) (cl + 1) cp
  hcr : rl + 1 ≤ cr
  hcp : cl + 1 ≤ cp

theorem RgE.head {W : World} {S : Nat → Prop} {g : Nat} {M rv : Value} {cv : Int → Value} {ad : Int → Option Nat} {st : Int → FS} {n : Int} {rest : List Int} {N b : Nat} (hR : RgE W S g M rv cv ad st (n :: rest) N) (hn : ad n = some b) {c : Int} {cs : List Int} (hc : (st n).cs = c :: cs) :
    ∃ gr orr cr gc oc cp, Head W g rv (cv n) n b (st n) c rest.length cs.length gr orr cr gc oc cp := by
  have hfl := (hR.fl n b hn).2
  have hrw := hR.rwin
  obtain ⟨gr, orr, cr, hrv, _, hcr, hcell⟩ := hrw.at_ (by simp [ptrs, blks])
  have hr0 := (hcell 0 (by simp [ptrs, blks])).1
  have hlr : (ptrs (blks ad (n :: rest))).length = rest.length + 1 := by simp [ptrs, blks]
  have hp0 : (ptrs (blks ad (n :: rest)))[0]? = some (.pointer (some ⟨b, 0, none⟩)) := by simp [ptrs, blks, adr_some hn]
  rw [hp0, Nat.add_zero] at hr0
  rw [hlr] at hrv hcr
  have c1 : W.cell? ⟨g, 1, none⟩ = some rv := by simpa using hR.ring.cell 1
  rw [hrv] at c1
  have hw := hR.cs n b hn
  have hints : ints (st n).cs = .int .i64 c :: ints cs := by rw [hc]; rfl
  rw [hints] at hw
  obtain ⟨gc, oc, cp, hcv, _, hcp, hccell⟩ := hw.at_ (by simp)
  have hl : (Value.int .i64 c :: ints cs).length = cs.length + 1 := by simp [ints]
  rw [hl] at hcv hcp
  have hcc := (hccell 0 (by simp)).1
  simp only [Nat.add_zero, List.getElem?_cons_zero] at hcc
  have k3 := hfl.c3
  rw [hcv] at k3
  have hgr : ∀ {k : Nat} {cs : Array Value} {t : TypeId}, W.heap[k]? = some (.cells cs t (0, 0)) → t ≠ 57 → gr ≠ k := fun hk ht => by
    obtain ⟨_, cur, hcur⟩ := hrw.lt gr (by rw [hrv]; rfl)
    exact ne_of hcur hk (fun e => ht e.symm)
  have hgc : ∀ {k : Nat} {cs : Array Value} {t : TypeId}, W.heap[k]? = some (.cells cs t (0, 0)) → t ≠ 3 → gc ≠ k := fun hk ht => by
    obtain ⟨_, cur, hcur⟩ := hw.lt gc (by rw [hcv]; rfl)
    exact ne_of hcur hk (fun e => ht e.symm)
  exact ⟨gr, orr, cr, gc, oc, cp, c1, hr0, hfl.c0, hfl.c1, hfl.c2, k3, hfl.c5, hfl.fz 2, hfl.fz 5, hcc, ne_of hR.ring hfl (by decide), hgc hfl (by decide), hgr hfl (by decide), hgr hR.ring (by decide), hgc hR.ring (by decide), hrv, hcv, hcr, hcp⟩

/-- What Turn hands back. -/
def TurnRet (w : World) (S : Nat → Prop) (g : Nat) (ad : Int → Option Nat) (st : Int → FS) (row : List Int) (N : Nat) (x : Ending) (w' : World) : Prop :=
  ∃ st' row' n c, Turns st row st' row' n c ∧ RetR w S g ad st' row' N (.tuple #[.int .i64 n, .int .i64 c, .bool true]) x w'

theorem turn_empty (w : World) (S : Nat → Prop) (g : Nat) (M rv : Value) (cv : Int → Value) (ad : Int → Option Nat) (st : Int → FS) (N : Nat) (h : RgE w S g M rv cv ad st [] N) :
    Calls Try.prog 10 #[.pointer (some ⟨g, 0, none⟩)] w fun x w' => x = .returned (.tuple #[.int .i64 0, .int .i64 0, .bool false]) ∧ w = w' := by
  have c1 : w.cell? ⟨g, 1, none⟩ = some rv := by simpa using h.ring.cell 1
  obtain ⟨A, c, rfl, _⟩ := h.rwin.form
  rw [show (ptrs (blks ad [])).length = 0 from rfl] at c1
  clear h
  go_enter Try.func10, Try.ntmps10
  go_wp2_with fail
  go_loopw [5] (fun _ wr => wr = w) (fun _ _ => 0)
  case atStart => rfl
  case round =>
    subst hrel
    go_wp2_with fail
    refine bodyPost_ret (v := .tuple #[.int .i64 0, .int .i64 0, .bool false]) (by simp [results, Try.results10, go_sem]) rfl ?_
    exact ⟨rfl, rfl⟩

/-- On the way of a turn. -/
def Mid (w : World) (S : Nat → Prop) (g : Nat) (ad : Int → Option Nat) (st : Int → FS) (row : List Int) (N : Nat) (wr : World) (m : Nat) : Prop :=
  ∃ M rv cv st1 row1, RgE wr S g M rv cv ad st1 row1 N ∧ Moved w wr S ∧ RowOk st1 row1 ∧ row1 ≠ [] ∧ (∀ st' row' n c, Turns st1 row1 st' row' n c → Turns st row st' row' n c) ∧ meas st1 row1 = m


end Go.Proofs.Ytaenlieajlfkdaa
