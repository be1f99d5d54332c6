/- What serve and Turn do. -/
import Derived.Test.YtaenlieajlfkdaaOps2
namespace Go.Proofs.Ytaenlieajlfkdaa
open Go.RowKit Go.Maps
set_option linter.unusedVariables false
set_option linter.unnecessarySimpa false
set_option linter.unusedSimpArgs false

def serveF (f : FS) (c : Int) : FS := { f with cs := f.cs.tail, d := f.d - c }
def serveA (st : Int → FS) (row : List Int) (n : Int) (c : Int) : (Int → FS) × List Int :=
  if actF (serveF (st n) c) then (setF st n (serveF (st n) c), row) else (setF (setF st n (serveF (st n) c)) n (leaveF (serveF (st n) c)), row.erase n)

set_option maxHeartbeats 1000000 in
theorem serve_c (w : World) (S : Nat → Prop) (g : Nat) (M rv : Value) (cv : Int → Value) (ad : Int → Option Nat) (st : Int → FS) (row : List Int) (N : Nat) (h : RgE w S g M rv cv ad st row N) (hup : ∀ k, w.heap.size ≤ k → S k) (n : Int) (b : Nat) (hn : ad n = some b)
    (c : Int) (cs : List Int) (hc : (st n).cs = c :: cs) (hd0 : 0 ≤ (st n).d) (hd1 : (st n).d ≤ 2097152) (hc0 : 1 ≤ c) (hc1 : c ≤ 1040) (hN : N ≤ 100000) :
    Calls Try.prog 26 #[.pointer (some ⟨g, 0, none⟩), .pointer (some ⟨b, 0, none⟩)] w (RetR w S g ad (serveA st row n c).1 (serveA st row n c).2 N (.int .i64 c)) := by
  have hfl := (h.fl n b hn).2
  have hwin := h.cs n b hn
  have hlen := h.len n b hn
  rw [hc] at hlen
  simp only [List.length_cons] at hlen
  have hints : ints (st n).cs = .int .i64 c :: ints cs := by rw [hc]; rfl
  rw [hints] at hwin
  obtain ⟨A, cp, hcv, hcp0, hcp1⟩ := hwin.form
  have hl : (Value.int .i64 c :: ints cs).length = cs.length + 1 := by simp [ints]
  rw [hl] at hcv hcp0
  unfold maxLen at hcp1
  obtain ⟨gc, oc, cp', hcv', _, _, hcell⟩ := hwin.at_ (by simp)
  rw [hl] at hcv'
  rw [hcv] at hcv'
  injection hcv' with hA _ hcp'
  subst hA hcp'
  have hcc := (hcell 0 (by simp)).1
  simp only [Nat.add_zero, List.getElem?_cons_zero] at hcc
  have ht := Win.tail (hcv ▸ hwin)
  rw [show (ints cs).length = cs.length by simp [ints]] at ht
  simp only [Option.map_some, add_lit] at ht
  have c3 := hfl.c3
  rw [hcv] at c3
  have f3 := hfl.fz 3
  have c2 := hfl.c2
  have f2 := hfl.fz 2
  have hblt : b < w.heap.size := Blk.lt hfl
  have wd : IntKind.i64.wrap ((st n).d - c) = (st n).d - c := by rw [IntKind.wrap_i64]; omega
  have H := Lib.hid h
  have HT := Lib.hid ht
  have HFL := Lib.hid hfl
  have HCV := Lib.hid hcv
  generalize hdd : (st n).d = d at *
  generalize hcl : cs.length = l at *
  clear h ht hfl hwin hcv hcell hl hints hcp1
  have K : ∀ ot cp', Win w S 3 (.slice (some ⟨gc, ot, none⟩) l cp') (ints cs) → (Value.slice (some ⟨gc, ot, none⟩) l cp').ownBlock = some gc →
      Calls Try.prog 34 #[.pointer (some ⟨b, 0, none⟩)] ((w.setCell ⟨b, 3, none⟩ (.slice (some ⟨gc, ot, none⟩) l cp')).setCell ⟨b, 2, none⟩ (.int .i64 (d - c))) (fun x w' => x = .returned (.bool (actF (serveF (st n) c))) ∧ (w.setCell ⟨b, 3, none⟩ (.slice (some ⟨gc, ot, none⟩) l cp')).setCell ⟨b, 2, none⟩ (.int .i64 (d - c)) = w') ∧
      Calls Try.prog 30 #[.pointer (some ⟨g, 0, none⟩), .pointer (some ⟨b, 0, none⟩)] ((w.setCell ⟨b, 3, none⟩ (.slice (some ⟨gc, ot, none⟩) l cp')).setCell ⟨b, 2, none⟩ (.int .i64 (d - c)))
        (PutR ((w.setCell ⟨b, 3, none⟩ (.slice (some ⟨gc, ot, none⟩) l cp')).setCell ⟨b, 2, none⟩ (.int .i64 (d - c))) S g M (setV cv n (.slice (some ⟨gc, ot, none⟩) l cp')) ad (setF (setF st n (serveF (st n) c)) n { (setF st n (serveF (st n) c)) n with d := 0 }) (row.erase n) N) ∧
      RgE ((w.setCell ⟨b, 3, none⟩ (.slice (some ⟨gc, ot, none⟩) l cp')).setCell ⟨b, 2, none⟩ (.int .i64 (d - c))) S g M rv (setV cv n (.slice (some ⟨gc, ot, none⟩) l cp')) ad (setF st n (serveF (st n) c)) row N ∧
      Moved w ((w.setCell ⟨b, 3, none⟩ (.slice (some ⟨gc, ot, none⟩) l cp')).setCell ⟨b, 2, none⟩ (.int .i64 (d - c))) S := by
    intro ot cp' hw hob
    have hcs' : (serveF (st n) c).cs = cs := by simp [serveF, hc]
    have hfl1 : FlB ((w.setCell ⟨b, 3, none⟩ (.slice (some ⟨gc, ot, none⟩) l cp')).setCell ⟨b, 2, none⟩ (.int .i64 (d - c))) b n (serveF (st n) c) (.slice (some ⟨gc, ot, none⟩) l cp') := by
      have := (HFL.out.set_ 3 (.slice (some ⟨gc, ot, none⟩) l cp')).set_ 2 (.int .i64 (d - c))
      rw [← hdd] at this ⊢
      exact this
    have hgcb : gc ≠ b := by
      obtain ⟨_, cur, hcur⟩ := (H.out.cs n b hn).lt gc (by rw [HCV.out]; rfl)
      exact ne_of hcur (H.out.fl n b hn).2 (by decide)
    have hm : Moved w ((w.setCell ⟨b, 3, none⟩ (.slice (some ⟨gc, ot, none⟩) l cp')).setCell ⟨b, 2, none⟩ (.int .i64 (d - c))) S :=
      Moved.of_grown (row := some b) (only_setg (only_setg (only_refl _ _) 3 _) 2 _) (fun k e => by injection e with e; exact e ▸ (H.out.fl n b hn).1)
    have hR : RgE ((w.setCell ⟨b, 3, none⟩ (.slice (some ⟨gc, ot, none⟩) l cp')).setCell ⟨b, 2, none⟩ (.int .i64 (d - c))) S g M rv (setV cv n (.slice (some ⟨gc, ot, none⟩) l cp')) ad (setF st n (serveF (st n) c)) row N := by
      refine H.out.costs hn (fun k hk hkb hkc => ?_) hfl1 ?_ (fun k hk => .inl ?_) (Nat.le_refl N) (by rw [hcs', hcl]; omega)
      · rw [Below.heap_setCell _ _ _ _ (by simpa using hkb), Below.heap_setCell _ _ _ _ (by simpa using hkb)]
      · rw [hcs']
        refine hw.same fun k hk => ?_
        rw [hob] at hk; injection hk with hk; subst hk
        rw [Below.heap_setCell _ _ _ _ (by simpa using hgcb), Below.heap_setCell _ _ _ _ (by simpa using hgcb)]
      · rw [hob] at hk
        rw [HCV.out]
        exact hk
    refine ⟨?_, ?_, hR, hm⟩
    · refine active_c _ b n (serveF (st n) c) _ hfl1 (A := some ⟨gc, ot, none⟩) (c := cp') ?_
      rw [hcs', hcl]
    · exact leave_c _ S g M rv _ ad _ row N hR (hm.upper hup) n b hn
  have Kh := Lib.hid K
  clear K
  by_cases hcp : cp = 1
  · subst hcp
    have hl0 : l = 0 := by omega
    subst hl0
    go_enter Try.func26, Try.ntmps26
    go_wp2_with fail
    have K := Kh.out
    have hk := K oc 0 (by simpa  using HT.out.1) rfl
    obtain ⟨k1, k2, k3, k4⟩ := hk
    have D1 := Lib.hid k1
    have D2 := Lib.hid k2
    have D3 := Lib.hid k3
    have D4 := Lib.hid k4
    clear k1 k2 k3 k4
    refine D1.out.mono ?_
    rintro e w' ⟨rfl, rfl⟩
    cases ha : actF (serveF (st n) c)
    · go_wp2_with fail
      refine D2.out.mono ?_
      rintro e w3 ⟨rfl, hm3, rv', hR⟩
      have HR := Lib.hid hR
      have HM := Lib.hid (D4.out.trans hm3)
      clear hR hm3
      go_wp2_with fail
      go_ret
      refine ⟨rfl, HM.out, M, rv', setV cv n (Value.slice (some ⟨gc, oc, none⟩) 0 0), ?_⟩
      have := HR.out
      rw [setF_at] at this
      simp only [serveA, ha, Bool.false_eq_true, if_false]
      exact this
    · go_wp2_with fail
      go_ret
      refine ⟨rfl, D4.out, M, rv, setV cv n (Value.slice (some ⟨gc, oc, none⟩) 0 0), ?_⟩
      simp only [serveA, ha, if_true]
      exact D3.out
  · go_enter Try.func26, Try.ntmps26
    go_wp2_with fail
    have K := Kh.out
    have hk := K (oc + 1) (cp - 1) (by simpa [hcp] using HT.out.1) rfl
    obtain ⟨k1, k2, k3, k4⟩ := hk
    have D1 := Lib.hid k1
    have D2 := Lib.hid k2
    have D3 := Lib.hid k3
    have D4 := Lib.hid k4
    clear k1 k2 k3 k4
    refine D1.out.mono ?_
    rintro e w' ⟨rfl, rfl⟩
    cases ha : actF (serveF (st n) c)
    · go_wp2_with fail
      refine D2.out.mono ?_
      rintro e w3 ⟨rfl, hm3, rv', hR⟩
      have HR := Lib.hid hR
      have HM := Lib.hid (D4.out.trans hm3)
      clear hR hm3
      go_wp2_with fail
      go_ret
      refine ⟨rfl, HM.out, M, rv', setV cv n (Value.slice (some ⟨gc, oc + 1, none⟩) l (cp - 1)), ?_⟩
      have := HR.out
      rw [setF_at] at this
      simp only [serveA, ha, Bool.false_eq_true, if_false]
      exact this
    · go_wp2_with fail
      go_ret
      refine ⟨rfl, D4.out, M, rv, setV cv n (Value.slice (some ⟨gc, oc + 1, none⟩) l (cp - 1)), ?_⟩
      simp only [serveA, ha, if_true]
      exact D3.out
end Go.Proofs.Ytaenlieajlfkdaa
