/- What Turn does. -/
import Derived.Test.YtaenlieajlfkdaaTurn
namespace Go.Proofs.Ytaenlieajlfkdaa
open Go.RowKit Go.Maps
set_option linter.unusedVariables false
set_option linter.unnecessarySimpa false
set_option linter.unusedSimpArgs false

theorem rot_rowOk {st : Int → FS} {n : Int} {rest : List Int} {c : Int} {cs : List Int} (h : RowOk st (n :: rest)) (hc : (st n).cs = c :: cs) (hd : (bumpF (st n)).d < c) (hn : n ∉ rest) : RowOk (setF (setF st n (bumpF (st n))) n (rotF (bumpF (st n)))) (rest ++ [n]) := by
  rw [setF_setF]
  intro m hm
  by_cases e : m = n
  · subst e
    rw [setF_at]
    refine ⟨rot_ok (h m (by simp)).1 hc hd, ?_⟩
    show (bumpF (st m)).cs ≠ []
    rw [bumpF_cs, hc]; simp
  · rw [setF_ne _ _ e]
    refine h m ?_
    rcases List.mem_append.1 hm with hm | hm
    · simp [hm]
    · simp at hm; exact absurd hm e

theorem bump_bd {f : FS} (h : FOk f) : 0 ≤ (bumpF f).d ∧ (bumpF f).d ≤ 1049616 := by
  have h0 := h.q0
  have h1 := h.q1
  have h2 := h.d0
  have h3 := h.d1
  have h4 := h.an
  unfold bumpF
  split
  · rename_i ha
    have := h4 ha
    show 0 ≤ f.d + f.q ∧ f.d + f.q ≤ 1049616
    omega
  · exact ⟨h2, h3⟩

section
variable {w : World} {S : Nat → Prop} {g : Nat} {M rv : Value} {cv : Int → Value} {ad : Int → Option Nat} {st : Int → FS} {row : List Int} {N : Nat}
theorem RgE.setD (h : RgE w S g M rv cv ad st row N) {n : Int} {b : Nat} (hn : ad n = some b) (d : Int) : RgE (w.setCell ⟨b, 2, none⟩ (.int .i64 d)) S g M rv cv ad (setF st n { st n with d := d }) row N ∧ Moved w (w.setCell ⟨b, 2, none⟩ (.int .i64 d)) S := by
  have hf : FlB (w.setCell ⟨b, 2, none⟩ (.int .i64 d)) b n { st n with d := d } (cv n) := (h.fl n b hn).2.set_ 2 (.int .i64 d)
  exact ⟨h.flow hn (fun k hk hkb => Below.heap_setCell _ _ _ _ (show k ≠ b from hkb)) hf rfl, Moved.of_grown (row := some b) (only_setg (only_refl _ _) 2 _) (fun k e => by injection e with e; exact e ▸ (h.fl n b hn).1)⟩
theorem RgE.setA (h : RgE w S g M rv cv ad st row N) {n : Int} {b : Nat} (hn : ad n = some b) (a : Bool) : RgE (w.setCell ⟨b, 5, none⟩ (.bool a)) S g M rv cv ad (setF st n { st n with anew := a }) row N ∧ Moved w (w.setCell ⟨b, 5, none⟩ (.bool a)) S := by
  have hf : FlB (w.setCell ⟨b, 5, none⟩ (.bool a)) b n { st n with anew := a } (cv n) := (h.fl n b hn).2.set_ 5 (.bool a)
  exact ⟨h.flow hn (fun k hk hkb => Below.heap_setCell _ _ _ _ (show k ≠ b from hkb)) hf rfl, Moved.of_grown (row := some b) (only_setg (only_refl _ _) 5 _) (fun k e => by injection e with e; exact e ▸ (h.fl n b hn).1)⟩
end
theorem Rg.num {w : World} {S : Nat → Prop} {g : Nat} {ad : Int → Option Nat} {st : Int → FS} {row : List Int} {N : Nat} (h : Rg w S g ad st row N) {n : Int} {b : Nat} (hn : ad n = some b) : w.cell? ⟨b, 0, none⟩ = some (.int .i64 n) := by
  obtain ⟨M, rv, cv, h⟩ := h
  exact (h.fl n b hn).2.c0

theorem rot_tail {W : World} {S : Nat → Prop} {g : Nat} {M rv : Value} {cv : Int → Value} {ad : Int → Option Nat} {st2 : Int → FS} {n : Int} {rest : List Int} {N b gr orr cr rl : Nat} (h : RgE W S g M rv cv ad st2 (n :: rest) N) (hn : ad n = some b) (hrl : rest.length = rl) (hrv : rv = .slice (some ⟨gr, orr, none⟩) (rl + 1) cr) :
    RgE ((W.setCell ⟨b, 5, none⟩ (.bool true)).alloc (.cells #[.pointer (some ⟨b, 0, none⟩)] 57)) S g M rv cv ad (setF st2 n (rotF (st2 n))) (n :: rest) N ∧
    Win ((W.setCell ⟨b, 5, none⟩ (.bool true)).alloc (.cells #[.pointer (some ⟨b, 0, none⟩)] 57)) S 57 (.slice (if cr = 1 then some ⟨gr, orr, none⟩ else some ⟨gr, orr + 1, none⟩) rl (cr - 1)) (ptrs (blks ad rest)) ∧
    (Value.slice (if cr = 1 then some ⟨gr, orr, none⟩ else some ⟨gr, orr + 1, none⟩) rl (cr - 1)).ownBlock = rv.ownBlock := by
  have hfl := (h.fl n b hn).2
  have hR : RgE ((W.setCell ⟨b, 5, none⟩ (.bool true)).alloc (.cells #[.pointer (some ⟨b, 0, none⟩)] 57)) S g M rv cv ad (setF st2 n (rotF (st2 n))) (n :: rest) N :=
    RgE.alloc (h.flow hn (f' := rotF (st2 n)) (fun k hk hkb => Below.heap_setCell _ _ _ _ (by simpa using hkb)) (hfl.set_ 5 (.bool true)) rfl) _
  have hw := hR.rwin
  have e : ptrs (blks ad (n :: rest)) = .pointer (some ⟨adr ad n, 0, none⟩) :: ptrs (blks ad rest) := rfl
  rw [e, hrv] at hw
  have ht := hw.tail
  rw [show (ptrs (blks ad rest)).length = rl by simp [ptrs, blks, hrl]] at ht
  simp only [Option.map_some, add_lit] at ht
  refine ⟨hR, ht.1, ?_⟩
  rw [hrv]
  exact ht.2

set_option maxHeartbeats 2000000 in
theorem turn_c (w : World) (S : Nat → Prop) (g : Nat) (M rv : Value) (cv : Int → Value) (ad : Int → Option Nat) (st : Int → FS) (row : List Int) (N : Nat) (h : RgE w S g M rv cv ad st row N) (hup : ∀ k, w.heap.size ≤ k → S k) (hok : RowOk st row) (hne : row ≠ []) (hN : N ≤ 100000) :
    Calls Try.prog 10 #[.pointer (some ⟨g, 0, none⟩)] w (TurnRet w S g ad st row N) := by
  have hstart : Mid w S g ad st row N w (meas st row) := ⟨M, rv, cv, st, row, h, Moved.refl _ _, hok, hne, fun _ _ _ _ h => h, rfl⟩
  have Hst := Lib.hid hstart
  have Hup := Lib.hid hup
  obtain ⟨i0, hi0, hz0, hz1, hz2⟩ := info_parts info57
  clear hstart h hok hne hup
  go_enter Try.func10, Try.ntmps10
  go_wp2_with fail
  go_loopw [5] (fun _ wr => ∃ m, Mid w S g ad st row N wr m) (fun _ wr => least (Mid w S g ad st row N wr))
  case atStart => exact ⟨_, Hst.out⟩
  case round =>
    have hmid := least_spec hrel
    obtain ⟨M, rv, cv, st1, row1, hR, hMv, hOk, hne, himp, hmeas⟩ := hmid
    cases row1 with
    | nil => exact absurd rfl hne
    | cons n rest =>
      obtain ⟨b, hn⟩ := hR.rin n (by simp)
      obtain ⟨hF, hcs⟩ := hOk n (by simp)
      obtain ⟨c, cs, hc⟩ : ∃ c cs, (st1 n).cs = c :: cs := by
        cases hcc : (st1 n).cs with
        | nil => exact absurd hcc hcs
        | cons c cs => exact ⟨c, cs, rfl⟩
      have hcb := hF.cs c (by rw [hc]; simp)
      have hnr : n ∉ rest := (List.nodup_cons.1 hR.nd).1
      have hrl := hR.rowlen
      have hnk := hR.key n b hn
      simp only [List.length_cons] at hrl
      have HOk := Lib.hid hOk
      have Himp := Lib.hid himp
      have HF := Lib.hid hF
      have Hc := Lib.hid hc
      have Hmeas := Lib.hid hmeas
      clear hOk himp hmeas hcs hc hne hrel
      cases hanew : (st1 n).anew
      · have hbump : bumpF (st1 n) = st1 n := by unfold bumpF; rw [hanew]; rfl
        have HRW : Hid (RgE wr S g M rv cv ad (setF st1 n (bumpF (st1 n))) (n :: rest) N) := Lib.hid (by rw [hbump, setF_self]; exact hR)
        have HMW := Lib.hid hMv
        have hba : (bumpF (st1 n)).anew = false := by rw [hbump]; exact hanew
        clear hR hMv hF
        have hc2 : (setF st1 n (bumpF (st1 n)) n).cs = c :: cs := by rw [setF_at, bumpF_cs]; exact Hc.out
        obtain ⟨gr, orr, cr, gc, oc, cp, hH⟩ := HRW.out.head hn hc2
        rw [setF_at] at hH
        obtain ⟨c1, r0, k0, k1, k2, k3, k5, j2, j5, hcc, hgb, hgcb, hgrb, hgrg, hgcg, hrv, hcv, hcr, hcp⟩ := hH
        have Hrv := Lib.hid hrv
        have Hcv := Lib.hid hcv
        clear hrv hcv hc2
        generalize hfd : (bumpF (st1 n)).d = d at *
        cases hdc : decide (c ≤ d)
        · have hdc' : d < c := by
            have := of_decide_eq_false hdc
            omega
          have Hok2 := Lib.hid (rot_rowOk HOk.out Hc.out (by rw [hfd]; exact hdc') hnr)
          have Himp2 : Hid (∀ st' row' m c', Turns (setF (setF st1 n (bumpF (st1 n))) n (rotF (bumpF (st1 n)))) (rest ++ [n]) st' row' m c' → Turns st row st' row' m c') :=
            Lib.hid fun st' row' m c' ht => Himp.out _ _ _ _ (Turns.rot Hc.out (by rw [hfd]; exact hdc') (setF_setF st1 n _ _ ▸ ht))
          have Hml : Hid (meas (setF (setF st1 n (bumpF (st1 n))) n (rotF (bumpF (st1 n)))) (rest ++ [n]) < least (Mid w S g ad st row N wr)) := Lib.hid (by
            rw [← Hmeas.out, setF_setF]
            exact meas_rot hnr (kap_rot Hc.out (by rw [hfd]; exact hdc') HF.out.q0))
          try go_wp2_with fail
          go_quiet (fail)
          go_upto_region 10 with (fail)
          have hRq := HRW.out.drewN nq
          have hMq : Moved w (wr.drewN nq) S := HMW.out.trans ⟨rfl, rfl, rfl, Nat.le_refl _, fun _ _ _ => rfl⟩
          clear HRW HMW Hrv Hcv c1 r0 k0 k1 k2 k3 k5 j2 j5 hcc
          generalize wr.drewN nq = Wq at *
          have HRW := Lib.hid hRq
          have HMW := Lib.hid hMq
          clear hRq hMq
          have hc2 : (setF st1 n (bumpF (st1 n)) n).cs = c :: cs := by rw [setF_at, bumpF_cs]; exact Hc.out
          obtain ⟨gr, orr, cr, gc, oc, cp, hH⟩ := HRW.out.head hn hc2
          rw [setF_at] at hH
          obtain ⟨c1, r0, k0, k1, k2, k3, k5, j2, j5, hcc, hgb, hgcb, hgrb, hgrg, hgcg, hrv, hcv, hcr, hcp⟩ := hH
          have Hrv := Lib.hid hrv
          have Hcv := Lib.hid hcv
          clear hrv hcv hc2
          rw [hfd] at k2
          by_cases hcr1 : cr = 1
          · subst hcr1
            have hl0 : rest.length = 0 := by omega
            rw [hl0] at c1 Hrv hcr
            have C := rot_tail HRW.out hn hl0 Hrv.out
            obtain ⟨hRt, hwt, hob⟩ := C
            rw [setF_at] at hRt
            simp only [if_true, Nat.sub_self] at hwt hob
            have HRt := Lib.hid hRt
            have Hob := Lib.hid hob
            clear hob
            have Hwt := Lib.hid hwt
            have hcu : ((Wq.setCell ⟨b, 5, none⟩ (.bool true)).alloc (.cells #[.pointer (some ⟨b, 0, none⟩)] 57)).cell? ⟨Wq.heap.size, 0, none⟩ = some (.pointer (some ⟨b, 0, none⟩)) := by
              have := (Blk.new (Wq.setCell ⟨b, 5, none⟩ (.bool true)) 57 #[.pointer (some ⟨b, 0, none⟩)]).cell 0
              simpa [World.setCell] using this
            have HCU := Lib.hid hcu
            clear hRt hwt hcu
            go_wp2_with (at_builtin; refine wpList_append_win _ rfl (.tmp 64) (.tmp 66) 26 rfl 57 i0 _ Try.underlying26 hi0 hz0 hz1 hz2 rfl (v := .slice (some ⟨gr, orr, none⟩) 0 0) rfl Hwt.out ⟨Wq.heap.size, 0, none⟩ 1 (.pointer (some ⟨b, 0, none⟩)) rfl HCU.out rfl ?_ ?_ ?_)
            · simp [ptrs, blks]; omega
            · exact Hup.out _ (by have := HMW.out.size; simp [World.setCell]; omega)
            intro v' w3 hwin hg3 hor
            obtain ⟨A', c', rfl, _⟩ := hwin.form
            rw [show (ptrs (blks ad rest) ++ [Value.pointer (some ⟨b, 0, none⟩)]).length = (ptrs (blks ad rest)).length + 1 by simp] at hwin hor
            have hR5 := rot_mem HRt.out hn Hob.out hwin hg3 hor (by simp [World.setCell])
            obtain ⟨d1, e1, hR5, hM5⟩ := hR5
            have hmv : Moved Wq ((Wq.setCell ⟨b, 5, none⟩ (.bool true)).alloc (.cells #[.pointer (some ⟨b, 0, none⟩)] 57)) S :=
              Moved.of_grown (row := some b) (only_alloc (only_setg (only_refl _ _) 5 _) _) (fun k e => by injection e with e; exact e ▸ (HRW.out.fl n b hn).1)
            have HR5 := Lib.hid hR5
            have HM5 := Lib.hid (HMW.out.trans (hmv.trans hM5))
            clear hR5 hM5 hwin hg3 hor hmv
            go_wp2_with fail
            go_roundw
            case rel => exact ⟨_, _, _, _, _, _, HR5.out, HM5.out, Hok2.out, by simp, Himp2.out, rfl⟩
            case measure =>
              refine Nat.lt_of_le_of_lt (least_le ⟨_, _, _, _, _, HR5.out, HM5.out, Hok2.out, by simp, Himp2.out, rfl⟩) ?_
              exact Hml.out
          · have C := rot_tail HRW.out hn rfl Hrv.out
            obtain ⟨hRt, hwt, hob⟩ := C
            rw [setF_at] at hRt
            simp only [if_neg hcr1] at hwt hob
            have HRt := Lib.hid hRt
            have Hob := Lib.hid hob
            clear hob
            have Hwt := Lib.hid hwt
            have hcu : ((Wq.setCell ⟨b, 5, none⟩ (.bool true)).alloc (.cells #[.pointer (some ⟨b, 0, none⟩)] 57)).cell? ⟨Wq.heap.size, 0, none⟩ = some (.pointer (some ⟨b, 0, none⟩)) := by
              have := (Blk.new (Wq.setCell ⟨b, 5, none⟩ (.bool true)) 57 #[.pointer (some ⟨b, 0, none⟩)]).cell 0
              simpa [World.setCell] using this
            have HCU := Lib.hid hcu
            clear hRt hwt hcu
            go_wp2_with (at_builtin; refine wpList_append_win _ rfl (.tmp 64) (.tmp 66) 26 rfl 57 i0 _ Try.underlying26 hi0 hz0 hz1 hz2 rfl (v := .slice (some ⟨gr, orr + 1, none⟩) rest.length (cr - 1)) rfl Hwt.out ⟨Wq.heap.size, 0, none⟩ 1 (.pointer (some ⟨b, 0, none⟩)) rfl HCU.out rfl ?_ ?_ ?_)
            · simp [ptrs, blks]; omega
            · exact Hup.out _ (by have := HMW.out.size; simp [World.setCell]; omega)
            intro v' w3 hwin hg3 hor
            obtain ⟨A', c', rfl, _⟩ := hwin.form
            rw [show (ptrs (blks ad rest) ++ [Value.pointer (some ⟨b, 0, none⟩)]).length = (ptrs (blks ad rest)).length + 1 by simp] at hwin hor
            have hR5 := rot_mem HRt.out hn Hob.out hwin hg3 hor (by simp [World.setCell])
            obtain ⟨d1, e1, hR5, hM5⟩ := hR5
            have hmv : Moved Wq ((Wq.setCell ⟨b, 5, none⟩ (.bool true)).alloc (.cells #[.pointer (some ⟨b, 0, none⟩)] 57)) S :=
              Moved.of_grown (row := some b) (only_alloc (only_setg (only_refl _ _) 5 _) _) (fun k e => by injection e with e; exact e ▸ (HRW.out.fl n b hn).1)
            have HR5 := Lib.hid hR5
            have HM5 := Lib.hid (HMW.out.trans (hmv.trans hM5))
            clear hR5 hM5 hwin hg3 hor hmv
            go_wp2_with fail
            go_roundw
            case rel => exact ⟨_, _, _, _, _, _, HR5.out, HM5.out, Hok2.out, by simp, Himp2.out, rfl⟩
            case measure =>
              refine Nat.lt_of_le_of_lt (least_le ⟨_, _, _, _, _, HR5.out, HM5.out, Hok2.out, by simp, Himp2.out, rfl⟩) ?_
              exact Hml.out
        · have hdc' : c ≤ d := of_decide_eq_true hdc
          have hfb := bump_bd HF.out
          rw [hfd] at hfb
          have Hturn := Lib.hid (Himp.out _ _ _ _ (Turns.serve Hc.out (by rw [hfd]; exact hdc')))
          try go_wp2_with fail
          go_quiet (fail)
          go_wp2_with fail
          have hRq := HRW.out.drewN nq
          have hMq : Moved w (wr.drewN nq) S := HMW.out.trans ⟨rfl, rfl, rfl, Nat.le_refl _, fun _ _ _ => rfl⟩
          clear HRW HMW Hrv Hcv c1 r0 k1 k2 k3 k5 j2 j5 hcc
          have k0q : (wr.drewN nq).cell? ⟨b, 0, none⟩ = some (.int .i64 n) := k0
          clear k0
          generalize wr.drewN nq = Wq at *
          have hsv : ∀ k, Calls Try.prog 26 #[.pointer (some ⟨g, 0, none⟩), .pointer (some ⟨b, 0, none⟩)] (Wq.drewN k) (RetR (Wq.drewN k) S g ad (serveA (setF st1 n (bumpF (st1 n))) (n :: rest) n c).1 (serveA (setF st1 n (bumpF (st1 n))) (n :: rest) n c).2 N (.int .i64 c)) := fun k =>
            serve_c _ S g M rv cv ad _ _ N (hRq.drewN k) (fun j hj => Hup.out j (Nat.le_trans hMq.size hj)) n b hn c cs (by rw [setF_at, bumpF_cs]; exact Hc.out) (by rw [setF_at, hfd]; omega) (by rw [setF_at, hfd]; omega) (by omega) (by omega) (by omega)
          have Hsv : Hid (Calls Try.prog 26 #[.pointer (some ⟨g, 0, none⟩), .pointer (some ⟨b, 0, none⟩)] Wq.drew (RetR Wq.drew S g ad (serveA (setF st1 n (bumpF (st1 n))) (n :: rest) n c).1 (serveA (setF st1 n (bumpF (st1 n))) (n :: rest) n c).2 N (.int .i64 c))) := Lib.hid (hsv 1)
          have HMW := Lib.hid hMq
          generalize (serveA (setF st1 n (bumpF (st1 n))) (n :: rest) n c).1 = st9 at *
          generalize (serveA (setF st1 n (bumpF (st1 n))) (n :: rest) n c).2 = row9 at *
          clear hsv hRq hMq
          go_region_held3 (fun wq => wq.cell? ⟨b, 0, none⟩ = some (.int .i64 n)) (first | go_keep) (first | (go_at_call 26; refine Hsv.out.mono ?_; rintro e w4 ⟨rfl, hm4, hR4⟩; have hk4 := Rg.num hR4 hn))
          all_goals
            go_wp2_with fail
            refine bodyPost_ret (v := .tuple #[.int .i64 n, .int .i64 c, .bool true]) (by simp [results, Try.results10, go_sem]) rfl ?_
            exact ⟨_, _, n, c, Hturn.out, rfl, HMW.out.trans (Moved.trans (b := Wq.drew) ⟨rfl, rfl, rfl, Nat.le_refl _, fun _ _ _ => rfl⟩ hm4), hR4⟩
      · have hbump : bumpF (st1 n) = { st1 n with d := (st1 n).d + (st1 n).q, anew := false } := by unfold bumpF; rw [hanew]; rfl
        have hba : (bumpF (st1 n)).anew = false := by rw [hbump]
        obtain ⟨gr0, orr0, cr0, gc0, oc0, cp0, hH⟩ := hR.head hn Hc.out
        obtain ⟨c1, r0, k0, k1, k2, k3, k5, j2, j5, hcc, hgb, hgcb, hgrb, hgrg, hgcg, hrv, hcv, hcr, hcp⟩ := hH
        rw [hanew] at k5
        have hwd : IntKind.i64.wrap ((st1 n).d + (st1 n).q) = (st1 n).d + (st1 n).q := by
          have h1 := HF.out.an hanew
          have h2 := HF.out.q1
          have h3 := HF.out.q0
          have h4 := HF.out.d0
          rw [IntKind.wrap_i64]; omega
        have HR0 := Lib.hid hR
        have HM0 := Lib.hid hMv
        clear hR hMv hF hrv hcv
        generalize hq' : (st1 n).q = q at *
        generalize hd' : (st1 n).d = d0 at *
        go_upto_region 6 with (fail)
        go_cut [24] (fun _ wc => RgE wc S g M rv cv ad (setF st1 n { st1 n with d := d0 + q }) (n :: rest) N ∧ Moved w wc S)
        case first =>
          go_region
          all_goals (go_wp2_with fail; go_meet)
          all_goals
            have hSD := HR0.out.setD hn (d0 + q)
            exact ⟨hSD.1.drewN 1, HM0.out.trans (hSD.2.trans ⟨rfl, rfl, rfl, Nat.le_refl _, fun _ _ _ => rfl⟩)⟩
        case rest =>
          obtain ⟨hR6, hM6⟩ := hcut
          have hfl6 := (hR6.fl n b hn).2
          rw [setF_at] at hfl6
          have k5 := hfl6.c5
          have j5 := hfl6.fz 5
          have hR7 : RgE (wc.setCell ⟨b, 5, none⟩ (.bool false)) S g M rv cv ad (setF st1 n (bumpF (st1 n))) (n :: rest) N := by
            have h7 := (hR6.setA hn false).1
            rw [setF_setF, setF_at] at h7
            rw [hbump]
            exact h7
          have hM7 : Moved w (wc.setCell ⟨b, 5, none⟩ (.bool false)) S := hM6.trans (hR6.setA hn false).2
          have HRW := Lib.hid hR7
          have HMW := Lib.hid hM7
          rw [hanew] at k5
          clear hR6 hM6 hR7 hM7 hfl6 HR0 HM0 c1 r0 k0 k1 k2 k3 j2 hcc hgb hgcb hgrb hgrg hgcg hcr hcp
          go_upto_region 8 with (fail)
          clear k5 j5 hwd
          generalize wc.setCell ⟨b, 5, none⟩ (.bool false) = wz at *
          have hc2 : (setF st1 n (bumpF (st1 n)) n).cs = c :: cs := by rw [setF_at, bumpF_cs]; exact Hc.out
          obtain ⟨gr, orr, cr, gc, oc, cp, hH⟩ := HRW.out.head hn hc2
          rw [setF_at] at hH
          obtain ⟨c1, r0, k0, k1, k2, k3, k5, j2, j5, hcc, hgb, hgcb, hgrb, hgrg, hgcg, hrv, hcv, hcr, hcp⟩ := hH
          have Hrv := Lib.hid hrv
          have Hcv := Lib.hid hcv
          clear hrv hcv hc2
          generalize hfd : (bumpF (st1 n)).d = d at *
          cases hdc : decide (c ≤ d)
          · have hdc' : d < c := by
              have := of_decide_eq_false hdc
              omega
            have Hok2 := Lib.hid (rot_rowOk HOk.out Hc.out (by rw [hfd]; exact hdc') hnr)
            have Himp2 : Hid (∀ st' row' m c', Turns (setF (setF st1 n (bumpF (st1 n))) n (rotF (bumpF (st1 n)))) (rest ++ [n]) st' row' m c' → Turns st row st' row' m c') :=
              Lib.hid fun st' row' m c' ht => Himp.out _ _ _ _ (Turns.rot Hc.out (by rw [hfd]; exact hdc') (setF_setF st1 n _ _ ▸ ht))
            have Hml : Hid (meas (setF (setF st1 n (bumpF (st1 n))) n (rotF (bumpF (st1 n)))) (rest ++ [n]) < least (Mid w S g ad st row N wr)) := Lib.hid (by
              rw [← Hmeas.out, setF_setF]
              exact meas_rot hnr (kap_rot Hc.out (by rw [hfd]; exact hdc') HF.out.q0))
            try go_wp2_with fail
            go_quiet (fail)
            go_upto_region 10 with (fail)
            have hRq := HRW.out.drewN nq
            have hMq : Moved w (wz.drewN nq) S := HMW.out.trans ⟨rfl, rfl, rfl, Nat.le_refl _, fun _ _ _ => rfl⟩
            clear HRW HMW Hrv Hcv c1 r0 k0 k1 k2 k3 k5 j2 j5 hcc
            generalize wz.drewN nq = Wq at *
            have HRW := Lib.hid hRq
            have HMW := Lib.hid hMq
            clear hRq hMq
            have hc2 : (setF st1 n (bumpF (st1 n)) n).cs = c :: cs := by rw [setF_at, bumpF_cs]; exact Hc.out
            obtain ⟨gr, orr, cr, gc, oc, cp, hH⟩ := HRW.out.head hn hc2
            rw [setF_at] at hH
            obtain ⟨c1, r0, k0, k1, k2, k3, k5, j2, j5, hcc, hgb, hgcb, hgrb, hgrg, hgcg, hrv, hcv, hcr, hcp⟩ := hH
            have Hrv := Lib.hid hrv
            have Hcv := Lib.hid hcv
            clear hrv hcv hc2
            rw [hfd] at k2
            by_cases hcr1 : cr = 1
            · subst hcr1
              have hl0 : rest.length = 0 := by omega
              rw [hl0] at c1 Hrv hcr
              have C := rot_tail HRW.out hn hl0 Hrv.out
              obtain ⟨hRt, hwt, hob⟩ := C
              rw [setF_at] at hRt
              simp only [if_true, Nat.sub_self] at hwt hob
              have HRt := Lib.hid hRt
              have Hob := Lib.hid hob
              clear hob
              have Hwt := Lib.hid hwt
              have hcu : ((Wq.setCell ⟨b, 5, none⟩ (.bool true)).alloc (.cells #[.pointer (some ⟨b, 0, none⟩)] 57)).cell? ⟨Wq.heap.size, 0, none⟩ = some (.pointer (some ⟨b, 0, none⟩)) := by
                have := (Blk.new (Wq.setCell ⟨b, 5, none⟩ (.bool true)) 57 #[.pointer (some ⟨b, 0, none⟩)]).cell 0
                simpa [World.setCell] using this
              have HCU := Lib.hid hcu
              clear hRt hwt hcu
              go_wp2_with (at_builtin; refine wpList_append_win _ rfl (.tmp 64) (.tmp 66) 26 rfl 57 i0 _ Try.underlying26 hi0 hz0 hz1 hz2 rfl (v := .slice (some ⟨gr, orr, none⟩) 0 0) rfl Hwt.out ⟨Wq.heap.size, 0, none⟩ 1 (.pointer (some ⟨b, 0, none⟩)) rfl HCU.out rfl ?_ ?_ ?_)
              · simp [ptrs, blks]; omega
              · exact Hup.out _ (by have := HMW.out.size; simp [World.setCell]; omega)
              intro v' w3 hwin hg3 hor
              obtain ⟨A', c', rfl, _⟩ := hwin.form
              rw [show (ptrs (blks ad rest) ++ [Value.pointer (some ⟨b, 0, none⟩)]).length = (ptrs (blks ad rest)).length + 1 by simp] at hwin hor
              have hR5 := rot_mem HRt.out hn Hob.out hwin hg3 hor (by simp [World.setCell])
              obtain ⟨d1, e1, hR5, hM5⟩ := hR5
              have hmv : Moved Wq ((Wq.setCell ⟨b, 5, none⟩ (.bool true)).alloc (.cells #[.pointer (some ⟨b, 0, none⟩)] 57)) S :=
                Moved.of_grown (row := some b) (only_alloc (only_setg (only_refl _ _) 5 _) _) (fun k e => by injection e with e; exact e ▸ (HRW.out.fl n b hn).1)
              have HR5 := Lib.hid hR5
              have HM5 := Lib.hid (HMW.out.trans (hmv.trans hM5))
              clear hR5 hM5 hwin hg3 hor hmv
              go_wp2_with fail
              go_roundw
              case rel => exact ⟨_, _, _, _, _, _, HR5.out, HM5.out, Hok2.out, by simp, Himp2.out, rfl⟩
              case measure =>
                refine Nat.lt_of_le_of_lt (least_le ⟨_, _, _, _, _, HR5.out, HM5.out, Hok2.out, by simp, Himp2.out, rfl⟩) ?_
                exact Hml.out
            · have C := rot_tail HRW.out hn rfl Hrv.out
              obtain ⟨hRt, hwt, hob⟩ := C
              rw [setF_at] at hRt
              simp only [if_neg hcr1] at hwt hob
              have HRt := Lib.hid hRt
              have Hob := Lib.hid hob
              clear hob
              have Hwt := Lib.hid hwt
              have hcu : ((Wq.setCell ⟨b, 5, none⟩ (.bool true)).alloc (.cells #[.pointer (some ⟨b, 0, none⟩)] 57)).cell? ⟨Wq.heap.size, 0, none⟩ = some (.pointer (some ⟨b, 0, none⟩)) := by
                have := (Blk.new (Wq.setCell ⟨b, 5, none⟩ (.bool true)) 57 #[.pointer (some ⟨b, 0, none⟩)]).cell 0
                simpa [World.setCell] using this
              have HCU := Lib.hid hcu
              clear hRt hwt hcu
              go_wp2_with (at_builtin; refine wpList_append_win _ rfl (.tmp 64) (.tmp 66) 26 rfl 57 i0 _ Try.underlying26 hi0 hz0 hz1 hz2 rfl (v := .slice (some ⟨gr, orr + 1, none⟩) rest.length (cr - 1)) rfl Hwt.out ⟨Wq.heap.size, 0, none⟩ 1 (.pointer (some ⟨b, 0, none⟩)) rfl HCU.out rfl ?_ ?_ ?_)
              · simp [ptrs, blks]; omega
              · exact Hup.out _ (by have := HMW.out.size; simp [World.setCell]; omega)
              intro v' w3 hwin hg3 hor
              obtain ⟨A', c', rfl, _⟩ := hwin.form
              rw [show (ptrs (blks ad rest) ++ [Value.pointer (some ⟨b, 0, none⟩)]).length = (ptrs (blks ad rest)).length + 1 by simp] at hwin hor
              have hR5 := rot_mem HRt.out hn Hob.out hwin hg3 hor (by simp [World.setCell])
              obtain ⟨d1, e1, hR5, hM5⟩ := hR5
              have hmv : Moved Wq ((Wq.setCell ⟨b, 5, none⟩ (.bool true)).alloc (.cells #[.pointer (some ⟨b, 0, none⟩)] 57)) S :=
                Moved.of_grown (row := some b) (only_alloc (only_setg (only_refl _ _) 5 _) _) (fun k e => by injection e with e; exact e ▸ (HRW.out.fl n b hn).1)
              have HR5 := Lib.hid hR5
              have HM5 := Lib.hid (HMW.out.trans (hmv.trans hM5))
              clear hR5 hM5 hwin hg3 hor hmv
              go_wp2_with fail
              go_roundw
              case rel => exact ⟨_, _, _, _, _, _, HR5.out, HM5.out, Hok2.out, by simp, Himp2.out, rfl⟩
              case measure =>
                refine Nat.lt_of_le_of_lt (least_le ⟨_, _, _, _, _, HR5.out, HM5.out, Hok2.out, by simp, Himp2.out, rfl⟩) ?_
                exact Hml.out
          · have hdc' : c ≤ d := of_decide_eq_true hdc
            have hfb := bump_bd HF.out
            rw [hfd] at hfb
            have Hturn := Lib.hid (Himp.out _ _ _ _ (Turns.serve Hc.out (by rw [hfd]; exact hdc')))
            try go_wp2_with fail
            go_quiet (fail)
            go_wp2_with fail
            have hRq := HRW.out.drewN nq
            have hMq : Moved w (wz.drewN nq) S := HMW.out.trans ⟨rfl, rfl, rfl, Nat.le_refl _, fun _ _ _ => rfl⟩
            clear HRW HMW Hrv Hcv c1 r0 k1 k2 k3 k5 j2 j5 hcc
            have k0q : (wz.drewN nq).cell? ⟨b, 0, none⟩ = some (.int .i64 n) := k0
            clear k0
            generalize wz.drewN nq = Wq at *
            have hsv : ∀ k, Calls Try.prog 26 #[.pointer (some ⟨g, 0, none⟩), .pointer (some ⟨b, 0, none⟩)] (Wq.drewN k) (RetR (Wq.drewN k) S g ad (serveA (setF st1 n (bumpF (st1 n))) (n :: rest) n c).1 (serveA (setF st1 n (bumpF (st1 n))) (n :: rest) n c).2 N (.int .i64 c)) := fun k =>
              serve_c _ S g M rv cv ad _ _ N (hRq.drewN k) (fun j hj => Hup.out j (Nat.le_trans hMq.size hj)) n b hn c cs (by rw [setF_at, bumpF_cs]; exact Hc.out) (by rw [setF_at, hfd]; omega) (by rw [setF_at, hfd]; omega) (by omega) (by omega) (by omega)
            have Hsv : Hid (Calls Try.prog 26 #[.pointer (some ⟨g, 0, none⟩), .pointer (some ⟨b, 0, none⟩)] Wq.drew (RetR Wq.drew S g ad (serveA (setF st1 n (bumpF (st1 n))) (n :: rest) n c).1 (serveA (setF st1 n (bumpF (st1 n))) (n :: rest) n c).2 N (.int .i64 c))) := Lib.hid (hsv 1)
            have HMW := Lib.hid hMq
            generalize (serveA (setF st1 n (bumpF (st1 n))) (n :: rest) n c).1 = st9 at *
            generalize (serveA (setF st1 n (bumpF (st1 n))) (n :: rest) n c).2 = row9 at *
            clear hsv hRq hMq
            go_region_held3 (fun wq => wq.cell? ⟨b, 0, none⟩ = some (.int .i64 n)) (first | go_keep) (first | (go_at_call 26; refine Hsv.out.mono ?_; rintro e w4 ⟨rfl, hm4, hR4⟩; have hk4 := Rg.num hR4 hn))
            all_goals
              go_wp2_with fail
              refine bodyPost_ret (v := .tuple #[.int .i64 n, .int .i64 c, .bool true]) (by simp [results, Try.results10, go_sem]) rfl ?_
              exact ⟨_, _, n, c, Hturn.out, rfl, HMW.out.trans (Moved.trans (b := Wq.drew) ⟨rfl, rfl, rfl, Nat.le_refl _, fun _ _ _ => rfl⟩ hm4), hR4⟩
end Go.Proofs.Ytaenlieajlfkdaa
