/- The reference's Turn. -/
import Derived.Test.YtaenlieajlfkdaaTie
namespace Go.Proofs.Ytaenlieajlfkdaa
open Go.RowKit Go.Maps
set_option linter.unusedVariables false
set_option linter.unnecessarySimpa false
set_option linter.unusedSimpArgs false
variable {Q : Nat → Prop}

/-- What a ring of the reference is that can be turned. -/
structure ROk (T : Nat → Bool) (st : Int → FS) (row : List Int) (N : Nat) : Prop where
  ok : RowOk st row
  nd : row.Nodup
  in8 : ∀ n, n ∈ row → 0 ≤ n ∧ n ≤ 8 ∧ T n.toNat = true
  len : ∀ n, n ∈ row → (st n).cs.length ≤ N
  rl : row.length ≤ 1000

theorem BoxSt.setF {w : World} {F R : Value} {wc : World} (h : BoxSt w F R wc) (F' : Value) : BoxSt w F' R (wc.setCell ⟨w.heap.size, 0, none⟩ F') :=
  ⟨h.bx.set_ 0 F', h.bz.far (by show w.heap.size + 1 ≠ w.heap.size; omega) _, h.bel.setCell (p := ⟨w.heap.size, 0, none⟩) (Nat.le_refl _) _⟩
theorem BoxSt.setR {w : World} {F R : Value} {wc : World} (h : BoxSt w F R wc) (R' : Value) : BoxSt w F R' (wc.setCell ⟨w.heap.size, 1, none⟩ R') :=
  ⟨h.bx.set_ 1 R', h.bz.far (by show w.heap.size + 1 ≠ w.heap.size; omega) _, h.bel.setCell (p := ⟨w.heap.size, 1, none⟩) (Nat.le_refl _) _⟩
theorem serve_tie {T : Nat → Bool} {st1 : Int → FS} {m : Nat} {rest : List Int} {c : Int} {f2 : FS} (hT : T m = true) (hnd : ((m : Int) :: rest).Nodup) (hf2 : f2 = serveF (bumpF (st1 m)) c) :
    setlA (updV (flOf T st1) m ⟨true, f2⟩) ((m : Int) :: rest) m = (flOf T (serveA (setF st1 m (bumpF (st1 m))) ((m : Int) :: rest) m c).1, (serveA (setF st1 m (bumpF (st1 m))) ((m : Int) :: rest) m c).2) := by
  rw [flOf_set hT, setl_settle hT hnd]
  have h := settle_serve (st := setF st1 m (bumpF (st1 m))) (row := (m : Int) :: rest) (n := m) (c := c) (by simp)
  rw [setF_setF, setF_at, ← hf2] at h
  rw [h]
theorem ROk.rot {T : Nat → Bool} {st1 : Int → FS} {m : Int} {rest : List Int} {N : Nat} {c : Int} {cs : List Int} (h : ROk T st1 (m :: rest) N) (hc : (st1 m).cs = c :: cs) (hd : (bumpF (st1 m)).d < c) : ROk T (setF st1 m (rotF (bumpF (st1 m)))) (rest ++ [m]) N := by
  have hn := List.nodup_cons.1 h.nd
  have hm : ∀ n, n ∈ rest ++ [m] → n ∈ m :: rest := fun n hn => by
    rcases List.mem_append.1 hn with hn | hn
    · simp [hn]
    · simp at hn; simp [hn]
  refine ⟨?_, ?_, fun n hn => h.in8 n (hm n hn), fun n hn => ?_, ?_⟩
  · have := rot_rowOk h.ok hc hd hn.1
    rw [setF_setF] at this
    exact this
  · rw [List.nodup_append]
    refine ⟨hn.2, by simp, fun x hx y hy => ?_⟩
    simp at hy
    subst hy
    exact fun e => hn.1 (e ▸ hx)
  · by_cases e : n = m
    · subst e
      rw [setF_at]
      show (bumpF (st1 n)).cs.length ≤ N
      rw [bumpF_cs]
      exact h.len n (by simp)
    · rw [setF_ne _ _ e]; exact h.len n (hm n hn)
  · have := h.rl
    simpa using this

def RMid (Q : Nat → Prop) (w : World) (T : Nat → Bool) (st : Int → FS) (row : List Int) (N : Nat) (wr : World) (m : Nat) : Prop :=
  ∃ A n c A' n' c' st1 row1, BoxSt w (.slice A n c) (.slice A' n' c') wr ∧ RefIs Q wr (.agg #[.slice A n c, .slice A' n' c']) (flOf T st1) row1 ∧ ROk T st1 row1 N ∧ row1 ≠ [] ∧
    (∀ st' row' n c, Turns st1 row1 st' row' n c → Turns st row st' row' n c) ∧ meas st1 row1 = m

def RTurnRet (Q : Nat → Prop) (w : World) (T : Nat → Bool) (st : Int → FS) (row : List Int) (x : Ending) (w' : World) : Prop :=
  ∃ v' st' row' n c, Turns st row st' row' n c ∧ x = .returned (.tuple #[v', .int .i64 n, .int .i64 c, .bool true]) ∧ RefIs Q w' v' (flOf T st') row' ∧ Below w.heap.size w w'

theorem refturn_empty (w : World) (v : Value) (fl : Nat → RFl) (h : RefIs Q w v fl []) :
    Calls Try.prog 21 #[v] w fun x w' => ∃ v', x = .returned (.tuple #[v', .int .i64 0, .int .i64 0, .bool false]) ∧ RefIs Q w' v' fl [] ∧ Below w.heap.size w w' := by
  obtain ⟨g, c, kv, rv, rfl, hc, hF, hr⟩ := h.ex
  obtain ⟨Ar, cr, rfl, _⟩ := id hr
  have HI := Lib.hid h
  clear hF hr h
  have hB := BoxSt.start w (.slice (some ⟨g, 0, none⟩) 9 c) (.slice Ar ([] : List Int).length cr)
  obtain ⟨hR, hL, r0, r1⟩ := hB.result (HI.out.below hB.bel)
  have HR := Lib.hid hR
  have HL := Lib.hid hL
  have R0 := Lib.hid r0
  have R1 := Lib.hid r1
  clear hR hL r0 r1
  have HB := Lib.hid hB
  clear hB
  simp only [List.length_nil] at *
  go_enter Try.func21, Try.ntmps21
  go_upto_block 1 with (fail)
  generalize (w.alloc (.cells #[.slice (some ⟨g, 0, none⟩) 9 c, .slice Ar 0 cr] 46)).alloc (.cells #[.slice none 0 0, .slice none 0 0] 46) = w1 at *
  go_wp2_with fail
  go_loopw [6, 7, 8] (fun _ _ _ wr => wr = w1) (fun _ _ _ _ => 0)
  case atStart => rfl
  case round =>
    subst hrel
    have a0 := HB.out.a0
    have a1 := HB.out.a1
    have z0 := HB.out.z0
    have z1 := HB.out.z1
    have y0 := HB.out.y0
    have y1 := HB.out.y1
    go_wp2_with fail
    refine bodyPost_ret (v := .tuple #[.agg #[.slice (some ⟨g, 0, none⟩) 9 c, .slice Ar 0 cr], .int .i64 0, .int .i64 0, .bool false]) (by simp [results, Try.results21, go_sem, R0.out, R1.out]) rfl ?_
    exact ⟨_, rfl, HR.out, HL.out⟩

set_option maxHeartbeats 2000000 in
theorem refturn_c (w : World) (v : Value) (T : Nat → Bool) (st : Int → FS) (row : List Int) (N : Nat) (h : RefIs Q w v (flOf T st) row) (hok : ROk T st row N) (hne : row ≠ []) (hN : N ≤ 100000) (hQ : Up Q w) :
    Calls Try.prog 21 #[v] w (RTurnRet Q w T st row) := by
  obtain ⟨g, c, kv, rv, rfl, hc, hF, hr⟩ := h.ex
  obtain ⟨Ar, cr, rfl, _⟩ := id hr
  have hB := BoxSt.start w (.slice (some ⟨g, 0, none⟩) 9 c) (.slice Ar row.length cr)
  have Hst : Hid (RMid Q w T st row N ((w.alloc (.cells #[.slice (some ⟨g, 0, none⟩) 9 c, .slice Ar row.length cr] 46)).alloc (.cells #[.slice none 0 0, .slice none 0 0] 46)) (meas st row)) :=
    Lib.hid ⟨_, _, _, _, _, _, st, row, hB, h.below hB.bel, hok, hne, fun _ _ _ _ h => h, rfl⟩
  clear hF hr h hB hok hne
  go_enter Try.func21, Try.ntmps21
  go_upto_block 1 with (fail)
  generalize (w.alloc (.cells #[.slice (some ⟨g, 0, none⟩) 9 c, .slice Ar row.length cr] 46)).alloc (.cells #[.slice none 0 0, .slice none 0 0] 46) = w1 at *
  go_wp2_with fail
  go_loopw [6, 7, 8] (fun _ _ _ wr => ∃ m, RMid Q w T st row N wr m) (fun _ _ _ wr => least (RMid Q w T st row N wr))
  case atStart => exact ⟨_, Hst.out⟩
  case round =>
    have hmid := least_spec hrel
    clear Hst
    obtain ⟨A, n0, c0, A', n0', c0', st1, row1, hB, hI, hOk, hne, himp, hmeas⟩ := hmid
    cases row1 with
    | nil => exact absurd rfl hne
    | cons n rest =>
      obtain ⟨hn0, hn8, hT⟩ := hOk.in8 n (by simp)
      obtain ⟨m, rfl⟩ := Int.eq_ofNat_of_zero_le hn0
      rw [Int.toNat_natCast] at hT
      obtain ⟨hF, hcs⟩ := hOk.ok m (by simp)
      obtain ⟨c, cs, hc⟩ : ∃ c cs, (st1 m).cs = c :: cs := by
        cases hcc : (st1 m).cs with
        | nil => exact absurd hcc hcs
        | cons c cs => exact ⟨c, cs, rfl⟩
      have hcb := hF.cs c (by rw [hc]; simp)
      have hnr : (m : Int) ∉ rest := (List.nodup_cons.1 hOk.nd).1
      have hlen := hOk.len m (by simp)
      have hrl := hOk.rl
      rw [hc] at hlen
      simp only [List.length_cons] at hrl hlen
      have hm9 : m < 9 := by omega
      obtain ⟨g1, c1, kv1, rv1, hv, hcc1, hRF, hrr⟩ := hI.ex
      injection hv with hv
      simp only [Array.mk.injEq, List.cons.injEq, and_true] at hv
      obtain ⟨hv1, hv2⟩ := hv
      injection hv1 with e1 e2 e3
      subst e1 e2 e3 hv2
      obtain ⟨gr, orr, cr1, hv3, hcr1, hr0⟩ := hrr.at_ (j := 0) (x := (m : Int)) rfl
      injection hv3 with e1 e2 e3
      subst e1 e2 e3
      rw [Nat.add_zero] at hr0
      have hfl := flOf_at (st := st1) hT
      have k0 := hRF.c0 m hm9
      have k1 := hRF.c1 m hm9
      have k2 := hRF.c2 m hm9
      have k3 := hRF.c3 m hm9
      have k4 := hRF.c4 m hm9
      have k5 := hRF.c5 m hm9
      have kc := hRF.cs m hm9
      rw [hfl] at k0 k1 k2 k4 k5 kc
      simp only at k0 k1 k2 k4 k5 kc
      rw [hc] at kc
      obtain ⟨gc, oc, ck, hkv, hck, hc0⟩ := kc.at_ (j := 0) (x := c) rfl
      rw [Nat.add_zero] at hc0
      rw [hkv] at k3 kc
      simp only [List.length_cons] at k3 kc hck hcr1
      have HRR := Lib.hid hrr
      have KC := Lib.hid kc
      have HI := Lib.hid hI
      have HOk := Lib.hid hOk
      have HB := Lib.hid hB
      have Himp := Lib.hid himp
      have Hmeas := Lib.hid hmeas
      have Hc := Lib.hid hc
      have HF := Lib.hid hF
      have HT := Lib.hid hT
      have a0 := hB.a0
      have a1 := hB.a1
      simp only [List.length_cons] at a1
      have hsz := hB.sz
      have hgl : g1 < wr.heap.size := cell_lt k0
      have hgcl : gc < wr.heap.size := cell_lt hc0
      clear hrr kc hI hOk hB himp hmeas hc hF hT hkv hcs hne hrel hfl hRF
      have hd0 := HF.out.d0
      have hd1 := HF.out.d1
      have hq0 := HF.out.q0
      have hq1 := HF.out.q1
      have hbb := bump_bd HF.out
      cases hanew : (st1 m).anew
      · have hD : (bumpF (st1 m)).d = (st1 m).d := by unfold bumpF; rw [hanew]; rfl
        have hB1 : bumpF (st1 m) = ⟨(st1 m).q, (st1 m).d, c :: cs, (st1 m).rests, false⟩ := by rw [← Hc.out]; unfold bumpF; rw [hanew]; cases hst : st1 m; simp_all
        rw [hD] at hbb
        have Hb := Lib.hid hB1
        rw [hanew] at k5
        have HN := Lib.hid hanew
        clear hD hB1 hanew
        go_upto_region 7 with (fail)
        generalize (st1 m).d = D at *
        by_cases hcd : c ≤ D
        · skip
          have hB3 := HB.out.below ((Below.refl _ _).alloc (Nat.le_refl _) (.cells #[.bool true, .int .i64 (st1 m).q, .int .i64 (D - c), .slice (some ⟨gc, oc, none⟩) (cs.length + 1) ck, .bool (st1 m).rests, .bool false] 64))
          have b8 := Blk.new wr 64 #[.bool true, .int .i64 (st1 m).q, .int .i64 (D - c), .slice (some ⟨gc, oc, none⟩) (cs.length + 1) ck, .bool (st1 m).rests, .bool false]
          have l3 := (Below.refl wr.heap.size wr).alloc (Nat.le_refl _) (.cells #[.bool true, .int .i64 (st1 m).q, .int .i64 (D - c), .slice (some ⟨gc, oc, none⟩) (cs.length + 1) ck, .bool (st1 m).rests, .bool false] 64)
          go_upto_region 10 with (fail)
          clear a0 a1 k0 k1 k2 k3 k4 k5 hr0 hc0
          generalize wr.alloc (.cells #[.bool true, .int .i64 (st1 m).q, .int .i64 (D - c), .slice (some ⟨gc, oc, none⟩) (cs.length + 1) ck, .bool (st1 m).rests, .bool false] 64) = w3 at *
          generalize hfb : wr.heap.size = fb at *
          have Hfb := Lib.hid hfb
          clear hfb
          have e3 : w3.cell? ⟨fb, 3, none⟩ = some (.slice (some ⟨gc, oc, none⟩) (cs.length + 1) ck) := by simpa using b8.cell 3
          have hblt := b8.lt
          have hwb : w.heap.size ≤ w3.heap.size := by omega
          have HA := Lib.hid (hB3.below ((Below.refl _ _).alloc (Nat.le_refl _) (.cells #[] 3)))
          have BA := Lib.hid (b8.alloc (.cells #[] 3))
          have HE := Lib.hid (Blk.new w3 3 #[])
          have HL := Lib.hid (l3.alloc (by omega) (.cells #[] 3))
          have HK := Lib.hid ((KC.out.below (Hfb.out ▸ HL.out)).tailV)
          clear hB3 b8 l3
          go_wp2_with (first | (at_builtin; refine wpList_copy_ints _ rfl (.tmp 44) (.tmp 47) rfl w3.heap.size rfl HE.out (tailV gc oc cs.length ck) cs rfl HK.out ?_ ?_) | (refine wpList_tail_ints _ rfl (.tmp 46) rfl gc oc cs.length ck rfl hck ?_))
          case refine_1 => omega
          intro v4 w4 hwin4 hg4
          have hB4 := HA.out.grown hg4 (fun k hk => by injection hk with hk; omega)
          have b4 := BA.out.grown hg4 (fun e => by injection e with e; omega)
          have l4 := HL.out.grown hg4 (by simp; omega) (fun k hk => by injection hk with hk; omega)
          obtain ⟨A4, c4, rfl, _⟩ := hwin4.form
          have hln : (ints cs).length = cs.length := by simp [ints]
          rw [hln] at hwin4 ⊢
          have f3 := b4.frozen 3
          have e3 : w4.cell? ⟨fb, 3, none⟩ = some (.slice (some ⟨gc, oc, none⟩) (cs.length + 1) ck) := by simpa using b4.cell 3
          have hfbk : ∀ k, (Value.slice A4 cs.length c4).ownBlock = some k → some fb ≠ some k := fun k hk e => by
            injection e with e
            have := (hwin4.lt k hk).1
            omega
          have HB7 := Lib.hid (hB4.far (p := ⟨fb, 3, none⟩) hsz (.slice A4 cs.length c4))
          have B7 := Lib.hid (b4.set_ 3 (.slice A4 cs.length c4))
          have L7 := Lib.hid (l4.setCell (p := ⟨fb, 3, none⟩) (Nat.le_refl _) (.slice A4 cs.length c4))
          have HW7 := Lib.hid (hwin4.kept (row := some fb) (only_setg (only_refl _ _) 3 (.slice A4 cs.length c4)) hfbk)
          clear hwin4 hB4 b4 l4 hfbk hg4 hln HA BA HE HK HL hblt
          go_upto_region 11 with (fail)
          clear f3 e3
          generalize w4.setCell ⟨fb, 3, none⟩ (.slice A4 cs.length c4) = w7 at *
          have hI7 := HI.out.below (Hfb.out ▸ L7.out)
          have D1 : Calls Try.prog 27 #[.agg #[.slice (some ⟨g1, 0, none⟩) 9 c0, .slice (some ⟨gr, orr, none⟩) (rest.length + 1) c0'], .int .i64 m, .agg #[.bool true, .int .i64 (st1 m).q, .int .i64 (D - c), .slice A4 cs.length c4, .bool (st1 m).rests, .bool false]] w7 (fun x w' => ∃ v', x = .returned v' ∧ RefIs Q w' v' (updV (flOf T st1) m ⟨true, ⟨(st1 m).q, D - c, cs, (st1 m).rests, false⟩⟩) ((m : Int) :: rest) ∧ Below w7.heap.size w7 w') :=
            with_c w7 _ (flOf T st1) ((m : Int) :: rest) hI7 m hm9 _ ⟨true, ⟨(st1 m).q, D - c, cs, (st1 m).rests, false⟩⟩ (RI.of_up hQ HW7.out hwb) (hQ.below HB7.out.bel)
          have hD1 := Lib.hid D1
          have e0 : w7.cell? ⟨fb, 0, none⟩ = some (.bool true) := by simpa using B7.out.cell 0
          have e1 : w7.cell? ⟨fb, 1, none⟩ = some (.int .i64 (st1 m).q) := by simpa using B7.out.cell 1
          have e2 : w7.cell? ⟨fb, 2, none⟩ = some (.int .i64 (D - c)) := by simpa using B7.out.cell 2
          have e3 : w7.cell? ⟨fb, 3, none⟩ = some (.slice A4 cs.length c4) := by simpa using B7.out.cell 3
          have e4 : w7.cell? ⟨fb, 4, none⟩ = some (.bool (st1 m).rests) := by simpa using B7.out.cell 4
          have e5 : w7.cell? ⟨fb, 5, none⟩ = some (.bool false) := by simpa using B7.out.cell 5
          have a0 := HB7.out.a0
          have a1 : w7.cell? ⟨w.heap.size, 1, none⟩ = some (.slice (some ⟨gr, orr, none⟩) (rest.length + 1) c0') := HB7.out.a1
          clear D1 hI7 B7 HW7 L7
          generalize hfl : updV (flOf T st1) m ⟨true, ⟨(st1 m).q, D - c, cs, (st1 m).rests, false⟩⟩ = fl1 at *
          have Hfl := Lib.hid hfl
          clear hfl
          go_wp2_with fail
          refine hD1.out.mono ?_
          rintro e w8 ⟨v1, rfl, hI1, hb4⟩
          have D2 := Lib.hid (refsettle_c w8 v1 fl1 ((m : Int) :: rest) hI1 m hm9 (by simp; omega) (hQ.below (HB7.out.below hb4).bel))
          have HB8 := Lib.hid (HB7.out.below hb4)
          clear a0 a1 e0 e1 e2 e3 e4 e5 hI1 hb4 hD1
          go_wp2_with fail
          refine D2.out.mono ?_
          rintro e w9 ⟨v2, rfl, hI2, hb5⟩
          obtain ⟨g3, c3, kv3, rv3, rfl, _, _, hr3⟩ := id hI2.ex
          obtain ⟨A1, cr3, rfl, _⟩ := hr3
          have HB9 := Lib.hid (HB8.out.below hb5)
          have z0 := HB9.out.z0
          have z1 := HB9.out.z1
          have y0 := HB9.out.y0
          have y1 := HB9.out.y1
          obtain ⟨hR, hL, r0, r1⟩ := HB9.out.result hI2
          have HR := Lib.hid hR
          have HL := Lib.hid hL
          have R0 := Lib.hid r0
          have R1 := Lib.hid r1
          clear hR hL r0 r1 hI2 hb5 D2
          go_wp2_with fail
          refine bodyPost_ret (v := .tuple #[.agg #[.slice (some ⟨g3, 0, none⟩) 9 c3, .slice A1 (settleRow (fl1 m) ((m : Int) :: rest) ↑m).length cr3], .int .i64 m, .int .i64 c, .bool true]) (by simp [results, Try.results21, go_sem, R0.out, R1.out]) rfl ?_
          have hte := serve_tie (T := T) (st1 := st1) (m := m) (rest := rest) (c := c) (f2 := ⟨(st1 m).q, D - c, cs, (st1 m).rests, false⟩) HT.out HOk.out.nd (by rw [Hb.out]; rfl)
          rw [Hfl.out] at hte
          refine ⟨_, _, _, _, _, Himp.out _ _ _ _ (Turns.serve (rest := rest) Hc.out (by rw [Hb.out]; exact hcd)), rfl, ?_, HL.out⟩
          have hfin : RefIs Q _ _ (setlA fl1 ((m : Int) :: rest) m).1 (setlA fl1 ((m : Int) :: rest) m).2 := HR.out
          rw [hte] at hfin
          exact hfin
        · have hcd' : D < c := by omega
          have hB3 := HB.out.below ((Below.refl _ _).alloc (Nat.le_refl _) (.cells #[.bool true, .int .i64 (st1 m).q, .int .i64 D, .slice (some ⟨gc, oc, none⟩) (cs.length + 1) ck, .bool (st1 m).rests, .bool true] 64))
          have b8 := Blk.new wr 64 #[.bool true, .int .i64 (st1 m).q, .int .i64 D, .slice (some ⟨gc, oc, none⟩) (cs.length + 1) ck, .bool (st1 m).rests, .bool true]
          have l3 := (Below.refl wr.heap.size wr).alloc (Nat.le_refl _) (.cells #[.bool true, .int .i64 (st1 m).q, .int .i64 D, .slice (some ⟨gc, oc, none⟩) (cs.length + 1) ck, .bool (st1 m).rests, .bool true] 64)
          go_upto_region 13 with (fail)
          clear a0 a1 k0 k1 k2 k3 k4 k5 hr0 hc0
          generalize wr.alloc (.cells #[.bool true, .int .i64 (st1 m).q, .int .i64 D, .slice (some ⟨gc, oc, none⟩) (cs.length + 1) ck, .bool (st1 m).rests, .bool true] 64) = w7 at *
          generalize hfb : wr.heap.size = fb at *
          have Hfb := Lib.hid hfb
          clear hfb
          have hI7 := HI.out.below (Hfb.out ▸ l3)
          have D1 : Calls Try.prog 27 #[.agg #[.slice (some ⟨g1, 0, none⟩) 9 c0, .slice (some ⟨gr, orr, none⟩) (rest.length + 1) c0'], .int .i64 m, .agg #[.bool true, .int .i64 (st1 m).q, .int .i64 D, .slice (some ⟨gc, oc, none⟩) (cs.length + 1) ck, .bool (st1 m).rests, .bool true]] w7 (fun x w' => ∃ v', x = .returned v' ∧ RefIs Q w' v' (updV (flOf T st1) m ⟨true, ⟨(st1 m).q, D, c :: cs, (st1 m).rests, true⟩⟩) ((m : Int) :: rest) ∧ Below w7.heap.size w7 w') :=
            with_c w7 _ (flOf T st1) ((m : Int) :: rest) hI7 m hm9 _ ⟨true, ⟨(st1 m).q, D, c :: cs, (st1 m).rests, true⟩⟩ (KC.out.below (Hfb.out ▸ l3)) (hQ.below hB3.bel)
          have hD1 := Lib.hid D1
          have e0 : w7.cell? ⟨fb, 0, none⟩ = some (.bool true) := by simpa using b8.cell 0
          have e1 : w7.cell? ⟨fb, 1, none⟩ = some (.int .i64 (st1 m).q) := by simpa using b8.cell 1
          have e2 : w7.cell? ⟨fb, 2, none⟩ = some (.int .i64 D) := by simpa using b8.cell 2
          have e3 : w7.cell? ⟨fb, 3, none⟩ = some (.slice (some ⟨gc, oc, none⟩) (cs.length + 1) ck) := by simpa using b8.cell 3
          have e4 : w7.cell? ⟨fb, 4, none⟩ = some (.bool (st1 m).rests) := by simpa using b8.cell 4
          have e5 : w7.cell? ⟨fb, 5, none⟩ = some (.bool true) := by simpa using b8.cell 5
          have a0 := hB3.a0
          have a1 : w7.cell? ⟨w.heap.size, 1, none⟩ = some (.slice (some ⟨gr, orr, none⟩) (rest.length + 1) c0') := hB3.a1
          have HB3 := Lib.hid hB3
          clear D1 hI7 b8 l3 hB3
          generalize hfl : updV (flOf T st1) m ⟨true, ⟨(st1 m).q, D, c :: cs, (st1 m).rests, true⟩⟩ = fl1 at *
          have Hfl := Lib.hid hfl
          clear hfl
          go_wp2_with fail
          refine hD1.out.mono ?_
          rintro e w8 ⟨v1, rfl, hI1, hb4⟩
          obtain ⟨g2, c2, kv2, rv2, rfl, _, _, hr2⟩ := id hI1.ex
          obtain ⟨gr2, or2, cr2, rfl, hcr2, _⟩ := hr2.at_ (j := 0) (x := (m : Int)) rfl
          simp only [List.length_cons] at hr2 hcr2 hI1
          have HB8 := Lib.hid (HB3.out.below hb4)
          clear a0 a1 e0 e1 e2 e3 e4 e5 hb4 hD1
          have a0 := HB8.out.a0
          have a1 : w8.cell? ⟨w.heap.size, 1, none⟩ = some (.slice (some ⟨gr, orr, none⟩) (rest.length + 1) c0') := HB8.out.a1
          have x0 := HB8.out.bx.frozen 0
          have x1 := HB8.out.bx.frozen 1
          have hsl := Sl.of_blk HB8.out.bx
          have hI9 := (hI1.setBox hsl 0 (.slice (some ⟨g2, 0, none⟩) 9 c2)).setBox (hsl.set_ 0 (some ⟨g2, 0, none⟩) 9 c2) 1 (.slice (some ⟨gr2, or2, none⟩) (rest.length + 1) cr2)
          have hr9 := (hr2.setBox hsl 0 (.slice (some ⟨g2, 0, none⟩) 9 c2)).setBox (hsl.set_ 0 (some ⟨g2, 0, none⟩) 9 c2) 1 (.slice (some ⟨gr2, or2, none⟩) (rest.length + 1) cr2)
          have hB9 := (HB8.out.setF (.slice (some ⟨g2, 0, none⟩) 9 c2)).setR (.slice (some ⟨gr2, or2, none⟩) (rest.length + 1) cr2)
          clear hsl hI1 hr2
          go_upto_region 14 with (fail)
          clear a0 a1 x0 x1
          generalize (w8.setCell ⟨w.heap.size, 0, none⟩ (.slice (some ⟨g2, 0, none⟩) 9 c2)).setCell ⟨w.heap.size, 1, none⟩ (.slice (some ⟨gr2, or2, none⟩) (rest.length + 1) cr2) = w9 at *
          have a1 := hB9.a1
          have hsz9 := hB9.sz
          have hsz90 : w.heap.size < w9.heap.size := by omega
          have HA := Lib.hid (hB9.below ((Below.refl _ _).alloc (Nat.le_refl _) (.cells #[] 3)))
          have HE := Lib.hid (Blk.new w9 3 #[])
          have HL := Lib.hid ((Below.refl w9.heap.size w9).alloc (Nat.le_refl _) (.cells #[] 3))
          have HK := Lib.hid ((hr9.below HL.out).tailV)
          have HI9 := Lib.hid hI9
          clear hB9 hI9 hr9 HB8 HB3
          obtain ⟨i0, hi0, hz0, hz1, hz2⟩ := info_parts info3
          go_upto_region 15 with (first | (refine wpList_tail_ints _ rfl (.tmp 65) rfl gr2 or2 rest.length cr2 rfl hcr2 ?_) | (at_builtin; refine wpList_copy_ints _ rfl (.tmp 63) (.tmp 66) rfl w9.heap.size rfl HE.out (tailV gr2 or2 rest.length cr2) rest rfl HK.out ?_ ?_))
          case refine_1 => omega
          intro v4 w4 hwin4 hg4
          have hB4 := HA.out.grown hg4 (fun k hk => by injection hk with hk; omega)
          have l4 := HL.out.grown hg4 (by simp) (fun k hk => by injection hk with hk; omega)
          obtain ⟨A4, c4, rfl, _⟩ := hwin4.form
          have hln : (ints rest).length = rest.length := by simp [ints]
          rw [hln] at hwin4 ⊢
          have hcu : (w4.alloc (.cells #[.int .i64 m] 3)).cell? ⟨w4.heap.size, 0, none⟩ = some (.int .i64 m) := by simpa using (Blk.new w4 3 #[.int .i64 m]).cell 0
          have HCU := Lib.hid hcu
          have HWA := Lib.hid (hwin4.kept (row := none) (only_of_below ((Below.refl _ _).alloc (Nat.le_refl _) (.cells #[.int .i64 m] 3)) none) (by simp))
          have HB5 := Lib.hid (hB4.below ((Below.refl _ _).alloc (Nat.le_refl _) (.cells #[.int .i64 m] 3)))
          have L5 := Lib.hid (l4.alloc l4.size (.cells #[.int .i64 m] 3))
          have hs34 := hg4.size
          simp at hs34
          have hs34' : w9.heap.size < w4.heap.size := by omega
          have hlc2 : (ints rest).length + 1 ≤ 1048576 := by simp [ints]; omega
          clear hcu hwin4 hg4 HA HE HK hB4 l4 hln hs34 a1 HL
          go_upto_region 15 with (at_builtin; refine wpList_append_win _ rfl (.tmp 67) (.tmp 69) 36 rfl 3 i0 _ Try.underlying36 hi0 hz0 hz1 hz2 rfl (v := .slice A4 rest.length c4) rfl HWA.out ⟨w4.heap.size, 0, none⟩ 1 (.int .i64 m) rfl HCU.out rfl ?_ ?_ ?_)
          case refine_1 => exact hlc2
          case refine_2 => simp; omega
          intro v6 w6 hwin6 hg6 hor6
          have hob : ∀ k, (Value.slice A4 rest.length c4).ownBlock = some k → w9.heap.size ≤ k := fun k hk => (HWA.out.lt k hk).1
          have hB6 := HB5.out.grown hg6 (fun k hk => by have := hob k hk; omega)
          have l6 := L5.out.grown hg6 (by simp; omega) (fun k hk => hob k hk)
          obtain ⟨A6, c6, rfl, _⟩ := hwin6.form
          have hle : (ints rest ++ [Value.int .i64 (m : Int)]).length = (rest ++ [(m : Int)]).length := by simp [ints]
          rw [hle] at hwin6 hor6 ⊢
          have hr6 : RI Q w6 (.slice A6 (rest ++ [(m : Int)]).length c6) (rest ++ [(m : Int)]) := RI.of_up (B := w9.heap.size) hQ (by simpa [ints] using hwin6) (by omega)
          generalize hrw : rest ++ [(m : Int)] = row2 at *
          have Hrw := Lib.hid hrw
          have hI6 := HI9.out.below l6
          have x1 := hB6.bx.frozen 1
          have a1 := hB6.a1
          have hsl := Sl.of_blk hB6.bx
          have HI8 := Lib.hid ((hI6.setBox hsl 1 (.slice A6 row2.length c6)).setRow (hr6.setBox hsl 1 (.slice A6 row2.length c6)))
          have HB8 := Lib.hid (hB6.setR (.slice A6 row2.length c6))
          have Hok2 : Hid (ROk T (setF st1 m (rotF (bumpF (st1 m)))) row2 N) := Lib.hid (by rw [← Hrw.out]; exact HOk.out.rot Hc.out (by rw [Hb.out]; exact hcd') )
          have Himp2 : Hid (∀ st' row' m' c', Turns (setF st1 m (rotF (bumpF (st1 m)))) row2 st' row' m' c' → Turns st row st' row' m' c') :=
            Lib.hid fun st' row' m' c' ht => Himp.out _ _ _ _ (Turns.rot Hc.out (by rw [Hb.out]; exact hcd') (by rw [Hrw.out]; exact ht))
          have Hml : Hid (meas (setF st1 m (rotF (bumpF (st1 m)))) row2 < least (RMid Q w T st row N wr)) := Lib.hid (by
            rw [← Hmeas.out, ← Hrw.out]
            exact meas_rot hnr (kap_rot Hc.out (by rw [Hb.out]; exact hcd') HF.out.q0))
          have hne2 : row2 ≠ [] := by rw [← Hrw.out]; simp
          have Hne2 := Lib.hid hne2
          have hft : fl1 = flOf T (setF st1 m (rotF (bumpF (st1 m)))) := by
            rw [← Hfl.out, flOf_set HT.out, Hb.out]; rfl
          rw [hft] at HI8
          clear hsl hI6 hr6 hrw hwin6 hB6 l6 hg6 hor6 hle hob HB5 L5 HWA HCU hs34' hne2 hft HI9
          go_wp2_with fail
          go_roundw
          case rel => exact ⟨_, _, _, _, _, _, _, _, _, HB8.out, HI8.out, Hok2.out, Hne2.out, Himp2.out, rfl⟩
          case measure =>
            refine Nat.lt_of_le_of_lt (least_le ⟨_, _, _, _, _, _, _, _, HB8.out, HI8.out, Hok2.out, Hne2.out, Himp2.out, rfl⟩) ?_
            exact Hml.out
      · have hD : (bumpF (st1 m)).d = (st1 m).d + (st1 m).q := by unfold bumpF; rw [hanew]; rfl
        have hB1 : bumpF (st1 m) = ⟨(st1 m).q, (st1 m).d + (st1 m).q, c :: cs, (st1 m).rests, false⟩ := by rw [← Hc.out]; unfold bumpF; rw [hanew]; rfl
        rw [hD] at hbb
        have Hb := Lib.hid hB1
        rw [hanew] at k5
        have HN := Lib.hid hanew
        clear hD hB1 hanew
        go_upto_region 7 with (fail)
        generalize (st1 m).d + (st1 m).q = D at *
        by_cases hcd : c ≤ D
        · skip
          have hB3 := HB.out.below ((Below.refl _ _).alloc (Nat.le_refl _) (.cells #[.bool true, .int .i64 (st1 m).q, .int .i64 (D - c), .slice (some ⟨gc, oc, none⟩) (cs.length + 1) ck, .bool (st1 m).rests, .bool false] 64))
          have b8 := Blk.new wr 64 #[.bool true, .int .i64 (st1 m).q, .int .i64 (D - c), .slice (some ⟨gc, oc, none⟩) (cs.length + 1) ck, .bool (st1 m).rests, .bool false]
          have l3 := (Below.refl wr.heap.size wr).alloc (Nat.le_refl _) (.cells #[.bool true, .int .i64 (st1 m).q, .int .i64 (D - c), .slice (some ⟨gc, oc, none⟩) (cs.length + 1) ck, .bool (st1 m).rests, .bool false] 64)
          go_upto_region 10 with (fail)
          clear a0 a1 k0 k1 k2 k3 k4 k5 hr0 hc0
          generalize wr.alloc (.cells #[.bool true, .int .i64 (st1 m).q, .int .i64 (D - c), .slice (some ⟨gc, oc, none⟩) (cs.length + 1) ck, .bool (st1 m).rests, .bool false] 64) = w3 at *
          generalize hfb : wr.heap.size = fb at *
          have Hfb := Lib.hid hfb
          clear hfb
          have e3 : w3.cell? ⟨fb, 3, none⟩ = some (.slice (some ⟨gc, oc, none⟩) (cs.length + 1) ck) := by simpa using b8.cell 3
          have hblt := b8.lt
          have hwb : w.heap.size ≤ w3.heap.size := by omega
          have HA := Lib.hid (hB3.below ((Below.refl _ _).alloc (Nat.le_refl _) (.cells #[] 3)))
          have BA := Lib.hid (b8.alloc (.cells #[] 3))
          have HE := Lib.hid (Blk.new w3 3 #[])
          have HL := Lib.hid (l3.alloc (by omega) (.cells #[] 3))
          have HK := Lib.hid ((KC.out.below (Hfb.out ▸ HL.out)).tailV)
          clear hB3 b8 l3
          go_wp2_with (first | (at_builtin; refine wpList_copy_ints _ rfl (.tmp 44) (.tmp 47) rfl w3.heap.size rfl HE.out (tailV gc oc cs.length ck) cs rfl HK.out ?_ ?_) | (refine wpList_tail_ints _ rfl (.tmp 46) rfl gc oc cs.length ck rfl hck ?_))
          case refine_1 => omega
          intro v4 w4 hwin4 hg4
          have hB4 := HA.out.grown hg4 (fun k hk => by injection hk with hk; omega)
          have b4 := BA.out.grown hg4 (fun e => by injection e with e; omega)
          have l4 := HL.out.grown hg4 (by simp; omega) (fun k hk => by injection hk with hk; omega)
          obtain ⟨A4, c4, rfl, _⟩ := hwin4.form
          have hln : (ints cs).length = cs.length := by simp [ints]
          rw [hln] at hwin4 ⊢
          have f3 := b4.frozen 3
          have e3 : w4.cell? ⟨fb, 3, none⟩ = some (.slice (some ⟨gc, oc, none⟩) (cs.length + 1) ck) := by simpa using b4.cell 3
          have hfbk : ∀ k, (Value.slice A4 cs.length c4).ownBlock = some k → some fb ≠ some k := fun k hk e => by
            injection e with e
            have := (hwin4.lt k hk).1
            omega
          have HB7 := Lib.hid (hB4.far (p := ⟨fb, 3, none⟩) hsz (.slice A4 cs.length c4))
          have B7 := Lib.hid (b4.set_ 3 (.slice A4 cs.length c4))
          have L7 := Lib.hid (l4.setCell (p := ⟨fb, 3, none⟩) (Nat.le_refl _) (.slice A4 cs.length c4))
          have HW7 := Lib.hid (hwin4.kept (row := some fb) (only_setg (only_refl _ _) 3 (.slice A4 cs.length c4)) hfbk)
          clear hwin4 hB4 b4 l4 hfbk hg4 hln HA BA HE HK HL hblt
          go_upto_region 11 with (fail)
          clear f3 e3
          generalize w4.setCell ⟨fb, 3, none⟩ (.slice A4 cs.length c4) = w7 at *
          have hI7 := HI.out.below (Hfb.out ▸ L7.out)
          have D1 : Calls Try.prog 27 #[.agg #[.slice (some ⟨g1, 0, none⟩) 9 c0, .slice (some ⟨gr, orr, none⟩) (rest.length + 1) c0'], .int .i64 m, .agg #[.bool true, .int .i64 (st1 m).q, .int .i64 (D - c), .slice A4 cs.length c4, .bool (st1 m).rests, .bool false]] w7 (fun x w' => ∃ v', x = .returned v' ∧ RefIs Q w' v' (updV (flOf T st1) m ⟨true, ⟨(st1 m).q, D - c, cs, (st1 m).rests, false⟩⟩) ((m : Int) :: rest) ∧ Below w7.heap.size w7 w') :=
            with_c w7 _ (flOf T st1) ((m : Int) :: rest) hI7 m hm9 _ ⟨true, ⟨(st1 m).q, D - c, cs, (st1 m).rests, false⟩⟩ (RI.of_up hQ HW7.out hwb) (hQ.below HB7.out.bel)
          have hD1 := Lib.hid D1
          have e0 : w7.cell? ⟨fb, 0, none⟩ = some (.bool true) := by simpa using B7.out.cell 0
          have e1 : w7.cell? ⟨fb, 1, none⟩ = some (.int .i64 (st1 m).q) := by simpa using B7.out.cell 1
          have e2 : w7.cell? ⟨fb, 2, none⟩ = some (.int .i64 (D - c)) := by simpa using B7.out.cell 2
          have e3 : w7.cell? ⟨fb, 3, none⟩ = some (.slice A4 cs.length c4) := by simpa using B7.out.cell 3
          have e4 : w7.cell? ⟨fb, 4, none⟩ = some (.bool (st1 m).rests) := by simpa using B7.out.cell 4
          have e5 : w7.cell? ⟨fb, 5, none⟩ = some (.bool false) := by simpa using B7.out.cell 5
          have a0 := HB7.out.a0
          have a1 : w7.cell? ⟨w.heap.size, 1, none⟩ = some (.slice (some ⟨gr, orr, none⟩) (rest.length + 1) c0') := HB7.out.a1
          clear D1 hI7 B7 HW7 L7
          generalize hfl : updV (flOf T st1) m ⟨true, ⟨(st1 m).q, D - c, cs, (st1 m).rests, false⟩⟩ = fl1 at *
          have Hfl := Lib.hid hfl
          clear hfl
          go_wp2_with fail
          refine hD1.out.mono ?_
          rintro e w8 ⟨v1, rfl, hI1, hb4⟩
          have D2 := Lib.hid (refsettle_c w8 v1 fl1 ((m : Int) :: rest) hI1 m hm9 (by simp; omega) (hQ.below (HB7.out.below hb4).bel))
          have HB8 := Lib.hid (HB7.out.below hb4)
          clear a0 a1 e0 e1 e2 e3 e4 e5 hI1 hb4 hD1
          go_wp2_with fail
          refine D2.out.mono ?_
          rintro e w9 ⟨v2, rfl, hI2, hb5⟩
          obtain ⟨g3, c3, kv3, rv3, rfl, _, _, hr3⟩ := id hI2.ex
          obtain ⟨A1, cr3, rfl, _⟩ := hr3
          have HB9 := Lib.hid (HB8.out.below hb5)
          have z0 := HB9.out.z0
          have z1 := HB9.out.z1
          have y0 := HB9.out.y0
          have y1 := HB9.out.y1
          obtain ⟨hR, hL, r0, r1⟩ := HB9.out.result hI2
          have HR := Lib.hid hR
          have HL := Lib.hid hL
          have R0 := Lib.hid r0
          have R1 := Lib.hid r1
          clear hR hL r0 r1 hI2 hb5 D2
          go_wp2_with fail
          refine bodyPost_ret (v := .tuple #[.agg #[.slice (some ⟨g3, 0, none⟩) 9 c3, .slice A1 (settleRow (fl1 m) ((m : Int) :: rest) ↑m).length cr3], .int .i64 m, .int .i64 c, .bool true]) (by simp [results, Try.results21, go_sem, R0.out, R1.out]) rfl ?_
          have hte := serve_tie (T := T) (st1 := st1) (m := m) (rest := rest) (c := c) (f2 := ⟨(st1 m).q, D - c, cs, (st1 m).rests, false⟩) HT.out HOk.out.nd (by rw [Hb.out]; rfl)
          rw [Hfl.out] at hte
          refine ⟨_, _, _, _, _, Himp.out _ _ _ _ (Turns.serve (rest := rest) Hc.out (by rw [Hb.out]; exact hcd)), rfl, ?_, HL.out⟩
          have hfin : RefIs Q _ _ (setlA fl1 ((m : Int) :: rest) m).1 (setlA fl1 ((m : Int) :: rest) m).2 := HR.out
          rw [hte] at hfin
          exact hfin
        · have hcd' : D < c := by omega
          have hB3 := HB.out.below ((Below.refl _ _).alloc (Nat.le_refl _) (.cells #[.bool true, .int .i64 (st1 m).q, .int .i64 D, .slice (some ⟨gc, oc, none⟩) (cs.length + 1) ck, .bool (st1 m).rests, .bool true] 64))
          have b8 := Blk.new wr 64 #[.bool true, .int .i64 (st1 m).q, .int .i64 D, .slice (some ⟨gc, oc, none⟩) (cs.length + 1) ck, .bool (st1 m).rests, .bool true]
          have l3 := (Below.refl wr.heap.size wr).alloc (Nat.le_refl _) (.cells #[.bool true, .int .i64 (st1 m).q, .int .i64 D, .slice (some ⟨gc, oc, none⟩) (cs.length + 1) ck, .bool (st1 m).rests, .bool true] 64)
          go_upto_region 13 with (fail)
          clear a0 a1 k0 k1 k2 k3 k4 k5 hr0 hc0
          generalize wr.alloc (.cells #[.bool true, .int .i64 (st1 m).q, .int .i64 D, .slice (some ⟨gc, oc, none⟩) (cs.length + 1) ck, .bool (st1 m).rests, .bool true] 64) = w7 at *
          generalize hfb : wr.heap.size = fb at *
          have Hfb := Lib.hid hfb
          clear hfb
          have hI7 := HI.out.below (Hfb.out ▸ l3)
          have D1 : Calls Try.prog 27 #[.agg #[.slice (some ⟨g1, 0, none⟩) 9 c0, .slice (some ⟨gr, orr, none⟩) (rest.length + 1) c0'], .int .i64 m, .agg #[.bool true, .int .i64 (st1 m).q, .int .i64 D, .slice (some ⟨gc, oc, none⟩) (cs.length + 1) ck, .bool (st1 m).rests, .bool true]] w7 (fun x w' => ∃ v', x = .returned v' ∧ RefIs Q w' v' (updV (flOf T st1) m ⟨true, ⟨(st1 m).q, D, c :: cs, (st1 m).rests, true⟩⟩) ((m : Int) :: rest) ∧ Below w7.heap.size w7 w') :=
            with_c w7 _ (flOf T st1) ((m : Int) :: rest) hI7 m hm9 _ ⟨true, ⟨(st1 m).q, D, c :: cs, (st1 m).rests, true⟩⟩ (KC.out.below (Hfb.out ▸ l3)) (hQ.below hB3.bel)
          have hD1 := Lib.hid D1
          have e0 : w7.cell? ⟨fb, 0, none⟩ = some (.bool true) := by simpa using b8.cell 0
          have e1 : w7.cell? ⟨fb, 1, none⟩ = some (.int .i64 (st1 m).q) := by simpa using b8.cell 1
          have e2 : w7.cell? ⟨fb, 2, none⟩ = some (.int .i64 D) := by simpa using b8.cell 2
          have e3 : w7.cell? ⟨fb, 3, none⟩ = some (.slice (some ⟨gc, oc, none⟩) (cs.length + 1) ck) := by simpa using b8.cell 3
          have e4 : w7.cell? ⟨fb, 4, none⟩ = some (.bool (st1 m).rests) := by simpa using b8.cell 4
          have e5 : w7.cell? ⟨fb, 5, none⟩ = some (.bool true) := by simpa using b8.cell 5
          have a0 := hB3.a0
          have a1 : w7.cell? ⟨w.heap.size, 1, none⟩ = some (.slice (some ⟨gr, orr, none⟩) (rest.length + 1) c0') := hB3.a1
          have HB3 := Lib.hid hB3
          clear D1 hI7 b8 l3 hB3
          generalize hfl : updV (flOf T st1) m ⟨true, ⟨(st1 m).q, D, c :: cs, (st1 m).rests, true⟩⟩ = fl1 at *
          have Hfl := Lib.hid hfl
          clear hfl
          go_wp2_with fail
          refine hD1.out.mono ?_
          rintro e w8 ⟨v1, rfl, hI1, hb4⟩
          obtain ⟨g2, c2, kv2, rv2, rfl, _, _, hr2⟩ := id hI1.ex
          obtain ⟨gr2, or2, cr2, rfl, hcr2, _⟩ := hr2.at_ (j := 0) (x := (m : Int)) rfl
          simp only [List.length_cons] at hr2 hcr2 hI1
          have HB8 := Lib.hid (HB3.out.below hb4)
          clear a0 a1 e0 e1 e2 e3 e4 e5 hb4 hD1
          have a0 := HB8.out.a0
          have a1 : w8.cell? ⟨w.heap.size, 1, none⟩ = some (.slice (some ⟨gr, orr, none⟩) (rest.length + 1) c0') := HB8.out.a1
          have x0 := HB8.out.bx.frozen 0
          have x1 := HB8.out.bx.frozen 1
          have hsl := Sl.of_blk HB8.out.bx
          have hI9 := (hI1.setBox hsl 0 (.slice (some ⟨g2, 0, none⟩) 9 c2)).setBox (hsl.set_ 0 (some ⟨g2, 0, none⟩) 9 c2) 1 (.slice (some ⟨gr2, or2, none⟩) (rest.length + 1) cr2)
          have hr9 := (hr2.setBox hsl 0 (.slice (some ⟨g2, 0, none⟩) 9 c2)).setBox (hsl.set_ 0 (some ⟨g2, 0, none⟩) 9 c2) 1 (.slice (some ⟨gr2, or2, none⟩) (rest.length + 1) cr2)
          have hB9 := (HB8.out.setF (.slice (some ⟨g2, 0, none⟩) 9 c2)).setR (.slice (some ⟨gr2, or2, none⟩) (rest.length + 1) cr2)
          clear hsl hI1 hr2
          go_upto_region 14 with (fail)
          clear a0 a1 x0 x1
          generalize (w8.setCell ⟨w.heap.size, 0, none⟩ (.slice (some ⟨g2, 0, none⟩) 9 c2)).setCell ⟨w.heap.size, 1, none⟩ (.slice (some ⟨gr2, or2, none⟩) (rest.length + 1) cr2) = w9 at *
          have a1 := hB9.a1
          have hsz9 := hB9.sz
          have hsz90 : w.heap.size < w9.heap.size := by omega
          have HA := Lib.hid (hB9.below ((Below.refl _ _).alloc (Nat.le_refl _) (.cells #[] 3)))
          have HE := Lib.hid (Blk.new w9 3 #[])
          have HL := Lib.hid ((Below.refl w9.heap.size w9).alloc (Nat.le_refl _) (.cells #[] 3))
          have HK := Lib.hid ((hr9.below HL.out).tailV)
          have HI9 := Lib.hid hI9
          clear hB9 hI9 hr9 HB8 HB3
          obtain ⟨i0, hi0, hz0, hz1, hz2⟩ := info_parts info3
          go_upto_region 15 with (first | (refine wpList_tail_ints _ rfl (.tmp 65) rfl gr2 or2 rest.length cr2 rfl hcr2 ?_) | (at_builtin; refine wpList_copy_ints _ rfl (.tmp 63) (.tmp 66) rfl w9.heap.size rfl HE.out (tailV gr2 or2 rest.length cr2) rest rfl HK.out ?_ ?_))
          case refine_1 => omega
          intro v4 w4 hwin4 hg4
          have hB4 := HA.out.grown hg4 (fun k hk => by injection hk with hk; omega)
          have l4 := HL.out.grown hg4 (by simp) (fun k hk => by injection hk with hk; omega)
          obtain ⟨A4, c4, rfl, _⟩ := hwin4.form
          have hln : (ints rest).length = rest.length := by simp [ints]
          rw [hln] at hwin4 ⊢
          have hcu : (w4.alloc (.cells #[.int .i64 m] 3)).cell? ⟨w4.heap.size, 0, none⟩ = some (.int .i64 m) := by simpa using (Blk.new w4 3 #[.int .i64 m]).cell 0
          have HCU := Lib.hid hcu
          have HWA := Lib.hid (hwin4.kept (row := none) (only_of_below ((Below.refl _ _).alloc (Nat.le_refl _) (.cells #[.int .i64 m] 3)) none) (by simp))
          have HB5 := Lib.hid (hB4.below ((Below.refl _ _).alloc (Nat.le_refl _) (.cells #[.int .i64 m] 3)))
          have L5 := Lib.hid (l4.alloc l4.size (.cells #[.int .i64 m] 3))
          have hs34 := hg4.size
          simp at hs34
          have hs34' : w9.heap.size < w4.heap.size := by omega
          have hlc2 : (ints rest).length + 1 ≤ 1048576 := by simp [ints]; omega
          clear hcu hwin4 hg4 HA HE HK hB4 l4 hln hs34 a1 HL
          go_upto_region 15 with (at_builtin; refine wpList_append_win _ rfl (.tmp 67) (.tmp 69) 36 rfl 3 i0 _ Try.underlying36 hi0 hz0 hz1 hz2 rfl (v := .slice A4 rest.length c4) rfl HWA.out ⟨w4.heap.size, 0, none⟩ 1 (.int .i64 m) rfl HCU.out rfl ?_ ?_ ?_)
          case refine_1 => exact hlc2
          case refine_2 => simp; omega
          intro v6 w6 hwin6 hg6 hor6
          have hob : ∀ k, (Value.slice A4 rest.length c4).ownBlock = some k → w9.heap.size ≤ k := fun k hk => (HWA.out.lt k hk).1
          have hB6 := HB5.out.grown hg6 (fun k hk => by have := hob k hk; omega)
          have l6 := L5.out.grown hg6 (by simp; omega) (fun k hk => hob k hk)
          obtain ⟨A6, c6, rfl, _⟩ := hwin6.form
          have hle : (ints rest ++ [Value.int .i64 (m : Int)]).length = (rest ++ [(m : Int)]).length := by simp [ints]
          rw [hle] at hwin6 hor6 ⊢
          have hr6 : RI Q w6 (.slice A6 (rest ++ [(m : Int)]).length c6) (rest ++ [(m : Int)]) := RI.of_up (B := w9.heap.size) hQ (by simpa [ints] using hwin6) (by omega)
          generalize hrw : rest ++ [(m : Int)] = row2 at *
          have Hrw := Lib.hid hrw
          have hI6 := HI9.out.below l6
          have x1 := hB6.bx.frozen 1
          have a1 := hB6.a1
          have hsl := Sl.of_blk hB6.bx
          have HI8 := Lib.hid ((hI6.setBox hsl 1 (.slice A6 row2.length c6)).setRow (hr6.setBox hsl 1 (.slice A6 row2.length c6)))
          have HB8 := Lib.hid (hB6.setR (.slice A6 row2.length c6))
          have Hok2 : Hid (ROk T (setF st1 m (rotF (bumpF (st1 m)))) row2 N) := Lib.hid (by rw [← Hrw.out]; exact HOk.out.rot Hc.out (by rw [Hb.out]; exact hcd') )
          have Himp2 : Hid (∀ st' row' m' c', Turns (setF st1 m (rotF (bumpF (st1 m)))) row2 st' row' m' c' → Turns st row st' row' m' c') :=
            Lib.hid fun st' row' m' c' ht => Himp.out _ _ _ _ (Turns.rot Hc.out (by rw [Hb.out]; exact hcd') (by rw [Hrw.out]; exact ht))
          have Hml : Hid (meas (setF st1 m (rotF (bumpF (st1 m)))) row2 < least (RMid Q w T st row N wr)) := Lib.hid (by
            rw [← Hmeas.out, ← Hrw.out]
            exact meas_rot hnr (kap_rot Hc.out (by rw [Hb.out]; exact hcd') HF.out.q0))
          have hne2 : row2 ≠ [] := by rw [← Hrw.out]; simp
          have Hne2 := Lib.hid hne2
          have hft : fl1 = flOf T (setF st1 m (rotF (bumpF (st1 m)))) := by
            rw [← Hfl.out, flOf_set HT.out, Hb.out]; rfl
          rw [hft] at HI8
          clear hsl hI6 hr6 hrw hwin6 hB6 l6 hg6 hor6 hle hob HB5 L5 HWA HCU hs34' hne2 hft HI9
          go_wp2_with fail
          go_roundw
          case rel => exact ⟨_, _, _, _, _, _, _, _, _, HB8.out, HI8.out, Hok2.out, Hne2.out, Himp2.out, rfl⟩
          case measure =>
            refine Nat.lt_of_le_of_lt (least_le ⟨_, _, _, _, _, _, _, _, HB8.out, HI8.out, Hok2.out, Hne2.out, Himp2.out, rfl⟩) ?_
            exact Hml.out
end Go.Proofs.Ytaenlieajlfkdaa
