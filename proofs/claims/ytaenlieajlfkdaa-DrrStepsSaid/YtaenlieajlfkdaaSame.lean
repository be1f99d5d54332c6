/- The law's same: a ring is the document's. -/
import Derived.Test.YtaenlieajlfkdaaRTurn
namespace Go.Proofs.Ytaenlieajlfkdaa
open Go.RowKit Go.Maps
set_option linter.unusedVariables false
set_option linter.unnecessarySimpa false
set_option linter.unusedSimpArgs false
variable {Q : Nat → Prop}

/-- The reference's flows, as the ring has them. -/
def flA9 (ad : Int → Option Nat) (st : Int → FS) (j : Nat) : RFl := ⟨(ad j).isSome, stOf ad st j⟩

theorem RI.any {w : World} {v : Value} {l : List Int} (h : RI Q w v l) : RI (fun _ => True) w v l := by
  obtain ⟨A, c, hv, hc, hr⟩ := h
  exact ⟨A, c, hv, hc, fun h0 => by obtain ⟨g, o, hA, _, hcell⟩ := hr h0; exact ⟨g, o, hA, trivial, hcell⟩⟩
set_option maxHeartbeats 2000000 in
theorem same_c (w : World) (S : Nat → Prop) (g : Nat) (M rv : Value) (cv : Int → Value) (ad : Int → Option Nat) (st : Int → FS) (row : List Int) (N : Nat) (h : RgE w S g M rv cv ad st row N) (hN : N ≤ 100000)
    (hb : ∀ n, ad n ≠ none → ∀ c, c ∈ (st n).cs → 1 ≤ c ∧ c ≤ 1040) (v : Value) (hI : RefIs Q w v (flA9 ad st) row) :
    Calls Try.prog 22 #[.pointer (some ⟨g, 0, none⟩), v] w (Tells w true) := by
  obtain ⟨g1, c1, kv, rv1, rfl, hc1, hF, hr⟩ := hI.ex
  obtain ⟨Ar, cr, rfl, _⟩ := id hr
  have H := Lib.hid h
  have HI := Lib.hid hI
  have HF := Lib.hid hF
  have Hr := Lib.hid hr
  have hcb : ∀ n, ∀ c, c ∈ (stOf ad st n).cs → 0 ≤ c ∧ c ≤ 1040 := fun n c hc => by
    unfold stOf at hc
    split at hc
    · simp [zeroF] at hc
    · rename_i hn
      have := hb n hn c hc
      omega
  have Hcb := Lib.hid hcb
  have hlen : ∀ n, (stOf ad st n).cs.length ≤ N := fun n => by
    unfold stOf
    split
    · simp [zeroF]
    · rename_i hn
      cases hh : ad n with
      | none => exact absurd hh hn
      | some b => exact h.len n b hh
  have Hlen := Lib.hid hlen
  have hgl : g1 < w.heap.size := cell_lt (hF.c0 0 (by omega))
  have hrow := h.rowlen
  clear h hI hF hr hb hcb hlen
  go_enter Try.func22, Try.ntmps22
  go_wp2_with fail
  go_loopw [5, 6] (fun i _ wr => ∃ n : Int, -1 ≤ n ∧ n ≤ 10 ∧ i = .int .i64 n ∧ Below w.heap.size w wr ∧ w.heap.size < wr.heap.size ∧ Blk wr w.heap.size 46 #[.slice (some ⟨g1, 0, none⟩) 9 c1, .slice Ar row.length cr]) (fun i _ _ => (10 - intOf i).toNat)
  case atStart => exact ⟨-1, by omega, by omega, rfl, (Below.refl _ _).alloc (Nat.le_refl _) _, by simp, Blk.new _ _ _⟩
  case round =>
    obtain ⟨n, hn1, hn2, rfl, hbel, hsz, hbx⟩ := hrel
    have a0 : wr.cell? ⟨w.heap.size, 0, none⟩ = some (.slice (some ⟨g1, 0, none⟩) 9 c1) := by simpa using hbx.cell 0
    have a1 : wr.cell? ⟨w.heap.size, 1, none⟩ = some (.slice Ar row.length cr) := by simpa using hbx.cell 1
    have Hbel := Lib.hid hbel
    have Hbx := Lib.hid hbx
    clear hbel hbx
    by_cases hlt : n < 10
    · by_cases h0 : 0 ≤ n ∧ n < 9
      · obtain ⟨h0, h9⟩ := h0
        obtain ⟨j, rfl⟩ := Int.eq_ofNat_of_zero_le h0
        have hj9 : j < 9 := by omega
        have hF2 := HF.out.below Hbel.out
        have k0 := hF2.c0 j hj9
        have k1 := hF2.c1 j hj9
        have k2 := hF2.c2 j hj9
        have k3 := hF2.c3 j hj9
        have k4 := hF2.c4 j hj9
        have k5 := hF2.c5 j hj9
        have kc := hF2.cs j hj9
        have hgr : g1 < wr.heap.size := by omega
        simp only [flA9] at k0 k1 k2 k4 k5 kc
        obtain ⟨Ak, ck, hkv, _⟩ := id kc
        rw [hkv] at k3 kc
        clear hF2 hkv
        go_upto_region 7 with (fail)
        generalize hf : stOf ad st (j : Int) = f at *
        have Hf := Lib.hid hf
        clear hf
        generalize (ad (j : Int)).isSome = tj at *
        have b8 := Blk.new wr 64 #[.bool tj, .int .i64 f.q, .int .i64 f.d, .slice Ak f.cs.length ck, .bool f.rests, .bool f.anew]
        have hW := (Below.refl wr.heap.size wr).alloc (Nat.le_refl _) (.cells #[.bool tj, .int .i64 f.q, .int .i64 f.d, .slice Ak f.cs.length ck, .bool f.rests, .bool f.anew] 64)
        clear a0 k0 k1 k2 k3 k4 k5
        generalize wr.alloc (.cells #[.bool tj, .int .i64 f.q, .int .i64 f.d, .slice Ak f.cs.length ck, .bool f.rests, .bool f.anew] 64) = W0 at *
        have hW0 := below_step Hbel.out (by omega) hW
        have hB0 : w.heap.size < W0.heap.size := Nat.lt_of_lt_of_le hsz hW.size
        have hbx0 := Hbx.out.below hW hsz
        have D14 : Hid (∀ wq, Below W0.heap.size W0 wq → Calls Try.prog 14 #[.pointer (some ⟨g, 0, none⟩), .int .i64 (j : Int)] wq fun x w' => x = .returned (.int .i64 f.cs.length) ∧ wq = w') :=
          Lib.hid fun wq hb => (waits_c wq S g M rv cv ad st row N (H.out.below (below_step hW0 (Nat.le_refl _) hb)) (j : Int) ⟨by omega, by omega⟩).mono (by rintro x w' ⟨rfl, rfl⟩; exact ⟨ret_int (by rw [Hf.out]), rfl⟩)
        have D31 : Hid (∀ wq, Below W0.heap.size W0 wq → Calls Try.prog 31 #[.pointer (some ⟨g, 0, none⟩), .int .i64 (j : Int)] wq fun x w' => x = .returned (.int .i64 f.cs.sum) ∧ wq = w') :=
          Lib.hid fun wq hb => (cost_c wq S g M rv cv ad st row N (H.out.below (below_step hW0 (Nat.le_refl _) hb)) (j : Int) ⟨by omega, by omega⟩ hN (Hcb.out _)).mono (by rintro x w' ⟨rfl, rfl⟩; exact ⟨ret_int (by rw [Hf.out]), rfl⟩)
        have D13 : Hid (∀ wq, Below W0.heap.size W0 wq → Calls Try.prog 13 #[.pointer (some ⟨g, 0, none⟩), .int .i64 (j : Int)] wq fun x w' => x = .returned (.int .i64 f.d) ∧ wq = w') :=
          Lib.hid fun wq hb => (deficit_c wq S g M rv cv ad st row N (H.out.below (below_step hW0 (Nat.le_refl _) hb)) (j : Int) ⟨by omega, by omega⟩).mono (by rintro x w' ⟨rfl, rfl⟩; exact ⟨ret_int (by rw [Hf.out]), rfl⟩)
        have D32 : Hid (∀ wq, Below W0.heap.size W0 wq → Calls Try.prog 32 #[.agg #[.bool tj, .int .i64 f.q, .int .i64 f.d, .slice Ak f.cs.length ck, .bool f.rests, .bool f.anew]] wq fun x w' => x = .returned (.int .i64 f.cs.sum) ∧ Below wq.heap.size wq w') :=
          Lib.hid fun wq hb => refcost_c (Q := Q) wq (.slice Ak f.cs.length ck) ⟨tj, ⟨f.q, f.d, f.cs, f.rests, f.anew⟩⟩ ((kc.below (hW.trans (hb.mono hW.size)))) (by have := Hlen.out j; rw [Hf.out] at this; show f.cs.length ≤ 100000; omega) (by have := Hcb.out j; rw [Hf.out] at this; exact this)
        have HW0 := Lib.hid hW0
        have HBX0 := Lib.hid hbx0
        have HWW := Lib.hid hW
        have e0 : W0.cell? ⟨wr.heap.size, 0, none⟩ = some (.bool tj) := by simpa using b8.cell 0
        have e1 : W0.cell? ⟨wr.heap.size, 1, none⟩ = some (.int .i64 f.q) := by simpa using b8.cell 1
        have e2 : W0.cell? ⟨wr.heap.size, 2, none⟩ = some (.int .i64 f.d) := by simpa using b8.cell 2
        have e3 : W0.cell? ⟨wr.heap.size, 3, none⟩ = some (.slice Ak f.cs.length ck) := by simpa using b8.cell 3
        have e4 : W0.cell? ⟨wr.heap.size, 4, none⟩ = some (.bool f.rests) := by simpa using b8.cell 4
        have e5 : W0.cell? ⟨wr.heap.size, 5, none⟩ = some (.bool f.anew) := by simpa using b8.cell 5
        clear b8 hW hW0 hbx0 kc
        generalize wr.heap.size = fb at *
        go_cut [45] (fun b wc => b = .bool false ∧ Below W0.heap.size W0 wc)
        case first =>
          go_region_held3 (fun wq => wq.cell? ⟨fb, 0, none⟩ = some (.bool tj) ∧ wq.cell? ⟨fb, 1, none⟩ = some (.int .i64 f.q) ∧ wq.cell? ⟨fb, 2, none⟩ = some (.int .i64 f.d) ∧ wq.cell? ⟨fb, 3, none⟩ = some (.slice Ak f.cs.length ck) ∧ wq.cell? ⟨fb, 4, none⟩ = some (.bool f.rests) ∧ wq.cell? ⟨fb, 5, none⟩ = some (.bool f.anew) ∧ Below W0.heap.size W0 wq)
            (first | (refine ⟨?_, ?_, ?_, ?_, ?_, ?_, ?_⟩; (simp [*]); (simp [*]); (simp [*]); (simp [*]); (simp [*]); (simp [*]); (first | assumption | exact ⟨rfl, rfl, rfl, Nat.le_refl _, fun _ _ => rfl⟩ | (simp [*]))))
            (first | (go_at_call 14; refine (D14.out _ ?_).mono ?_; (simp [*]); rintro e w' ⟨rfl, rfl⟩) | (go_at_call 31; refine (D31.out _ ?_).mono ?_; (simp [*]); rintro e w' ⟨rfl, rfl⟩) | (go_at_call 13; refine (D13.out _ ?_).mono ?_; (simp [*]); rintro e w' ⟨rfl, rfl⟩) | (go_at_call 32; refine (D32.out _ ?_).mono ?_; (simp [*]); rintro e w3 ⟨rfl, hb3⟩; have hk3 := keeps hb3 (Nat.le_refl _); have hb4 := below_step (And.right (And.right (And.right (And.right (And.right (And.right (by assumption))))))) (Nat.le_refl _) hb3; clear hb3))
          all_goals (go_wp2_with fail; go_meet; exact ⟨rfl, hb4⟩)
        case rest =>
          obtain ⟨rfl, hb⟩ := hcut
          have hB1 : w.heap.size < wc.heap.size := Nat.lt_of_lt_of_le hB0 hb.size
          have Hx1 := Lib.hid (HBX0.out.below hb hB0)
          have Hb1 := Lib.hid (below_step HW0.out (by omega) hb)
          clear e0 e1 e2 e3 e4 e5 hb HBX0 HW0 HWW D14 D31 D13 D32
          go_wp2_with fail
          go_roundw
          case rel => exact ⟨(j : Int) + 1, by omega, by omega, rfl, Hb1.out, hB1, Hx1.out⟩
          case measure => first | (simp [intOf]; done) | (simp [intOf]; omega)
      · have hz : stOf ad st n = zeroF := by
          refine if_pos ?_
          cases hh : ad n with
          | none => rfl
          | some b =>
            have := H.out.key n b hh
            omega
        have Hz := Lib.hid hz
        clear hz
        have hcase : n = -1 ∨ n = 9 := by omega
        clear h0
        rcases hcase with rfl | rfl
        · go_upto_region 7 with (fail)
          have b8 := Blk.new wr 64 #[.bool false, .int .i64 0, .int .i64 0, .slice none 0 0, .bool false, .bool false]
          have hW := (Below.refl wr.heap.size wr).alloc (Nat.le_refl _) (.cells #[.bool false, .int .i64 0, .int .i64 0, .slice none 0 0, .bool false, .bool false] 64)
          clear a0
          generalize wr.alloc (.cells #[.bool false, .int .i64 0, .int .i64 0, .slice none 0 0, .bool false, .bool false] 64) = W0 at *
          have hW0 := below_step Hbel.out (by omega) hW
          have hB0 : w.heap.size < W0.heap.size := Nat.lt_of_lt_of_le hsz hW.size
          have hbx0 := Hbx.out.below hW hsz
          have D14 : Hid (∀ wq, Below W0.heap.size W0 wq → Calls Try.prog 14 #[.pointer (some ⟨g, 0, none⟩), .int .i64 (-1)] wq fun x w' => x = .returned (.int .i64 0) ∧ wq = w') :=
            Lib.hid fun wq hb => (waits_c wq S g M rv cv ad st row N (H.out.below (below_step hW0 (Nat.le_refl _) hb)) (-1) ⟨by omega, by omega⟩).mono (by rintro x w' ⟨rfl, rfl⟩; exact ⟨ret_int (by rw [Hz.out]; first | done | rfl), rfl⟩)
          have D31 : Hid (∀ wq, Below W0.heap.size W0 wq → Calls Try.prog 31 #[.pointer (some ⟨g, 0, none⟩), .int .i64 (-1)] wq fun x w' => x = .returned (.int .i64 0) ∧ wq = w') :=
            Lib.hid fun wq hb => (cost_c wq S g M rv cv ad st row N (H.out.below (below_step hW0 (Nat.le_refl _) hb)) (-1) ⟨by omega, by omega⟩ hN (Hcb.out _)).mono (by rintro x w' ⟨rfl, rfl⟩; exact ⟨ret_int (by rw [Hz.out]; first | done | rfl), rfl⟩)
          have D13 : Hid (∀ wq, Below W0.heap.size W0 wq → Calls Try.prog 13 #[.pointer (some ⟨g, 0, none⟩), .int .i64 (-1)] wq fun x w' => x = .returned (.int .i64 0) ∧ wq = w') :=
            Lib.hid fun wq hb => (deficit_c wq S g M rv cv ad st row N (H.out.below (below_step hW0 (Nat.le_refl _) hb)) (-1) ⟨by omega, by omega⟩).mono (by rintro x w' ⟨rfl, rfl⟩; exact ⟨ret_int (by rw [Hz.out]; first | done | rfl), rfl⟩)
          have D32 : Hid (∀ wq, Below W0.heap.size W0 wq → Calls Try.prog 32 #[.agg #[.bool false, .int .i64 0, .int .i64 0, .slice none 0 0, .bool false, .bool false]] wq fun x w' => x = .returned (.int .i64 0) ∧ Below wq.heap.size wq w') :=
            Lib.hid fun wq hb => refcost_c (Q := Q) wq (.slice none 0 0) ⟨false, ⟨0, 0, [], false, false⟩⟩ (RI.nil_ _) (by simp) (by simp)
          have HW0 := Lib.hid hW0
          have HBX0 := Lib.hid hbx0
          have HWW := Lib.hid hW
          have e0 : W0.cell? ⟨wr.heap.size, 0, none⟩ = some (.bool false) := by simpa using b8.cell 0
          have e1 : W0.cell? ⟨wr.heap.size, 1, none⟩ = some (.int .i64 0) := by simpa using b8.cell 1
          have e2 : W0.cell? ⟨wr.heap.size, 2, none⟩ = some (.int .i64 0) := by simpa using b8.cell 2
          have e3 : W0.cell? ⟨wr.heap.size, 3, none⟩ = some (.slice none 0 0) := by simpa using b8.cell 3
          have e4 : W0.cell? ⟨wr.heap.size, 4, none⟩ = some (.bool false) := by simpa using b8.cell 4
          have e5 : W0.cell? ⟨wr.heap.size, 5, none⟩ = some (.bool false) := by simpa using b8.cell 5
          clear b8 hW hW0 hbx0 hlt
          generalize wr.heap.size = fb at *
          go_cut [45] (fun b wc => b = .bool false ∧ Below W0.heap.size W0 wc)
          case first =>
            go_region_held3 (fun wq => wq.cell? ⟨fb, 0, none⟩ = some (.bool false) ∧ wq.cell? ⟨fb, 1, none⟩ = some (.int .i64 0) ∧ wq.cell? ⟨fb, 2, none⟩ = some (.int .i64 0) ∧ wq.cell? ⟨fb, 3, none⟩ = some (.slice none 0 0) ∧ wq.cell? ⟨fb, 4, none⟩ = some (.bool false) ∧ wq.cell? ⟨fb, 5, none⟩ = some (.bool false) ∧ Below W0.heap.size W0 wq)
              (first | (refine ⟨?_, ?_, ?_, ?_, ?_, ?_, ?_⟩; (simp [*]); (simp [*]); (simp [*]); (simp [*]); (simp [*]); (simp [*]); (first | assumption | exact ⟨rfl, rfl, rfl, Nat.le_refl _, fun _ _ => rfl⟩ | (simp [*]))))
              (first | (go_at_call 14; refine (D14.out _ ?_).mono ?_; (simp [*]); rintro e w' ⟨rfl, rfl⟩) | (go_at_call 31; refine (D31.out _ ?_).mono ?_; (simp [*]); rintro e w' ⟨rfl, rfl⟩) | (go_at_call 13; refine (D13.out _ ?_).mono ?_; (simp [*]); rintro e w' ⟨rfl, rfl⟩) | (go_at_call 32; refine (D32.out _ ?_).mono ?_; (simp [*]); rintro e w3 ⟨rfl, hb3⟩; have hk3 := keeps hb3 (Nat.le_refl _); have hb4 := below_step (And.right (And.right (And.right (And.right (And.right (And.right (by assumption))))))) (Nat.le_refl _) hb3; clear hb3))
            all_goals (go_wp2_with fail; go_meet; exact ⟨rfl, hb4⟩)
          case rest =>
            obtain ⟨rfl, hb⟩ := hcut
            have hB1 : w.heap.size < wc.heap.size := Nat.lt_of_lt_of_le hB0 hb.size
            have Hx1 := Lib.hid (HBX0.out.below hb hB0)
            have Hb1 := Lib.hid (below_step HW0.out (by omega) hb)
            clear e0 e1 e2 e3 e4 e5 hb HBX0 HW0 HWW D14 D31 D13 D32
            go_wp2_with fail
            go_roundw
            case rel => exact ⟨(-1) + 1, by omega, by omega, rfl, Hb1.out, hB1, Hx1.out⟩
            case measure => first | (simp [intOf]; done) | (simp [intOf]; omega)
        · go_upto_region 7 with (fail)
          have b8 := Blk.new wr 64 #[.bool false, .int .i64 0, .int .i64 0, .slice none 0 0, .bool false, .bool false]
          have hW := (Below.refl wr.heap.size wr).alloc (Nat.le_refl _) (.cells #[.bool false, .int .i64 0, .int .i64 0, .slice none 0 0, .bool false, .bool false] 64)
          clear a0
          generalize wr.alloc (.cells #[.bool false, .int .i64 0, .int .i64 0, .slice none 0 0, .bool false, .bool false] 64) = W0 at *
          have hW0 := below_step Hbel.out (by omega) hW
          have hB0 : w.heap.size < W0.heap.size := Nat.lt_of_lt_of_le hsz hW.size
          have hbx0 := Hbx.out.below hW hsz
          have D14 : Hid (∀ wq, Below W0.heap.size W0 wq → Calls Try.prog 14 #[.pointer (some ⟨g, 0, none⟩), .int .i64 9] wq fun x w' => x = .returned (.int .i64 0) ∧ wq = w') :=
            Lib.hid fun wq hb => (waits_c wq S g M rv cv ad st row N (H.out.below (below_step hW0 (Nat.le_refl _) hb)) 9 ⟨by omega, by omega⟩).mono (by rintro x w' ⟨rfl, rfl⟩; exact ⟨ret_int (by rw [Hz.out]; first | done | rfl), rfl⟩)
          have D31 : Hid (∀ wq, Below W0.heap.size W0 wq → Calls Try.prog 31 #[.pointer (some ⟨g, 0, none⟩), .int .i64 9] wq fun x w' => x = .returned (.int .i64 0) ∧ wq = w') :=
            Lib.hid fun wq hb => (cost_c wq S g M rv cv ad st row N (H.out.below (below_step hW0 (Nat.le_refl _) hb)) 9 ⟨by omega, by omega⟩ hN (Hcb.out _)).mono (by rintro x w' ⟨rfl, rfl⟩; exact ⟨ret_int (by rw [Hz.out]; first | done | rfl), rfl⟩)
          have D13 : Hid (∀ wq, Below W0.heap.size W0 wq → Calls Try.prog 13 #[.pointer (some ⟨g, 0, none⟩), .int .i64 9] wq fun x w' => x = .returned (.int .i64 0) ∧ wq = w') :=
            Lib.hid fun wq hb => (deficit_c wq S g M rv cv ad st row N (H.out.below (below_step hW0 (Nat.le_refl _) hb)) 9 ⟨by omega, by omega⟩).mono (by rintro x w' ⟨rfl, rfl⟩; exact ⟨ret_int (by rw [Hz.out]; first | done | rfl), rfl⟩)
          have D32 : Hid (∀ wq, Below W0.heap.size W0 wq → Calls Try.prog 32 #[.agg #[.bool false, .int .i64 0, .int .i64 0, .slice none 0 0, .bool false, .bool false]] wq fun x w' => x = .returned (.int .i64 0) ∧ Below wq.heap.size wq w') :=
            Lib.hid fun wq hb => refcost_c (Q := Q) wq (.slice none 0 0) ⟨false, ⟨0, 0, [], false, false⟩⟩ (RI.nil_ _) (by simp) (by simp)
          have HW0 := Lib.hid hW0
          have HBX0 := Lib.hid hbx0
          have HWW := Lib.hid hW
          have e0 : W0.cell? ⟨wr.heap.size, 0, none⟩ = some (.bool false) := by simpa using b8.cell 0
          have e1 : W0.cell? ⟨wr.heap.size, 1, none⟩ = some (.int .i64 0) := by simpa using b8.cell 1
          have e2 : W0.cell? ⟨wr.heap.size, 2, none⟩ = some (.int .i64 0) := by simpa using b8.cell 2
          have e3 : W0.cell? ⟨wr.heap.size, 3, none⟩ = some (.slice none 0 0) := by simpa using b8.cell 3
          have e4 : W0.cell? ⟨wr.heap.size, 4, none⟩ = some (.bool false) := by simpa using b8.cell 4
          have e5 : W0.cell? ⟨wr.heap.size, 5, none⟩ = some (.bool false) := by simpa using b8.cell 5
          clear b8 hW hW0 hbx0 hlt
          generalize wr.heap.size = fb at *
          go_cut [45] (fun b wc => b = .bool false ∧ Below W0.heap.size W0 wc)
          case first =>
            go_region_held3 (fun wq => wq.cell? ⟨fb, 0, none⟩ = some (.bool false) ∧ wq.cell? ⟨fb, 1, none⟩ = some (.int .i64 0) ∧ wq.cell? ⟨fb, 2, none⟩ = some (.int .i64 0) ∧ wq.cell? ⟨fb, 3, none⟩ = some (.slice none 0 0) ∧ wq.cell? ⟨fb, 4, none⟩ = some (.bool false) ∧ wq.cell? ⟨fb, 5, none⟩ = some (.bool false) ∧ Below W0.heap.size W0 wq)
              (first | (refine ⟨?_, ?_, ?_, ?_, ?_, ?_, ?_⟩; (simp [*]); (simp [*]); (simp [*]); (simp [*]); (simp [*]); (simp [*]); (first | assumption | exact ⟨rfl, rfl, rfl, Nat.le_refl _, fun _ _ => rfl⟩ | (simp [*]))))
              (first | (go_at_call 14; refine (D14.out _ ?_).mono ?_; (simp [*]); rintro e w' ⟨rfl, rfl⟩) | (go_at_call 31; refine (D31.out _ ?_).mono ?_; (simp [*]); rintro e w' ⟨rfl, rfl⟩) | (go_at_call 13; refine (D13.out _ ?_).mono ?_; (simp [*]); rintro e w' ⟨rfl, rfl⟩) | (go_at_call 32; refine (D32.out _ ?_).mono ?_; (simp [*]); rintro e w3 ⟨rfl, hb3⟩; have hk3 := keeps hb3 (Nat.le_refl _); have hb4 := below_step (And.right (And.right (And.right (And.right (And.right (And.right (by assumption))))))) (Nat.le_refl _) hb3; clear hb3))
            all_goals (go_wp2_with fail; go_meet; exact ⟨rfl, hb4⟩)
          case rest =>
            obtain ⟨rfl, hb⟩ := hcut
            have hB1 : w.heap.size < wc.heap.size := Nat.lt_of_lt_of_le hB0 hb.size
            have Hx1 := Lib.hid (HBX0.out.below hb hB0)
            have Hb1 := Lib.hid (below_step HW0.out (by omega) hb)
            clear e0 e1 e2 e3 e4 e5 hb HBX0 HW0 HWW D14 D31 D13 D32
            go_wp2_with fail
            go_roundw
            case rel => exact ⟨9 + 1, by omega, by omega, rfl, Hb1.out, hB1, Hx1.out⟩
            case measure => first | (simp [intOf]; done) | (simp [intOf]; omega)
    · obtain rfl : n = 10 := by omega
      go_upto_region 9 with (fail)
      have D12 : Hid (∀ wq, Below wr.heap.size wr wq → Calls Try.prog 12 #[.pointer (some ⟨g, 0, none⟩)] wq (ListRet wq row)) :=
        Lib.hid fun wq hb => activer_c wq S g M rv cv ad st row N (H.out.below (below_step Hbel.out (by omega) hb))
      have D33 : Hid (∀ wq v, Below wr.heap.size wr wq → RI (fun _ => True) wq v row → Calls Try.prog 33 #[v, .slice Ar row.length cr] wq (Tells wq true)) :=
        Lib.hid fun wq v hb hv => ints_c wq v _ row hv (Hr.out.below (below_step Hbel.out (by omega) hb)).any (by omega)
      clear a0
      go_region_held3 (fun wq => wq.cell? ⟨w.heap.size, 1, none⟩ = some (.slice Ar row.length cr) ∧ Below wr.heap.size wr wq)
        (first | (refine ⟨?_, ?_⟩; (simp [*]); (first | assumption | exact ⟨rfl, rfl, rfl, Nat.le_refl _, fun _ _ => rfl⟩ | (simp [*]))))
        (first | (go_at_call 12; refine (D12.out _ ?_).mono ?_; (simp [*]); rintro e w3 ⟨v3, rfl, hwin, hb3⟩; have hk3 := keeps hb3 (Nat.le_refl _); have hb4 := below_step (And.right (by assumption)) (Nat.le_refl _) hb3; have hri := (RI.of_win (Q := fun _ => True) hwin (fun _ _ => trivial)); obtain ⟨A3, c3, rfl, _⟩ := hwin.form; clear hb3 hwin) | (go_at_call 33; refine (D33.out _ _ ?_ ?_).mono ?_; (simp [*]); (assumption); rintro e w4 ⟨rfl, hb5⟩; have hk4 := keeps hb5 (Nat.le_refl _); have hb6 := below_step hb4 (Nat.le_refl _) hb5; clear hb5))
      all_goals
        go_wp2_with fail
        go_ret
        exact ⟨rfl, below_step Hbel.out (by omega) hb6⟩
end Go.Proofs.Ytaenlieajlfkdaa
