/- The walk of DrrOrder: it tells true. -/
import Derived.Test.YtaenlieajlfkdaaOrdMem
import Derived.Test.YtaenlieajlfkdaaFair
namespace Go.Proofs.Ytaenlieajlfkdaa
open Go.RowKit Go.Maps
set_option linter.unusedVariables false
set_option linter.unnecessarySimpa false
set_option linter.unusedSimpArgs false

theorem OrdM.start (w : World) {B : Nat} (hB : w.heap.size = B) {w1 w2 w3 : World} (h1 : w.alloc (.cells #[.map none, .slice none 0 0] 28) = w1) (h2 : w1.alloc (.cells (Array.replicate 9 (.slice none 0 0)) 36) = w2) (h3 : w2.alloc (.cells (Array.replicate 9 (.bool false)) 4) = w3) :
    OrdM w B (fun k => k = B) (fun _ => none) (fun _ => zeroF) [] 0 (fun _ => []) (fun _ => false) (fun _ => .slice none 0 0) w3 ∧ w1.heap.size = B + 1 ∧ w2.heap.size = B + 2 := by
  have s1 : w1.heap.size = B + 1 := by rw [← h1]; simp; omega
  have s2 : w2.heap.size = B + 2 := by rw [← h2]; simp; omega
  have s3 : w3.heap.size = B + 3 := by rw [← h3]; simp; omega
  have hr := RgE.new w (fun k => k = B) hB
  rw [h1, hB] at hr
  have hr3 := (hr.alloc (.cells (Array.replicate 9 (.slice none 0 0)) 36))
  rw [h2] at hr3
  have hr4 := hr3.alloc (.cells (Array.replicate 9 (.bool false)) 4)
  rw [h3] at hr4
  have b1 : Blk w2 (B + 1) 36 (Array.replicate 9 (.slice none 0 0)) := by rw [← h2, ← s1]; exact Blk.new _ _ _
  have b1' : Blk w3 (B + 1) 36 (Array.replicate 9 (.slice none 0 0)) := by rw [← h3]; exact b1.alloc _
  have b2 : Blk w3 (B + 2) 4 (Array.replicate 9 (.bool false)) := by rw [← h3, ← s2]; exact Blk.new _ _ _
  refine ⟨⟨⟨_, _, _, hr4⟩, fun k hk => ⟨by rw [hk]; exact Nat.le_refl _, by rw [hk]; omega⟩, by omega, by omega, ⟨_, b1', by simp, fun j hj => by simp [hj]⟩, fun j hj => .inl ⟨rfl, rfl⟩, fun i j k _ _ _ h => (by cases h), ⟨_, b2, by simp, fun j hj => by simp [hj]⟩, ?_⟩, s1, s2⟩
  rw [← h3, ← h2, ← h1]
  exact (((Below.refl _ _).alloc (by omega) _).alloc (by simp; omega) _).alloc (by simp; omega) _

/-- While the quanta are set. -/
structure SetsO (ad : Int → Option Nat) (st : Int → FS) (k : Nat) : Prop where
  yes : ∀ n : Int, 0 ≤ n → n < k → ad n ≠ none ∧ st n = ⟨300 + 100 * n, 0, [], false, false⟩
  no : ∀ n : Int, k ≤ n → ad n = none
theorem SetsO.next {ad ad' : Int → Option Nat} {st : Int → FS} {k : Nat} (h : SetsO ad st k) (h1 : ∀ m, m ≠ (k : Int) → ad' m = ad m) (h2 : ad' k ≠ none) : SetsO ad' (setF st k (setQ (stOf ad st k) (300 + 100 * k))) (k + 1) := by
  refine ⟨fun n h0 hk => ?_, fun n hk => ?_⟩
  · by_cases e : n = k
    · subst e
      rw [setF_at]
      have : stOf ad st (k : Int) = zeroF := if_pos (h.no k (Int.le_refl _))
      rw [this]
      refine ⟨h2, ?_⟩
      simp [setQ, zeroF]
      omega
    · rw [setF_ne _ _ e, h1 n e]; exact h.yes n h0 (by omega)
  · rw [h1 n (by omega)]; exact h.no n (by omega)

def Q3 (n : Int) : Int := 300 + 100 * n
/-- What came, and who rests, is what the ring has. -/
def Lk (st : Int → FS) (C : Nat → List Int) (R : Nat → Bool) : Prop := ∀ j : Nat, j < 9 → C j = (st j).cs ∧ R j = (st j).rests
theorem SetsO.fair {ad : Int → Option Nat} {st : Int → FS} (h : SetsO ad st 9) : FairQ Q3 st [] ∧ (∀ n, In8 n → ad n ≠ none) ∧ Lk st (fun _ => []) (fun _ => false) := by
  refine ⟨⟨fun n hn => ?_, fun m hm => by simp at hm, fun n => ?_, List.nodup_nil⟩, fun n hn => (h.yes n hn.1 (by have := hn.2; omega)).1, fun j hj => ?_⟩
  · obtain ⟨h0, h8⟩ := hn
    rw [(h.yes n h0 (by omega)).2]
    exact ⟨⟨rfl, by show 1 ≤ 300 + 100 * n; omega, by show 300 + 100 * n ≤ 1000000; omega⟩, Int.le_refl _, by show (0 : Int) ≤ 300 + 100 * n + 1040; omega, fun h => by simp at h, fun c hc => by simp at hc⟩
  · constructor
    · intro h; simp at h
    · rintro ⟨⟨h0, h8⟩, ha⟩
      rw [(h.yes n h0 (by omega)).2] at ha
      simp [actF] at ha
  · rw [(h.yes j (by omega) (by omega)).2]
    exact ⟨rfl, rfl⟩
theorem Lk.push {st : Int → FS} {C : Nat → List Int} {R : Nat → Bool} (h : Lk st C R) (row : List Int) {x : Nat} (hx : x < 9) (c : Int) : Lk (pushA st row x c).1 (updV C x (C x ++ [c])) R := by
  intro j hj
  obtain ⟨h1, h2⟩ := push_cs st row x c j
  rw [h1, h2]
  refine ⟨?_, (h j hj).2⟩
  by_cases e : j = x
  · subst e; rw [updV_at, if_pos rfl, (h j hj).1]
  · rw [updV_ne _ _ e, if_neg (by omega)]; exact (h j hj).1
theorem Lk.rest {st : Int → FS} {C : Nat → List Int} {R : Nat → Bool} (h : Lk st C R) (row : List Int) {x : Nat} (hx : x < 9) (v : Bool) : Lk (restA st row x v).1 C (updV R x v) := by
  intro j hj
  obtain ⟨h1, h2⟩ := rest_cs st row x v j
  rw [h1, h2]
  refine ⟨(h j hj).1, ?_⟩
  by_cases e : j = x
  · subst e; rw [updV_at, if_pos rfl]
  · rw [updV_ne _ _ e, if_neg (by omega)]; exact (h j hj).2
theorem Lk.turn {st st' : Int → FS} {C : Nat → List Int} {R : Nat → Bool} {row row' : List Int} {x : Nat} {c : Int} (h : Lk st C R) (hx : x < 9) (ht : Turns st row st' row' x c) : Lk st' (updV C x (st' x).cs) R ∧ C x = c :: (st' x).cs := by
  obtain ⟨_, h2, h3, h4⟩ := turns_cs ht
  refine ⟨fun j hj => ⟨?_, by rw [h4]; exact (h j hj).2⟩, by rw [(h x hx).1]; exact h2⟩
  by_cases e : j = x
  · subst e; rw [updV_at]
  · rw [updV_ne _ _ e, h3 j (by omega)]; exact (h j hj).1
/-- Is anybody there whose costs may go? -/
theorem Lk.any {st : Int → FS} {C : Nat → List Int} {R : Nat → Bool} {row : List Int} (h : Lk st C R) (hF : FairQ Q3 st row) : (∃ i : Nat, i < 9 ∧ 0 < (C i).length ∧ R i = false) ↔ row ≠ [] := by
  constructor
  · rintro ⟨i, hi, hc, hr⟩ e
    obtain ⟨h1, h2⟩ := h i hi
    rw [h1] at hc
    rw [h2] at hr
    have : (i : Int) ∈ row := (hF.act i).2 ⟨⟨by omega, by omega⟩, by simp [actF, hc, hr]⟩
    rw [e] at this; simp at this
  · intro hne
    cases row with
    | nil => exact absurd rfl hne
    | cons n r =>
      obtain ⟨⟨h0, h8⟩, ha⟩ := (hF.act n).1 (by simp)
      obtain ⟨i, rfl⟩ := Int.eq_ofNat_of_zero_le h0
      obtain ⟨h1, h2⟩ := h i (by omega)
      simp only [actF, Bool.and_eq_true, decide_eq_true_eq, Bool.not_eq_true'] at ha
      exact ⟨i, by omega, by rw [h1]; exact ha.1, by rw [h2]; exact ha.2⟩

set_option maxHeartbeats 2000000 in
set_option maxRecDepth 100000 in
theorem order_walk (A : Option Addr) (len cap : Nat) (f : Nat → Nat → Int) (w : World) (hlen : len ≤ maxLen) (hr : Ints w A len 3 f) :
    Calls Try.prog 3 #[.slice A len cap] w (Tells w true) := by
  unfold maxLen at hlen
  by_cases h1 : len > 250
  · go_enter Try.func3, Try.ntmps3
    go_wp2_with fail
    refine (awake25_c _).mono ?_
    rintro e w1 ⟨rfl, hb⟩
    go_wp2_with fail
    go_ret
    exact ⟨rfl, hb⟩
  · have Hr := Lib.hid hr
    clear hr
    generalize hB : w.heap.size = B at *
    have hmk1 : ∀ w, (Instr.makeSlice 29 (.int .i64 9) (.int .i64 9)).run Try.prog w = .ok (.slice (some ⟨w.heap.size, 0, none⟩) 9 9) (w.alloc (.cells (Array.replicate 9 (.slice none 0 0)) 36)) := fun _ => by kernel_rfl
    have hmk2 : ∀ w, (Instr.makeSlice 30 (.int .i64 9) (.int .i64 9)).run Try.prog w = .ok (.slice (some ⟨w.heap.size, 0, none⟩) 9 9) (w.alloc (.cells (Array.replicate 9 (.bool false)) 4)) := fun _ => by kernel_rfl
    obtain ⟨hst, s1, s2⟩ := OrdM.start w hB rfl rfl rfl
    have Hst := Lib.hid hst
    clear hst
    go_enter Try.func3, Try.ntmps3
    go_wp2_with fail
    go_loopw [6] (fun i wr => ∃ (k : Nat) (ad : Int → Option Nat) (st : Int → FS) (S : Nat → Prop), k ≤ 9 ∧ i = .int .i64 k ∧ SetsO ad st k ∧ OrdM w B S ad st [] k (fun _ => []) (fun _ => false) (fun _ => .slice none 0 0) wr) (fun i _ => 9 - (intOf i).toNat)
    case atStart => exact ⟨0, _, _, _, by omega, rfl, ⟨fun n h0 hk => by omega, fun n _ => rfl⟩, Hst.out⟩
    case round =>
      obtain ⟨k, ad, st, S, hk, rfl, hS, hM⟩ := hrel
      by_cases hlt : k < 9
      · have C := hM.set_ (n := k) (q := 300 + 100 * k) (by omega) (by omega) (by omega) (by omega) (by omega)
        have D := Lib.hid C
        have HS := Lib.hid hS
        have w1 : IntKind.i64.wrap (100 * (k : Int)) = 100 * (k : Int) := by rw [IntKind.wrap_i64]; omega
        have w2 : IntKind.i64.wrap (300 + 100 * (k : Int)) = 300 + 100 * (k : Int) := by rw [IntKind.wrap_i64]; omega
        clear C hS hM
        go_wp2_with fail
        refine D.out.mono ?_
        rintro e w3 ⟨rfl, ad', S', e1, e2, hM3⟩
        have HM3 := Lib.hid hM3
        have HS3 := Lib.hid (HS.out.next e1 e2)
        clear hM3
        go_wp2_with fail
        go_roundw
        case rel => exact ⟨k + 1, _, _, _, by omega, by go_num, HS3.out, HM3.out⟩
        case measure => simp [intOf]; omega
      · obtain rfl : k = 9 := by omega
        obtain ⟨hF, had, hL⟩ := hS.fair
        have HF := Lib.hid hF
        have Had := Lib.hid had
        have HL := Lib.hid hL
        have HM := Lib.hid hM
        clear hF had hS hM hL Hst
        go_wp2_with fail
        go_loopw [7] (fun i wr => ∃ (k : Nat) (st : Int → FS) (row : List Int) (N : Nat) (S : Nat → Prop) (C : Nat → List Int) (R : Nat → Bool) (cm : Nat → Value), k ≤ len ∧ i = .int .i64 k ∧ FairQ Q3 st row ∧ N ≤ 9 + k ∧ Lk st C R ∧ OrdM w B S ad st row N C R cm wr) (fun i _ => len - (intOf i).toNat)
        case atStart => exact ⟨0, st, [], 9, S, _, _, _, by omega, rfl, HF.out, by omega, HL.out, HM.out⟩
        case round =>
          obtain ⟨k, st, row, N, S, C, R, cm, hk, rfl, hF, hN, hL, hM⟩ := hrel
          by_cases hlt : k < len
          · obtain ⟨adr, hA, hadb, hcs⟩ := Hr.out k hlt
            obtain ⟨hc0, hk0, hk1⟩ := hcs 0 (by omega)
            obtain ⟨hc1, hf0, hf1⟩ := hcs 1 (by omega)
            obtain ⟨hc2, hn0, hn1⟩ := hcs 2 (by omega)
            rw [hB] at hadb
            rw [← hM.bel.cell (by rw [cellAt_block]; omega)] at hc0 hc1 hc2
            simp only [cellAt, if_true, Nat.one_ne_zero, if_false, Nat.reduceEqDiff] at hc0 hc1 hc2
            clear hcs
            subst hA
            generalize f k 0 = K at *
            generalize f k 1 = F at *
            generalize f k 2 = n at *
            have HF := Lib.hid hF
            have HL := Lib.hid hL
            have HM := Lib.hid hM
            clear hF hM hL
            obtain ⟨x, hx0, hx9, r9⟩ := umod F 9 (by omega) (by omega)
            obtain ⟨x, rfl⟩ := Int.eq_ofNat_of_zero_le hx0
            have hx : In8 (x : Int) := ⟨hx0, by omega⟩
            have hx9' : x < 9 := by omega
            by_cases hK2 : K = 2
            · subst hK2
              obtain ⟨y, hy0, hy1, r10⟩ := umod n 1040 (by omega) (by omega)
              have r11 : IntKind.i64.wrap (y + 1) = y + 1 := by rw [IntKind.wrap_i64]; omega
              have D := Lib.hid (HM.out.push_ (n := x) (c := y + 1) (by omega) hx0 (by omega) (by omega) (by omega) (Had.out x hx))
              have HF2 := Lib.hid (push_q HF.out hx (c := y + 1) (by omega) (by omega))
              have HL2 := Lib.hid (HL.out.push row hx9' (y + 1))
              go_wp2_with fail
              refine D.out.mono ?_
              rintro e w3 ⟨rfl, S', hM3⟩
              have HM3 := Lib.hid hM3
              have hlen9 : (C x).length ≤ 1000 := by
                obtain ⟨M, rv, cv, hR⟩ := HM.out.ring
                cases hb : ad x with
                | none => exact absurd hb (Had.out x hx)
                | some b => rw [(HL.out x hx9').1]; have := hR.len x b hb; omega
              have q1 := hM3.came.cell hx9'
              have q2 := hM3.came.frozen x
              have hsz3 := hM3.sz
              obtain ⟨A1, c1, hcm, _⟩ := (hM3.win x hx9').form
              have hil : (ints (C x)).length = (C x).length := by simp [ints]
              rw [hil] at hcm
              rw [hcm] at q1
              have Hcm := Lib.hid hcm
              have HMA := Lib.hid (hM3.below ((Below.refl _ _).alloc (Nat.le_refl _) (.cells #[.int .i64 (y + 1)] 3)))
              have hcu : (w3.alloc (.cells #[.int .i64 (y + 1)] 3)).cell? ⟨w3.heap.size, 0, none⟩ = some (.int .i64 (y + 1)) := by simpa using (Blk.new w3 3 #[.int .i64 (y + 1)]).cell 0
              have HCU := Lib.hid hcu
              obtain ⟨i0, hi0, hz0, hz1, hz2⟩ := info_parts info3
              clear hM3 hcm hcu D
              have HWA : Hid (Win (w3.alloc (.cells #[.int .i64 (y + 1)] 3)) (fun k => B ≤ k ∧ ¬ S' k) 3 (.slice A1 (C x).length c1) (ints (C x))) := Lib.hid (by have := HMA.out.win x hx9'; rw [Hcm.out] at this; exact this)
              have hSn : ¬ S' w3.heap.size := fun h => by have := (HM3.out.sB _ h).2; omega
              have HSn := Lib.hid hSn
              clear hSn
              go_wp2_with (at_builtin; refine wpList_append_win _ rfl (.tmp 143) (.tmp 145) 36 rfl 3 i0 _ Try.underlying36 hi0 hz0 hz1 hz2 rfl (v := .slice A1 (C x).length c1) rfl HWA.out ⟨w3.heap.size, 0, none⟩ 1 (.int .i64 (y + 1)) rfl HCU.out rfl ?_ ?_ ?_)
              · rw [hil]; omega
              · refine ⟨by simp; omega, ?_⟩
                intro h
                have g1 := (HM3.out.sB _ h).2
                have g2 : w3.heap.size ≤ (w3.alloc (.cells #[.int .i64 (y + 1)] 3)).heap.size := by simp
                omega
              intro v' w4 hwin hg4 hor
              obtain ⟨A', c', rfl, _⟩ := hwin.form
              have hins : ints (C x) ++ [.int .i64 (y + 1)] = ints (C x ++ [y + 1]) := by simp [ints]
              have hle : (ints (C x) ++ [Value.int .i64 (y + 1)]).length = (C x).length + 1 := by simp [ints]
              rw [hle] at hwin hor
              rw [hins] at hwin
              rw [← Hcm.out] at hg4 hor
              have hSC := HMA.out.setCame hx9' hg4 hwin (fun j hj => by
                rcases hor with h | h
                · exact .inl (h ▸ hj)
                · rw [h] at hj; injection hj with hj; simp at hj ⊢; omega)
              obtain ⟨t1, t2, hM5⟩ := hSC
              rw [← show (ints (C x ++ [y + 1])).length = (C x).length + 1 by simp [ints]] at hM5
              have HM5 := Lib.hid hM5
              clear hM5 hwin hg4 hor q1 q2
              go_wp2_with fail
              go_roundw
              case rel =>
                repeat apply Exists.intro
                exact ⟨⟨k + 1, _, _, N + 1, _, _, _, _, by omega, by go_num, HF2.out, by omega, HL2.out, HM5.out⟩, rfl⟩
              case measure => simp [intOf]; omega
            · have hK2' : (K == 2) = false := by rw [beq_eq_false_iff_ne]; exact hK2
              by_cases hK3 : K = 3
              · subst hK3
                have r12 : IntKind.i64.wrap (n.tmod 2) = n.tmod 2 := by
                  have h0 : -2 < n.tmod 2 := Int.neg_lt_of_neg_lt (by have := Int.tmod_lt_of_pos (-n) (show (0 : Int) < 2 by omega); rw [Int.neg_tmod] at this; omega)
                  have h1 := Int.tmod_lt_of_pos n (show (0 : Int) < 2 by omega)
                  rw [IntKind.wrap_i64]; omega
                generalize hv : (n.tmod 2 != 0) = v at *
                have q3 := HM.out.rests.cell hx9'
                have q4 := HM.out.rests.frozen x
                have HM2 := Lib.hid (HM.out.setRest x v)
                have D := Lib.hid (HM2.out.rest_ (n := x) hx0 (by omega) v (Had.out x hx))
                have HF2 := Lib.hid (rest_q (v := v) HF.out hx)
                have HL2 := Lib.hid (HL.out.rest row hx9' v)
                go_wp2_with fail
                refine D.out.mono ?_
                rintro e w3 ⟨rfl, S', hM3⟩
                have HM3 := Lib.hid hM3
                clear hM3
                go_wp2_with fail
                go_roundw
                case rel =>
                  repeat apply Exists.intro
                  exact ⟨⟨k + 1, _, _, N, _, _, _, _, by omega, by go_num, HF2.out, by omega, HL2.out, HM3.out⟩, rfl⟩
                case measure => simp [intOf]; omega
              · have hK3' : (K == 3) = false := by rw [beq_eq_false_iff_ne]; exact hK3
                have hany := HL.out.any HF.out
                have Hany := Lib.hid hany
                clear hany r9
                go_wp2_with fail
                go_loopw [10, 11] (fun a i wz => ∃ (j : Nat) (G : Bool), j ≤ 9 ∧ i = .int .i64 j ∧ a = .bool G ∧ wz = wr ∧ (G = true ↔ ∃ i : Nat, i < j ∧ 0 < (C i).length ∧ R i = false)) (fun _ i _ => 9 - (intOf i).toNat)
                case atStart => exact ⟨0, false, by omega, rfl, rfl, rfl, ⟨fun h => (by cases h), fun ⟨i, hi, _⟩ => (by omega)⟩⟩
                case round =>
                  obtain ⟨j, G, hj, rfl, rfl, rfl, hG⟩ := hrel
                  by_cases hj9 : j < 9
                  · have q1 := HM.out.came.cell hj9
                    have q2 := HM.out.rests.cell hj9
                    obtain ⟨A1, c1, hcm, _⟩ := (HM.out.win j hj9).form
                    rw [show (ints (C j)).length = (C j).length by simp [ints]] at hcm
                    rw [hcm] at q1
                    have HG := Lib.hid hG
                    have hstep : ∀ b : Bool, (b = true ↔ (G = true ∨ (0 < (C j).length ∧ R j = false))) → (b = true ↔ ∃ i : Nat, i < j + 1 ∧ 0 < (C i).length ∧ R i = false) := by
                      intro b hb
                      rw [hb, hG]
                      constructor
                      · rintro (⟨i, h1, h2⟩ | h)
                        · exact ⟨i, by omega, h2⟩
                        · exact ⟨j, by omega, h⟩
                      · rintro ⟨i, h1, h2⟩
                        by_cases e : i = j
                        · subst e; exact .inr h2
                        · exact .inl ⟨i, by omega, h2⟩
                    have Hstep := Lib.hid hstep
                    clear hcm hG hstep
                    cases G with
                    | true =>
                      go_wp2_with fail
                      go_roundw
                      case rel => exact ⟨j + 1, true, by omega, by go_num, rfl, by first | rfl | trivial, Hstep.out true (by simp)⟩
                      case measure => simp [intOf]; omega
                    | false =>
                      by_cases hl : 0 < (C j).length
                      · cases hRj : R j
                        · rw [hRj] at q2
                          have hb := Hstep.out true (by simp [hl, hRj])
                          have Hb := Lib.hid hb
                          generalize (C j).length = lc at *
                          clear hb
                          go_wp2_with fail
                          go_roundw
                          case rel => exact ⟨j + 1, true, by omega, by go_num, rfl, by first | rfl | trivial, Hb.out⟩
                          case measure => simp [intOf]; omega
                        · rw [hRj] at q2
                          have hb := Hstep.out false (by simp [hRj])
                          have Hb := Lib.hid hb
                          generalize (C j).length = lc at *
                          clear hb
                          go_wp2_with fail
                          go_roundw
                          case rel => exact ⟨j + 1, false, by omega, by go_num, rfl, by first | rfl | trivial, Hb.out⟩
                          case measure => simp [intOf]; omega
                      · have hb := Hstep.out false (by simp [hl])
                        have Hb := Lib.hid hb
                        have hl0 : (C j).length = 0 := by omega
                        rw [hl0] at q1
                        clear hb
                        go_wp2_with fail
                        go_roundw
                        case rel => exact ⟨j + 1, false, by omega, by go_num, rfl, by first | rfl | trivial, Hb.out⟩
                        case measure => simp [intOf]; omega
                  · obtain rfl : j = 9 := by omega
                    have hGr : G = true ↔ row ≠ [] := hG.trans Hany.out
                    cases row with
                    | nil =>
                      have hGf : G = false := by
                        cases G with
                        | false => rfl
                        | true => exact absurd rfl (hGr.1 rfl)
                      subst hGf
                      have D := Lib.hid HM.out.turn0
                      clear hG hGr
                      go_wp2_with fail
                      refine D.out.mono ?_
                      rintro e w' ⟨rfl, rfl⟩
                      go_wp2_with fail
                      go_roundw
                      case rel =>
                        repeat apply Exists.intro
                        exact ⟨⟨k + 1, _, _, N, _, _, _, _, by omega, by go_num, HF.out, by omega, HL.out, HM.out⟩, rfl⟩
                      case measure => simp [intOf]; omega
                    | cons r0 rs =>
                      have hGt : G = true := hGr.2 (by simp)
                      subst hGt
                      have D := Lib.hid (HM.out.turn_ (by omega) HF.out.rowOk (by simp))
                      clear hG hGr
                      go_wp2_with fail
                      refine D.out.mono ?_
                      rintro e w4 ⟨st', row', m, c, S', ht, rfl, hM4⟩
                      obtain ⟨hF', ⟨hm0, hm8⟩, _⟩ := turns_q ht HF.out
                      obtain ⟨hmr, _, _, _⟩ := turns_cs ht
                      have hma := ((HF.out.act m).1 hmr).2
                      obtain ⟨m, rfl⟩ := Int.eq_ofNat_of_zero_le hm0
                      have hm9 : m < 9 := by omega
                      have hR : R m = false := by
                        rw [(HL.out m hm9).2]
                        simp only [actF, Bool.and_eq_true, Bool.not_eq_true'] at hma
                        exact hma.2
                      obtain ⟨hL', hC⟩ := HL.out.turn hm9 ht
                      have q2 := hM4.rests.cell hm9
                      rw [hR] at q2
                      have q1 := hM4.came.cell hm9
                      have hwm := hM4.win m hm9
                      have hints : ints (C m) = .int .i64 c :: ints (st' m).cs := by rw [hC]; rfl
                      rw [hints] at hwm
                      obtain ⟨gc, oc, cp, hcv, _, hcp, hcell⟩ := hwm.at_ (by simp)
                      have hl : (Value.int .i64 c :: ints (st' m).cs).length = (st' m).cs.length + 1 := by simp [ints]
                      rw [hl] at hcv hcp
                      have hcc := (hcell 0 (by simp)).1
                      simp only [Nat.add_zero, List.getElem?_cons_zero] at hcc
                      rw [hcv] at q1
                      have htl := Win.tail (hcv ▸ hwm)
                      rw [show (ints (st' m).cs).length = (st' m).cs.length by simp [ints]] at htl
                      simp only [Option.map_some, add_lit] at htl
                      obtain ⟨ht1, ht2⟩ := htl
                      have hSC := hM4.setCame hm9 (World.grownBy.refl _ _) ht1 (fun k hk => .inl (by rw [hcv]; rw [← ht2]; exact hk))
                      obtain ⟨z1, z2, hM5⟩ := hSC
                      clear z1
                      have HM5 := Lib.hid hM5
                      have HF' := Lib.hid hF'
                      have HL' := Lib.hid hL'
                      have hsz4 := hM4.sz
                      clear hM4 hF' hL' hcv hwm hcell ht1 ht2 hM5 hC hints hmr hma D
                      generalize (st' m).cs.length = lc at *
                      by_cases hcp1 : cp = 1
                      · have hlc : lc = 0 := by omega
                        subst hcp1
                        subst hlc
                        have hM6 := HM5.out
                        simp only [if_true, Nat.sub_self] at hM6
                        have HM6 := Lib.hid hM6
                        clear hM6
                        go_wp2_with fail
                        go_roundw
                        case rel =>
                          repeat apply Exists.intro
                          exact ⟨⟨k + 1, _, _, N, _, _, _, _, by omega, by go_num, HF'.out, by omega, HL'.out, HM6.out⟩, rfl⟩
                        case measure => simp [intOf]; omega
                      · have hM6 := HM5.out
                        simp only [if_neg hcp1] at hM6
                        have HM6 := Lib.hid hM6
                        clear hM6
                        have hlc1 : ((lc : Int) + 1 == 0) = false := by rw [beq_eq_false_iff_ne]; omega
                        go_wp2_with fail
                        go_roundw
                        case rel =>
                          repeat apply Exists.intro
                          exact ⟨⟨k + 1, _, _, N, _, _, _, _, by omega, by go_num, HF'.out, by omega, HL'.out, HM6.out⟩, rfl⟩
                        case measure => simp [intOf]; omega
          · go_wp2_with fail
            refine (awake25_c _).mono ?_
            rintro e w3 ⟨rfl, hb3⟩
            go_wp2_with fail
            go_ret
            have := hM.sz
            subst hB
            exact ⟨rfl, below_step hM.bel (Nat.le_refl _) hb3⟩
end Go.Proofs.Ytaenlieajlfkdaa
