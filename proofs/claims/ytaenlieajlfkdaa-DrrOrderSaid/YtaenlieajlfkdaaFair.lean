/- The walk of DrrFair: it tells true. -/
import Derived.Test.YtaenlieajlfkdaaFairSpec
import Derived.Laws.Bits64
namespace Go.Proofs.Ytaenlieajlfkdaa
open Go.RowKit Go.Maps
set_option linter.unusedVariables false
set_option linter.unnecessarySimpa false
set_option linter.unusedSimpArgs false

/-- A number brought into bounds by its rest. -/
theorem umod (F m : Int) (hm : 0 < m) (hm2 : m ≤ 1048576) : ∃ x, 0 ≤ x ∧ x < m ∧ IntKind.i64.wrap ((IntKind.u64.wrap F).tmod m) = x := by
  have hu : 0 ≤ IntKind.u64.wrap F := by rw [IntKind.wrap_u64]; omega
  have h0 : 0 ≤ (IntKind.u64.wrap F).tmod m := Int.tmod_nonneg _ hu
  have h1 : (IntKind.u64.wrap F).tmod m < m := Int.tmod_lt_of_pos _ hm
  exact ⟨_, h0, h1, by rw [IntKind.wrap_i64]; omega⟩

/-- While the quanta are set: flows below k are there. -/
structure SetsI (ad : Int → Option Nat) (st : Int → FS) (k : Nat) : Prop where
  yes : ∀ n : Int, 0 ≤ n → n < k → ad n ≠ none ∧ st n = ⟨1040 + 50 * n, 0, [], false, false⟩
  no : ∀ n : Int, k ≤ n → ad n = none
theorem SetsI.next {ad ad' : Int → Option Nat} {st : Int → FS} {k : Nat} (h : SetsI ad st k) (h1 : ∀ m, m ≠ (k : Int) → ad' m = ad m) (h2 : ad' k ≠ none) : SetsI ad' (setF st k (setQ (stOf ad st k) (1040 + 50 * k))) (k + 1) := by
  refine ⟨fun n h0 hk => ?_, fun n hk => ?_⟩
  · by_cases e : n = k
    · subst e
      rw [setF_at]
      have : stOf ad st (k : Int) = zeroF := if_pos (h.no k (Int.le_refl _))
      rw [this]
      refine ⟨h2, ?_⟩
      simp [setQ, zeroF]
      omega
    · rw [setF_ne _ _ e, h1 n e]; exact h.yes n h0 (by omega)
  · rw [h1 n (by omega)]; exact h.no n (by omega)
theorem SetsI.fair {ad : Int → Option Nat} {st : Int → FS} (h : SetsI ad st 9) : FairI st [] ∧ ∀ n, In8 n → ad n ≠ none := by
  refine ⟨⟨fun n hn => ?_, fun m hm => by simp at hm, fun n => ?_, List.nodup_nil⟩, fun n hn => (h.yes n hn.1 (by have := hn.2; omega)).1⟩
  · obtain ⟨h0, h8⟩ := hn
    rw [(h.yes n h0 (by omega)).2]
    exact ⟨rfl, Int.le_refl _, by show (0 : Int) ≤ 1040 + 50 * n + 1040; omega, fun h => by simp at h, fun c hc => by simp at hc⟩
  · constructor
    · intro h; simp at h
    · rintro ⟨⟨h0, h8⟩, ha⟩
      rw [(h.yes n h0 (by omega)).2] at ha
      simp [actF] at ha

theorem mem_tail_get : ∀ {l : List Int} {j : Nat} (h : j < l.length), 0 < j → l[j] ∈ l.tail
  | [], _, h, _ => by simp at h
  | a :: l, 0, _, h0 => by omega
  | a :: l, j + 1, h, _ => by
    simp only [List.getElem_cons_succ, List.tail_cons]
    exact List.getElem_mem _

set_option maxHeartbeats 2000000 in
set_option maxRecDepth 100000 in
theorem fair_walk (A : Option Addr) (len cap : Nat) (f : Nat → Nat → Int) (w : World) (hlen : len ≤ maxLen) (hr : Ints w A len 3 f) :
    Calls Try.prog 4 #[.slice A len cap] w (Tells w true) := by
  unfold maxLen at hlen
  by_cases h1 : len > 250
  · go_enter Try.func4, Try.ntmps4
    go_wp2_with fail
    refine (awake25_c _).mono ?_
    rintro e w1 ⟨rfl, hb⟩
    go_wp2_with fail
    go_ret
    exact ⟨rfl, hb⟩
  · have Hr := Lib.hid hr
    clear hr
    generalize hB : w.heap.size = B at *
    go_enter Try.func4, Try.ntmps4
    go_wp2_with fail
    refine (newr_c _).mono ?_
    rintro e w1 ⟨rfl, rfl⟩
    have hstart := RB.start w hB
    rw [hB]
    have H0 := Lib.hid hstart
    clear hstart
    generalize w.alloc (.cells #[.map none, .slice none 0 0] 28) = w1 at *
    go_wp2_with fail
    go_loopw [4] (fun i wr => ∃ (k : Nat) (ad : Int → Option Nat) (st : Int → FS), k ≤ 9 ∧ i = .int .i64 k ∧ SetsI ad st k ∧ RB B w B ad st [] k wr) (fun i _ => 9 - (intOf i).toNat)
    case atStart => exact ⟨0, _, _, by omega, rfl, ⟨fun n h0 hk => by omega, fun n _ => rfl⟩, H0.out⟩
    case round =>
      obtain ⟨k, ad, st, hk, rfl, hS, hRB⟩ := hrel
      by_cases hlt : k < 9
      · have C := hRB.set_ (n := k) (q := 1040 + 50 * k) (by omega) (by omega) (by omega) (by omega) (by omega)
        have D := Lib.hid C
        have HS := Lib.hid hS
        have w1 : IntKind.i64.wrap (50 * (k : Int)) = 50 * (k : Int) := by rw [IntKind.wrap_i64]; omega
        have w2 : IntKind.i64.wrap (1040 + 50 * (k : Int)) = 1040 + 50 * (k : Int) := by rw [IntKind.wrap_i64]; omega
        clear C hS hRB
        go_wp2_with fail
        refine D.out.mono ?_
        rintro e w3 ⟨rfl, ad', e1, e2, _, hR3⟩
        have HR3 := Lib.hid hR3
        have HS3 := Lib.hid (HS.out.next e1 e2)
        clear hR3
        go_wp2_with fail
        go_roundw
        case rel => exact ⟨k + 1, _, _, by omega, by go_num, HS3.out, HR3.out⟩
        case measure => simp [intOf]; omega
      · obtain rfl : k = 9 := by omega
        obtain ⟨hF, had⟩ := hS.fair
        have HF := Lib.hid hF
        have Had := Lib.hid had
        have HRB := Lib.hid hRB
        clear hF had hS hRB H0
        go_wp2_with fail
        go_loopw [5] (fun i wr => ∃ (k : Nat) (st : Int → FS) (row : List Int) (N : Nat), k ≤ len ∧ i = .int .i64 k ∧ FairI st row ∧ N ≤ 9 + k ∧ RB B w B ad st row N wr) (fun i _ => len - (intOf i).toNat)
        case atStart => exact ⟨0, st, [], 9, by omega, rfl, HF.out, by omega, HRB.out⟩
        case round =>
          obtain ⟨k, st, row, N, hk, rfl, hF, hN, hRB⟩ := hrel
          by_cases hlt : k < len
          · obtain ⟨adr, hA, hadb, hcs⟩ := Hr.out k hlt
            obtain ⟨hc0, hk0, hk1⟩ := hcs 0 (by omega)
            obtain ⟨hc1, hf0, hf1⟩ := hcs 1 (by omega)
            obtain ⟨hc2, hn0, hn1⟩ := hcs 2 (by omega)
            rw [hB] at hadb
            rw [← hRB.bel.cell (by rw [cellAt_block]; omega)] at hc0 hc1 hc2
            simp only [cellAt, if_true, Nat.one_ne_zero, if_false, Nat.reduceEqDiff] at hc0 hc1 hc2
            clear hcs
            subst hA
            generalize f k 0 = K at *
            generalize f k 1 = F at *
            generalize f k 2 = n at *
            have HF := Lib.hid hF
            have HRB := Lib.hid hRB
            clear hF hRB
            by_cases hK2 : K = 2
            · subst hK2
              obtain ⟨x, hx0, hx9, r9⟩ := umod F 9 (by omega) (by omega)
              obtain ⟨y, hy0, hy1, r10⟩ := umod n 1040 (by omega) (by omega)
              have r11 : IntKind.i64.wrap (y + 1) = y + 1 := by rw [IntKind.wrap_i64]; omega
              have hx : In8 x := ⟨hx0, by omega⟩
              have D := Lib.hid (HRB.out.push_ (n := x) (c := y + 1) (by omega) hx0 (by omega) (by omega) (by omega) (Had.out x hx))
              have HF2 := Lib.hid (push_fair HF.out hx (c := y + 1) (by omega) (by omega))
              go_wp2_with fail
              refine D.out.mono ?_
              rintro e w3 ⟨rfl, hR3⟩
              have HR3 := Lib.hid hR3
              clear hR3
              go_wp2_with fail
              go_roundw
              case rel =>
                repeat apply Exists.intro
                exact ⟨⟨k + 1, _, _, N + 1, by omega, by go_num, HF2.out, by omega, HR3.out⟩, rfl⟩
              case measure => simp [intOf]; omega
            · have hK2' : (K == 2) = false := by rw [beq_eq_false_iff_ne]; exact hK2
              by_cases hK3 : K = 3
              · subst hK3
                obtain ⟨x, hx0, hx9, r9⟩ := umod F 9 (by omega) (by omega)
                have hx : In8 x := ⟨hx0, by omega⟩
                have r12 : IntKind.i64.wrap (n.tmod 2) = n.tmod 2 := by
                  have := Int.emod_two_eq n
                  have h0 : -2 < n.tmod 2 := Int.neg_lt_of_neg_lt (by have := Int.tmod_lt_of_pos (-n) (show (0 : Int) < 2 by omega); rw [Int.neg_tmod] at this; omega)
                  have h1 := Int.tmod_lt_of_pos n (show (0 : Int) < 2 by omega)
                  rw [IntKind.wrap_i64]; omega
                generalize hv : (n.tmod 2 != 0) = v at *
                have D := Lib.hid (HRB.out.rest_ (n := x) hx0 (by omega) v (Had.out x hx))
                have HF2 := Lib.hid (rest_fair (v := v) HF.out hx)
                go_wp2_with fail
                refine D.out.mono ?_
                rintro e w3 ⟨rfl, hR3⟩
                have HR3 := Lib.hid hR3
                clear hR3
                go_wp2_with fail
                go_roundw
                case rel =>
                  repeat apply Exists.intro
                  exact ⟨⟨k + 1, _, _, N, by omega, by go_num, HF2.out, by omega, HR3.out⟩, rfl⟩
                case measure => simp [intOf]; omega
              · have hK3' : (K == 3) = false := by rw [beq_eq_false_iff_ne]; exact hK3
                have CA := Lib.hid HRB.out.active_
                go_wp2_with fail
                refine CA.out.mono ?_
                rintro e w3 ⟨va, rfl, hwa, hba⟩
                obtain ⟨Aa, ca, rfl, _⟩ := hwa.form
                have hla : (ints row).length = row.length := by simp [ints]
                rw [hla] at hwa ⊢
                have HRB3 := Lib.hid (HRB.out.below hba)
                clear hwa hba CA
                cases row with
                | nil =>
                  have CT := Lib.hid HRB3.out.turn0
                  have CA := Lib.hid HRB3.out.active_
                  go_wp2_with fail
                  refine CT.out.mono ?_
                  rintro e w' ⟨rfl, rfl⟩
                  go_wp2_with fail
                  refine CA.out.mono ?_
                  rintro e w4 ⟨vb, rfl, hwb, hbb⟩
                  obtain ⟨Ab, cb, rfl, _⟩ := hwb.form
                  rw [show (ints ([] : List Int)).length = 0 from rfl]
                  have HRB4 := Lib.hid (HRB3.out.below hbb)
                  clear hwb hbb CA CT
                  go_wp2_with fail
                  go_loopw [12] (fun i wr => i = .int .i64 0 ∧ wr = w4) (fun _ _ => 0)
                  case atStart => exact ⟨rfl, rfl⟩
                  case round =>
                    obtain ⟨rfl, rfl⟩ := hrel
                    go_wp2_with fail
                    go_roundw
                    case rel =>
                      repeat apply Exists.intro
                      exact ⟨⟨k + 1, _, _, N, by omega, by go_num, HF.out, by omega, HRB4.out⟩, rfl⟩
                    case measure => simp [intOf]; omega
                | cons r0 rs =>
                  have CT := Lib.hid (HRB3.out.turn_ (by omega) HF.out.rowOk (by simp))
                  have hlp : 0 < (r0 :: rs).length := by simp
                  generalize (r0 :: rs).length = lr at *
                  go_wp2_with fail
                  refine CT.out.mono ?_
                  rintro e w4 ⟨st', row', m, c, ht, rfl, hR4⟩
                  obtain ⟨hF', hm8, hd0⟩ := turns_fair ht HF.out
                  have HF' := Lib.hid hF'
                  have HR4 := Lib.hid hR4
                  have CA := Lib.hid hR4.active_
                  clear hR4 hF' ht CT
                  go_wp2_with fail
                  refine CA.out.mono ?_
                  rintro e w5 ⟨vb, rfl, hwb, hbb⟩
                  obtain ⟨Ab, cb, rfl, hcb, _⟩ := hwb.form
                  have hlb : (ints row').length = row'.length := by simp [ints]
                  rw [hlb] at hwb hcb ⊢
                  have HWb := Lib.hid hwb
                  have HR5 := Lib.hid (HR4.out.below hbb)
                  have hrl9 : row'.length ≤ 9 := by obtain ⟨M, rv, cv, hR⟩ := HR4.out.rg; exact hR.rowlen
                  clear hwb hbb CA HR4 HRB3
                  go_wp2_with fail
                  go_loopw [12] (fun i wr => ∃ j : Nat, j ≤ row'.length ∧ i = .int .i64 j ∧ wr = w5) (fun i _ => row'.length - (intOf i).toNat)
                  case atStart => exact ⟨0, by omega, rfl, rfl⟩
                  case round =>
                    obtain ⟨j, hj, rfl, rfl⟩ := hrel
                    by_cases hjl : j < row'.length
                    · have hx : row'[j]? = some row'[j] := List.getElem?_eq_getElem hjl
                      have hmem : row'[j] ∈ row' := List.getElem_mem hjl
                      have htail : 0 < j → row'[j] ∈ row'.tail := fun h0 => mem_tail_get hjl h0
                      obtain ⟨gb, ob, cb', hvb, _, _, hcell⟩ := HWb.out.at_ (by rw [hlb]; omega)
                      have hcj := (hcell j (by rw [hlb]; omega)).1
                      rw [show (ints row')[j]? = some (.int .i64 row'[j]) by simp [ints, hjl]] at hcj
                      rw [hlb] at hvb
                      injection hvb with hv1 _ hv3
                      subst hv1 hv3
                      generalize row'[j] = p at *
                      obtain ⟨hp8, hpa⟩ := (HF'.out.act p).1 hmem
                      have hfl := HF'.out.fl p hp8
                      have htl := HF'.out.tl p
                      obtain ⟨hp0, hp1⟩ := hp8
                      have hso : stOf ad st' p = st' p := if_neg (Had.out p ⟨hp0, hp1⟩)
                      have CD := HR5.out.deficit_ (n := p) ⟨by omega, by omega⟩
                      rw [hso] at CD
                      have hq := hfl.q
                      have hd0' := hfl.d0
                      have hd1' := hfl.d1
                      have hdt : 0 < j → (st' p).d < 1040 := fun h => htl (htail h)
                      generalize (st' p).d = d at *
                      have D := Lib.hid CD
                      have w1 : IntKind.i64.wrap (50 * p) = 50 * p := by rw [IntKind.wrap_i64]; omega
                      have w2 : IntKind.i64.wrap (1040 + 50 * p) = 1040 + 50 * p := by rw [IntKind.wrap_i64]; omega
                      have w3 : IntKind.i64.wrap (1040 + 50 * p + 1040) = 1040 + 50 * p + 1040 := by rw [IntKind.wrap_i64]; omega
                      have hd9 : ¬ (1040 + 50 * p + 1040 < d) := by omega
                      generalize hlr' : row'.length = lb at *
                      clear CD hfl htl hcell hx hmem htail hpa hso
                      by_cases hj0 : 0 < j
                      · have hdj := hdt hj0
                        go_wp2_with fail
                        refine D.out.mono ?_
                        rintro e w' ⟨rfl, rfl⟩
                        go_wp2_with fail
                        go_roundw
                        case rel => exact ⟨j + 1, by omega, by go_num, by first | rfl | trivial⟩
                        case measure => simp [intOf]; omega
                      · obtain rfl : j = 0 := by omega
                        rw [Nat.add_zero] at hcj
                        go_wp2_with fail
                        refine D.out.mono ?_
                        rintro e w' ⟨rfl, rfl⟩
                        go_wp2_with fail
                        go_roundw
                        case rel => exact ⟨1, by omega, by go_num, by first | rfl | trivial⟩
                        case measure => simp [intOf]; omega
                    · obtain ⟨hm0, hm8'⟩ := hm8
                      have hso : stOf ad st' m = st' m := if_neg (Had.out m ⟨hm0, hm8'⟩)
                      have CW := HR5.out.waits_ (n := m) ⟨by omega, by omega⟩
                      have CD := HR5.out.deficit_ (n := m) ⟨by omega, by omega⟩
                      rw [hso] at CW CD
                      have DW := Lib.hid CW
                      have DD := Lib.hid CD
                      have hfin : Hid (∃ (k1 : Nat) (st1 : Int → FS) (row1 : List Int) (N1 : Nat), k1 ≤ len ∧ (k : Int) + 1 = k1 ∧ FairI st1 row1 ∧ N1 ≤ 9 + k1 ∧ RB B w B ad st1 row1 N1 wr) := Lib.hid ⟨k + 1, st', row', N, by omega, by omega, HF'.out, by omega, HR5.out⟩
                      clear CW CD hso
                      by_cases hcs0 : (st' m).cs = []
                      · have hd00 := hd0 hcs0
                        have hl00 : (st' m).cs.length = 0 := by rw [hcs0]; rfl
                        rw [hl00] at DW
                        rw [hd00] at DD
                        generalize row'.length = lb at *
                        clear hd0
                        go_wp2_with fail
                        refine DW.out.mono ?_
                        rintro e w' ⟨rfl, rfl⟩
                        go_wp2_with fail
                        refine DD.out.mono ?_
                        rintro e w' ⟨rfl, rfl⟩
                        go_wp2_with fail
                        go_roundw
                        case rel =>
                          obtain ⟨k1, st1, row1, N1, q1, q2, q3, q4, q5⟩ := hfin.out
                          repeat apply Exists.intro
                          exact ⟨⟨k1, st1, row1, N1, q1, by go_num, q3, q4, q5⟩, rfl⟩
                        case measure => simp [intOf]; omega
                      · have hl00 : (((st' m).cs.length : Int) == 0) = false := by
                          rw [beq_eq_false_iff_ne]
                          intro e
                          exact hcs0 (List.eq_nil_of_length_eq_zero (by omega))
                        have hl01 : ¬ (st' m).cs.length = 0 := fun e => hcs0 (List.eq_nil_of_length_eq_zero e)
                        generalize (st' m).cs.length = lc at *
                        generalize row'.length = lb at *
                        clear hd0 hcs0
                        go_wp2_with fail
                        refine DW.out.mono ?_
                        rintro e w' ⟨rfl, rfl⟩
                        go_wp2_with fail
                        go_roundw
                        case rel =>
                          obtain ⟨k1, st1, row1, N1, q1, q2, q3, q4, q5⟩ := hfin.out
                          repeat apply Exists.intro
                          exact ⟨⟨k1, st1, row1, N1, q1, by go_num, q3, q4, q5⟩, rfl⟩
                        case measure => simp [intOf]; omega
          · go_wp2_with fail
            refine (awake25_c _).mono ?_
            rintro e w3 ⟨rfl, hb3⟩
            go_wp2_with fail
            go_ret
            subst hB
            exact ⟨rfl, below_step hRB.bel (Nat.le_refl _) hb3⟩
end Go.Proofs.Ytaenlieajlfkdaa
