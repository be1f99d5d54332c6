/- The walk of FeedPieces: it tells true. -/
import Derived.Test.YthifnnogpcgjpaaFTells
namespace Go.Proofs.Ythifnnogpcgjpaa
open Go.RowKit
set_option linter.unusedSimpArgs false
set_option linter.unusedVariables false

theorem extract_snoc (p : ByteArray) (k : Nat) (h : k < p.size) : p.extract 0 k ++ p.extract k (k + 1) = p.extract 0 (k + 1) := by
  apply ByteArray.ext
  rw [ByteArray.data_append, ByteArray.data_extract, ByteArray.data_extract, ByteArray.data_extract]
  apply Array.ext'
  simp only [Array.toList_append, Array.toList_extract, List.extract_eq_take_drop, List.drop_zero, Nat.sub_zero]
  rw [show k + 1 - k = 1 by omega, List.take_add]

/-- A feed's state behind the bytes c, and the row of the frames it told. -/
structure Side (wr : World) (B g : Nat) (c : ByteArray) (v : Value) : Prop where
  fd : Fd wr g (parse c).2.1 (parse c).2.2
  own : wr.ownsRow B 23 3 v (parse c).1.length (cellsF (parse c).1)

/-- Behind some pieces: c went into f, d into g, byte by byte. -/
structure Pcs (G : Nat) (w : World) (c d : ByteArray) (v1 v2 : Value) (wr : World) : Prop where
  s1 : Side wr (G + 3) G c v1
  s2 : Side wr (G + 3) (G + 1) d v2
  fd3 : Fd wr (G + 2) ⟨#[]⟩ 0
  bel : Below G w wr
  ne : ∀ k, v1.ownBlock = some k → v2.ownBlock ≠ some k

theorem Side.push {wr w2 w3 : World} {B g : Nat} {c p : ByteArray} {v v3 : Value} (h : Side wr B g c v) (hgB : g < B)
    (hf2 : Fd w2 g (pushL (parse c).2.1 (parse c).2.2 p).2.1 (pushL (parse c).2.1 (parse c).2.2 p).2.2) (hg2 : wr.grownBy w2 (some g))
    (hown3 : w3.ownsRow B 23 3 v3 ((parse c).1.length + (pushL (parse c).2.1 (parse c).2.2 p).1.length) (cellsF (parse c).1 ++ cellsF (pushL (parse c).2.1 (parse c).2.2 p).1))
    (hg3 : w2.grownBy w3 v.ownBlock) : Side w3 B g (c ++ p) v3 := by
  refine ⟨?_, ?_⟩
  · rw [parse_app]
    exact Blk.grown hf2 hg3 (fun e => by have := (h.own.lt g e.symm).1; omega)
  · rw [parse_app, cellsF_append, List.length_append]
    exact hown3
theorem Side.other {wr w2 w3 : World} {B g g' : Nat} {c : ByteArray} {v v' : Value} (h : Side wr B g c v) (hgB : g < B) (hgB' : g' < B) (hne : g ≠ g') (hg2 : wr.grownBy w2 (some g'))
    (hv' : ∀ k, v'.ownBlock = some k → B ≤ k) (hvv : ∀ k, v'.ownBlock = some k → v.ownBlock ≠ some k) (hg3 : w2.grownBy w3 v'.ownBlock) : Side w3 B g c v := by
  refine ⟨?_, ?_⟩
  · exact Blk.grown (Blk.grown h.fd hg2 (by simp; omega)) hg3 (fun e => by have := hv' g e.symm; omega)
  · refine (own_grown h.own hg2 hgB').kept hg3 ?_
    cases hv : v.ownBlock with
    | none => exact .inl rfl
    | some k => exact .inr fun e => hvv k e.symm hv

theorem Pcs.push1 {G : Nat} {w wr w2 w3 : World} {c d p : ByteArray} {v1 v2 v3 : Value} (h : Pcs G w c d v1 v2 wr) (hG : w.heap.size = G) (hs : G + 3 ≤ wr.heap.size)
    (hf2 : Fd w2 G (pushL (parse c).2.1 (parse c).2.2 p).2.1 (pushL (parse c).2.1 (parse c).2.2 p).2.2) (hg2 : wr.grownBy w2 (some G))
    (hown3 : w3.ownsRow (G + 3) 23 3 v3 ((parse c).1.length + (pushL (parse c).2.1 (parse c).2.2 p).1.length) (cellsF (parse c).1 ++ cellsF (pushL (parse c).2.1 (parse c).2.2 p).1))
    (hg3 : w2.grownBy w3 v1.ownBlock) (hv : v3.ownBlock = v1.ownBlock ∨ v3.ownBlock = some w2.heap.size) : Pcs G w (c ++ p) d v3 v2 w3 := by
  have hb1 : ∀ k, v1.ownBlock = some k → G + 3 ≤ k := fun k e => (h.s1.own.lt k e).1
  have hs2 := hg2.size
  refine ⟨h.s1.push (by omega) hf2 hg2 hown3 hg3, h.s2.other (by omega) (by omega) (by omega) hg2 hb1 h.ne hg3, ?_, ?_, ?_⟩
  · exact Blk.grown (Blk.grown h.fd3 hg2 (by simp)) hg3 (fun e => by have := hb1 _ e.symm; omega)
  · exact (below_only h.bel hg2 (by omega) (Nat.le_refl _)).grown hg3 (by omega) (fun k hk => by have := hb1 k hk; omega)
  · intro k hk e
    rcases hv with hv | hv
    · exact h.ne k (hv ▸ hk) e
    · have := (h.s2.own.lt k e).2
      rw [hv] at hk
      injection hk with hk
      omega
theorem Pcs.push2 {G : Nat} {w wr w2 w3 : World} {c d p : ByteArray} {v1 v2 v3 : Value} (h : Pcs G w c d v1 v2 wr) (hG : w.heap.size = G) (hs : G + 3 ≤ wr.heap.size)
    (hf2 : Fd w2 (G + 1) (pushL (parse d).2.1 (parse d).2.2 p).2.1 (pushL (parse d).2.1 (parse d).2.2 p).2.2) (hg2 : wr.grownBy w2 (some (G + 1)))
    (hown3 : w3.ownsRow (G + 3) 23 3 v3 ((parse d).1.length + (pushL (parse d).2.1 (parse d).2.2 p).1.length) (cellsF (parse d).1 ++ cellsF (pushL (parse d).2.1 (parse d).2.2 p).1))
    (hg3 : w2.grownBy w3 v2.ownBlock) (hv : v3.ownBlock = v2.ownBlock ∨ v3.ownBlock = some w2.heap.size) : Pcs G w c (d ++ p) v1 v3 w3 := by
  have hb1 : ∀ k, v2.ownBlock = some k → G + 3 ≤ k := fun k e => (h.s2.own.lt k e).1
  have hs2 := hg2.size
  refine ⟨h.s1.other (by omega) (by omega) (by omega) hg2 hb1 (fun k e e' => h.ne k e' e) hg3, h.s2.push (by omega) hf2 hg2 hown3 hg3, ?_, ?_, ?_⟩
  · exact Blk.grown (Blk.grown h.fd3 hg2 (by simp)) hg3 (fun e => by have := hb1 _ e.symm; omega)
  · exact (below_only h.bel hg2 (by omega) (by omega)).grown hg3 (by omega) (fun k hk => by have := hb1 k hk; omega)
  · intro k hk e
    rcases hv with hv | hv
    · exact h.ne k hk (hv ▸ e)
    · have := (h.s1.own.lt k hk).2
      rw [hv] at e
      injection e with e
      omega
theorem Side.below {wr w' : World} {B g : Nat} {c : ByteArray} {v : Value} (h : Side wr B g c v) (hb : Below wr.heap.size wr w') : Side w' B g c v :=
  ⟨Blk.below h.fd hb (Blk.lt h.fd), own_below h.own hb⟩
theorem Side.kept {wr w' : World} {B g g' : Nat} {c : ByteArray} {v : Value} (h : Side wr B g c v) (hg : wr.grownBy w' (some g')) (hne : g ≠ g') (hgB : g' < B) : Side w' B g c v :=
  ⟨Blk.grown h.fd hg (by simp; omega), own_grown h.own hg hgB⟩
theorem extract_zero (c p : ByteArray) : c ++ p.extract 0 0 = c := by
  have : p.extract 0 0 = ByteArray.empty := by
    apply ByteArray.ext
    rw [ByteArray.data_extract]
    simp
  rw [this, ByteArray.append_empty]
theorem extract_whole (p : ByteArray) : p.extract 0 p.size = p := ByteArray.extract_zero_size
theorem nil_app (c : ByteArray) : (⟨#[]⟩ : ByteArray) ++ c = c := ByteArray.empty_append
theorem Pcs.start {w w1 w2 : World} {G : Nat} (hG : w.heap.size = G) (h1 : w.alloc (.cells #[.string ⟨#[]⟩, .int .i64 0] 50) = w1) (h2 : w1.alloc (.cells #[.string ⟨#[]⟩, .int .i64 0] 50) = w2) :
    Pcs G w ⟨#[]⟩ ⟨#[]⟩ (.slice none 0 0) (.slice none 0 0) (w2.alloc (.cells #[.string ⟨#[]⟩, .int .i64 0] 50)) ∧ w1.heap.size = G + 1 ∧ w2.heap.size = G + 2 := by
  have s1 : w1.heap.size = G + 1 := by rw [← h1]; simp; omega
  have s2 : w2.heap.size = G + 2 := by rw [← h2]; simp; omega
  have b0 : Blk w1 G 50 #[.string ⟨#[]⟩, .int .i64 0] := by rw [← h1, ← hG]; exact Blk.new _ _ _
  have b1 : Blk w2 (G + 1) 50 #[.string ⟨#[]⟩, .int .i64 0] := by rw [← h2, ← s1]; exact Blk.new _ _ _
  have b0' : Blk w2 G 50 #[.string ⟨#[]⟩, .int .i64 0] := by rw [← h2]; exact b0.alloc _
  refine ⟨⟨⟨?_, ?_⟩, ⟨?_, ?_⟩, ?_, ?_, ?_⟩, s1, s2⟩
  · rw [parse_nil]; exact b0'.alloc _
  · rw [parse_nil]; exact World.ownsRow_nil _ _ _ _
  · rw [parse_nil]; exact b1.alloc _
  · rw [parse_nil]; exact World.ownsRow_nil _ _ _ _
  · rw [← s2]; exact Blk.new _ _ _
  · rw [← h2, ← h1]
    exact (((Below.refl _ _).alloc (by omega) _).alloc (by simp; omega) _).alloc (by simp; omega) _
  · intro k hk; cases hk

set_option maxHeartbeats 2000000 in
set_option maxRecDepth 100000 in
theorem feedPieces_walk (A : Option Addr) (n cap : Nat) (f : Nat → ByteArray) (w : World) (hn : n ≤ maxLen) (_hc : n ≤ cap) (hr : Strs w A n f) :
    Calls Try.prog 7 #[.slice A n cap] w (Tells w true) := by
  have M := much_c w A n cap f hn hr
  unfold maxLen at hn
  have Hr := Lib.hid hr
  have HM := Lib.hid M
  clear hr M
  obtain ⟨i0, hi0, hz0, hz1, hz2⟩ := info_parts info23
  go_enter Try.func7, Try.ntmps7
  go_wp2_with fail
  refine HM.out.mono ?_
  rintro e w' ⟨rfl, m, rfl, hm⟩
  cases m with
  | true =>
    go_wp2_with fail
    refine (awake6_c _).mono ?_
    rintro e w1 ⟨rfl, hb⟩
    go_wp2_with fail
    go_ret
    exact ⟨rfl, hb⟩
  | false =>
    obtain ⟨hn200, htot⟩ := hm rfl
    clear hm HM
    generalize hG : w.heap.size = G at *
    go_wp2_with fail
    refine (new_c _).mono ?_
    rintro e w1 ⟨rfl, hw1⟩
    go_wp2_with fail
    refine (new_c _).mono ?_
    rintro e w2 ⟨rfl, hw2⟩
    obtain ⟨hP, s1, s2⟩ := Pcs.start hG hw1 hw2
    have HP := Lib.hid hP
    have s3 : G + 3 ≤ (w2.alloc (.cells #[.string ⟨#[]⟩, .int .i64 0] 50)).heap.size := by simp; omega
    clear hP hw1 hw2
    go_wp2_with fail
    try rw [s1]
    try rw [s2]
    go_loopw [6, 7, 8, 9] (fun s v1 v2 i wr => ∃ (k : Nat) (c : ByteArray), k ≤ n ∧ i = .int .i64 k ∧ s = .string c ∧ c.size = cum f k ∧ Pcs G w c c v1 v2 wr ∧ G + 3 ≤ wr.heap.size) (fun _ _ _ i _ => n - (intOf i).toNat)
    case atStart => exact ⟨0, ⟨#[]⟩, by omega, rfl, rfl, rfl, HP.out, s3⟩
    case round =>
      obtain ⟨k, c, hk, rfl, rfl, hcs, hP, hGl⟩ := hrel
      by_cases hlt : k < n
      · obtain ⟨hsz, ad, hA, hadb, hc0⟩ := Hr.out k hlt
        have hcum : cum f (k + 1) = cum f k + (f k).size := rfl
        have hcle := cum_le f (show k + 1 ≤ n by omega)
        rw [hG] at hadb
        have hc1 := hc0
        rw [← hP.bel.cell (by rw [block_of_add]; omega)] at hc0
        subst hA
        generalize f k = p at *
        have hcp : (c ++ p).size = cum f (k + 1) := by rw [ByteArray.size_append]; omega
        have hpl := parse_len c
        have hpl2 := parse_len (c ++ p)
        have hrest := parse_rest c
        have C1 := push_any wr G (parse c).2.1 p (parse c).2.2 hP.s1.fd (by omega)
        have hpa : (parse (c ++ p)).1.length = (parse c).1.length + (pushL (parse c).2.1 (parse c).2.2 p).1.length := by rw [parse_app, List.length_append]
        have HP := Lib.hid hP
        have D1 := Lib.hid C1
        have hl1 : 4 * (parse c).1.length ≤ 20000 := by omega
        have hl2 : 4 * ((parse c).1.length + (pushL (parse c).2.1 (parse c).2.2 p).1.length) ≤ 20000 := by omega
        clear C1 hP hpl hpl2 hpa
        go_wp2_with fail
        refine D1.out.mono ?_
        rintro e w2 ⟨vp, rfl, hown2, hf2, hg2⟩
        have hs2 := hg2.size
        obtain ⟨A2, c2, rfl, _⟩ := own_form hown2
        have Hown2 := Lib.hid hown2
        have Hf2 := Lib.hid hf2
        have Hg2 := Lib.hid hg2
        have hvo := own_grown HP.out.s1.own hg2 (by omega)
        have Hvo := Lib.hid hvo
        clear hown2 hf2 hg2 hvo
        go_wp2_with (at_builtin; refine wpList_append_any _ rfl (.tmp 31) (.tmp 37) _ rfl (G + 3) 23 i0 _ 3 32 Try.underlying42 hi0 hz0 hz1 hz2 rfl (by omega) _ (parse c).1.length (cellsF (parse c).1) rfl ?_ w2.heap.size A2 (pushL (parse c).2.1 (parse c).2.2 p).1.length c2 (cellsF (pushL (parse c).2.1 (parse c).2.2 p).1) rfl ?_ ?_ ?_ ?_ ?_ ?_)
        · exact Hvo.out
        · exact Reads.of_own Hown2.out
        · exact cellsF_one _
        · unfold maxLen; omega
        · omega
        · omega
        intro v3 w3 hown3 hg3 hor
        have hs3 := hg3.size
        have hP2 := HP.out.push1 hG hGl Hf2.out Hg2.out hown3 hg3 hor
        have HP2 := Lib.hid hP2
        clear hP2 hown3 hg3 hor Hown2 Hf2 Hg2 Hvo D1 HP hc0
        go_wp2_with fail
        go_loopw [8, 10] (fun v2 i wr => ∃ (kk : Nat), kk ≤ p.size ∧ i = .int .i64 kk ∧ Pcs G w (c ++ p) (c ++ p.extract 0 kk) v3 v2 wr ∧ G + 3 ≤ wr.heap.size) (fun _ i _ => p.size - (intOf i).toNat)
        case atStart => exact ⟨0, by omega, rfl, by rw [extract_zero]; exact HP2.out, by omega⟩
        case round =>
          obtain ⟨kk, hkk, rfl, hP, hGl4⟩ := hrel
          have hc2 := hc1
          rw [← hP.bel.cell (by rw [block_of_add]; omega)] at hc2
          by_cases hlt4 : kk < p.size
          · have hsn := extract_snoc p kk hlt4
            have hdz : (c ++ p.extract 0 kk).size = c.size + kk := by rw [ByteArray.size_append, ByteArray.size_extract]; omega
            have hqz : (p.extract kk (kk + 1)).size = 1 := by rw [ByteArray.size_extract]; omega
            have hpl := parse_len (c ++ p.extract 0 kk)
            have hpl2 := parse_len ((c ++ p.extract 0 kk) ++ p.extract kk (kk + 1))
            have hdz2 : ((c ++ p.extract 0 kk) ++ p.extract kk (kk + 1)).size = c.size + kk + 1 := by rw [ByteArray.size_append]; omega
            have hdq : (c ++ p.extract 0 kk) ++ p.extract kk (kk + 1) = c ++ p.extract 0 (kk + 1) := by rw [ByteArray.append_assoc, hsn]
            have hrest := parse_rest (c ++ p.extract 0 kk)
            have C4 := push_any wr (G + 1) (parse (c ++ p.extract 0 kk)).2.1 (p.extract kk (kk + 1)) (parse (c ++ p.extract 0 kk)).2.2 hP.s2.fd (by omega)
            have hpa : (parse ((c ++ p.extract 0 kk) ++ p.extract kk (kk + 1))).1.length = (parse (c ++ p.extract 0 kk)).1.length + (pushL (parse (c ++ p.extract 0 kk)).2.1 (parse (c ++ p.extract 0 kk)).2.2 (p.extract kk (kk + 1))).1.length := by rw [parse_app, List.length_append]
            generalize c ++ p.extract 0 kk = d at *
            have HP4 := Lib.hid hP
            have D4 := Lib.hid C4
            have Hdq := Lib.hid hdq
            have hl3 : 4 * (parse d).1.length ≤ 20000 := by omega
            have hl4 : 4 * ((parse d).1.length + (pushL (parse d).2.1 (parse d).2.2 (p.extract kk (kk + 1))).1.length) ≤ 20000 := by omega
            clear C4 hP hpl hpl2 hpa hdq hsn
            have hdec : decide (kk < p.size) = true := decide_eq_true hlt4
            have hkp : kk ≤ kk + 1 ∧ kk + 1 ≤ p.size := ⟨by omega, by omega⟩
            obtain ⟨hkp1, hkp2⟩ := hkp
            go_wp2_with fail
            refine D4.out.mono ?_
            rintro e w5 ⟨vp, rfl, hown2, hf2, hg2⟩
            have hs5 := hg2.size
            obtain ⟨A2, c2, rfl, _⟩ := own_form hown2
            have Hown2 := Lib.hid hown2
            have Hf2 := Lib.hid hf2
            have Hg2 := Lib.hid hg2
            have hvo := own_grown HP4.out.s2.own hg2 (by omega)
            have Hvo := Lib.hid hvo
            clear hown2 hf2 hg2 hvo
            go_wp2_with (at_builtin; refine wpList_append_any _ rfl (.tmp 48) (.tmp 58) _ rfl (G + 3) 23 i0 _ 3 32 Try.underlying42 hi0 hz0 hz1 hz2 rfl (by omega) _ (parse d).1.length (cellsF (parse d).1) rfl ?_ w5.heap.size A2 (pushL (parse d).2.1 (parse d).2.2 (p.extract kk (kk + 1))).1.length c2 (cellsF (pushL (parse d).2.1 (parse d).2.2 (p.extract kk (kk + 1))).1) rfl ?_ ?_ ?_ ?_ ?_ ?_)
            · exact Hvo.out
            · exact Reads.of_own Hown2.out
            · exact cellsF_one _
            · unfold maxLen; omega
            · omega
            · omega
            intro v5 w6 hown5 hg5 hor5
            have hs6 := hg5.size
            have hP5 := HP4.out.push2 hG hGl4 Hf2.out Hg2.out hown5 hg5 hor5
            rw [Hdq.out] at hP5
            have HP5 := Lib.hid hP5
            clear hP5 hown5 hg5 hor5 Hown2 Hf2 Hg2 Hvo D4 HP4
            go_wp2_with fail
            go_roundw
            case rel => exact ⟨kk + 1, by omega, by go_num, HP5.out, by omega⟩
            case measure => simp [intOf]; omega
          · obtain rfl : kk = p.size := by omega
            rw [extract_whole] at hP
            have HP4 := Lib.hid hP
            clear hP
            go_wp2_with fail
            go_roundw
            case rel => exact ⟨k + 1, c ++ p, by omega, by go_num, rfl, hcp, HP4.out, by omega⟩
            case measure => simp [intOf]; omega
      · have hk : k = n := by omega
        subst hk
        have C1 := push_c wr (G + 2) ⟨#[]⟩ c hP.fd3 (by show 0 + c.size ≤ 1048576; omega)
        rw [nil_app] at C1
        have hpl := parse_len c
        have hrest := parse_rest c
        have HP := Lib.hid hP
        have D1 := Lib.hid C1
        have hrl : decide (((parse c).2.1.size : Int) < 1028) = true := by rw [decide_eq_true_eq]; omega
        clear C1 hP
        go_wp2_with fail
        refine D1.out.mono ?_
        rintro e w2 ⟨v3, rfl, hown2, hf2, hg2⟩
        have hs2 := hg2.size
        have h1 := HP.out.s1.kept hg2 (by omega) (by omega)
        have h2 := HP.out.s2.kept hg2 (by omega) (by omega)
        have hbel2 := below_only HP.out.bel hg2 (by omega) (by omega)
        have H1 := Lib.hid h1
        have H2 := Lib.hid h2
        have Hown2 := Lib.hid hown2
        have Hf2 := Lib.hid hf2
        have Hbel2 := Lib.hid hbel2
        clear h1 h2 hown2 hf2 hg2 hbel2 HP D1
        go_wp2_with fail
        refine (same_c w2 _ _ _ _ _ H1.out.own Hown2.out (by omega)).mono ?_
        rintro e w3 ⟨rfl, hb3⟩
        have hs3 := hb3.size
        have HO3 := Lib.hid (own_below Hown2.out hb3)
        have HF3 := Lib.hid (Blk.below Hf2.out hb3 (Blk.lt Hf2.out))
        have H13 := Lib.hid (H1.out.below hb3)
        have H23 := Lib.hid (H2.out.below hb3)
        have Hbel3 := Lib.hid (below_step Hbel2.out (by omega) hb3)
        clear hb3 Hown2 Hf2 H1 H2 Hbel2
        go_wp2_with fail
        refine (same_c w3 _ _ _ _ _ H23.out.own HO3.out (by omega)).mono ?_
        rintro e w4 ⟨rfl, hb4⟩
        have hs4 := hb4.size
        have f3 := Blk.below HF3.out hb4 (Blk.lt HF3.out)
        have f1 := (H13.out.below hb4).fd
        have f2 := (H23.out.below hb4).fd
        have Hbel4 := Lib.hid (below_step Hbel3.out (by omega) hb4)
        have F1 := Lib.hid f1
        have F2 := Lib.hid f2
        have F3 := Lib.hid f3
        clear f1 f2 f3 hb4 HO3 HF3 H13 H23 Hbel3
        go_wp2_with fail
        refine (broken_c _ _ _ _ F1.out).mono ?_
        rintro e w' ⟨rfl, rfl⟩
        go_wp2_with fail
        refine (broken_c _ _ _ _ F3.out).mono ?_
        rintro e w' ⟨rfl, rfl⟩
        go_wp2_with fail
        refine (broken_c _ _ _ _ F2.out).mono ?_
        rintro e w' ⟨rfl, rfl⟩
        go_wp2_with fail
        refine (broken_c _ _ _ _ F3.out).mono ?_
        rintro e w' ⟨rfl, rfl⟩
        go_wp2_with fail
        refine (waits_c _ _ _ _ F1.out).mono ?_
        rintro e w' ⟨rfl, rfl⟩
        go_wp2_with fail
        refine (waits_c _ _ _ _ F3.out).mono ?_
        rintro e w' ⟨rfl, rfl⟩
        go_wp2_with fail
        refine (waits_c _ _ _ _ F2.out).mono ?_
        rintro e w' ⟨rfl, rfl⟩
        go_wp2_with fail
        refine (waits_c _ _ _ _ F3.out).mono ?_
        rintro e w' ⟨rfl, rfl⟩
        go_wp2_with fail
        refine (waits_c _ _ _ _ F3.out).mono ?_
        rintro e w' ⟨rfl, rfl⟩
        go_wp2_with fail
        refine (awake6_c _).mono ?_
        rintro e w5 ⟨rfl, hb5⟩
        go_wp2_with fail
        go_ret
        exact ⟨rfl, below_step (hG ▸ Hbel4.out) (by omega) hb5⟩
end Go.Proofs.Ythifnnogpcgjpaa
