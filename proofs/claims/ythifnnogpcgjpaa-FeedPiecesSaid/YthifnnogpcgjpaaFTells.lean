/- The walk of FeedTells: it tells true. -/
import Derived.Test.YthifnnogpcgjpaaSame
import Derived.Test.YthifnnogpcgjpaaParseSpec
namespace Go.Proofs.Ythifnnogpcgjpaa
open Go.RowKit
set_option linter.unusedSimpArgs false

theorem push_any (w : World) (g : Nat) (r p : ByteArray) (e : Int) (h : Fd w g r e) (hz : r.size + p.size ≤ 1048576) :
    Calls Try.prog 22 #[.pointer (some ⟨g, 0, none⟩), .string p] w (PushRet w g (pushL r e p).1 (pushL r e p).2.1 (pushL r e p).2.2) := by
  by_cases he : e = 0
  · subst he
    rw [pushL_ok rfl]
    exact push_c w g r p h hz
  · rw [pushL_bad he]
    refine (push_broken w g r p e h he).mono ?_
    rintro x w' ⟨rfl, rfl⟩
    exact ⟨_, rfl, World.ownsRow_nil _ _ _ _, h, only_refl _ _⟩

theorem own_grown {w w' : World} {base e size n g : Nat} {v : Value} {xs : List Value} (h : w.ownsRow base e size v n xs) (hg : w.grownBy w' (some g)) (hgb : g < base) : w'.ownsRow base e size v n xs :=
  h.kept hg (by
    cases hv : v.ownBlock with
    | none => exact .inl rfl
    | some k => exact .inr (by have := (h.lt k hv).1; simp; omega))
theorem own_base {w : World} {base base' e size n : Nat} {v : Value} {xs : List Value} (h : w.ownsRow base e size v n xs) (hb : base' ≤ base) : w.ownsRow base' e size v n xs := by
  refine ⟨h.1, ?_⟩
  rcases h.2 with ⟨a, b⟩ | ⟨g, cap, cur, a, b, c⟩
  · exact .inl ⟨a, b⟩
  · exact .inr ⟨g, cap, cur, a, by omega, c⟩

/-- What holds behind some pieces: c is what came so far. -/
structure Told (G : Nat) (w : World) (c : ByteArray) (v : Value) (wr : World) : Prop where
  fd : Fd wr G (parse c).2.1 (parse c).2.2
  own : wr.ownsRow (G + 1) 23 3 v (parse c).1.length (cellsF (parse c).1)
  bel : Below G w wr

set_option maxHeartbeats 2000000 in
set_option maxRecDepth 100000 in
theorem feedTells_walk (A : Option Addr) (n cap : Nat) (f : Nat → ByteArray) (w : World) (hn : n ≤ maxLen) (_hc : n ≤ cap) (hr : Strs w A n f) :
    Calls Try.prog 6 #[.slice A n cap] w (Tells w true) := by
  have M := much_c w A n cap f hn hr
  unfold maxLen at hn
  have Hr := Lib.hid hr
  have HM := Lib.hid M
  clear hr M
  go_enter Try.func6, Try.ntmps6
  go_wp2_with fail
  refine HM.out.mono ?_
  rintro e w' ⟨rfl, m, rfl, hm⟩
  cases m with
  | true =>
    go_wp2_with fail
    refine (awake6_c _).mono ?_
    rintro e w1 ⟨rfl, hb⟩
    go_wp2_with fail
    go_ret
    exact ⟨rfl, hb⟩
  | false =>
    obtain ⟨hn200, htot⟩ := hm rfl
    clear hm HM
    go_wp2_with fail
    refine (new_c _).mono ?_
    rintro e w1 ⟨rfl, hw1⟩
    have hst : Told w.heap.size w ⟨#[]⟩ (.slice none 0 0) w1 ∧ w.heap.size < w1.heap.size := by
      rw [← hw1]
      refine ⟨⟨?_, ?_, (Below.refl _ _).alloc (Nat.le_refl _) _⟩, by simp⟩
      · rw [parse_nil]; exact Blk.new _ _ _
      · rw [parse_nil]; exact World.ownsRow_nil _ _ _ _
    have Hst := Lib.hid hst
    clear hst hw1
    generalize hG : w.heap.size = G at *
    go_wp2_with fail
    go_loopw [4, 5, 6] (fun s v i wr => ∃ (k : Nat) (c : ByteArray), k ≤ n ∧ i = .int .i64 k ∧ s = .string c ∧ c.size = cum f k ∧ Told G w c v wr ∧ G < wr.heap.size) (fun _ _ i _ => n - (intOf i).toNat)
    case atStart => exact ⟨0, ⟨#[]⟩, by omega, rfl, rfl, rfl, Hst.out.1, Hst.out.2⟩
    case round =>
      obtain ⟨k, c, hk, rfl, rfl, hcs, hT, hGl⟩ := hrel
      by_cases hlt : k < n
      · obtain ⟨hsz, ad, hA, hadb, hc0⟩ := Hr.out k hlt
        have hcum : cum f (k + 1) = cum f k + (f k).size := rfl
        have hcle := cum_le f (show k + 1 ≤ n by omega)
        rw [hG] at hadb
        rw [← hT.bel.cell (by rw [block_of_add]; omega)] at hc0
        subst hA
        generalize f k = p at *
        have hcp : (c ++ p).size = cum f (k + 1) := by rw [ByteArray.size_append]; omega
        have hpl := parse_len c
        have hpl2 := parse_len (c ++ p)
        have hrest := parse_rest c
        have C1 := push_any wr G (parse c).2.1 p (parse c).2.2 hT.fd (by omega)
        have hpa := parse_app c p
        have C2 := fun w => refall_c w (c ++ p) (by omega)
        have hown := hT.own
        generalize hl : (parse c).1 = l at *
        generalize (parse c).2.1 = r at *
        generalize (parse c).2.2 = er at *
        generalize (pushL r er p).1 = l2 at *
        generalize hrr : (pushL r er p).2 = re2 at *
        have hl2 : (parse (c ++ p)).1 = l ++ l2 := by rw [hpa]
        have hr2 : (parse (c ++ p)).2 = re2 := by rw [hpa]
        rw [hl2, hr2] at C2
        rw [hl2, hr2] at hpl2
        rw [List.length_append] at hpl2
        obtain ⟨r2, e2⟩ := re2
        simp only at C1 C2 hpl2
        have hbel := hT.bel
        have HT := Lib.hid hT
        have HO := Lib.hid hown
        have D1 := Lib.hid C1
        have D2 := Lib.hid C2
        have HE := Lib.hid (And.intro hl2 hr2)
        obtain ⟨i0, hi0, hz0, hz1, hz2⟩ := info_parts info23
        clear C1 C2 hT hown hpa hrr hl2 hr2 hl
        have hd : ∀ x : Nat, x = x := fun _ => rfl
        go_wp2_with fail
        refine D1.out.mono ?_
        rintro e w2 ⟨v2, rfl, hown2, hf2, hg2⟩
        have hs2 := hg2.size
        obtain ⟨A2, c2, rfl, _⟩ := own_form hown2
        have Hown2 := Lib.hid hown2
        have Hf2 := Lib.hid hf2
        have Hg2 := Lib.hid hg2
        have hvo := own_grown HO.out hg2 (by omega)
        have Hvo := Lib.hid hvo
        clear hown2 hf2 hg2 hvo
        go_wp2_with (at_builtin; refine wpList_append_any _ rfl (.tmp 26) (.tmp 32) _ rfl (G + 1) 23 i0 _ 3 32 Try.underlying42 hi0 hz0 hz1 hz2 rfl (by omega) u5 l.length (cellsF l) rfl ?_ w2.heap.size A2 l2.length c2 (cellsF l2) rfl ?_ ?_ ?_ ?_ ?_ ?_)
        · exact Hvo.out
        · exact Reads.of_own Hown2.out
        · exact cellsF_one l2
        · unfold maxLen; omega
        · omega
        · omega
        intro v3 w3 hown3 hg3 _
        rw [← cellsF_append, ← List.length_append] at hown3
        have hs3 := hg3.size
        have hf3 : Fd w3 G r2 e2 := Blk.grown Hf2.out hg3 (fun h => by have := (Hvo.out.lt G h.symm).1; omega)
        have hbel3 : Below G w w3 := (below_only HT.out.bel Hg2.out (by omega) (Nat.le_refl _)).grown hg3 (by omega) (fun k hk => by have := (Hvo.out.lt k hk).1; omega)
        have Hf3 := Lib.hid hf3
        have Hown3 := Lib.hid hown3
        have Hbel3 := Lib.hid hbel3
        clear hf3 hown3 hg3 hbel3 hbel
        go_wp2_with fail
        refine (D2.out _).mono ?_
        rintro e w4 ⟨v4, rfl, hown4, hb4⟩
        have hs4 := hb4.size
        have Hown4 := Lib.hid hown4
        have hown34 := own_below Hown3.out hb4
        have Hown34 := Lib.hid hown34
        have hf4 := Blk.below Hf3.out hb4 (by omega)
        have Hf4 := Lib.hid hf4
        have hbel4 := below_step Hbel3.out (by omega) hb4
        have Hbel4 := Lib.hid hbel4
        clear hown4 hown34 hf4 hb4 hbel4
        go_wp2_with fail
        refine (same_c w4 _ _ _ _ _ Hown34.out Hown4.out (by rw [List.length_append]; omega)).mono ?_
        rintro e w5 ⟨rfl, hb5⟩
        have hs5 := hb5.size
        have hf5 := Blk.below Hf4.out hb5 (by omega)
        have Hf5 := Lib.hid hf5
        have hT5 : Told G w (c ++ p) v3 w5 := by
          obtain ⟨q1, q2⟩ := HE.out
          refine ⟨?_, ?_, below_step Hbel4.out (by omega) hb5⟩
          · rw [q2]; exact hf5
          · rw [q1]; exact own_below Hown34.out hb5
        have HT5 := Lib.hid hT5
        clear hf5 hT5 hb5
        go_wp2_with fail
        refine (waits_c _ _ _ _ Hf5.out).mono ?_
        rintro e w' ⟨rfl, rfl⟩
        go_wp2_with fail
        refine (broken_c _ _ _ _ Hf5.out).mono ?_
        rintro e w' ⟨rfl, rfl⟩
        go_wp2_with fail
        go_roundw
        case rel => exact ⟨k + 1, c ++ p, by omega, by go_num, rfl, hcp, HT5.out, by omega⟩
        case measure => simp [intOf]; omega
      · go_wp2_with fail
        refine (awake6_c _).mono ?_
        rintro e w2 ⟨rfl, hb2⟩
        go_wp2_with fail
        go_ret
        subst hG
        exact ⟨rfl, below_step hT.bel (Nat.le_refl _) hb2⟩
end Go.Proofs.Ythifnnogpcgjpaa
