/- The reference's with: another flow in a new slice. -/
import Derived.Test.YtaenlieajlfkdaaRef4
import Derived.Test.YtaenlieajlfkdaaOrdMem
namespace Go.Proofs.Ytaenlieajlfkdaa
open Go.RowKit Go.Maps
set_option linter.unusedVariables false
set_option linter.unnecessarySimpa false
set_option linter.unusedSimpArgs false
variable {Q : Nat → Prop}

def flV (kv : Value) (f : RFl) : Value := .agg #[.bool f.there, .int .i64 f.f.q, .int .i64 f.f.d, kv, .bool f.f.rests, .bool f.f.anew]

set_option maxHeartbeats 1000000 in
theorem with_c (w : World) (v : Value) (fl : Nat → RFl) (row : List Int) (h : RefIs Q w v fl row) (n : Nat) (hn : n < 9) (kf : Value) (f : RFl) (hk : RI Q w kf f.f.cs) (hQ : Up Q w) :
    Calls Try.prog 27 #[v, .int .i64 n, flV kf f] w fun x w' => ∃ v', x = .returned v' ∧ RefIs Q w' v' (updV fl n f) row ∧ Below w.heap.size w w' := by
  obtain ⟨g, c, kv, rv, rfl, hc, hF, hr⟩ := h.ex
  obtain ⟨i0, hi0, hz0, hz1, hz2⟩ := info_parts info64
  obtain ⟨Ar, cr, rfl, _⟩ := id hr
  obtain ⟨Ak, ck, rfl, _⟩ := id hk
  have HF := Lib.hid hF
  have Hr := Lib.hid hr
  have Hk := Lib.hid hk
  clear hF hr hk h
  unfold flV
  go_enter Try.func27, Try.ntmps27
  have hgl : g < w.heap.size := cell_lt (HF.out.c0 0 (by omega))
  have hW : Below w.heap.size w ((((w.alloc (.cells #[.slice (some ⟨g, 0, none⟩) 9 c, .slice Ar row.length cr] 46)).alloc (.cells #[.bool f.there, .int .i64 f.f.q, .int .i64 f.f.d, .slice Ak f.f.cs.length ck, .bool f.f.rests, .bool f.f.anew] 64)).alloc (.cells #[.slice none 0 0, .slice none 0 0] 46)).alloc (.cells #[] 64)) :=
    ((((Below.refl _ _).alloc (Nat.le_refl _) _).alloc (by simp) _).alloc (by simp; omega) _).alloc (by simp; omega) _
  have HW := Lib.hid hW
  have HFW := Lib.hid (HF.out.below hW)
  clear hW
  go_wp2_with (at_builtin; refine wpList_append_any _ rfl (.tmp 8) (.tmp 10) _ rfl (w.heap.size + 3) 64 i0 _ 6 56 Try.underlying44 hi0 hz0 hz1 hz2 rfl (by omega) (.slice (some ⟨w.heap.size + 1 + 1 + 1, 0, none⟩) 0 0) 0 [] rfl ?_ w.heap.size (some ⟨g, 0, none⟩) 9 c (flCells kv fl) rfl ?_ ?_ ?_ ?_ ?_ ?_)
  · have := World.ownsRow_made (base := w.heap.size + 3) (e := 64) (size := 6) (((w.alloc (.cells #[.slice (some ⟨g, 0, none⟩) 9 c, .slice Ar row.length cr] 46)).alloc (.cells #[.bool f.there, .int .i64 f.f.q, .int .i64 f.f.d, .slice Ak f.f.cs.length ck, .bool f.f.rests, .bool f.f.anew] 64)).alloc (.cells #[.slice none 0 0, .slice none 0 0] 46)) #[] 0 (by simp) (Nat.zero_le _) rfl
    simpa using this
  · refine ⟨by rw [flCells_len], fun _ => ⟨⟨g, 0, none⟩, rfl, hgl, fun j u hu => ?_⟩⟩
    rw [add_lit, Nat.zero_add]
    exact HFW.out.all j u hu
  · intro u hu
    simp only [flCells, List.mem_flatMap, oneFl] at hu
    obtain ⟨j, hj, hu⟩ := hu
    have hj9 : j < 9 := by simpa using hj
    obtain ⟨A9, c9, hkv, _⟩ := HF.out.cs j hj9
    rw [hkv] at hu
    simp only [List.mem_cons, List.not_mem_nil, or_false] at hu
    rcases hu with rfl | rfl | rfl | rfl | rfl | rfl <;> rfl
  · unfold maxLen; omega
  · omega
  · simp
  intro v1 w5 hown5 hg5 hor5
  obtain ⟨g1, cap1, rfl, hg1, hg1lt⟩ := hown5.form (by omega)
  have hcell5 : ∀ j u, (flCells kv fl)[j]? = some u → w5.cell? ⟨g1, j, none⟩ = some u := fun j u hu => by
    have := hown5.cells (g := g1) rfl j u hu
    rwa [add_lit, Nat.zero_add] at this
  have hcap1 : 9 ≤ cap1 := by
    rcases hown5.2 with ⟨hv, _⟩ | ⟨_, _, _, hv, _, _, hcc, _⟩
    · cases hv
    · injection hv with _ _ h3; omega
  have hfz1 : ∀ j, w5.frozen? ⟨g1, j, none⟩ = false := fun j => by
    rcases hown5.2 with ⟨hv, _⟩ | ⟨_, _, _, hv, _, hh, _⟩
    · cases hv
    · injection hv with h1 _ _
      injection h1 with h1
      injection h1 with h1
      subst h1
      simp [World.frozen?, hh]
  have hz5 := hg5.size
  simp at hz5
  -- the boxes
  have bx0 : Blk w5 w.heap.size 46 #[.slice (some ⟨g, 0, none⟩) 9 c, .slice Ar row.length cr] :=
    ((((Blk.new w 46 _).alloc _).alloc _).alloc _).grown hg5 (by simp [Value.ownBlock]; omega)
  have bx1 : Blk w5 (w.heap.size + 1) 64 #[.bool f.there, .int .i64 f.f.q, .int .i64 f.f.d, .slice Ak f.f.cs.length ck, .bool f.f.rests, .bool f.f.anew] := by
    have h := Blk.new (w.alloc (.cells #[.slice (some ⟨g, 0, none⟩) 9 c, .slice Ar row.length cr] 46)) 64 #[.bool f.there, .int .i64 f.f.q, .int .i64 f.f.d, .slice Ak f.f.cs.length ck, .bool f.f.rests, .bool f.f.anew]
    rw [show (w.alloc (.cells #[.slice (some ⟨g, 0, none⟩) 9 c, .slice Ar row.length cr] 46)).heap.size = w.heap.size + 1 by simp] at h
    exact ((h.alloc _).alloc _).grown hg5 (by simp [Value.ownBlock])
  have bx2 : Blk w5 (w.heap.size + 2) 46 #[.slice none 0 0, .slice none 0 0] := by
    have h := Blk.new ((w.alloc (.cells #[.slice (some ⟨g, 0, none⟩) 9 c, .slice Ar row.length cr] 46)).alloc (.cells #[.bool f.there, .int .i64 f.f.q, .int .i64 f.f.d, .slice Ak f.f.cs.length ck, .bool f.f.rests, .bool f.f.anew] 64)) 46 #[.slice none 0 0, .slice none 0 0]
    rw [show ((w.alloc (.cells #[.slice (some ⟨g, 0, none⟩) 9 c, .slice Ar row.length cr] 46)).alloc (.cells #[.bool f.there, .int .i64 f.f.q, .int .i64 f.f.d, .slice Ak f.f.cs.length ck, .bool f.f.rests, .bool f.f.anew] 64)).heap.size = w.heap.size + 1 + 1 by simp] at h
    exact (h.alloc _).grown hg5 (by simp [Value.ownBlock])
  have hb5 : Below w.heap.size w w5 := HW.out.grown hg5 (by simp; omega) (fun k hk => by simp [Value.ownBlock] at hk; omega)
  have ho : ∀ k, k < 6 → w5.cell? ⟨g1, n * 6 + k, none⟩ = (oneFl (kv n) (fl n))[k]? := fun k hk => by
    have h6 : (flCells kv fl)[n * 6 + k]? = (oneFl (kv n) (fl n))[k]? := flCells_key kv fl n k hn hk
    obtain ⟨u, hu⟩ : ∃ u, (oneFl (kv n) (fl n))[k]? = some u := ⟨_, List.getElem?_eq_getElem (by simpa [oneFl] using hk)⟩
    rw [hu] at h6 ⊢
    exact hcell5 _ u h6
  have p0 : w5.cell? ⟨g1, n * 6, none⟩ = some (.bool (fl n).there) := ho 0 (by omega)
  have p1 := ho 1 (by omega)
  have p2 := ho 2 (by omega)
  have p3 := ho 3 (by omega)
  have p4 := ho 4 (by omega)
  have p5 := ho 5 (by omega)
  simp only [oneFl, List.getElem?_cons_zero, List.getElem?_cons_succ] at p1 p2 p3 p4 p5
  have f0 := hfz1 (n * 6)
  have f1 := hfz1 (n * 6 + 1)
  have f2 := hfz1 (n * 6 + 2)
  have f3 := hfz1 (n * 6 + 3)
  have f4 := hfz1 (n * 6 + 4)
  have f5 := hfz1 (n * 6 + 5)
  have a0 : w5.cell? ⟨w.heap.size, 1, none⟩ = some (.slice Ar row.length cr) := by simpa using bx0.cell 1
  have e0 : w5.cell? ⟨w.heap.size + 1, 0, none⟩ = some (.bool f.there) := by simpa using bx1.cell 0
  have e1 : w5.cell? ⟨w.heap.size + 1, 1, none⟩ = some (.int .i64 f.f.q) := by simpa using bx1.cell 1
  have e2 : w5.cell? ⟨w.heap.size + 1, 2, none⟩ = some (.int .i64 f.f.d) := by simpa using bx1.cell 2
  have e3 : w5.cell? ⟨w.heap.size + 1, 3, none⟩ = some (.slice Ak f.f.cs.length ck) := by simpa using bx1.cell 3
  have e4 : w5.cell? ⟨w.heap.size + 1, 4, none⟩ = some (.bool f.f.rests) := by simpa using bx1.cell 4
  have e5 : w5.cell? ⟨w.heap.size + 1, 5, none⟩ = some (.bool f.f.anew) := by simpa using bx1.cell 5
  have z0 : w5.cell? ⟨w.heap.size + 2, 0, none⟩ = some (.slice none 0 0) := by simpa using bx2.cell 0
  have z1 : w5.cell? ⟨w.heap.size + 2, 1, none⟩ = some (.slice none 0 0) := by simpa using bx2.cell 1
  have y0 := bx2.frozen 0
  have y1 := bx2.frozen 1
  have hgn : w.heap.size + 2 < g1 := by omega
  have Hown5 := Lib.hid hown5
  have Hb5 := Lib.hid hb5
  have Bx2 := Lib.hid bx2
  have Hcell5 := Lib.hid hcell5
  clear hown5 hb5 bx0 bx1 bx2 hcell5 ho hfz1 HFW HW hg5 hor5
  go_wp2_with fail
  have hblk : ∃ cur, Blk w5 g1 64 cur ∧ 54 ≤ cur.size ∧ ∀ j, j < 54 → cur[j]? = (flCells kv fl)[j]? := by
    rcases Hown5.out.2 with ⟨hv, _⟩ | ⟨_, _, cur, hv, _, hh, hcc, _, hsz, htk⟩
    · cases hv
    · injection hv with h1 _ h3
      injection h1 with h1
      injection h1 with h1
      subst h1 h3
      refine ⟨cur, hh, by omega, fun j hj => ?_⟩
      rw [← htk, List.getElem?_take, if_pos (by omega)]
      simp
  obtain ⟨cur, hB, hcs, hcur⟩ := hblk
  have hne : g1 ≠ w.heap.size + 1 + 1 := by omega
  have hB6 := ((((((hB.set_ (n * 6) (.bool f.there)).set_ (n * 6 + 1) (.int .i64 f.f.q)).set_ (n * 6 + 2) (.int .i64 f.f.d)).set_ (n * 6 + 3) (.slice Ak f.f.cs.length ck)).set_ (n * 6 + 4) (.bool f.f.rests)).set_ (n * 6 + 5) (.bool f.f.anew))
  have hB8 := (hB6.far (p := ⟨w.heap.size + 1 + 1, 0, none⟩) hne (.slice (some ⟨g1, 0, none⟩) 9 cap1)).far (p := ⟨w.heap.size + 1 + 1, 1, none⟩) hne (.slice Ar row.length cr)
  have hb8 : Below w.heap.size w ((((((((w5.setCell ⟨g1, n * 6, none⟩ (.bool f.there)).setCell ⟨g1, n * 6 + 1, none⟩ (.int .i64 f.f.q)).setCell ⟨g1, n * 6 + 2, none⟩ (.int .i64 f.f.d)).setCell ⟨g1, n * 6 + 3, none⟩ (.slice Ak f.f.cs.length ck)).setCell ⟨g1, n * 6 + 4, none⟩ (.bool f.f.rests)).setCell ⟨g1, n * 6 + 5, none⟩ (.bool f.f.anew)).setCell ⟨w.heap.size + 1 + 1, 0, none⟩ (.slice (some ⟨g1, 0, none⟩) 9 cap1)).setCell ⟨w.heap.size + 1 + 1, 1, none⟩ (.slice Ar row.length cr)) := by
    have hg : w.heap.size ≤ g1 := by omega
    have h2 : w.heap.size ≤ w.heap.size + 1 + 1 := by omega
    exact (((((((Hb5.out.setCell (p := ⟨g1, n * 6, none⟩) hg _).setCell (p := ⟨g1, n * 6 + 1, none⟩) hg _).setCell (p := ⟨g1, n * 6 + 2, none⟩) hg _).setCell (p := ⟨g1, n * 6 + 3, none⟩) hg _).setCell (p := ⟨g1, n * 6 + 4, none⟩) hg _).setCell (p := ⟨g1, n * 6 + 5, none⟩) hg _).setCell (p := ⟨w.heap.size + 1 + 1, 0, none⟩) h2 _).setCell (p := ⟨w.heap.size + 1 + 1, 1, none⟩) h2 _
  have hX := ((((((Bx2.out.far (p := ⟨g1, n * 6, none⟩) (by show w.heap.size + 2 ≠ g1; omega) (.bool f.there)).far (p := ⟨g1, n * 6 + 1, none⟩) (by show w.heap.size + 2 ≠ g1; omega) (.int .i64 f.f.q)).far (p := ⟨g1, n * 6 + 2, none⟩) (by show w.heap.size + 2 ≠ g1; omega) (.int .i64 f.f.d)).far (p := ⟨g1, n * 6 + 3, none⟩) (by show w.heap.size + 2 ≠ g1; omega) (.slice Ak f.f.cs.length ck)).far (p := ⟨g1, n * 6 + 4, none⟩) (by show w.heap.size + 2 ≠ g1; omega) (.bool f.f.rests)).far (p := ⟨g1, n * 6 + 5, none⟩) (by show w.heap.size + 2 ≠ g1; omega) (.bool f.f.anew))
  have hX8 := (hX.set_ 0 (.slice (some ⟨g1, 0, none⟩) 9 cap1)).set_ 1 (.slice Ar row.length cr)
  have r0 := hX8.cell 0
  have r1 := hX8.cell 1
  simp at r0 r1
  clear hX hX8 hB hB6
  refine bodyPost_ret (v := .agg #[.slice (some ⟨g1, 0, none⟩) 9 cap1, .slice Ar row.length cr]) (by simp [results, Try.results27, go_sem, r0, r1]) rfl ?_
  refine ⟨_, rfl, ⟨g1, cap1, updV kv n (.slice Ak f.f.cs.length ck), _, rfl, hcap1, ?_, Hr.out.below hb8⟩, hb8⟩
  have key : ∀ j k, j < 9 → k < 6 → _ = (oneFl (updV kv n (.slice Ak f.f.cs.length ck) j) (updV fl n f j))[k]? := fun j k hj hk => by
    refine (hB8.cell (j * 6 + k)).trans ?_
    simp only [Array.getElem?_setIfInBounds, Array.size_setIfInBounds]
    by_cases e : j = n
    · subst e
      rw [updV_at, updV_at]
      have hk' : k = 0 ∨ k = 1 ∨ k = 2 ∨ k = 3 ∨ k = 4 ∨ k = 5 := by omega
      have hs : ∀ m, m < 6 → j * 6 + m < cur.size := fun m hm => by omega
      have hs0 : j * 6 < cur.size := by omega
      rcases hk' with rfl | rfl | rfl | rfl | rfl | rfl <;> simp [oneFl, hs, hs0]
    · rw [updV_ne _ _ e, updV_ne _ _ e]
      rw [if_neg (by omega), if_neg (by omega), if_neg (by omega), if_neg (by omega), if_neg (by omega), if_neg (by omega)]
      rw [hcur _ (by omega)]
      exact flCells_key kv fl j k hj hk
  refine ⟨fun j hj => key j 0 hj (by omega), fun j hj => key j 1 hj (by omega), fun j hj => key j 2 hj (by omega), fun j hj => key j 3 hj (by omega), fun j hj => key j 4 hj (by omega), fun j hj => key j 5 hj (by omega), fun j hj => ?_, hQ g1 (by omega)⟩
  by_cases e : j = n
  · subst e
    rw [updV_at, updV_at]
    exact Hk.out.below hb8
  · rw [updV_ne _ _ e, updV_ne _ _ e]
    exact (HF.out.cs j hj).below hb8
end Go.Proofs.Ytaenlieajlfkdaa
