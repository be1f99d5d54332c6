/- What leave, join and settle do to a ring. -/
import Derived.Test.YtaenlieajlfkdaaRing
namespace Go.Proofs.Ytaenlieajlfkdaa
open Go.RowKit Go.Maps
set_option linter.unusedVariables false
set_option linter.unnecessarySimpa false
set_option linter.unusedSimpArgs false

/-- A step that writes to the ring alone, and hands back nothing. -/
def PutR (w : World) (S : Nat → Prop) (g : Nat) (M : Value) (cv : Int → Value) (ad : Int → Option Nat) (st : Int → FS) (row : List Int) (N : Nat) (x : Ending) (w' : World) : Prop :=
  x = .returned (.tuple #[]) ∧ Moved w w' S ∧ ∃ rv', RgE w' S g M rv' cv ad st row N

theorem info57 : (Try.prog.info? 57).map (fun i => (i.zero, i.size, i.bytes)) = some (some (.pointer none), 1, 8) := by kernel_rfl
theorem info3 : (Try.prog.info? 3).map (fun i => (i.zero, i.size, i.bytes)) = some (some (.int .i64 0), 1, 8) := by kernel_rfl

theorem mem_blks {ad : Int → Option Nat} {row : List Int} {n : Int} {b : Nat} (hinj : ∀ m, m ∈ row → (adr ad m = b ↔ m = n)) (hb : adr ad n = b) : b ∈ blks ad row ↔ n ∈ row := by
  constructor
  · intro h
    obtain ⟨m, hm, e⟩ := List.mem_map.1 h
    exact ((hinj m hm).1 e) ▸ hm
  · intro h
    exact List.mem_map.2 ⟨n, h, hb⟩
theorem RgE.adr_iff {w : World} {S : Nat → Prop} {g : Nat} {M rv : Value} {cv : Int → Value} {ad : Int → Option Nat} {st : Int → FS} {row : List Int} {N : Nat} (h : RgE w S g M rv cv ad st row N) {n : Int} {b : Nat} (hn : ad n = some b) :
    ∀ m, m ∈ row → (adr ad m = b ↔ m = n) := by
  intro m hm
  obtain ⟨c, hc⟩ := h.rin m hm
  rw [adr_some hc]
  constructor
  · rintro rfl; exact h.inj hc hn
  · rintro rfl; rw [hn] at hc; injection hc with hc; exact hc.symm

set_option maxHeartbeats 1000000 in
theorem leave_c (w : World) (S : Nat → Prop) (g : Nat) (M rv : Value) (cv : Int → Value) (ad : Int → Option Nat) (st : Int → FS) (row : List Int) (N : Nat) (h : RgE w S g M rv cv ad st row N) (hup : ∀ k, w.heap.size ≤ k → S k) (n : Int) (b : Nat) (hn : ad n = some b) :
    Calls Try.prog 30 #[.pointer (some ⟨g, 0, none⟩), .pointer (some ⟨b, 0, none⟩)] w (PutR w S g M cv ad (setF st n { st n with d := 0 }) (row.erase n) N) := by
  have hfl := (h.fl n b hn).2
  have hSb := (h.fl n b hn).1
  have hblt : b < w.heap.size := Blk.lt hfl
  have hglt : g < w.heap.size := h.ring.lt
  have hgb : g ≠ b := ne_of h.ring hfl (by decide)
  have f2 := (hfl.fz 2)
  have c2 := hfl.c2
  have c1 : w.cell? ⟨g, 1, none⟩ = some rv := by simpa using h.ring.cell 1
  have hnb : w.heap.size ≠ b := by omega
  have hng : w.heap.size ≠ g := by omega
  -- the world behind the first two regions
  have hw1 : RgE ((w.setCell ⟨b, 2, none⟩ (.int .i64 0)).alloc (.cells #[.pointer (some ⟨b, 0, none⟩)] 57)) S g M rv cv ad (setF st n { st n with d := 0 }) row N := by
    refine RgE.alloc (h.flow hn (f' := { st n with d := 0 }) (fun k hk hkb => Below.heap_setCell _ _ _ _ (by simpa using hkb)) ?_ rfl) _
    exact hfl.set_ 2 (.int .i64 0)
  have hm1 : Moved w ((w.setCell ⟨b, 2, none⟩ (.int .i64 0)).alloc (.cells #[.pointer (some ⟨b, 0, none⟩)] 57)) S :=
    Moved.of_grown (row := some b) (only_alloc (only_setg (only_refl _ _) 2 _) _) (fun k e => by injection e with e; exact e ▸ hSb)
  have hcell : ((w.setCell ⟨b, 2, none⟩ (.int .i64 0)).alloc (.cells #[.pointer (some ⟨b, 0, none⟩)] 57)).cell? ⟨w.heap.size, 0, none⟩ = some (.pointer (some ⟨b, 0, none⟩)) := by
    have := (Blk.new (w.setCell ⟨b, 2, none⟩ (.int .i64 0)) 57 #[.pointer (some ⟨b, 0, none⟩)]).cell 0
    simpa [World.setCell] using this
  have hmf : ∀ (fn : Fn) (first cap : Array Value) (w : World), (Instr.makeFunc fn first cap).run Try.prog w = .ok (.func fn first cap) w := fun _ _ _ _ => rfl
  have H := Lib.hid h
  have HW1 := Lib.hid hw1
  have HM1 := Lib.hid hm1
  have HC := Lib.hid hcell
  clear h hfl hw1 hm1 hcell
  go_enter Try.func30, Try.ntmps30
  go_wp2_with fail
  have hrl := HW1.out.rowlen
  have hown : ∀ k, rv.ownBlock = some k → k < w.heap.size ∧ k ≠ b ∧ k ∉ blks ad row ∧ k ≠ g := by
    intro k hk
    obtain ⟨_, cur, hcur⟩ := H.out.rwin.lt k hk
    refine ⟨heap_lt hcur, ne_of hcur (H.out.fl n b hn).2 (by decide), fun hm => ?_, ne_of hcur H.out.ring (by decide)⟩
    obtain ⟨m, hm, e⟩ := List.mem_map.1 hm
    obtain ⟨c, hc⟩ := H.out.rin m hm
    rw [adr_some hc] at e
    exact ne_of hcur (H.out.fl m c hc).2 (by decide) e.symm
  refine (delfunc_c _ S rv (blks ad row) b w.heap.size HW1.out.rwin HW1.out.bnd (by simp [blks]; omega) (fun x hx => HW1.out.cel hx) ⟨_, _, (HW1.out.fl n b hn).2⟩ HC.out
    (fun k hk => by have := (hown k hk).1; omega) (fun k hk => ⟨(hown k hk).2.1, (hown k hk).2.2.1⟩)).mono ?_
  rintro e w2 ⟨rv', rfl, hwin, hg2, hob⟩
  obtain ⟨A', c', rfl, _⟩ := hwin.form
  have hng2 : some g ≠ rv.ownBlock := fun e => (hown g e.symm).2.2.2 rfl
  have hring := HW1.out.ring.grown hg2 hng2
  have d1 : w2.cell? ⟨g, 1, none⟩ = some rv := by simpa using hring.cell 1
  have e1 := hring.frozen 1
  have Hring := Lib.hid hring
  have Hwin := Lib.hid hwin
  clear hring hwin
  go_wp2_with fail
  go_end0
  refine ⟨rfl, ?_, .slice A' (ptrs ((blks ad row).erase b)).length c', ?_⟩
  · refine HM1.out.trans (Moved.trans (Moved.of_grown hg2 (fun k hk => (HW1.out.rwin.lt k hk).1)) ?_)
    exact Moved.of_grown (row := some g) (only_setg (only_refl _ _) 1 _) (fun k e => by injection e with e; exact e ▸ H.out.gS)
  · refine HW1.out.rowm (fun k hk hkg hkr => ?_) ?_ ?_ (fun m hm => H.out.rin m (List.mem_of_mem_erase hm)) (H.out.nd.erase n)
    · rw [Below.heap_setCell _ _ _ _ (by simpa using hkg)]
      exact hg2.block k hk (fun e => hkr e.symm)
    · exact Hring.out.set_ 1 _
    · rw [blks_erase (H.out.adr_iff hn) (adr_some hn)]
      refine Hwin.out.same fun k hk => ?_
      rw [hob] at hk
      exact Below.heap_setCell _ _ _ _ (by simpa using (hown k hk).2.2.2)

/-- A flow comes into the row. -/
def joinF (f : FS) : FS := { f with d := 0, anew := true }

set_option maxHeartbeats 1000000 in
theorem join_in (w : World) (S : Nat → Prop) (g : Nat) (M rv : Value) (cv : Int → Value) (ad : Int → Option Nat) (st : Int → FS) (row : List Int) (N : Nat) (h : RgE w S g M rv cv ad st row N) (n : Int) (b : Nat) (hn : ad n = some b) (hin : n ∈ row) :
    Calls Try.prog 35 #[.pointer (some ⟨g, 0, none⟩), .pointer (some ⟨b, 0, none⟩)] w (PutR w S g M cv ad st row N) := by
  have hrl := h.rowlen
  have C := contains_c w S rv (blks ad row) b h.rwin (by simp [blks]; omega) (fun x hx => h.cel hx) ⟨_, _, (h.fl n b hn).2⟩
  have hb : b ∈ blks ad row := (mem_blks (h.adr_iff hn) (adr_some hn)).2 hin
  have c1 : w.cell? ⟨g, 1, none⟩ = some rv := by simpa using h.ring.cell 1
  have D := Lib.hid C
  have H := Lib.hid h
  clear C h
  go_enter Try.func35, Try.ntmps35
  go_wp2_with fail
  refine D.out.mono ?_
  rintro e w' ⟨rfl, rfl⟩
  go_wp2_with fail
  go_end0
  exact ⟨rfl, Moved.refl _ _, rv, H.out⟩

set_option maxHeartbeats 1000000 in
theorem join_out (w : World) (S : Nat → Prop) (g : Nat) (M rv : Value) (cv : Int → Value) (ad : Int → Option Nat) (st : Int → FS) (row : List Int) (N : Nat) (h : RgE w S g M rv cv ad st row N) (hup : ∀ k, w.heap.size ≤ k → S k) (n : Int) (b : Nat) (hn : ad n = some b) (hin : n ∉ row) :
    Calls Try.prog 35 #[.pointer (some ⟨g, 0, none⟩), .pointer (some ⟨b, 0, none⟩)] w (PutR w S g M cv ad (setF st n (joinF (st n))) (row ++ [n]) N) := by
  have hrl := h.rowlen
  have C := contains_c w S rv (blks ad row) b h.rwin (by simp [blks]; omega) (fun x hx => h.cel hx) ⟨_, _, (h.fl n b hn).2⟩
  have hb : ¬ b ∈ blks ad row := fun hb => hin ((mem_blks (h.adr_iff hn) (adr_some hn)).1 hb)
  have hfl := (h.fl n b hn).2
  have hgb : g ≠ b := ne_of h.ring hfl (by decide)
  have c1 : w.cell? ⟨g, 1, none⟩ = some rv := by simpa using h.ring.cell 1
  have f1 := h.ring.frozen 1
  have c2 := hfl.c2
  have c5 := hfl.c5
  have f2 := hfl.fz 2
  have f5 := hfl.fz 5
  have hw1 : RgE ((w.setCell ⟨b, 2, none⟩ (.int .i64 0)).setCell ⟨b, 5, none⟩ (.bool true)) S g M rv cv ad (setF st n (joinF (st n))) row N := by
    refine h.flow hn (f' := joinF (st n)) (fun k hk hkb => ?_) ((hfl.set_ 2 (.int .i64 0)).set_ 5 (.bool true)) rfl
    rw [Below.heap_setCell _ _ _ _ (by simpa using hkb), Below.heap_setCell _ _ _ _ (by simpa using hkb)]
  have hm1 : Moved w ((w.setCell ⟨b, 2, none⟩ (.int .i64 0)).setCell ⟨b, 5, none⟩ (.bool true)) S :=
    Moved.of_grown (row := some b) (only_setg (only_setg (only_refl _ _) 2 _) 5 _) (fun k e => by injection e with e; exact e ▸ (h.fl n b hn).1)
  have D := Lib.hid C
  have HW1 := Lib.hid hw1
  have HM1 := Lib.hid hm1
  have Hup := Lib.hid hup
  obtain ⟨i0, hi0, hz0, hz1, hz2⟩ := info_parts info57
  clear C h hfl hw1 hm1 hup
  go_enter Try.func35, Try.ntmps35
  go_wp2_with fail
  refine D.out.mono ?_
  rintro e w' ⟨rfl, rfl⟩
  have hw2 : RgE (((w.setCell ⟨b, 2, none⟩ (.int .i64 0)).setCell ⟨b, 5, none⟩ (.bool true)).alloc (.cells #[.pointer (some ⟨b, 0, none⟩)] 57)) S g M rv cv ad (setF st n (joinF (st n))) row N := HW1.out.alloc _
  have HW2 := Lib.hid hw2
  have hcl := (Blk.new ((w.setCell ⟨b, 2, none⟩ (.int .i64 0)).setCell ⟨b, 5, none⟩ (.bool true)) 57 #[.pointer (some ⟨b, 0, none⟩)]).cell 0
  have hcu : (((w.setCell ⟨b, 2, none⟩ (.int .i64 0)).setCell ⟨b, 5, none⟩ (.bool true)).alloc (.cells #[.pointer (some ⟨b, 0, none⟩)] 57)).cell? ⟨w.heap.size, 0, none⟩ = some (.pointer (some ⟨b, 0, none⟩)) := by simpa [World.setCell] using hcl
  have HCU := Lib.hid hcu
  clear hw2 hcl hcu
  go_wp2_with (at_builtin; refine wpList_append_win _ rfl (.tmp 21) (.tmp 23) 26 rfl 57 i0 _ Try.underlying26 hi0 hz0 hz1 hz2 rfl (v := rv) rfl HW2.out.rwin ⟨w.heap.size, 0, none⟩ 1 (.pointer (some ⟨b, 0, none⟩)) rfl HCU.out rfl ?_ ?_ ?_)
  · simp [ptrs, blks]; omega
  · exact Hup.out _ (by simp [World.setCell])
  intro v' w3 hwin hg3 hor
  obtain ⟨A', c', rfl, _⟩ := hwin.form
  have hown : ∀ k, rv.ownBlock = some k → k ≠ g := by
    intro k hk
    obtain ⟨_, cur, hcur⟩ := HW2.out.rwin.lt k hk
    exact ne_of hcur HW2.out.ring (by decide)
  have hng : some g ≠ rv.ownBlock := fun e => hown g e.symm rfl
  have hring := HW2.out.ring.grown hg3 hng
  have d1 : w3.cell? ⟨g, 1, none⟩ = some rv := by simpa using hring.cell 1
  have e1 := hring.frozen 1
  rw [show (ptrs (blks ad row) ++ [Value.pointer (some ⟨b, 0, none⟩)]).length = (ptrs (blks ad row)).length + 1 by simp] at hwin hor
  have Hring := Lib.hid hring
  have Hwin := Lib.hid hwin
  clear hring hwin
  go_wp2_with fail
  go_end0
  refine ⟨rfl, ?_, .slice A' ((ptrs (blks ad row)).length + 1) c', ?_⟩
  · refine HM1.out.trans (Moved.trans (Moved.of_grown (row := none) (only_of_below ((Below.refl _ _).alloc (Nat.le_refl _) _) none) (by simp)) (Moved.trans (Moved.of_grown hg3 (fun k hk => (HW2.out.rwin.lt k hk).1)) ?_))
    exact Moved.of_grown (row := some g) (only_setg (only_refl _ _) 1 _) (fun k e => by injection e with e; exact e ▸ HW2.out.gS)
  · refine HW2.out.rowm (fun k hk hkg hkr => ?_) ?_ ?_ (fun m hm => ?_) ?_
    · rw [Below.heap_setCell _ _ _ _ (by simpa using hkg)]
      exact hg3.block k hk (fun e => hkr e.symm)
    · exact Hring.out.set_ 1 _
    · have e : ptrs (blks ad (row ++ [n])) = ptrs (blks ad row) ++ [.pointer (some ⟨b, 0, none⟩)] := by simp [ptrs, blks, adr_some hn]
      rw [e]
      refine Hwin.out.same fun k hk => ?_
      refine Below.heap_setCell _ _ _ _ ?_
      rcases hor with ho | ho
      · rw [ho] at hk; simpa using hown k hk
      · rw [ho] at hk; injection hk with hk
        have := HW2.out.ring.lt
        simp [World.setCell] at this
        show k ≠ g
        omega
    · rcases List.mem_append.1 hm with hm | hm
      · exact HW2.out.rin m hm
      · simp at hm; subst hm; exact ⟨b, hn⟩
    · rw [List.nodup_append]
      refine ⟨HW2.out.nd, by simp, fun x hx y hy => ?_⟩
      simp at hy
      subst hy
      exact fun e => hin (e ▸ hx)

/-- A flow out of the row. -/
def leaveF (f : FS) : FS := { f with d := 0 }
/-- What a settle makes of the flows and the row. -/
def settleA (st : Int → FS) (row : List Int) (n : Int) : (Int → FS) × List Int :=
  if actF (st n) then (if n ∈ row then (st, row) else (setF st n (joinF (st n)), row ++ [n])) else (setF st n (leaveF (st n)), row.erase n)

theorem settle_c (w : World) (S : Nat → Prop) (g : Nat) (M rv : Value) (cv : Int → Value) (ad : Int → Option Nat) (st : Int → FS) (row : List Int) (N : Nat) (h : RgE w S g M rv cv ad st row N) (hup : ∀ k, w.heap.size ≤ k → S k) (n : Int) (b : Nat) (hn : ad n = some b) :
    Calls Try.prog 25 #[.pointer (some ⟨g, 0, none⟩), .pointer (some ⟨b, 0, none⟩)] w (PutR w S g M cv ad (settleA st row n).1 (settleA st row n).2 N) := by
  obtain ⟨A, c, hcv, _⟩ := (h.cs n b hn).form
  rw [show (ints (st n).cs).length = (st n).cs.length by simp [ints]] at hcv
  have C1 := active_c w b n (st n) (cv n) (h.fl n b hn).2 hcv
  unfold settleA
  cases ha : actF (st n)
  · have C2 := leave_c w S g M rv cv ad st row N h hup n b hn
    rw [ha] at C1
    have D1 := Lib.hid C1
    have D2 := Lib.hid C2
    clear C1 C2 h hcv ha
    simp only [if_neg (show ¬ (false = true) by decide)]
    go_enter Try.func25, Try.ntmps25
    go_wp2_with fail
    refine D1.out.mono ?_
    rintro e w' ⟨rfl, rfl⟩
    go_wp2_with fail
    refine D2.out.mono ?_
    rintro e w' ⟨rfl, r⟩
    go_wp2_with fail
    go_end0
    exact ⟨rfl, r⟩
  · rw [ha] at C1
    have D1 := Lib.hid C1
    simp only [if_pos (show true = true from rfl)]
    by_cases hin : n ∈ row
    · have C2 := join_in w S g M rv cv ad st row N h n b hn hin
      rw [if_pos hin]
      have D2 := Lib.hid C2
      clear C1 C2 h hcv ha
      go_enter Try.func25, Try.ntmps25
      go_wp2_with fail
      refine D1.out.mono ?_
      rintro e w' ⟨rfl, rfl⟩
      go_wp2_with fail
      refine D2.out.mono ?_
      rintro e w' ⟨rfl, r⟩
      go_wp2_with fail
      go_end0
      exact ⟨rfl, r⟩
    · have C2 := join_out w S g M rv cv ad st row N h hup n b hn hin
      rw [if_neg hin]
      have D2 := Lib.hid C2
      clear C1 C2 h hcv ha
      go_enter Try.func25, Try.ntmps25
      go_wp2_with fail
      refine D1.out.mono ?_
      rintro e w' ⟨rfl, rfl⟩
      go_wp2_with fail
      refine D2.out.mono ?_
      rintro e w' ⟨rfl, r⟩
      go_wp2_with fail
      go_end0
      exact ⟨rfl, r⟩
end Go.Proofs.Ytaenlieajlfkdaa
