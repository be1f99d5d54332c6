/- The reference's Settle. -/
import Derived.Test.YtaenlieajlfkdaaWith
import Derived.Deep.RegionWith
import Derived.Deep.DeepCutAuto
import Derived.Deep.CutBlock
import Derived.Deep.RegionHeld3
namespace Go.Proofs.Ytaenlieajlfkdaa
open Go.RowKit Go.Maps
set_option linter.unusedVariables false
set_option linter.unnecessarySimpa false
set_option linter.unusedSimpArgs false
variable {Q : Nat → Prop}

def actR (f : RFl) : Bool := f.there && actF f.f
def settleF (f : RFl) (inn : Bool) : RFl := if actR f then (if inn then f else ⟨f.there, joinF f.f⟩) else ⟨f.there, leaveF f.f⟩
def settleRow (f : RFl) (row : List Int) (n : Int) : List Int := if actR f then (if n ∈ row then row else row ++ [n]) else wo row n

theorem wo_len (l : List Int) (n : Int) : (wo l n).length < l.length ↔ n ∈ l := by
  unfold wo
  induction l with
  | nil => simp
  | cons a l ih =>
    have hle := List.length_filter_le (fun x => x != n) l
    by_cases e : a = n
    · subst e
      simp
      omega
    · simp only [List.filter_cons, bne_iff_ne, ne_eq, e, not_false_eq_true, if_true, List.length_cons, Nat.add_lt_add_iff_right, ih, List.mem_cons]
      constructor
      · exact .inr
      · rintro (h | h)
        · exact absurd h.symm e
        · exact h

theorem own_empty {w : World} {h : Nat} {e : TypeId} (hB : Blk w h e #[]) : w.ownsRow h e 1 (.slice (some ⟨h, 0, none⟩) 0 0) 0 [] :=
  ⟨by simp, .inr ⟨h, 0, #[], rfl, Nat.le_refl _, hB, Nat.le_refl _, Nat.zero_le _, by simp, by simp⟩⟩
theorem RI.reads {w : World} {v : Value} {l : List Int} (h : RI Q w v l) : ∃ A c, v = .slice A l.length c ∧ l.length ≤ c ∧ Reads w w.heap.size 1 A l.length (ints l) := by
  obtain ⟨A, c, rfl, hc, hr⟩ := h
  refine ⟨A, c, rfl, hc, by simp [ints], fun h0 => ?_⟩
  obtain ⟨g, o, rfl, _, hcell⟩ := hr h0
  have hc0 := hcell 0 h0
  have hs : (ints l)[0]? = some (.int .i64 l[0]) := by simp [ints, h0]
  rw [hs] at hc0
  refine ⟨⟨g, o, none⟩, rfl, cell_lt hc0, fun j u hj => ?_⟩
  have hjl : j < l.length := by have := (List.getElem?_eq_some_iff.1 hj).1; simpa [ints] using this
  rw [add_lit, hcell j hjl, hj]
theorem ints_one {l : List Int} : ∀ u ∈ ints l, u.oneCell' = true := by
  intro u hu
  simp only [ints, List.mem_map] at hu
  obtain ⟨c, _, rfl⟩ := hu
  rfl

/-- append([]int{}, v...). -/
theorem wpList_copy_ints {ops : Array Oper} {rest : List Oper} {o : Oper} {a : Act} {QE : Exit → Act → World → Prop} (w : World) (hgd : o.guard = none) (s x : Operand)
    (ho : o.op = .call { callee := .builtin .append, args := #[s, x], argTypes := #[36, 36] }) (h : Nat) (hs : a.eval s = .slice (some ⟨h, 0, none⟩) 0 0) (hB : Blk w h 3 #[]) (v : Value) (l : List Int) (hx : a.eval x = v) (hr : RI Q w v l) (hl : l.length ≤ 1000000)
    (hK : ∀ v' w', Win w' (fun k => h ≤ k) 3 v' (ints l) → w.grownBy w' (some h) → wpList Try.prog ops QE rest (a.put o.dst v') w') : wpList Try.prog ops QE (o :: rest) a w := by
  obtain ⟨A, c, rfl, hc, hR⟩ := hr.reads
  obtain ⟨i0, hi0, hz0, hz1, hz2⟩ := info_parts info3
  have hlt := hB.lt
  refine wpList_append_any w hgd s x 36 ho h 3 i0 _ 1 8 Try.underlying36 hi0 hz0 hz1 hz2 rfl (by decide) _ 0 [] hs (own_empty hB) w.heap.size A l.length c (ints l) hx hR ints_one (by unfold maxLen; omega) (by omega) (by omega) ?_
  intro v' w' hown hg hor
  refine hK v' w' ?_ hg
  have := Win.of_own (S := fun k => h ≤ k) hown (fun g hg => by
    rcases hor with hor | hor
    · rw [hor] at hg; simp [Value.ownBlock] at hg; omega
    · rw [hor] at hg; injection hg with hg; omega)
  simpa using this

theorem RefIs.setRow {w : World} {F rv rv' : Value} {fl : Nat → RFl} {row row' : List Int} (h : RefIs Q w (.agg #[F, rv]) fl row) (hr : RI Q w rv' row') : RefIs Q w (.agg #[F, rv']) fl row' := by
  obtain ⟨g, c, kv, rv0, hv, hc, hF, _⟩ := h.ex
  injection hv with hv
  simp only [Array.mk.injEq, List.cons.injEq, and_true] at hv
  obtain ⟨rfl, rfl⟩ := hv
  exact ⟨g, c, kv, rv', rfl, hc, hF, hr⟩

/-- A block that holds slices alone. -/
def Sl (w : World) (B : Nat) : Prop := ∀ k u, w.cell? ⟨B, k, none⟩ = some u → ∃ A n c, u = .slice A n c
theorem Sl.of_blk {w : World} {B : Nat} {t : TypeId} {A A' : Option Addr} {n n' c c' : Nat} (h : Blk w B t #[.slice A n c, .slice A' n' c']) : Sl w B := by
  intro k u hu
  rw [h.cell k] at hu
  match k, hu with
  | 0, hu => simp at hu; exact ⟨_, _, _, hu.symm⟩
  | 1, hu => simp at hu; exact ⟨_, _, _, hu.symm⟩
  | k + 2, hu => simp at hu
theorem Sl.set_ {w : World} {B : Nat} (h : Sl w B) (i : Nat) (A : Option Addr) (n c : Nat) : Sl (w.setCell ⟨B, i, none⟩ (.slice A n c)) B := by
  intro k u hu
  by_cases e : k = i
  · subst e
    cases hc : w.cell? ⟨B, k, none⟩ with
    | none =>
      exfalso
      unfold World.cell? at hc hu
      simp only [World.setCell, Array.getElem?_modify, if_true] at hu
      cases ho : w.heap[B]? with
      | none => simp [ho] at hu
      | some o =>
        cases o with
        | cells cs t fz =>
          simp only [ho, Option.map_some] at hu
          simp only [ho] at hc
          have hge := Array.getElem?_eq_none_iff.1 hc
          rw [Array.getElem?_eq_none (by simpa using hge)] at hu
          cases hu
        | _ => simp [ho] at hu hc
    | some x =>
      rw [World.cell?_setCell_same _ _ _ hc] at hu
      injection hu with hu
      exact ⟨_, _, _, hu.symm⟩
  · rw [World.cell?_setCell_other _ _ _ _ (by intro h; injection h with h1 h2; exact e h2.symm)] at hu
    exact h k u hu
theorem Sl.far {w : World} {B : Nat} (h : Sl w B) {p : Addr} (hp : p.block ≠ B) (x : Value) : Sl (w.setCell p x) B := by
  intro k u hu
  rw [World.cell?_setCell_other _ _ _ _ (by rintro rfl; exact hp rfl)] at hu
  exact h k u hu
theorem RI.setBox {w : World} {v : Value} {l : List Int} {B : Nat} (h : RI Q w v l) (hs : Sl w B) (i : Nat) (x : Value) : RI Q (w.setCell ⟨B, i, none⟩ x) v l := by
  obtain ⟨A, c, hv, hc, hr⟩ := h
  refine ⟨A, c, hv, hc, fun hl => ?_⟩
  obtain ⟨g, o, hA, hg, hcell⟩ := hr hl
  refine ⟨g, o, hA, hg, fun j hj => ?_⟩
  have h1 := hcell j hj
  have hs1 : (ints l)[j]? = some (.int .i64 l[j]) := by simp [ints, hj]
  rw [World.cell?_setCell_other _ _ _ _ ?_]
  · exact h1
  · intro e
    injection e with e1 e2
    rw [hs1, ← e1] at h1
    obtain ⟨_, _, _, hh⟩ := hs _ _ h1
    cases hh
theorem RefIs.setBox {w : World} {v : Value} {fl : Nat → RFl} {row : List Int} {B : Nat} (h : RefIs Q w v fl row) (hs : Sl w B) (i : Nat) (x : Value) : RefIs Q (w.setCell ⟨B, i, none⟩ x) v fl row := by
  obtain ⟨g, c, kv, rv, hv, hc, hF, hr⟩ := h.ex
  refine ⟨g, c, kv, rv, hv, hc, ?_, hr.setBox hs i x⟩
  have hg : g ≠ B := by
    rintro rfl
    have h0 := hF.c0 0 (by omega)
    obtain ⟨_, _, _, hh⟩ := hs _ _ h0
    cases hh
  have k : ∀ {o : Nat} {u : Value}, w.cell? ⟨g, o, none⟩ = some u → (w.setCell ⟨B, i, none⟩ x).cell? ⟨g, o, none⟩ = some u := fun hp => by
    rw [World.cell?_setCell_other _ _ _ _ (by intro e; injection e with e1 e2; exact hg e1.symm)]; exact hp
  exact ⟨fun j hj => k (hF.c0 j hj), fun j hj => k (hF.c1 j hj), fun j hj => k (hF.c2 j hj), fun j hj => k (hF.c3 j hj), fun j hj => k (hF.c4 j hj), fun j hj => k (hF.c5 j hj), fun j hj => (hF.cs j hj).setBox hs i x, hF.qg⟩

def flA (kv : Value) (f : RFl) : Array Value := #[.bool f.there, .int .i64 f.f.q, .int .i64 f.f.d, kv, .bool f.f.rests, .bool f.f.anew]
/-- On the way of Settle. -/
structure SetSt (w : World) (F R kvn : Value) (f : RFl) (row : List Int) (v8 : Value) (wc : World) : Prop where
  bx : Blk wc w.heap.size 46 #[F, R]
  bz : Blk wc (w.heap.size + 1) 46 #[.slice none 0 0, .slice none 0 0]
  bf : Blk wc (w.heap.size + 1 + 1) 64 (flA kvn f)
  bel : Below w.heap.size w wc
  win : Win wc (fun k => w.heap.size + 1 + 1 + 1 ≤ k) 3 v8 (ints row)
section
variable {w : World} {F R kvn : Value} {f : RFl} {row : List Int} {v8 : Value} {wc wd : World}
theorem SetSt.sz (h : SetSt w F R kvn f row v8 wc) : w.heap.size + 1 + 1 < wc.heap.size := h.bf.lt
theorem SetSt.grown (h : SetSt w F R kvn f row v8 wc) {row' : List Int} {v' : Value} {b : Option Nat} (hg : wc.grownBy wd b) (hb : ∀ k, b = some k → w.heap.size + 1 + 1 + 1 ≤ k) (hw : Win wd (fun k => w.heap.size + 1 + 1 + 1 ≤ k) 3 v' (ints row')) : SetSt w F R kvn f row' v' wd := by
  have hne : ∀ k, k < w.heap.size + 1 + 1 + 1 → some k ≠ b := fun k hk e => by have := hb k e.symm; omega
  have hs := h.sz
  exact ⟨h.bx.grown hg (hne _ (by omega)), h.bz.grown hg (hne _ (by omega)), h.bf.grown hg (hne _ (by omega)), h.bel.grown hg (by omega) (fun k hk => by have := hb k hk; omega), hw⟩
theorem SetSt.below (h : SetSt w F R kvn f row v8 wc) (hb : Below wc.heap.size wc wd) : SetSt w F R kvn f row v8 wd :=
  h.grown (only_of_below hb none) (by simp) (h.win.kept (row := none) (only_of_below hb none) (by simp))
theorem SetSt.setFl (h : SetSt w F R kvn f row v8 wc) {f' : RFl} (i : Nat) (u : Value) (he : (flA kvn f).setIfInBounds i u = flA kvn f') : SetSt w F R kvn f' row v8 (wc.setCell ⟨w.heap.size + 1 + 1, i, none⟩ u) := by
  refine ⟨h.bx.far (by show w.heap.size ≠ w.heap.size + 1 + 1; omega) _, h.bz.far (by show w.heap.size + 1 ≠ w.heap.size + 1 + 1; omega) _, he ▸ h.bf.set_ i u, h.bel.setCell (p := ⟨w.heap.size + 1 + 1, i, none⟩) (by show w.heap.size ≤ w.heap.size + 1 + 1; omega) _, ?_⟩
  refine h.win.kept (row := some (w.heap.size + 1 + 1)) (only_setg (only_refl _ _) i u) (fun k hk e => ?_)
  injection e with e
  have := (h.win.lt k hk).1
  omega
end

set_option maxHeartbeats 1000000 in
theorem refsettle_c (w : World) (v : Value) (fl : Nat → RFl) (row : List Int) (h : RefIs Q w v fl row) (n : Nat) (hn : n < 9) (hl : row.length ≤ 1000) (hQ : Up Q w) :
    Calls Try.prog 29 #[v, .int .i64 n] w fun x w' => ∃ v', x = .returned v' ∧ RefIs Q w' v' (updV fl n (settleF (fl n) (decide ((n : Int) ∈ row)))) (settleRow (fl n) row n) ∧ Below w.heap.size w w' := by
  obtain ⟨g, c, kv, rv, rfl, hc, hF, hr⟩ := h.ex
  obtain ⟨Ar, cr, rfl, _⟩ := id hr
  obtain ⟨Ak, ck, hkv, _⟩ := id (hF.cs n hn)
  have k0 := hF.c0 n hn
  have k1 := hF.c1 n hn
  have k2 := hF.c2 n hn
  have k3 := hF.c3 n hn
  have k4 := hF.c4 n hn
  have k5 := hF.c5 n hn
  rw [hkv] at k3
  have hgl : g < w.heap.size := cell_lt k0
  have HF := Lib.hid hF
  have Hr := Lib.hid hr
  have Hkv := Lib.hid hkv
  have HI := Lib.hid h
  obtain ⟨i0, hi0, hz0, hz1, hz2⟩ := info_parts info3
  clear hF hr h hkv
  go_enter Try.func29, Try.ntmps29
  go_upto_region 2 with (fail)
  have hFl : SetSt w (.slice (some ⟨g, 0, none⟩) 9 c) (.slice Ar row.length cr) (.slice Ak (fl n).f.cs.length ck) (fl n) [] (.slice none 0 0) (((w.alloc (.cells #[.slice (some ⟨g, 0, none⟩) 9 c, .slice Ar row.length cr] 46)).alloc (.cells #[.slice none 0 0, .slice none 0 0] 46)).alloc (.cells #[.bool (fl n).there, .int .i64 (fl n).f.q, .int .i64 (fl n).f.d, .slice Ak (fl n).f.cs.length ck, .bool (fl n).f.rests, .bool (fl n).f.anew] 64)) := by
    have s1 : (w.alloc (.cells #[.slice (some ⟨g, 0, none⟩) 9 c, .slice Ar row.length cr] 46)).heap.size = w.heap.size + 1 := by simp
    have s2 : ((w.alloc (.cells #[.slice (some ⟨g, 0, none⟩) 9 c, .slice Ar row.length cr] 46)).alloc (.cells #[.slice none 0 0, .slice none 0 0] 46)).heap.size = w.heap.size + 1 + 1 := by simp
    refine ⟨((Blk.new w 46 _).alloc _).alloc _, ?_, ?_, (((Below.refl _ _).alloc (Nat.le_refl _) _).alloc (by simp) _).alloc (by simp; omega) _, .inl ⟨rfl, rfl⟩⟩
    · rw [← s1]; exact (Blk.new _ 46 _).alloc _
    · rw [← s2]; exact Blk.new _ 64 _
  generalize ((w.alloc (.cells #[.slice (some ⟨g, 0, none⟩) 9 c, .slice Ar row.length cr] 46)).alloc (.cells #[.slice none 0 0, .slice none 0 0] 46)).alloc (.cells #[.bool (fl n).there, .int .i64 (fl n).f.q, .int .i64 (fl n).f.d, .slice Ak (fl n).f.cs.length ck, .bool (fl n).f.rests, .bool (fl n).f.anew] 64) = W0 at *
  have a1 : W0.cell? ⟨w.heap.size, 1, none⟩ = some (.slice Ar row.length cr) := by simpa using hFl.bx.cell 1
  have D := Lib.hid (fun wq (hb : Below W0.heap.size W0 wq) => without_c wq (.slice Ar row.length cr) row n ((Hr.out.below hFl.bel).below hb) hl)
  have H0 := Lib.hid hFl
  clear hFl
  go_cut [6] (fun b wc => b = .bool (decide ((n : Int) ∈ row)) ∧ Below W0.heap.size W0 wc)
  case first =>
    go_region_held3 (fun wq => wq.cell? ⟨w.heap.size, 1, none⟩ = some (.slice Ar row.length cr) ∧ Below W0.heap.size W0 wq)
      (first | (refine ⟨?_, ?_⟩; (simp [*]); (first | assumption | exact ⟨rfl, rfl, rfl, Nat.le_refl _, fun _ _ => rfl⟩)))
      (first | (go_at_call 36; refine (D.out _ ?_).mono ?_; (simp [*]); rintro e w3 ⟨v3, rfl, hwin, hb3⟩; have hk3 := keeps hb3 (Nat.le_refl _); obtain ⟨A3, c3, rfl, _⟩ := hwin.form; have hb4 := below_step (And.right (by assumption)) (Nat.le_refl _) hb3; clear hb3 hwin))
    go_wp2_with fail
    go_meet
    refine ⟨?_, hb4⟩
    have hlen : (ints (wo row n)).length = (wo row n).length := by simp [ints]
    rw [hlen]
    congr 1
    exact decide_eq_decide.2 (wo_len row n)
  case rest =>
    obtain ⟨rfl, hb⟩ := hcut
    have H1 := Lib.hid (H0.out.below hb)
    clear hb a1 D H0 k0 k1 k2 k3 k4 k5
    go_upto_region 3 with (fail)
    have e0 : wc.cell? ⟨w.heap.size + 1 + 1, 0, none⟩ = some (.bool (fl n).there) := by simpa [flA] using H1.out.bf.cell 0
    have e3 : wc.cell? ⟨w.heap.size + 1 + 1, 3, none⟩ = some (.slice Ak (fl n).f.cs.length ck) := by simpa [flA] using H1.out.bf.cell 3
    have e4 : wc.cell? ⟨w.heap.size + 1 + 1, 4, none⟩ = some (.bool (fl n).f.rests) := by simpa [flA] using H1.out.bf.cell 4
    go_cut [7] (fun b wd => b = .bool (actR (fl n)) ∧ wd = wc)
    case first =>
      have Hact := Lib.hid (show actR (fl n) = ((fl n).there && (decide (0 < (fl n).f.cs.length) && !(fl n).f.rests)) from rfl)
      generalize (fl n).there = th at *
      generalize (fl n).f.rests = rs at *
      generalize (fl n).f.cs.length = ln at *
      cases th <;> cases rs <;> by_cases hln : 0 < ln
      all_goals (go_wp2_with fail; go_meet; exact ⟨by rw [Hact.out]; simp [hln], by first | rfl | trivial⟩)
    case rest =>
      obtain ⟨rfl, rfl⟩ := hcut
      clear e0 e3 e4
      have HA := Lib.hid (H1.out.below ((Below.refl _ _).alloc (Nat.le_refl _) (.cells #[] 3)))
      have hsz0 : w.heap.size < wc.heap.size := by have := H1.out.sz; omega
      have c1 : wc.cell? ⟨w.heap.size, 1, none⟩ = some (.slice Ar row.length cr) := by simpa using H1.out.bx.cell 1
      have HE := Lib.hid (Blk.new wc 3 #[])
      have hsz := H1.out.sz
      generalize hact : actR (fl n) = act at *
      have Hact := Lib.hid hact
      clear hact
      go_upto_if 44 with (at_builtin; refine wpList_copy_ints _ rfl (.tmp 36) (.tmp 38) rfl wc.heap.size rfl HE.out (.slice Ar row.length cr) row rfl (Hr.out.below HA.out.bel) ?_ ?_)
      case refine_1 => omega
      intro v8 w2 hwin hg
      have h2 := HA.out.grown hg (fun k hk => by injection hk with hk; omega) (hwin.more (S' := fun k => w.heap.size + 1 + 1 + 1 ≤ k) (fun k hk _ => by omega))
      obtain ⟨A8, c8, rfl, _⟩ := hwin.form
      rw [show (ints row).length = row.length by simp [ints]] at h2 ⊢
      have H2 := Lib.hid h2
      clear h2 hwin hg c1 HA HE hsz hsz0 H1
      have hsz := H2.out.sz
      have y2 := H2.out.bf.frozen 2
      have y5 := H2.out.bf.frozen 5
      have e2 : w2.cell? ⟨w.heap.size + 1 + 1, 2, none⟩ = some (.int .i64 (fl n).f.d) := by simpa [flA] using H2.out.bf.cell 2
      have e5 : w2.cell? ⟨w.heap.size + 1 + 1, 5, none⟩ = some (.bool (fl n).f.anew) := by simpa [flA] using H2.out.bf.cell 5
      cases act with
      | false =>
        have H3 := Lib.hid (H2.out.setFl (f' := ⟨(fl n).there, leaveF (fl n).f⟩) 2 (.int .i64 0) rfl)
        have hri := RI.of_up hQ H3.out.win (by omega)
        have D := Lib.hid (without_c _ (.slice A8 row.length c8) row n hri hl)
        clear hri
        go_wp2_with fail
        refine D.out.mono ?_
        rintro e w4 ⟨v9, rfl, hwin, hb4⟩
        have h4 := (H3.out.below hb4)
        have h5 := h4.grown (World.grownBy.refl _ _) (b := none) (by simp) (hwin.more (S' := fun k => w.heap.size + 1 + 1 + 1 ≤ k) (fun k hk _ => by have := H3.out.sz; omega))
        obtain ⟨A9, c9, rfl, _⟩ := hwin.form
        rw [show (ints (wo row n)).length = (wo row n).length by simp [ints]] at h5 ⊢
        have H5 := Lib.hid h5
        have hf' : settleF (fl n) (decide ((n : Int) ∈ row)) = ⟨(fl n).there, leaveF (fl n).f⟩ := by unfold settleF; rw [Hact.out]; rfl
        have hr' : settleRow (fl n) row n = wo row n := by unfold settleRow; rw [Hact.out]; rfl
        have Hf := Lib.hid hf'
        have Hr' := Lib.hid hr'
        clear h4 h5 hwin hb4 hf' hr' H3 D H2 y2 y5 e2 e5 hsz
        go_upto_region 12 with (fail)
        generalize wo row n = row' at *
        have hcs : ∃ f' : RFl, f' = ⟨(fl n).there, leaveF (fl n).f⟩ ∧ f'.f.cs = (fl n).f.cs := ⟨_, rfl, rfl⟩
        obtain ⟨f', hfe, hcs⟩ := hcs
        have Hcs := Lib.hid hcs
        rw [← hfe] at H5 Hf
        clear hcs hfe
        have hlk : RI Q w4 (.slice Ak (fl n).f.cs.length ck) f'.f.cs := by
          rw [Hcs.out, ← Hkv.out]; exact (HF.out.cs n hn).below H5.out.bel
        have D := with_c w4 _ fl row (HI.out.below H5.out.bel) n hn _ f' hlk (hQ.below H5.out.bel)
        unfold flV at D
        have D1 := Lib.hid D
        have a0 : w4.cell? ⟨w.heap.size, 0, none⟩ = some (.slice (some ⟨g, 0, none⟩) 9 c) := by simpa using H5.out.bx.cell 0
        have a1 : w4.cell? ⟨w.heap.size, 1, none⟩ = some (.slice Ar row.length cr) := by simpa using H5.out.bx.cell 1
        have e0 : w4.cell? ⟨w.heap.size + 1 + 1, 0, none⟩ = some (.bool f'.there) := by simpa [flA] using H5.out.bf.cell 0
        have e1 : w4.cell? ⟨w.heap.size + 1 + 1, 1, none⟩ = some (.int .i64 f'.f.q) := by simpa [flA] using H5.out.bf.cell 1
        have e2 : w4.cell? ⟨w.heap.size + 1 + 1, 2, none⟩ = some (.int .i64 f'.f.d) := by simpa [flA] using H5.out.bf.cell 2
        have e3 : w4.cell? ⟨w.heap.size + 1 + 1, 3, none⟩ = some (.slice Ak (fl n).f.cs.length ck) := by simpa [flA] using H5.out.bf.cell 3
        have e4 : w4.cell? ⟨w.heap.size + 1 + 1, 4, none⟩ = some (.bool f'.f.rests) := by simpa [flA] using H5.out.bf.cell 4
        have e5 : w4.cell? ⟨w.heap.size + 1 + 1, 5, none⟩ = some (.bool f'.f.anew) := by simpa [flA] using H5.out.bf.cell 5
        clear D hlk
        go_wp2_with fail
        refine D1.out.mono ?_
        rintro e w5 ⟨v1, rfl, hI1, hb5⟩
        obtain ⟨g1, c1, kv1, rv1, rfl, _, _, hr1⟩ := id hI1.ex
        obtain ⟨A1, cr1, rfl, _⟩ := hr1
        have H6 := Lib.hid (H5.out.below hb5)
        have HI1 := Lib.hid hI1
        clear a0 a1 e0 e1 e2 e3 e4 e5 D1 hI1 hb5
        have a0 : w5.cell? ⟨w.heap.size, 0, none⟩ = some (.slice (some ⟨g, 0, none⟩) 9 c) := by simpa using H6.out.bx.cell 0
        have a1 : w5.cell? ⟨w.heap.size, 1, none⟩ = some (.slice Ar row.length cr) := by simpa using H6.out.bx.cell 1
        have z0 : w5.cell? ⟨w.heap.size + 1, 0, none⟩ = some (.slice none 0 0) := by simpa using H6.out.bz.cell 0
        have z1 : w5.cell? ⟨w.heap.size + 1, 1, none⟩ = some (.slice none 0 0) := by simpa using H6.out.bz.cell 1
        have x0 := H6.out.bx.frozen 0
        have x1 := H6.out.bx.frozen 1
        have y0 := H6.out.bz.frozen 0
        have y1 := H6.out.bz.frozen 1
        go_upto_region 14 with (fail)
        have sl0 := Sl.of_blk H6.out.bx
        have sl1 := sl0.set_ 0 (some ⟨g1, 0, none⟩) 9 c1
        have sl2 := sl1.set_ 1 A1 row.length cr1
        have hI6 := ((HI1.out.setBox sl0 0 (.slice (some ⟨g1, 0, none⟩) 9 c1)).setBox sl1 1 (.slice A1 row.length cr1)).setBox sl2 1 (.slice A9 row'.length c9)
        have hR6 := (((RI.of_up hQ H6.out.win (by omega)).setBox sl0 0 (.slice (some ⟨g1, 0, none⟩) 9 c1)).setBox sl1 1 (.slice A1 row.length cr1)).setBox sl2 1 (.slice A9 row'.length c9)
        have b6 := ((H6.out.bx.set_ 0 (.slice (some ⟨g1, 0, none⟩) 9 c1)).set_ 1 (.slice A1 row.length cr1)).set_ 1 (.slice A9 row'.length c9)
        have z6 := ((H6.out.bz.far (p := ⟨w.heap.size, 0, none⟩) (by show w.heap.size + 1 ≠ w.heap.size; omega) (.slice (some ⟨g1, 0, none⟩) 9 c1)).far (p := ⟨w.heap.size, 1, none⟩) (by show w.heap.size + 1 ≠ w.heap.size; omega) (.slice A1 row.length cr1)).far (p := ⟨w.heap.size, 1, none⟩) (by show w.heap.size + 1 ≠ w.heap.size; omega) (.slice A9 row'.length c9)
        have l6 := ((H6.out.bel.setCell (p := ⟨w.heap.size, 0, none⟩) (Nat.le_refl _) (.slice (some ⟨g1, 0, none⟩) 9 c1)).setCell (p := ⟨w.heap.size, 1, none⟩) (Nat.le_refl _) (.slice A1 row.length cr1)).setCell (p := ⟨w.heap.size, 1, none⟩) (Nat.le_refl _) (.slice A9 row'.length c9)
        clear sl0 sl1 sl2 a0 a1 z0 z1 x0 x1 y0 y1
        generalize ((w5.setCell ⟨w.heap.size, 0, none⟩ (.slice (some ⟨g1, 0, none⟩) 9 c1)).setCell ⟨w.heap.size, 1, none⟩ (.slice A1 row.length cr1)).setCell ⟨w.heap.size, 1, none⟩ (.slice A9 row'.length c9) = w6 at *
        have a0 : w6.cell? ⟨w.heap.size, 0, none⟩ = some (.slice (some ⟨g1, 0, none⟩) 9 c1) := by simpa using b6.cell 0
        have a1 : w6.cell? ⟨w.heap.size, 1, none⟩ = some (.slice A9 row'.length c9) := by simpa using b6.cell 1
        have z0 : w6.cell? ⟨w.heap.size + 1, 0, none⟩ = some (.slice none 0 0) := by simpa using z6.cell 0
        have z1 : w6.cell? ⟨w.heap.size + 1, 1, none⟩ = some (.slice none 0 0) := by simpa using z6.cell 1
        have y0 := z6.frozen 0
        have y1 := z6.frozen 1
        have I7 := Lib.hid (((hI6.setRow hR6).setBox (Sl.of_blk z6) 0 (.slice (some ⟨g1, 0, none⟩) 9 c1)).setBox ((Sl.of_blk z6).set_ 0 (some ⟨g1, 0, none⟩) 9 c1) 1 (.slice A9 row'.length c9))
        have L7 := Lib.hid ((l6.setCell (p := ⟨w.heap.size + 1, 0, none⟩) (by show w.heap.size ≤ w.heap.size + 1; omega) (.slice (some ⟨g1, 0, none⟩) 9 c1)).setCell (p := ⟨w.heap.size + 1, 1, none⟩) (by show w.heap.size ≤ w.heap.size + 1; omega) (.slice A9 row'.length c9))
        have r7 := (z6.set_ 0 (.slice (some ⟨g1, 0, none⟩) 9 c1)).set_ 1 (.slice A9 row'.length c9)
        have r0 := r7.cell 0
        have r1 := r7.cell 1
        simp at r0 r1
        clear hI6 hR6 b6 z6 l6 r7 H6 HI1
        go_wp2_with fail
        refine bodyPost_ret (v := .agg #[.slice (some ⟨g1, 0, none⟩) 9 c1, .slice A9 row'.length c9]) (by simp [results, Try.results29, go_sem, r0, r1]) rfl ?_
        refine ⟨_, rfl, ?_, L7.out⟩; rw [Hf.out, Hr'.out]; exact I7.out
      | true =>
        by_cases hin : (n : Int) ∈ row
        · have hd : decide ((n : Int) ∈ row) = true := by simpa using hin
          have hf' : settleF (fl n) (decide ((n : Int) ∈ row)) = fl n := by unfold settleF; rw [Hact.out, hd]; rfl
          have hr' : settleRow (fl n) row n = row := by unfold settleRow; rw [Hact.out, if_pos rfl, if_pos hin]
          have Hf := Lib.hid hf'
          have Hr' := Lib.hid hr'
          clear hf' hr' y2 y5 e2 e5 hsz
          rw [hd]
          clear hd
          go_upto_region 12 with (fail)
          have hlk : RI Q w2 (.slice Ak (fl n).f.cs.length ck) (fl n).f.cs := by
            rw [← Hkv.out]; exact (HF.out.cs n hn).below H2.out.bel
          have D := with_c w2 _ fl row (HI.out.below H2.out.bel) n hn _ (fl n) hlk (hQ.below H2.out.bel)
          unfold flV at D
          have D1 := Lib.hid D
          have a0 : w2.cell? ⟨w.heap.size, 0, none⟩ = some (.slice (some ⟨g, 0, none⟩) 9 c) := by simpa using H2.out.bx.cell 0
          have a1 : w2.cell? ⟨w.heap.size, 1, none⟩ = some (.slice Ar row.length cr) := by simpa using H2.out.bx.cell 1
          have e0 : w2.cell? ⟨w.heap.size + 1 + 1, 0, none⟩ = some (.bool (fl n).there) := by simpa [flA] using H2.out.bf.cell 0
          have e1 : w2.cell? ⟨w.heap.size + 1 + 1, 1, none⟩ = some (.int .i64 (fl n).f.q) := by simpa [flA] using H2.out.bf.cell 1
          have e2 : w2.cell? ⟨w.heap.size + 1 + 1, 2, none⟩ = some (.int .i64 (fl n).f.d) := by simpa [flA] using H2.out.bf.cell 2
          have e3 : w2.cell? ⟨w.heap.size + 1 + 1, 3, none⟩ = some (.slice Ak (fl n).f.cs.length ck) := by simpa [flA] using H2.out.bf.cell 3
          have e4 : w2.cell? ⟨w.heap.size + 1 + 1, 4, none⟩ = some (.bool (fl n).f.rests) := by simpa [flA] using H2.out.bf.cell 4
          have e5 : w2.cell? ⟨w.heap.size + 1 + 1, 5, none⟩ = some (.bool (fl n).f.anew) := by simpa [flA] using H2.out.bf.cell 5
          clear D hlk
          go_wp2_with fail
          refine D1.out.mono ?_
          rintro e w5 ⟨v1, rfl, hI1, hb5⟩
          obtain ⟨g1, c1, kv1, rv1, rfl, _, _, hr1⟩ := id hI1.ex
          obtain ⟨A1, cr1, rfl, _⟩ := hr1
          have H6 := Lib.hid (H2.out.below hb5)
          have HI1 := Lib.hid hI1
          clear a0 a1 e0 e1 e2 e3 e4 e5 D1 hI1 hb5
          have a0 : w5.cell? ⟨w.heap.size, 0, none⟩ = some (.slice (some ⟨g, 0, none⟩) 9 c) := by simpa using H6.out.bx.cell 0
          have a1 : w5.cell? ⟨w.heap.size, 1, none⟩ = some (.slice Ar row.length cr) := by simpa using H6.out.bx.cell 1
          have z0 : w5.cell? ⟨w.heap.size + 1, 0, none⟩ = some (.slice none 0 0) := by simpa using H6.out.bz.cell 0
          have z1 : w5.cell? ⟨w.heap.size + 1, 1, none⟩ = some (.slice none 0 0) := by simpa using H6.out.bz.cell 1
          have x0 := H6.out.bx.frozen 0
          have x1 := H6.out.bx.frozen 1
          have y0 := H6.out.bz.frozen 0
          have y1 := H6.out.bz.frozen 1
          go_upto_region 14 with (fail)
          have sl0 := Sl.of_blk H6.out.bx
          have sl1 := sl0.set_ 0 (some ⟨g1, 0, none⟩) 9 c1
          have sl2 := sl1.set_ 1 A1 row.length cr1
          have hI6 := ((HI1.out.setBox sl0 0 (.slice (some ⟨g1, 0, none⟩) 9 c1)).setBox sl1 1 (.slice A1 row.length cr1)).setBox sl2 1 (.slice A8 row.length c8)
          have hR6 := (((RI.of_up hQ H6.out.win (by omega)).setBox sl0 0 (.slice (some ⟨g1, 0, none⟩) 9 c1)).setBox sl1 1 (.slice A1 row.length cr1)).setBox sl2 1 (.slice A8 row.length c8)
          have b6 := ((H6.out.bx.set_ 0 (.slice (some ⟨g1, 0, none⟩) 9 c1)).set_ 1 (.slice A1 row.length cr1)).set_ 1 (.slice A8 row.length c8)
          have z6 := ((H6.out.bz.far (p := ⟨w.heap.size, 0, none⟩) (by show w.heap.size + 1 ≠ w.heap.size; omega) (.slice (some ⟨g1, 0, none⟩) 9 c1)).far (p := ⟨w.heap.size, 1, none⟩) (by show w.heap.size + 1 ≠ w.heap.size; omega) (.slice A1 row.length cr1)).far (p := ⟨w.heap.size, 1, none⟩) (by show w.heap.size + 1 ≠ w.heap.size; omega) (.slice A8 row.length c8)
          have l6 := ((H6.out.bel.setCell (p := ⟨w.heap.size, 0, none⟩) (Nat.le_refl _) (.slice (some ⟨g1, 0, none⟩) 9 c1)).setCell (p := ⟨w.heap.size, 1, none⟩) (Nat.le_refl _) (.slice A1 row.length cr1)).setCell (p := ⟨w.heap.size, 1, none⟩) (Nat.le_refl _) (.slice A8 row.length c8)
          clear sl0 sl1 sl2 a0 a1 z0 z1 x0 x1 y0 y1
          generalize ((w5.setCell ⟨w.heap.size, 0, none⟩ (.slice (some ⟨g1, 0, none⟩) 9 c1)).setCell ⟨w.heap.size, 1, none⟩ (.slice A1 row.length cr1)).setCell ⟨w.heap.size, 1, none⟩ (.slice A8 row.length c8) = w6 at *
          have a0 : w6.cell? ⟨w.heap.size, 0, none⟩ = some (.slice (some ⟨g1, 0, none⟩) 9 c1) := by simpa using b6.cell 0
          have a1 : w6.cell? ⟨w.heap.size, 1, none⟩ = some (.slice A8 row.length c8) := by simpa using b6.cell 1
          have z0 : w6.cell? ⟨w.heap.size + 1, 0, none⟩ = some (.slice none 0 0) := by simpa using z6.cell 0
          have z1 : w6.cell? ⟨w.heap.size + 1, 1, none⟩ = some (.slice none 0 0) := by simpa using z6.cell 1
          have y0 := z6.frozen 0
          have y1 := z6.frozen 1
          have I7 := Lib.hid (((hI6.setRow hR6).setBox (Sl.of_blk z6) 0 (.slice (some ⟨g1, 0, none⟩) 9 c1)).setBox ((Sl.of_blk z6).set_ 0 (some ⟨g1, 0, none⟩) 9 c1) 1 (.slice A8 row.length c8))
          have L7 := Lib.hid ((l6.setCell (p := ⟨w.heap.size + 1, 0, none⟩) (by show w.heap.size ≤ w.heap.size + 1; omega) (.slice (some ⟨g1, 0, none⟩) 9 c1)).setCell (p := ⟨w.heap.size + 1, 1, none⟩) (by show w.heap.size ≤ w.heap.size + 1; omega) (.slice A8 row.length c8))
          have r7 := (z6.set_ 0 (.slice (some ⟨g1, 0, none⟩) 9 c1)).set_ 1 (.slice A8 row.length c8)
          have r0 := r7.cell 0
          have r1 := r7.cell 1
          simp at r0 r1
          clear hI6 hR6 b6 z6 l6 r7 H6 HI1
          go_wp2_with fail
          refine bodyPost_ret (v := .agg #[.slice (some ⟨g1, 0, none⟩) 9 c1, .slice A8 row.length c8]) (by simp [results, Try.results29, go_sem, r0, r1]) rfl ?_
          refine ⟨_, rfl, ?_, L7.out⟩; rw [Hf.out, Hr'.out]; exact I7.out
        · have hd : decide ((n : Int) ∈ row) = false := by simpa using hin
          have H3 := Lib.hid ((H2.out.setFl (f' := ⟨(fl n).there, leaveF (fl n).f⟩) 2 (.int .i64 0) rfl).setFl (f' := ⟨(fl n).there, joinF (fl n).f⟩) 5 (.bool true) rfl)
          have HA := Lib.hid (H3.out.below ((Below.refl _ _).alloc (Nat.le_refl _) (.cells #[.int .i64 n] 3)))
          have hcu : (((w2.setCell ⟨w.heap.size + 1 + 1, 2, none⟩ (.int .i64 0)).setCell ⟨w.heap.size + 1 + 1, 5, none⟩ (.bool true)).alloc (.cells #[.int .i64 n] 3)).cell? ⟨w2.heap.size, 0, none⟩ = some (.int .i64 n) := by simpa using (Blk.new ((w2.setCell ⟨w.heap.size + 1 + 1, 2, none⟩ (.int .i64 0)).setCell ⟨w.heap.size + 1 + 1, 5, none⟩ (.bool true)) 3 #[.int .i64 n]).cell 0
          have HCU := Lib.hid hcu
          clear hcu
          rw [hd]
          have hli : (ints row).length + 1 ≤ 1048576 := by simp [ints]; omega
          go_upto_region 12 with (at_builtin; refine wpList_append_win _ rfl (.tmp 47) (.tmp 49) 36 rfl 3 i0 _ Try.underlying36 hi0 hz0 hz1 hz2 rfl (v := .slice A8 row.length c8) rfl HA.out.win ⟨w2.heap.size, 0, none⟩ 1 (.int .i64 n) rfl HCU.out rfl ?_ ?_ ?_)
          case refine_1 => exact hli
          case refine_2 => simp; omega
          intro v9 w4 hwin hg4 hor
          have h5 := HA.out.grown hg4 (row' := row ++ [(n : Int)]) (fun k hk => (HA.out.win.lt k hk).1) (by simpa [ints] using hwin)
          obtain ⟨A9, c9, rfl, _⟩ := hwin.form
          have hle : (ints row ++ [Value.int .i64 (n : Int)]).length = (row ++ [(n : Int)]).length := by simp [ints]
          rw [hle] at h5 ⊢
          have hf' : settleF (fl n) (decide ((n : Int) ∈ row)) = ⟨(fl n).there, joinF (fl n).f⟩ := by unfold settleF; rw [Hact.out, hd]; rfl
          have hr' : settleRow (fl n) row n = row ++ [(n : Int)] := by unfold settleRow; rw [Hact.out, if_pos rfl, if_neg hin]
          have H5 := Lib.hid h5
          have Hf := Lib.hid hf'
          have Hr' := Lib.hid hr'
          clear h5 hwin hg4 hor hle hf' hr' hd H3 HA HCU H2 y2 y5 e2 e5 hsz hli
          go_upto_region 12 with (fail)
          generalize row ++ [(n : Int)] = row' at *
          have hcs : ∃ f' : RFl, f' = ⟨(fl n).there, joinF (fl n).f⟩ ∧ f'.f.cs = (fl n).f.cs := ⟨_, rfl, rfl⟩
          obtain ⟨f', hfe, hcs⟩ := hcs
          have Hcs := Lib.hid hcs
          rw [← hfe] at H5 Hf
          clear hcs hfe
          have hlk : RI Q w4 (.slice Ak (fl n).f.cs.length ck) f'.f.cs := by
            rw [Hcs.out, ← Hkv.out]; exact (HF.out.cs n hn).below H5.out.bel
          have D := with_c w4 _ fl row (HI.out.below H5.out.bel) n hn _ f' hlk (hQ.below H5.out.bel)
          unfold flV at D
          have D1 := Lib.hid D
          have a0 : w4.cell? ⟨w.heap.size, 0, none⟩ = some (.slice (some ⟨g, 0, none⟩) 9 c) := by simpa using H5.out.bx.cell 0
          have a1 : w4.cell? ⟨w.heap.size, 1, none⟩ = some (.slice Ar row.length cr) := by simpa using H5.out.bx.cell 1
          have e0 : w4.cell? ⟨w.heap.size + 1 + 1, 0, none⟩ = some (.bool f'.there) := by simpa [flA] using H5.out.bf.cell 0
          have e1 : w4.cell? ⟨w.heap.size + 1 + 1, 1, none⟩ = some (.int .i64 f'.f.q) := by simpa [flA] using H5.out.bf.cell 1
          have e2 : w4.cell? ⟨w.heap.size + 1 + 1, 2, none⟩ = some (.int .i64 f'.f.d) := by simpa [flA] using H5.out.bf.cell 2
          have e3 : w4.cell? ⟨w.heap.size + 1 + 1, 3, none⟩ = some (.slice Ak (fl n).f.cs.length ck) := by simpa [flA] using H5.out.bf.cell 3
          have e4 : w4.cell? ⟨w.heap.size + 1 + 1, 4, none⟩ = some (.bool f'.f.rests) := by simpa [flA] using H5.out.bf.cell 4
          have e5 : w4.cell? ⟨w.heap.size + 1 + 1, 5, none⟩ = some (.bool f'.f.anew) := by simpa [flA] using H5.out.bf.cell 5
          clear D hlk
          go_wp2_with fail
          refine D1.out.mono ?_
          rintro e w5 ⟨v1, rfl, hI1, hb5⟩
          obtain ⟨g1, c1, kv1, rv1, rfl, _, _, hr1⟩ := id hI1.ex
          obtain ⟨A1, cr1, rfl, _⟩ := hr1
          have H6 := Lib.hid (H5.out.below hb5)
          have HI1 := Lib.hid hI1
          clear a0 a1 e0 e1 e2 e3 e4 e5 D1 hI1 hb5
          have a0 : w5.cell? ⟨w.heap.size, 0, none⟩ = some (.slice (some ⟨g, 0, none⟩) 9 c) := by simpa using H6.out.bx.cell 0
          have a1 : w5.cell? ⟨w.heap.size, 1, none⟩ = some (.slice Ar row.length cr) := by simpa using H6.out.bx.cell 1
          have z0 : w5.cell? ⟨w.heap.size + 1, 0, none⟩ = some (.slice none 0 0) := by simpa using H6.out.bz.cell 0
          have z1 : w5.cell? ⟨w.heap.size + 1, 1, none⟩ = some (.slice none 0 0) := by simpa using H6.out.bz.cell 1
          have x0 := H6.out.bx.frozen 0
          have x1 := H6.out.bx.frozen 1
          have y0 := H6.out.bz.frozen 0
          have y1 := H6.out.bz.frozen 1
          go_upto_region 14 with (fail)
          have sl0 := Sl.of_blk H6.out.bx
          have sl1 := sl0.set_ 0 (some ⟨g1, 0, none⟩) 9 c1
          have sl2 := sl1.set_ 1 A1 row.length cr1
          have hI6 := ((HI1.out.setBox sl0 0 (.slice (some ⟨g1, 0, none⟩) 9 c1)).setBox sl1 1 (.slice A1 row.length cr1)).setBox sl2 1 (.slice A9 row'.length c9)
          have hR6 := (((RI.of_up hQ H6.out.win (by omega)).setBox sl0 0 (.slice (some ⟨g1, 0, none⟩) 9 c1)).setBox sl1 1 (.slice A1 row.length cr1)).setBox sl2 1 (.slice A9 row'.length c9)
          have b6 := ((H6.out.bx.set_ 0 (.slice (some ⟨g1, 0, none⟩) 9 c1)).set_ 1 (.slice A1 row.length cr1)).set_ 1 (.slice A9 row'.length c9)
          have z6 := ((H6.out.bz.far (p := ⟨w.heap.size, 0, none⟩) (by show w.heap.size + 1 ≠ w.heap.size; omega) (.slice (some ⟨g1, 0, none⟩) 9 c1)).far (p := ⟨w.heap.size, 1, none⟩) (by show w.heap.size + 1 ≠ w.heap.size; omega) (.slice A1 row.length cr1)).far (p := ⟨w.heap.size, 1, none⟩) (by show w.heap.size + 1 ≠ w.heap.size; omega) (.slice A9 row'.length c9)
          have l6 := ((H6.out.bel.setCell (p := ⟨w.heap.size, 0, none⟩) (Nat.le_refl _) (.slice (some ⟨g1, 0, none⟩) 9 c1)).setCell (p := ⟨w.heap.size, 1, none⟩) (Nat.le_refl _) (.slice A1 row.length cr1)).setCell (p := ⟨w.heap.size, 1, none⟩) (Nat.le_refl _) (.slice A9 row'.length c9)
          clear sl0 sl1 sl2 a0 a1 z0 z1 x0 x1 y0 y1
          generalize ((w5.setCell ⟨w.heap.size, 0, none⟩ (.slice (some ⟨g1, 0, none⟩) 9 c1)).setCell ⟨w.heap.size, 1, none⟩ (.slice A1 row.length cr1)).setCell ⟨w.heap.size, 1, none⟩ (.slice A9 row'.length c9) = w6 at *
          have a0 : w6.cell? ⟨w.heap.size, 0, none⟩ = some (.slice (some ⟨g1, 0, none⟩) 9 c1) := by simpa using b6.cell 0
          have a1 : w6.cell? ⟨w.heap.size, 1, none⟩ = some (.slice A9 row'.length c9) := by simpa using b6.cell 1
          have z0 : w6.cell? ⟨w.heap.size + 1, 0, none⟩ = some (.slice none 0 0) := by simpa using z6.cell 0
          have z1 : w6.cell? ⟨w.heap.size + 1, 1, none⟩ = some (.slice none 0 0) := by simpa using z6.cell 1
          have y0 := z6.frozen 0
          have y1 := z6.frozen 1
          have I7 := Lib.hid (((hI6.setRow hR6).setBox (Sl.of_blk z6) 0 (.slice (some ⟨g1, 0, none⟩) 9 c1)).setBox ((Sl.of_blk z6).set_ 0 (some ⟨g1, 0, none⟩) 9 c1) 1 (.slice A9 row'.length c9))
          have L7 := Lib.hid ((l6.setCell (p := ⟨w.heap.size + 1, 0, none⟩) (by show w.heap.size ≤ w.heap.size + 1; omega) (.slice (some ⟨g1, 0, none⟩) 9 c1)).setCell (p := ⟨w.heap.size + 1, 1, none⟩) (by show w.heap.size ≤ w.heap.size + 1; omega) (.slice A9 row'.length c9))
          have r7 := (z6.set_ 0 (.slice (some ⟨g1, 0, none⟩) 9 c1)).set_ 1 (.slice A9 row'.length c9)
          have r0 := r7.cell 0
          have r1 := r7.cell 1
          simp at r0 r1
          clear hI6 hR6 b6 z6 l6 r7 H6 HI1
          go_wp2_with fail
          refine bodyPost_ret (v := .agg #[.slice (some ⟨g1, 0, none⟩) 9 c1, .slice A9 row'.length c9]) (by simp [results, Try.results29, go_sem, r0, r1]) rfl ?_
          refine ⟨_, rfl, ?_, L7.out⟩; rw [Hf.out, Hr'.out]; exact I7.out
end Go.Proofs.Ytaenlieajlfkdaa
