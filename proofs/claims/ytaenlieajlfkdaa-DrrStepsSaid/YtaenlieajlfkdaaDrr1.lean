/- What the small functions of package drr do, and slices' Index and Contains. -/
import Derived.Test.YtaenlieajlfkdaaMapP
import Derived.BigRegion
import Derived.Deep.RegionHeld3
namespace Go.Proofs.Ytaenlieajlfkdaa
open Go.RowKit Go.Maps
set_option linter.unusedVariables false
set_option linter.unusedSimpArgs false

/-- One that waits. -/
structure FS where
  q : Int
  d : Int
  cs : List Int
  rests : Bool
  anew : Bool

def ints (l : List Int) : List Value := l.map fun c => .int .i64 c
def FlB (w : World) (b : Nat) (n : Int) (f : FS) (cv : Value) : Prop := Blk w b 59 #[.int .i64 n, .int .i64 f.q, .int .i64 f.d, cv, .bool f.rests, .bool f.anew]
section
variable {w : World} {b : Nat} {n : Int} {f : FS} {cv : Value}
theorem FlB.c0 (h : FlB w b n f cv) : w.cell? ⟨b, 0, none⟩ = some (.int .i64 n) := by have := Blk.cell h 0; simpa using this
theorem FlB.c1 (h : FlB w b n f cv) : w.cell? ⟨b, 1, none⟩ = some (.int .i64 f.q) := by have := Blk.cell h 1; simpa using this
theorem FlB.c2 (h : FlB w b n f cv) : w.cell? ⟨b, 2, none⟩ = some (.int .i64 f.d) := by have := Blk.cell h 2; simpa using this
theorem FlB.c3 (h : FlB w b n f cv) : w.cell? ⟨b, 3, none⟩ = some cv := by have := Blk.cell h 3; simpa using this
theorem FlB.c4 (h : FlB w b n f cv) : w.cell? ⟨b, 4, none⟩ = some (.bool f.rests) := by have := Blk.cell h 4; simpa using this
theorem FlB.c5 (h : FlB w b n f cv) : w.cell? ⟨b, 5, none⟩ = some (.bool f.anew) := by have := Blk.cell h 5; simpa using this
theorem FlB.fz (h : FlB w b n f cv) (i : Nat) : w.frozen? ⟨b, i, none⟩ = false := Blk.frozen h i
end

def actF (f : FS) : Bool := decide (0 < f.cs.length) && !f.rests
theorem active_c (w : World) (b : Nat) (n : Int) (f : FS) (cv : Value) (h : FlB w b n f cv) {A : Option Addr} {c : Nat} (hcv : cv = .slice A f.cs.length c) :
    Calls Try.prog 34 #[.pointer (some ⟨b, 0, none⟩)] w fun x w' => x = .returned (.bool (actF f)) ∧ w = w' := by
  have c3 := h.c3
  have c4 := h.c4
  clear h
  subst hcv
  unfold actF
  generalize f.cs.length = l at *
  generalize f.rests = r at *
  by_cases hl : 0 < l
  · cases r
    · go_enter Try.func34, Try.ntmps34
      go_wp2_with fail
      go_ret
      exact ⟨ret_bool (by simp [hl]), rfl⟩
    · go_enter Try.func34, Try.ntmps34
      go_wp2_with fail
      go_ret
      exact ⟨ret_bool (by simp), rfl⟩
  · obtain rfl : l = 0 := by omega
    go_enter Try.func34, Try.ntmps34
    go_wp2_with fail
    go_ret
    exact ⟨ret_bool (by simp), rfl⟩

theorem find_c (w : World) (S : Nat → Prop) (g : Nat) (M rv : Value) (ad : Int → Option Nat) (N : Nat) (n : Int) (hn : I64 n) (hg : Blk w g 28 #[M, rv]) (hm : MapIs w S M ad N) :
    Calls Try.prog 24 #[.pointer (some ⟨g, 0, none⟩), .int .i64 n] w fun x w' => x = .returned (ptr (ad n)) ∧ w = w' := by
  have c0 : w.cell? ⟨g, 0, none⟩ = some M := by simpa using hg.cell 0
  have hl := hm.lookup hn
  clear hm hg
  go_enter Try.func24, Try.ntmps24
  go_wp2_with fail
  go_ret
  exact ⟨rfl, rfl⟩
theorem find_nil (w : World) (n : Int) : Calls Try.prog 24 #[.pointer none, .int .i64 n] w fun x w' => x = .returned (ptr none) ∧ w = w' := by
  go_enter Try.func24, Try.ntmps24
  go_wp2_with fail
  go_ret
  exact ⟨rfl, rfl⟩

theorem numbered_c (w : World) (n : Int) : Calls Try.prog 23 #[.int .i64 n] w fun x w' => x = .returned (.bool (decide (0 ≤ n ∧ n ≤ 8))) ∧ w = w' := by
  by_cases h : 0 ≤ n
  · by_cases h2 : n ≤ 8
    · go_enter Try.func23, Try.ntmps23
      go_wp2_with fail
      go_ret
      exact ⟨ret_bool (by simp [h, h2]), rfl⟩
    · go_enter Try.func23, Try.ntmps23
      go_wp2_with fail
      go_ret
      exact ⟨ret_bool (by simp [h2]), rfl⟩
  · go_enter Try.func23, Try.ntmps23
    go_wp2_with fail
    go_ret
    exact ⟨ret_bool (by simp; omega), rfl⟩

theorem info59 : (Try.prog.info? 59).map (fun i => (i.zero, i.size, i.bytes)) = some (some (.agg #[.int .i64 0, .int .i64 0, .int .i64 0, .slice none 0 0, .bool false, .bool false]), 6, 56) := by kernel_rfl
/-- A block of cells. -/
def Cel (w : World) (b : Nat) : Prop := ∃ cs t, w.heap[b]? = some (.cells cs t (0, 0))
theorem eql_same (w : World) (b : Nat) : (binOp .eql 57 (.pointer (some ⟨b, 0, none⟩)) (.pointer (some ⟨b, 0, none⟩))).run Try.prog w = .ok (.bool true) w := by
  obtain ⟨i0, hi0, _⟩ := info_parts info59
  exact run_eql_ptr_same w _ Try.underlying57 hi0
theorem eql_other (w : World) {b b' : Nat} (hb : Cel w b) (hb' : Cel w b') (hne : b ≠ b') : (binOp .eql 57 (.pointer (some ⟨b, 0, none⟩)) (.pointer (some ⟨b', 0, none⟩))).run Try.prog w = .ok (.bool false) w := by
  obtain ⟨i0, hi0, _, hz, _⟩ := info_parts info59
  obtain ⟨cs, t, h⟩ := hb
  obtain ⟨cs', t', h'⟩ := hb'
  exact run_eql_ptr_other w Try.underlying57 hi0 (by rw [hz]; decide) (by simp [hne]) h h'

def ptrs (bs : List Nat) : List Value := bs.map fun b => .pointer (some ⟨b, 0, none⟩)
theorem ptrs_at {bs : List Nat} {k : Nat} (h : k < bs.length) : (ptrs bs)[k]? = some (.pointer (some ⟨bs[k], 0, none⟩)) := by simp [ptrs, h]
theorem ptrs_len (bs : List Nat) : (ptrs bs).length = bs.length := by simp [ptrs]

/-- Where b first stands in bs; -1: nowhere. -/
def FirstAt (bs : List Nat) (b : Nat) (i : Int) : Prop := (∃ k : Nat, i = k ∧ bs[k]? = some b ∧ ∀ j, j < k → bs[j]? ≠ some b) ∨ (i = -1 ∧ b ∉ bs)
theorem firstAt_none {bs : List Nat} {b : Nat} (h : ∀ j, j < bs.length → bs[j]? ≠ some b) : FirstAt bs b (-1) := by
  refine .inr ⟨rfl, fun hm => ?_⟩
  obtain ⟨j, hj, e⟩ := List.mem_iff_getElem.1 hm
  exact h j hj (by rw [List.getElem?_eq_getElem hj, e])

set_option maxHeartbeats 1000000 in
theorem index_c (w : World) (S : Nat → Prop) (v : Value) (bs : List Nat) (b : Nat) (h : Win w S 57 v (ptrs bs)) (hl : bs.length ≤ 1048576) (hbs : ∀ x ∈ bs, Cel w x) (hb : Cel w b) :
    Calls Try.prog 41 #[v, .pointer (some ⟨b, 0, none⟩)] w fun x w' => w = w' ∧ ∃ i, x = .returned (.int .i64 i) ∧ FirstAt bs b i := by
  obtain ⟨A, c, rfl, hc, hm⟩ := h.form
  rw [ptrs_len] at hc
  have H := Lib.hid h
  have HBS := Lib.hid hbs
  have HB := Lib.hid hb
  clear h hbs hb
  rw [ptrs_len]
  unfold maxLen at hm
  go_enter Try.func41, Try.ntmps41
  go_wp2_with fail
  go_loopw [8] (fun i wr => ∃ k : Nat, k ≤ bs.length ∧ i = .int .i64 k ∧ wr = w ∧ ∀ j, j < k → bs[j]? ≠ some b) (fun i _ => bs.length - (intOf i).toNat)
  case atStart => exact ⟨0, by omega, rfl, rfl, fun j hj => by omega⟩
  case round =>
    obtain ⟨k, hk, rfl, rfl, hno⟩ := hrel
    by_cases hlt : k < bs.length
    · obtain ⟨g, o, c', hv, _, _, hcell⟩ := H.out.at_ (by rw [ptrs_len]; omega)
      obtain ⟨hc1, _⟩ := hcell k (by rw [ptrs_len]; omega)
      rw [ptrs_at hlt] at hc1
      injection hv with hv1 hv2 hv3
      subst hv1 hv3
      have hx : bs[k]? = some bs[k] := List.getElem?_eq_getElem hlt
      have hxm : Cel wr bs[k] := HBS.out _ (List.getElem_mem hlt)
      have Hno := Lib.hid hno
      clear hcell hv2 hno
      generalize bs[k] = x at *
      generalize hn : bs.length = n at *
      by_cases hxb : b = x
      · subst hxb
        have he := eql_same wr b
        go_wp2_with fail
        go_ret
        exact ⟨rfl, _, rfl, .inl ⟨k, rfl, hx, Hno.out⟩⟩
      · have he := eql_other wr HB.out hxm hxb
        clear hxm
        go_wp2_with fail
        go_roundw
        case rel =>
          refine ⟨k + 1, by omega, by go_num, by first | rfl | trivial, fun j hj => ?_⟩
          rcases Nat.lt_or_ge j k with hjk | hjk
          · exact Hno.out j hjk
          · obtain rfl : j = k := by omega
            rw [hx]
            intro e
            injection e with e
            exact hxb e.symm
        case measure => simp [intOf]; omega
    · obtain rfl : k = bs.length := by omega
      have Hno := Lib.hid hno
      clear hno
      generalize hn : bs.length = n at *
      go_wp2_with fail
      go_ret
      exact ⟨rfl, _, rfl, firstAt_none (fun j hj => Hno.out j (by omega))⟩
theorem contains_c (w : World) (S : Nat → Prop) (v : Value) (bs : List Nat) (b : Nat) (h : Win w S 57 v (ptrs bs)) (hl : bs.length ≤ 1048576) (hbs : ∀ x ∈ bs, Cel w x) (hb : Cel w b) :
    Calls Try.prog 39 #[v, .pointer (some ⟨b, 0, none⟩)] w fun x w' => x = .returned (.bool (decide (b ∈ bs))) ∧ w = w' := by
  have C := index_c w S v bs b h hl hbs hb
  have D := Lib.hid C
  clear C h hbs hb
  go_enter Try.func39, Try.ntmps39
  go_wp2_with fail
  refine D.out.mono ?_
  rintro e w' ⟨rfl, i, rfl, hi⟩
  go_wp2_with fail
  go_ret
  refine ⟨ret_bool ?_, rfl⟩
  rcases hi with ⟨k, rfl, hk, _⟩ | ⟨rfl, hn⟩
  · have : b ∈ bs := List.mem_of_getElem? hk
    simp [this]
  · simp [hn]
end Go.Proofs.Ytaenlieajlfkdaa
