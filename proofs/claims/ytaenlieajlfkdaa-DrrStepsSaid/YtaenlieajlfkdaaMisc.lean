/- New, Active, and chapter 25's example. -/
import Derived.Test.YtaenlieajlfkdaaSetR
namespace Go.Proofs.Ytaenlieajlfkdaa
open Go.RowKit Go.Maps
set_option linter.unusedVariables false
set_option linter.unnecessarySimpa false
set_option linter.unusedSimpArgs false

theorem RgE.new (w : World) (S : Nat → Prop) (hS : S w.heap.size) : RgE (w.alloc (.cells #[.map none, .slice none 0 0] 28)) S w.heap.size (.map none) (.slice none 0 0) (fun _ => .slice none 0 0) (fun _ => none) (fun _ => zeroF) [] 0 :=
  ⟨Blk.new _ _ _, hS, .inl ⟨rfl, fun _ => rfl⟩, fun _ _ h => by (cases h), fun _ _ h => by (cases h), .inl ⟨rfl, rfl⟩, fun _ h => by simp at h, List.nodup_nil, fun _ _ _ _ _ _ h => by (cases h), fun _ _ h => by (cases h), fun _ _ h => by (cases h)⟩
theorem newr_c (w : World) : Calls Try.prog 11 #[] w fun x w' => x = .returned (.pointer (some ⟨w.heap.size, 0, none⟩)) ∧ w.alloc (.cells #[.map none, .slice none 0 0] 28) = w' := by
  go_enter Try.func11, Try.ntmps11
  go_wp2
  go_ret
  exact ⟨rfl, rfl⟩

theorem blks_get {ad : Int → Option Nat} {row : List Int} {k : Nat} {n : Int} {b : Nat} (h : row[k]? = some n) (hb : ad n = some b) : (ptrs (blks ad row))[k]? = some (.pointer (some ⟨b, 0, none⟩)) := by
  simp [ptrs, blks, h, adr_some hb]
theorem ints_take {row : List Int} {k : Nat} {n : Int} (h : row[k]? = some n) : ints (row.take (k + 1)) = ints (row.take k) ++ [.int .i64 n] := by
  unfold ints
  rw [List.take_add_one, h]
  simp

/-- What a call hands back that lists numbers. -/
def ListRet (w : World) (l : List Int) (x : Ending) (w' : World) : Prop := ∃ v, x = .returned v ∧ Win w' (fun k => w.heap.size ≤ k) 3 v (ints l) ∧ Below w.heap.size w w'

set_option maxHeartbeats 1000000 in
theorem activer_c (w : World) (S : Nat → Prop) (g : Nat) (M rv : Value) (cv : Int → Value) (ad : Int → Option Nat) (st : Int → FS) (row : List Int) (N : Nat) (h : RgE w S g M rv cv ad st row N) :
    Calls Try.prog 12 #[.pointer (some ⟨g, 0, none⟩)] w (ListRet w row) := by
  have hrl := h.rowlen
  have c1 : w.cell? ⟨g, 1, none⟩ = some rv := by simpa using h.ring.cell 1
  obtain ⟨A, c, hrv, hcl, hcm⟩ := h.rwin.form
  have hpl : (ptrs (blks ad row)).length = row.length := by simp [ptrs, blks]
  rw [hpl] at hrv hcl
  have H := Lib.hid h
  have Hrv := Lib.hid hrv
  rw [hrv] at c1
  obtain ⟨i0, hi0, hz0, hz1, hz2⟩ := info_parts info3
  generalize hB : w.heap.size = B
  clear h hrv hcm
  go_enter Try.func12, Try.ntmps12
  go_wp2_with fail
  go_loopw [3, 14] (fun v i wr => ∃ k : Nat, k ≤ row.length ∧ i = .int .i64 k ∧ Win wr (fun k => B ≤ k) 3 v (ints (row.take k)) ∧ Below B w wr ∧ B ≤ wr.heap.size) (fun _ i _ => row.length - (intOf i).toNat)
  case atStart => exact ⟨0, by omega, rfl, .inl ⟨rfl, by simp [ints]⟩, hB ▸ Below.refl _ _, by omega⟩
  case round =>
    obtain ⟨k, hk, rfl, hW, hbel, hsz⟩ := hrel
    have HW := Lib.hid hW
    have Hbel := Lib.hid hbel
    by_cases hlt : k < row.length
    · have hx : row[k]? = some row[k] := List.getElem?_eq_getElem hlt
      have hm : row[k] ∈ row := List.getElem_mem hlt
      generalize row[k] = n at *
      obtain ⟨b, hb⟩ := H.out.rin n hm
      obtain ⟨gr, orr, cr, hrv', _, hcr, hcell⟩ := H.out.rwin.at_ (by rw [hpl]; omega)
      have hc0 := (hcell k (by rw [hpl]; omega)).1
      rw [blks_get hx hb] at hc0
      rw [hpl] at hrv' hcr
      have hrv := Hrv.out
      rw [hrv] at hrv'
      injection hrv' with h1 h2 h3
      subst h1 h3
      have kb := (H.out.fl n b hb).2.c0
      have hRw := H.out
      have hw0 := hbel.cell (p := ⟨gr, orr + k, none⟩) (by have := cell_lt hc0; rw [← hB]; exact this)
      have hw1 := hbel.cell (p := ⟨b, 0, none⟩) (by have := cell_lt kb; rw [← hB]; exact this)
      rw [hc0] at hw0
      rw [kb] at hw1
      have htl := ints_take hx
      have Htl := Lib.hid htl
      have hll : (ints (row.take k)).length ≤ 9 := by simp [ints]; omega
      generalize hrn : row.length = rn at *
      clear hRw hc0 kb hcell hW hbel htl hx h2 hrv
      have hcu : (wr.alloc (.cells #[.int .i64 n] 3)).cell? ⟨wr.heap.size, 0, none⟩ = some (.int .i64 n) := by simpa using (Blk.new wr 3 #[.int .i64 n]).cell 0
      have HCU := Lib.hid hcu
      clear hcu
      have HWA : Hid (Win (wr.alloc (.cells #[.int .i64 n] 3)) (fun k => B ≤ k) 3 u3 (ints (row.take k))) := Lib.hid (HW.out.kept (row := none) (only_of_below ((Below.refl _ _).alloc (Nat.le_refl _) _) none) (by simp))
      go_wp2_with (at_builtin; refine wpList_append_win _ rfl (.tmp 18) (.tmp 23) 36 rfl 3 i0 _ Try.underlying36 hi0 hz0 hz1 hz2 rfl (v := u3) rfl HWA.out ⟨wr.heap.size, 0, none⟩ 1 (.int .i64 n) rfl HCU.out rfl ?_ ?_ ?_)
      · omega
      · show B ≤ _; simp; omega
      intro v' w3 hwin hg3 hor
      have hs3 := hg3.size
      have hb3 : Below B w w3 := (Hbel.out.alloc hsz _).grown hg3 (by simp; omega) (fun j hj => (HWA.out.lt j hj).1)
      rw [← Htl.out] at hwin
      have Hwin := Lib.hid hwin
      have Hb3 := Lib.hid hb3
      clear hwin hb3 hg3 hor
      simp at hs3
      go_wp2_with fail
      go_roundw
      case rel => exact ⟨k + 1, by omega, by go_num, Hwin.out, Hb3.out, by omega⟩
      case measure => simp [intOf]; omega
    · obtain rfl : k = row.length := by omega
      rw [List.take_length] at hW
      have HW := Lib.hid hW
      clear hW hbel
      go_wp2_with fail
      go_ret
      refine ⟨_, rfl, ?_, ?_⟩
      · rw [hB]; exact HW.out
      · rw [hB]; exact Hbel.out
end Go.Proofs.Ytaenlieajlfkdaa
