/- The reference's New and Cost. -/
import Derived.Test.YtaenlieajlfkdaaRef5
namespace Go.Proofs.Ytaenlieajlfkdaa
open Go.RowKit Go.Maps
set_option linter.unusedVariables false
set_option linter.unnecessarySimpa false
set_option linter.unusedSimpArgs false
variable {Q : Nat → Prop}

set_option maxHeartbeats 1000000 in
theorem refcost_c (w : World) (kv : Value) (f : RFl) (hk : RI Q w kv f.f.cs) (hl : f.f.cs.length ≤ 100000) (hb : ∀ c, c ∈ f.f.cs → 0 ≤ c ∧ c ≤ 1040) :
    Calls Try.prog 32 #[flV kv f] w fun x w' => x = .returned (.int .i64 f.f.cs.sum) ∧ Below w.heap.size w w' := by
  have HK := Lib.hid hk
  have HS := Lib.hid (fun k => sum_take hb k)
  obtain ⟨A, c, rfl, hcl, _⟩ := hk
  generalize f.f.cs = l at *
  clear hb
  unfold flV
  go_enter Try.func32, Try.ntmps32
  go_wp2_with fail
  go_loopw [3, 4] (fun s i wr => ∃ k : Nat, k ≤ l.length ∧ i = .int .i64 k ∧ s = .int .i64 (l.take k).sum ∧ wr = w.alloc (.cells #[.bool f.there, .int .i64 f.f.q, .int .i64 f.f.d, .slice A l.length c, .bool f.f.rests, .bool f.f.anew] 64)) (fun _ i _ => l.length - (intOf i).toNat)
  case atStart => exact ⟨0, by omega, rfl, rfl, rfl⟩
  case round =>
    obtain ⟨k, hk, rfl, rfl, rfl⟩ := hrel
    by_cases hlt : k < l.length
    · have hx : l[k]? = some l[k] := List.getElem?_eq_getElem hlt
      have hsn := sum_next hx
      have s1 := HS.out k
      have s2 := HS.out (k + 1)
      rw [hsn] at s2
      have Hsn := Lib.hid hsn
      generalize l[k] = x at *
      obtain ⟨g, o, cc, hq, _, hc0⟩ := HK.out.at_ hx
      injection hq with q1 _ q3
      subst q1 q3
      have hg : g < w.heap.size := cell_lt hc0
      generalize (l.take k).sum = s at *
      generalize hn : l.length = n at *
      clear hsn hx
      go_wp2_with fail
      go_roundw
      case rel => exact ⟨k + 1, by omega, by go_num, by rw [Hsn.out], by first | rfl | trivial⟩
      case measure => simp [intOf]; omega
    · obtain rfl : k = l.length := by omega
      rw [List.take_length]
      go_wp2_with fail
      go_ret
      exact ⟨rfl, (Below.refl _ _).alloc (Nat.le_refl _) _⟩

def flow0 : Array Value := (flCells (fun _ => .slice none 0 0) (fun _ => ⟨false, zeroF⟩)).toArray
theorem make_flows (w : World) : (Instr.makeSlice 44 (.int .i64 9) (.int .i64 9)).run Try.prog w = .ok (.slice (some ⟨w.heap.size, 0, none⟩) 9 9) (w.alloc (.cells flow0 64)) := by kernel_rfl
theorem RefF.start {w : World} {g : Nat} (h : Blk w g 64 flow0) (hg : Q g) : RefF Q w g (fun _ => .slice none 0 0) (fun _ => ⟨false, zeroF⟩) := by
  have key : ∀ j k, j < 9 → k < 6 → w.cell? ⟨g, j * 6 + k, none⟩ = (oneFl (.slice none 0 0) ⟨false, zeroF⟩)[k]? := fun j k hj hk => by
    rw [h.cell, flow0, List.getElem?_toArray]
    exact flCells_key _ _ j k hj hk
  exact ⟨fun j hj => key j 0 hj (by omega), fun j hj => key j 1 hj (by omega), fun j hj => key j 2 hj (by omega), fun j hj => key j 3 hj (by omega), fun j hj => key j 4 hj (by omega), fun j hj => key j 5 hj (by omega), fun j hj => RI.nil_ _, hg⟩
theorem refnew_c (w : World) (hQ : Up Q w) : Calls Try.prog 15 #[] w fun x w' => ∃ v', x = .returned v' ∧ RefIs Q w' v' (fun _ => ⟨false, zeroF⟩) [] ∧ Below w.heap.size w w' := by
  have hmk := make_flows
  go_enter Try.func15, Try.ntmps15
  go_wp2_with fail
  have s1 : (w.alloc (.cells #[.slice (some ⟨w.heap.size + 1, 0, none⟩) 9 9, .slice none 0 0] 46)).heap.size = w.heap.size + 1 := by simp
  have b0 := (Blk.new w 46 #[.slice (some ⟨w.heap.size + 1, 0, none⟩) 9 9, .slice none 0 0]).alloc (.cells flow0 64)
  have b1 := Blk.new (w.alloc (.cells #[.slice (some ⟨w.heap.size + 1, 0, none⟩) 9 9, .slice none 0 0] 46)) 64 flow0
  rw [s1] at b1
  have hb := ((Below.refl w.heap.size w).alloc (Nat.le_refl _) (.cells #[.slice (some ⟨w.heap.size + 1, 0, none⟩) 9 9, .slice none 0 0] 46)).alloc (by simp) (.cells flow0 64)
  generalize (w.alloc (.cells #[.slice (some ⟨w.heap.size + 1, 0, none⟩) 9 9, .slice none 0 0] 46)).alloc (.cells flow0 64) = w2 at *
  have r0 := b0.cell 0
  have r1 := b0.cell 1
  simp at r0 r1
  refine bodyPost_ret (v := .agg #[.slice (some ⟨w.heap.size + 1, 0, none⟩) 9 9, .slice none 0 0]) (by simp [results, Try.results15, go_sem, r0, r1]) rfl ?_
  exact ⟨_, rfl, ⟨w.heap.size + 1, 9, _, _, rfl, Nat.le_refl _, RefF.start b1 (hQ _ (by omega)), RI.nil_ _⟩, hb⟩
end Go.Proofs.Ytaenlieajlfkdaa
