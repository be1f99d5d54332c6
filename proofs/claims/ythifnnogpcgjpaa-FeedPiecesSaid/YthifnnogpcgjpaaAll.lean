/- What the document's All and Same do, and much. -/
import Derived.Test.YthifnnogpcgjpaaFeed
import Derived.Test.YthifnnogpcgjpaaRow
namespace Go.Proofs.Ythifnnogpcgjpaa
open Go.RowKit
set_option linter.unusedSimpArgs false

def cum (f : Nat → ByteArray) : Nat → Nat
  | 0 => 0
  | i + 1 => cum f i + (f i).size
theorem cum_le (f : Nat → ByteArray) {i n : Nat} (h : i ≤ n) : cum f i ≤ cum f n := by
  induction h with
  | refl => exact Nat.le_refl _
  | step _ ih => exact Nat.le_trans ih (Nat.le_add_right _ _)

def MuchRet (w : World) (n : Nat) (f : Nat → ByteArray) (x : Ending) (w' : World) : Prop :=
  w = w' ∧ ∃ m : Bool, x = .returned (.bool m) ∧ (m = false → n ≤ 200 ∧ cum f n ≤ 20000)

set_option maxHeartbeats 1000000 in
theorem much_c (w : World) (A : Option Addr) (n c : Nat) (f : Nat → ByteArray) (hn : n ≤ maxLen) (hr : Strs w A n f) : Calls Try.prog 19 #[.slice A n c] w (MuchRet w n f) := by
  unfold maxLen at hn
  have Hr := Lib.hid hr
  clear hr
  go_enter Try.func19, Try.ntmps19
  go_wp2_with fail
  go_loopw [3, 4] (fun t i wr => ∃ k : Nat, k ≤ n ∧ i = .int .i64 k ∧ t = .int .i64 (min (cum f k) 1048576 : Nat) ∧ wr = w) (fun _ i _ => n - (intOf i).toNat)
  case atStart => exact ⟨0, by omega, rfl, rfl, rfl⟩
  case round =>
    obtain ⟨k, hk, rfl, rfl, rfl⟩ := hrel
    have hcum : cum f (k + 1) = cum f k + (f k).size := rfl
    by_cases hlt : k < n
    · obtain ⟨hsz, ad, hA, hadb, hc⟩ := Hr.out k hlt
      subst hA
      generalize f k = s at *
      generalize cum f k = C at *
      have hmb : (min C 1048576) ≤ 1048576 := Nat.min_le_right _ _
      have hmin : min (min C 1048576 + s.size) 1048576 = min (C + s.size) 1048576 := by omega
      generalize hM : min C 1048576 = M at *
      go_wp2_with fail
      go_roundw
      case rel =>
        refine ⟨k + 1, by omega, by go_num, ?_, trivial⟩
        rw [hcum, ← hmin]
        congr 1
        split <;> omega
      case measure => simp [intOf]; omega
    · obtain rfl : k = n := by omega
      have hM : min (cum f k) 1048576 ≤ 1048576 := Nat.min_le_right _ _
      have hM2 : min (cum f k) 1048576 ≤ 20000 → cum f k ≤ 20000 := by omega
      generalize min (cum f k) 1048576 = M at *
      by_cases h1 : k > 200
      · go_wp2_with fail
        go_ret
        exact ⟨rfl, _, rfl, fun h => by simp at h <;> omega⟩
      · by_cases h2 : M > 20000
        · go_wp2_with fail
          go_ret
          exact ⟨rfl, _, rfl, fun h => by simp at h <;> omega⟩
        · go_wp2_with fail
          go_ret
          exact ⟨rfl, _, rfl, fun _ => ⟨by omega, hM2 (by omega)⟩⟩
end Go.Proofs.Ythifnnogpcgjpaa
