/- Which frames bytes are made of: plain, no program here. -/
import Derived.Test.YthifnnogpcgjpaaTakes
namespace Go.Proofs.Ythifnnogpcgjpaa
open Go.RowKit

theorem flen_le {s : ByteArray} (h : takeE s = 0) : 4 ≤ flen s ∧ flen s ≤ s.size := by
  unfold takeE at h
  split at h
  · rename_i h1; exact absurd h h1
  · split at h
    · cases h
    · have := hlen_bd s
      unfold flen
      omega

/-- The frames of which bytes are made, what is left, and what was wrong (0: nothing). -/
def parse (s : ByteArray) : List Fr × ByteArray × Int :=
  if _h : takeE s = 0 then
    ((takeF s :: (parse (s.extract (flen s) s.size)).1), (parse (s.extract (flen s) s.size)).2)
  else if takeE s = 2 then ([], s, 0) else ([], ⟨#[]⟩, takeE s)
termination_by s.size
decreasing_by
  all_goals
    rw [ByteArray.size_extract]
    have := flen_le _h
    omega

theorem parse_ok {s : ByteArray} (h : takeE s = 0) : parse s = ((takeF s :: (parse (s.extract (flen s) s.size)).1), (parse (s.extract (flen s) s.size)).2) := by
  rw [parse, dif_pos h]
theorem parse_short {s : ByteArray} (h : takeE s = 2) : parse s = ([], s, 0) := by
  rw [parse, dif_neg (by rw [h]; decide), if_pos h]
theorem parse_bad {s : ByteArray} (h : takeE s ≠ 0) (h2 : takeE s ≠ 2) : parse s = ([], ⟨#[]⟩, takeE s) := by
  rw [parse, dif_neg h, if_neg h2]

theorem parse_ind {P : ByteArray → Prop} (hs : ∀ s, (takeE s = 0 → P (s.extract (flen s) s.size)) → P s) : ∀ s, P s := by
  intro s
  generalize hn : s.size = n
  induction n using Nat.strongRecOn generalizing s with
  | _ n ih =>
    refine hs s fun h => ih _ ?_ _ rfl
    rw [ByteArray.size_extract]
    have := flen_le h
    omega

theorem parse_len (s : ByteArray) : 4 * (parse s).1.length + (parse s).2.1.size ≤ s.size := by
  induction s using parse_ind with
  | _ s ih =>
    by_cases h : takeE s = 0
    · have h1 := ih h
      have h2 := flen_le h
      rw [parse_ok h]
      rw [ByteArray.size_extract] at h1
      simp only [List.length_cons]
      omega
    · by_cases h2 : takeE s = 2
      · rw [parse_short h2]; simp
      · rw [parse_bad h h2]
        show 4 * 0 + 0 ≤ s.size
        omega
end Go.Proofs.Ythifnnogpcgjpaa
