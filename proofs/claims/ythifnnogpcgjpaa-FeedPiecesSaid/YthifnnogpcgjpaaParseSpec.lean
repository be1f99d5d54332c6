/- What is told of bytes in pieces is what is told of them together: plain, no program here. -/
import Derived.Test.YthifnnogpcgjpaaFeedSpec
namespace Go.Proofs.Ythifnnogpcgjpaa
open Go.RowKit

theorem bt_app {s : ByteArray} (t : ByteArray) {i : Nat} (h : i < s.size) : bt (s ++ t) i = bt s i := by
  unfold bt
  have h' : i < s.data.toList.length := by simpa using h
  rw [ByteArray.data_append, Array.toList_append, List.getD_eq_getElem?_getD, List.getElem?_append_left h', ← List.getD_eq_getElem?_getD]
theorem hlen_app {s : ByteArray} (t : ByteArray) (h : 4 ≤ s.size) : hlen (s ++ t) = hlen s := by
  unfold hlen; rw [bt_app t (by omega), bt_app t (by omega)]
theorem headE_app {s : ByteArray} (t : ByteArray) (h : 4 ≤ s.size) : headE (s ++ t) = headE s := by
  have hs : ¬ (s ++ t).size < 4 := by rw [ByteArray.size_append]; omega
  unfold headE
  rw [if_neg hs, if_neg (show ¬ s.size < 4 by omega), bt_app t (by omega), hlen_app t h]
theorem takeE_four {s : ByteArray} (h : takeE s ≠ 2) : 4 ≤ s.size := by
  rcases Nat.lt_or_ge s.size 4 with hs | hs
  · exfalso
    apply h
    have e : headE s = 2 := if_pos hs
    unfold takeE
    rw [if_pos (by rw [e]; decide), e]
  · exact hs
theorem takeE_app {s : ByteArray} (t : ByteArray) (h : takeE s ≠ 2) : takeE (s ++ t) = takeE s := by
  have h4 := takeE_four h
  have hz : (s ++ t).size = s.size + t.size := ByteArray.size_append
  unfold takeE at h ⊢
  rw [headE_app t h4, hlen_app t h4, hz]
  split
  · rfl
  · rename_i h1
    rw [if_neg h1] at h
    split at h
    · exact absurd rfl h
    · rename_i h2
      rw [if_neg h2, if_neg (by omega)]
theorem flen_app {s : ByteArray} (t : ByteArray) (h : takeE s ≠ 2) : flen (s ++ t) = flen s := by
  unfold flen; rw [hlen_app t (takeE_four h)]
theorem extract_app {s : ByteArray} (t : ByteArray) {n : Nat} (h : n ≤ s.size) : (s ++ t).extract n (s ++ t).size = s.extract n s.size ++ t := by
  apply ByteArray.ext
  rw [ByteArray.data_extract, ByteArray.data_append, ByteArray.data_append, ByteArray.data_extract]
  apply Array.ext'
  have hs : s.size = s.data.toList.length := by simp
  have ht : (s ++ t).size = s.data.toList.length + t.data.toList.length := by rw [ByteArray.size_append]; simp
  simp only [Array.toList_extract, List.extract_eq_take_drop, Array.toList_append]
  rw [List.drop_append_of_le_length (by omega), ht, hs]
  rw [List.take_of_length_le (by simp; omega), List.take_of_length_le (by simp)]
theorem extract_head {s : ByteArray} (t : ByteArray) {m n : Nat} (h : n ≤ s.size) : (s ++ t).extract m n = s.extract m n := by
  apply ByteArray.ext
  rw [ByteArray.data_extract, ByteArray.data_append, ByteArray.data_extract]
  apply Array.ext'
  have hs : s.size = s.data.toList.length := by simp
  simp only [Array.toList_extract, List.extract_eq_take_drop, Array.toList_append]
  rcases Nat.lt_or_ge n m with hm | hm
  · rw [show n - m = 0 by omega]; simp
  · rw [List.drop_append_of_le_length (by omega), List.take_append_of_le_length (by simp; omega)]
theorem takeF_app {s : ByteArray} (t : ByteArray) (h : takeE s = 0) : takeF (s ++ t) = takeF s := by
  have h2 : takeE s ≠ 2 := by omega
  have h4 := takeE_four h2
  have hf := flen_le h
  unfold takeF
  rw [takeE_app t h2, if_pos h, if_pos h, bt_app t (by omega), bt_app t (by omega), flen_app t h2, extract_head t hf.2]

/-- What a push of p does to a feed with the rest r and the error e: the frames it tells, the rest, the error. -/
def pushL (r : ByteArray) (e : Int) (p : ByteArray) : List Fr × ByteArray × Int := if e = 0 then parse (r ++ p) else ([], r, e)
theorem pushL_ok {r : ByteArray} {e : Int} {p : ByteArray} (h : e = 0) : pushL r e p = parse (r ++ p) := if_pos h
theorem pushL_bad {r : ByteArray} {e : Int} {p : ByteArray} (h : e ≠ 0) : pushL r e p = ([], r, e) := if_neg h

theorem parse_app (s t : ByteArray) : parse (s ++ t) = ((parse s).1 ++ (pushL (parse s).2.1 (parse s).2.2 t).1, (pushL (parse s).2.1 (parse s).2.2 t).2) := by
  induction s using parse_ind with
  | _ s ih =>
    by_cases h : takeE s = 0
    · have h2 : takeE s ≠ 2 := by omega
      rw [parse_ok (s := s ++ t) (by rw [takeE_app t h2]; exact h), flen_app t h2, extract_app t (flen_le h).2, takeF_app t h, ih h, parse_ok h]
      rfl
    · by_cases h2 : takeE s = 2
      · rw [parse_short h2]
        rw [pushL_ok rfl]
        rfl
      · rw [parse_bad h h2, pushL_bad h, parse_bad (s := s ++ t) (by rw [takeE_app t h2]; exact h) (by rw [takeE_app t h2]; exact h2), takeE_app t h2]
        rfl

theorem parse_nil : parse ⟨#[]⟩ = ([], ⟨#[]⟩, 0) := parse_short (by kernel_rfl)

theorem short_size {s : ByteArray} (h : takeE s = 2) : s.size < 1028 := by
  unfold takeE at h
  split at h
  · unfold headE at h
    split at h
    · omega
    · split at h
      · cases h
      · split at h <;> cases h
  · rename_i h1
    have h0 : headE s = 0 := Classical.byContradiction h1
    unfold headE at h0
    split at h0
    · cases h0
    · split at h0
      · cases h0
      · split at h0
        · cases h0
        · split at h
          · omega
          · cases h
theorem parse_rest (s : ByteArray) : (parse s).2.1.size < 1028 := by
  induction s using parse_ind with
  | _ s ih =>
    by_cases h : takeE s = 0
    · rw [parse_ok h]; exact ih h
    · by_cases h2 : takeE s = 2
      · rw [parse_short h2]; exact short_size h2
      · rw [parse_bad h h2]; show 0 < 1028; omega
end Go.Proofs.Ythifnnogpcgjpaa
