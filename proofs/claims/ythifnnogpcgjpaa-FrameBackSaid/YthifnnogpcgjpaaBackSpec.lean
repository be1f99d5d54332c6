/- What is put is taken: plain, no program here. -/
import Derived.Test.YthifnnogpcgjpaaFrm
import Derived.Test.YthifnnogpcgjpaaTake
import Derived.Test.YthifnnogpcgjpaaTakes
namespace Go.Proofs.Ythifnnogpcgjpaa
open Go.RowKit

theorem ofNat_toNat (x : Int) (h : 0 ≤ x ∧ x ≤ 255) : ((UInt8.ofNat x.toNat).toNat : Int) = x := by
  rw [UInt8.toNat_ofNat']
  omega

theorem head_bytes (k f n : Int) (t : ByteArray) (hk : 1 ≤ k ∧ k ≤ 9) (hf : 0 ≤ f ∧ f ≤ 255) (hn : 0 ≤ n ∧ n ≤ 1024) (i : Nat) (hi : i < 4) :
    bt (headB k f n ++ t) i = ([k, f, n / 256, n % 256].getD i 0) := by
  unfold bt
  rw [ByteArray.data_append, Array.toList_append, List.getD_eq_getElem?_getD, List.getElem?_append_left (by show i < (headB k f n).data.toList.length; simp [headB, strOfNums]; omega)]
  simp only [headB, strOfNums]
  match i, hi with
  | 0, _ => exact ofNat_toNat k (by omega)
  | 1, _ => exact ofNat_toNat f hf
  | 2, _ => exact ofNat_toNat (n / 256) (by omega)
  | 3, _ => exact ofNat_toNat (n % 256) (by omega)

theorem bt_extract (s : ByteArray) (m i : Nat) (_hm : m ≤ s.size) (hi : i < m) : bt (s.extract 0 m) i = bt s i := by
  unfold bt
  rw [ByteArray.data_extract]
  simp only [Array.toList_extract, List.extract_eq_take_drop, List.drop_zero, Nat.sub_zero]
  rw [List.getD_eq_getElem?_getD, List.getD_eq_getElem?_getD, List.getElem?_take_of_lt hi]

structure Made (k f : Int) (b s : ByteArray) : Prop where
  hk : 1 ≤ k ∧ k ≤ 9
  hf : 0 ≤ f ∧ f ≤ 255
  hb : b.size ≤ 1024
  hs : s = headB k f b.size ++ b

theorem made_of (k f : Int) (b : ByteArray) (h : putE k f b.size = 0) : Made k f b (putS k f b) := by
  have e : putS k f b = headB k f b.size ++ b := if_pos h
  unfold putE at h
  split at h
  · cases h
  · split at h
    · cases h
    · split at h
      · cases h
      · exact ⟨by omega, by omega, by omega, e⟩

theorem Made.size {k f b s} (h : Made k f b s) : s.size = 4 + b.size := by
  rw [h.hs, ByteArray.size_append, headB_size]
theorem Made.bytes {k f b s} (h : Made k f b s) (i : Nat) (hi : i < 4) : bt s i = ([k, f, (b.size : Int) / 256, (b.size : Int) % 256].getD i 0) := by
  have hb := h.hb
  rw [h.hs]; exact head_bytes k f b.size b h.hk h.hf (by omega) i hi

theorem hlen_of {x : ByteArray} {n : Nat} (hx2 : bt x 2 = (n : Int) / 256) (hx3 : bt x 3 = (n : Int) % 256) : hlen x = n := by
  unfold hlen; rw [hx2, hx3]; omega
theorem headE_of {x : ByteArray} {k : Int} {n : Nat} (hs : 4 ≤ x.size) (hk : 1 ≤ k ∧ k ≤ 9) (hx0 : bt x 0 = k) (hx2 : bt x 2 = (n : Int) / 256) (hx3 : bt x 3 = (n : Int) % 256) (hn : n ≤ 1024) : headE x = 0 := by
  unfold headE
  rw [if_neg (by omega), hx0, if_neg (by omega), hlen_of hx2 hx3, if_neg (by omega)]

theorem Made.takes {k f b s} (h : Made k f b s) (t : ByteArray) : takeE (s ++ t) = 0 ∧ takeN (s ++ t) = 4 + b.size ∧ takeF (s ++ t) = ⟨k, f, b⟩ := by
  have hsz := h.size
  have hb := h.hb
  have hbt : ∀ i, i < 4 → bt (s ++ t) i = ([k, f, (b.size : Int) / 256, (b.size : Int) % 256].getD i 0) := fun i hi => by
    rw [h.hs, ByteArray.append_assoc]
    exact head_bytes k f b.size (b ++ t) h.hk h.hf (by omega) i hi
  have h0 : bt (s ++ t) 0 = k := hbt 0 (by omega)
  have h1 : bt (s ++ t) 1 = f := hbt 1 (by omega)
  have h2 : bt (s ++ t) 2 = (b.size : Int) / 256 := hbt 2 (by omega)
  have h3 : bt (s ++ t) 3 = (b.size : Int) % 256 := hbt 3 (by omega)
  have hz : (s ++ t).size = 4 + b.size + t.size := by rw [ByteArray.size_append, hsz]
  have hl := hlen_of h2 h3
  have he := headE_of (by omega) h.hk h0 h2 h3 hb
  have ht : takeE (s ++ t) = 0 := by unfold takeE; rw [if_neg (by rw [he]; decide), if_neg (by rw [hl]; omega)]
  have hf : flen (s ++ t) = 4 + b.size := by unfold flen; rw [hl]; omega
  refine ⟨ht, by unfold takeN; rw [if_pos ht, hf]; omega, ?_⟩
  unfold takeF
  rw [if_pos ht, h0, h1, hf]
  congr 1
  rw [h.hs, ByteArray.append_assoc]
  have : (headB k f b.size ++ (b ++ t)).extract 4 (4 + b.size) = b := by
    apply ByteArray.ext
    rw [ByteArray.data_extract]
    apply Array.ext'
    simp only [Array.toList_extract, List.extract_eq_take_drop, ByteArray.data_append, Array.toList_append]
    rw [List.drop_append_of_le_length (by simp [headB, strOfNums])]
    simp [headB, strOfNums]
  exact this

theorem Made.short {k f b s} (h : Made k f b s) (m : Nat) (hm : m < s.size) : takeE (s.extract 0 m) = 2 := by
  have hsz := h.size
  have hb := h.hb
  have hz : (s.extract 0 m).size = m := by rw [ByteArray.size_extract]; omega
  by_cases h4 : m < 4
  · have : headE (s.extract 0 m) = 2 := by unfold headE; rw [if_pos (by omega)]
    unfold takeE
    rw [if_pos (by rw [this]; decide), this]
  · have hbt : ∀ i, i < 4 → bt (s.extract 0 m) i = ([k, f, (b.size : Int) / 256, (b.size : Int) % 256].getD i 0) := fun i hi => by
      rw [bt_extract s m i (by omega) (by omega)]
      exact h.bytes i hi
    have h0 : bt (s.extract 0 m) 0 = k := hbt 0 (by omega)
    have h2 : bt (s.extract 0 m) 2 = (b.size : Int) / 256 := hbt 2 (by omega)
    have h3 : bt (s.extract 0 m) 3 = (b.size : Int) % 256 := hbt 3 (by omega)
    have hl := hlen_of h2 h3
    have he := headE_of (by omega) h.hk h0 h2 h3 hb
    unfold takeE
    rw [if_neg (by rw [he]; decide), if_pos (by rw [hl]; omega)]
end Go.Proofs.Ythifnnogpcgjpaa
