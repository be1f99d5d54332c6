/- Which frame bytes begin with, as plain functions: no program here. -/
import Derived.Test.YthifnnogpcgjpaaProg
import Derived.WalkKit
import Derived.Laws.BytesArg
import Derived.Laws.BitsAllLaws
import Derived.Laws.BitsLemmas
namespace Go.Proofs.Ythifnnogpcgjpaa
open Go.RowKit

/-- Byte i as a number (0 past the end). -/
def bt (s : ByteArray) (i : Nat) : Int := ((s.data.toList.getD i 0).toNat : Int)
theorem bt_bd (s : ByteArray) (i : Nat) : 0 ≤ bt s i ∧ bt s i ≤ 255 := by
  unfold bt
  have := (s.data.toList.getD i 0).toNat_lt
  omega
theorem bt_at (s : ByteArray) (i : Nat) : ∀ h : i < s.size, ((s[i]'h).toNat : Int) = bt s i := fun h => by
  unfold bt
  have h' : i < s.data.toList.length := by simpa using h
  rw [List.getD_eq_getElem?_getD, List.getElem?_eq_getElem h']
  rfl

structure Fr where
  k : Int
  f : Int
  b : ByteArray

theorem ofInt_i64 (a : Nat) (ha : a < 9223372036854775808) : (BitVec.ofInt 64 (a : Int)).toNat = a := by
  rw [BitVec.ofInt_natCast, BitVec.toNat_ofNat]; exact Nat.mod_eq_of_lt (by omega)
theorem i64_or_nat (a b : Nat) (ha : a < 9223372036854775808) (hb : b < 9223372036854775808) : bits .or .i64 (a : Int) (b : Int) = ((a ||| b : Nat) : Int) := by
  have hx : a ||| b < 2 ^ 63 := Nat.or_lt_two_pow (by omega) (by omega)
  show IntKind.i64.wrap ((BitVec.ofInt 64 (a : Int) ||| BitVec.ofInt 64 (b : Int)).toNat : Int) = _
  rw [BitVec.toNat_or, ofInt_i64 a ha, ofInt_i64 b hb, IntKind.wrap_i64]
  omega
theorem or_bytes (x y : Int) (hx : 0 ≤ x ∧ x ≤ 255) (hy : 0 ≤ y ∧ y ≤ 255) : bits .or .i64 (x * 256) y = x * 256 + y := by
  obtain ⟨a, rfl⟩ := Int.eq_ofNat_of_zero_le hx.1
  obtain ⟨b, rfl⟩ := Int.eq_ofNat_of_zero_le hy.1
  have e : ((a : Int) * 256) = ((256 * a : Nat) : Int) := by omega
  rw [e, i64_or_nat _ _ (by omega) (by omega)]
  have := Nat.two_pow_add_eq_or_of_lt (i := 8) (b := b) (by omega) a
  simp only [Nat.reducePow] at this
  rw [← this]
  omega

/-- A head's length, if it is one. -/
def hlen (s : ByteArray) : Int := bt s 2 * 256 + bt s 3
theorem hlen_bd (s : ByteArray) : 0 ≤ hlen s ∧ hlen s ≤ 65535 := by
  have := bt_bd s 2; have := bt_bd s 3
  unfold hlen; omega
/-- What is wrong with a head: 2 too short, 4 its kind, 3 its length, 0 nothing. -/
def headE (s : ByteArray) : Int := if s.size < 4 then 2 else if bt s 0 < 1 ∨ 9 < bt s 0 then 4 else if 1024 < hlen s then 3 else 0
/-- What is wrong with a frame. -/
def takeE (s : ByteArray) : Int := if headE s ≠ 0 then headE s else if (s.size : Int) < 4 + hlen s then 2 else 0
/-- Its bytes, all in all. -/
def flen (s : ByteArray) : Nat := 4 + (hlen s).toNat
def takeF (s : ByteArray) : Fr := if takeE s = 0 then ⟨bt s 0, bt s 1, s.extract 4 (flen s)⟩ else ⟨0, 0, ⟨#[]⟩⟩
def takeN (s : ByteArray) : Int := if takeE s = 0 then flen s else 0
/-- What the reference tells beside: the length, if the head is right; else -1. -/
def refN (s : ByteArray) : Int := if headE s = 0 then hlen s else -1
end Go.Proofs.Ythifnnogpcgjpaa
