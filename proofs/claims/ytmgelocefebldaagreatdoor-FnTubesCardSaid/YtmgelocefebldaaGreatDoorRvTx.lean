/- Strings as lists of bytes. No program. -/
import Derived.Test.YtmgelocefebldaaGreatDoorRvM4
import Derived.Lib.ItoaNum
import Derived.Lib.ItoaLen
namespace Go.Rv.Tx
open Go.Rv
set_option linter.unusedVariables false
set_option linter.unusedSimpArgs false
/-- a list of bytes as a string -/
def bs (l : List UInt8) : ByteArray := ⟨l.toArray⟩
/-- the bytes of a string -/
def bl (s : ByteArray) : List UInt8 := s.data.toList
theorem bl_bs (l : List UInt8) : bl (bs l) = l := rfl
theorem bs_bl (s : ByteArray) : bs (bl s) = s := by cases s; rfl
theorem bs_inj {a b : List UInt8} : bs a = bs b ↔ a = b := ⟨fun h => by have := congrArg bl h; exact this, fun h => by rw [h]⟩
theorem bs_size (l : List UInt8) : (bs l).size = l.length := by simp [bs, ByteArray.size]
theorem toList_eq (s : ByteArray) : s.toList = bl s := ByteArray.toList_eq s
theorem bs_nil : ByteArray.empty = bs [] := rfl
theorem cat_bs (a b : List UInt8) : sCat (bs a) (bs b) = bs (a ++ b) := by
  rw [sCat_eq]
  simp [bs, ByteArray.ext_iff]
theorem fit_bs (a b : List UInt8) (h : a.length + b.length ≤ 9223372036854775807) : sFit (bs a) (bs b) = true := by rw [sFit_eq, bs_size, bs_size]; simpa using h
theorem len_bs (l : List UInt8) : sLen (bs l) = (l.length : Int) := by rw [sLen_eq, bs_size]
theorem eq_bs (a b : List UInt8) : sEq (bs a) (bs b) = decide (a = b) := by
  rw [sEq_eq, toList_eq, toList_eq, bl_bs, bl_bs]
  by_cases h : a = b <;> simp [h]
theorem of_bs (xs : List Int) : sOf xs = bs (xs.map fun n => UInt8.ofNat n.toNat) := sOf_eq xs
theorem at_bs (l : List UInt8) (i : Nat) (h : i < l.length) : sAt (bs l) (i : Int) = ((l[i].toNat : Nat) : Int) := by
  rw [sAt_eq]
  show (((l.getD i 0).toNat : Nat) : Int) = _
  simp [List.getD, List.getElem?_eq_getElem h]
theorem cut_bs (l : List UInt8) (a b : Nat) : sCut (bs l) (a : Int) (b : Int) = bs ((l.take b).drop a) := by
  rw [sCut_eq]
  show ByteArray.extract (bs l) a b = _
  simp [bs, ByteArray.ext_iff, List.drop_take]
/-- the digits ahead of a number's last one -/
def tl (m : Nat) : List UInt8 := if m = 0 then [] else Lib.decDigits m
theorem dec_tl (m : Nat) : Lib.decDigits m = tl (m / 10) ++ [UInt8.ofNat (48 + m % 10)] := by
  rw [Lib.decDigits]
  split
  · rename_i h
    rw [show m / 10 = 0 by omega, show m % 10 = m by omega]
    rfl
  · rename_i h
    rw [tl, if_neg (by omega)]
theorem dig (m : Nat) : sOf [IntKind.u8.wrap (wrap64 (48 - (-(m : Int)).tmod 10))] = bs [UInt8.ofNat (48 + m % 10)] := by
  have h1 : (-(m : Int)).tmod 10 = -((m % 10 : Nat) : Int) := by rw [Int.neg_tmod, Int.tmod_eq_emod_of_nonneg (by omega)]; rfl
  have h2 : IntKind.u8.wrap ((48 + m % 10 : Nat) : Int) = ((48 + m % 10 : Nat) : Int) := by
    have : m % 10 < 10 := Nat.mod_lt _ (by decide)
    have e : (2 : Int) ^ IntKind.u8.bits = 256 := by decide
    simp only [IntKind.wrap, IntKind.signed, Bool.false_and, Bool.false_eq_true, if_false, e]
    omega
  rw [of_bs, h1, w64 (by omega) (by omega), show (48 : Int) - -((m % 10 : Nat) : Int) = ((48 + m % 10 : Nat) : Int) by omega, h2]
  rfl
theorem itoa_len (n : Int) (h0 : -9223372036854775808 ≤ n) (h1 : n ≤ 9223372036854775807) : (Lib.itoa n).length ≤ 21 := Lib.itoa_length_le n h0 h1
end Go.Rv.Tx
