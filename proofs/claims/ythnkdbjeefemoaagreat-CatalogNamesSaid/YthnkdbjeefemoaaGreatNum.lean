/-
  Numbers.
-/
import Derived.Test.YthnkdbjeefemoaaGreatTypes
set_option linter.unusedVariables false
set_option linter.unusedSimpArgs false
namespace Go.Abs
open Go Go.RowKit Go.Proofs

theorem wrap_i64 {n : Int} (h : -9223372036854775808 ≤ n) (h' : n ≤ 9223372036854775807) : IntKind.i64.wrap n = n := by
  simp only [IntKind.wrap, IntKind.bits, IntKind.signed]
  simp
  split <;> omega
theorem wrap_u8 {n : Int} : IntKind.u8.wrap n = n % 256 := by simp [IntKind.wrap, IntKind.bits, IntKind.signed]
theorem wrap_u32 {n : Int} : IntKind.u32.wrap n = n % 4294967296 := by simp [IntKind.wrap, IntKind.bits, IntKind.signed]
theorem wrap_u64 {n : Int} : IntKind.u64.wrap n = n % 18446744073709551616 := by simp [IntKind.wrap, IntKind.bits, IntKind.signed]
theorem bits_u8 : IntKind.u8.bits = 8 := rfl
theorem bits_u32 : IntKind.u32.bits = 32 := rfl
theorem bits_u64 : IntKind.u64.bits = 64 := rfl
theorem bits_i64 : IntKind.i64.bits = 64 := rfl

theorem ofInt_toNat {w : Nat} {a : Int} (h : 0 ≤ a) (h' : a < 2 ^ w) : (BitVec.ofInt w a).toNat = a.toNat := by
  rw [BitVec.toNat_ofInt]
  have : a % ((2 ^ w : Nat) : Int) = a := Int.emod_eq_of_lt h (by simpa using h')
  rw [this]
section
variable {P : Program} {t : TypeId} {a b : Int}
theorem B_and_u8 (ha : 0 ≤ a) (ha' : a < 256) (hb : 0 ≤ b) (hb' : b < 256) : aBin P .and t (.int .u8 a) (.int .u8 b) = some (.int .u8 ((a.toNat &&& b.toNat : Nat) : Int)) := by
  rw [B_and, wrap_u8, bits_u8, BitVec.toNat_and, ofInt_toNat ha (by simpa using ha'), ofInt_toNat hb (by simpa using hb')]
  have := Nat.and_lt_two_pow (n := 8) a.toNat (y := b.toNat) (by omega)
  rw [Int.emod_eq_of_lt] <;> omega
theorem B_or_u8 (ha : 0 ≤ a) (ha' : a < 256) (hb : 0 ≤ b) (hb' : b < 256) : aBin P .or t (.int .u8 a) (.int .u8 b) = some (.int .u8 ((a.toNat ||| b.toNat : Nat) : Int)) := by
  rw [B_or, wrap_u8, bits_u8, BitVec.toNat_or, ofInt_toNat ha (by simpa using ha'), ofInt_toNat hb (by simpa using hb')]
  have := Nat.or_lt_two_pow (n := 8) (x := a.toNat) (y := b.toNat) (by omega) (by omega)
  rw [Int.emod_eq_of_lt] <;> omega
theorem B_xor_u8 (ha : 0 ≤ a) (ha' : a < 256) (hb : 0 ≤ b) (hb' : b < 256) : aBin P .xor t (.int .u8 a) (.int .u8 b) = some (.int .u8 ((a.toNat ^^^ b.toNat : Nat) : Int)) := by
  rw [B_xor, wrap_u8, bits_u8, BitVec.toNat_xor, ofInt_toNat ha (by simpa using ha'), ofInt_toNat hb (by simpa using hb')]
  have := Nat.xor_lt_two_pow (n := 8) (x := a.toNat) (y := b.toNat) (by omega) (by omega)
  rw [Int.emod_eq_of_lt] <;> omega
theorem B_and_u32 (ha : 0 ≤ a) (ha' : a < 4294967296) (hb : 0 ≤ b) (hb' : b < 4294967296) : aBin P .and t (.int .u32 a) (.int .u32 b) = some (.int .u32 ((a.toNat &&& b.toNat : Nat) : Int)) := by
  rw [B_and, wrap_u32, bits_u32, BitVec.toNat_and, ofInt_toNat ha (by simpa using ha'), ofInt_toNat hb (by simpa using hb')]
  have := Nat.and_lt_two_pow (n := 32) a.toNat (y := b.toNat) (by omega)
  rw [Int.emod_eq_of_lt] <;> omega
theorem B_xor_u32 (ha : 0 ≤ a) (ha' : a < 4294967296) (hb : 0 ≤ b) (hb' : b < 4294967296) : aBin P .xor t (.int .u32 a) (.int .u32 b) = some (.int .u32 ((a.toNat ^^^ b.toNat : Nat) : Int)) := by
  rw [B_xor, wrap_u32, bits_u32, BitVec.toNat_xor, ofInt_toNat ha (by simpa using ha'), ofInt_toNat hb (by simpa using hb')]
  have := Nat.xor_lt_two_pow (n := 32) (x := a.toNat) (y := b.toNat) (by omega) (by omega)
  rw [Int.emod_eq_of_lt] <;> omega
theorem B_and_i64 (ha : 0 ≤ a) (ha' : a < 9223372036854775808) (hb : 0 ≤ b) (hb' : b < 9223372036854775808) : aBin P .and t (.int .i64 a) (.int .i64 b) = some (.int .i64 ((a.toNat &&& b.toNat : Nat) : Int)) := by
  rw [B_and, bits_i64, BitVec.toNat_and, ofInt_toNat ha (by omega), ofInt_toNat hb (by omega)]
  have := Nat.and_lt_two_pow (n := 63) a.toNat (y := b.toNat) (by omega)
  rw [wrap_i64] <;> omega
theorem B_or_i64 (ha : 0 ≤ a) (ha' : a < 9223372036854775808) (hb : 0 ≤ b) (hb' : b < 9223372036854775808) : aBin P .or t (.int .i64 a) (.int .i64 b) = some (.int .i64 ((a.toNat ||| b.toNat : Nat) : Int)) := by
  rw [B_or, bits_i64, BitVec.toNat_or, ofInt_toNat ha (by omega), ofInt_toNat hb (by omega)]
  have := Nat.or_lt_two_pow (n := 63) (x := a.toNat) (y := b.toNat) (by omega) (by omega)
  rw [wrap_i64] <;> omega
theorem B_shr_n {k k' : IntKind} (h : 0 ≤ b) (h' : b.toNat ≤ k.bits) : aBin P .shr t (.int k a) (.int k' b) = some (.int k (a / 2 ^ b.toNat)) := by
  rw [B_shr h, Nat.min_eq_left h', Int.fdiv_eq_ediv_of_nonneg]
  exact Int.le_of_lt (Int.pow_pos (by decide))
theorem B_shl_n {k k' : IntKind} (h : 0 ≤ b) (h' : b.toNat ≤ k.bits) : aBin P .shl t (.int k a) (.int k' b) = some (.int k (k.wrap (a * 2 ^ b.toNat))) := by
  rw [B_shl h, Nat.min_eq_left h']
end
end Go.Abs
