/-
  X, 8: words.
-/
import Derived.Test.YthfmdomnoheklaaDoorZxSimp
namespace Go.Ahe.X
open Go.Ahe

theorem wr_u64 {n : Int} (h0 : 0 ≤ n) (h : n < 18446744073709551616) : IntKind.u64.wrap n = n := by
  simp only [IntKind.wrap, IntKind.bits, IntKind.signed, Bool.false_and, if_false]
  exact Int.emod_eq_of_lt h0 (by simpa using h)
theorem wr_i64 {n : Int} (h0 : -9223372036854775808 ≤ n) (h : n < 9223372036854775808) : IntKind.i64.wrap n = n := by
  have hd : IntKind.i64.wrap n = if (true && decide (n % (18446744073709551616 : Int) ≥ (9223372036854775808 : Int))) = true then n % (18446744073709551616 : Int) - 18446744073709551616 else n % (18446744073709551616 : Int) := rfl
  rw [hd, Bool.true_and]
  by_cases hn : 0 ≤ n
  · rw [Int.emod_eq_of_lt hn (by omega)]
    rw [if_neg (by simp; omega)]
  · have h1 : n % 18446744073709551616 = n + 18446744073709551616 := by omega
    rw [h1, if_pos (by simp; omega)]
    omega
theorem wr_u64_nat {n : Nat} (h : n < 18446744073709551616) : IntKind.u64.wrap (n : Int) = n := wr_u64 (by omega) (by omega)
theorem wr_i64_nat {n : Nat} (h : n < 9223372036854775808) : IntKind.i64.wrap (n : Int) = n := wr_i64 (by omega) (by omega)

theorem ofInt_nat (w : Nat) : BitVec.ofInt 64 (w : Int) = BitVec.ofNat 64 w := by
  apply BitVec.eq_of_toNat_eq
  simp

theorem and_u64 {w m : Nat} (hw : w < 18446744073709551616) (hm : m < 18446744073709551616) : bitsE .and .u64 (w : Int) (m : Int) = some (U (w &&& m : Nat)) := by
  show some (Value.int .u64 (IntKind.u64.wrap ((BitVec.ofInt 64 (w : Int) &&& BitVec.ofInt 64 (m : Int)).toNat : Int))) = _
  rw [ofInt_nat, ofInt_nat, BitVec.toNat_and, BitVec.toNat_ofNat, BitVec.toNat_ofNat, Nat.mod_eq_of_lt (by simpa using hw), Nat.mod_eq_of_lt (by simpa using hm), wr_u64_nat (Nat.lt_of_le_of_lt Nat.and_le_left hw)]
theorem or_u64 {w m : Nat} (hw : w < 18446744073709551616) (hm : m < 18446744073709551616) : bitsE .or .u64 (w : Int) (m : Int) = some (U (w ||| m : Nat)) := by
  show some (Value.int .u64 (IntKind.u64.wrap ((BitVec.ofInt 64 (w : Int) ||| BitVec.ofInt 64 (m : Int)).toNat : Int))) = _
  rw [ofInt_nat, ofInt_nat, BitVec.toNat_or, BitVec.toNat_ofNat, BitVec.toNat_ofNat, Nat.mod_eq_of_lt (by simpa using hw), Nat.mod_eq_of_lt (by simpa using hm), wr_u64_nat (Nat.or_lt_two_pow (n := 64) hw hm)]
theorem xor_u64 {w m : Nat} (hw : w < 18446744073709551616) (hm : m < 18446744073709551616) : bitsE .xor .u64 (w : Int) (m : Int) = some (U (w ^^^ m : Nat)) := by
  show some (Value.int .u64 (IntKind.u64.wrap ((BitVec.ofInt 64 (w : Int) ^^^ BitVec.ofInt 64 (m : Int)).toNat : Int))) = _
  rw [ofInt_nat, ofInt_nat, BitVec.toNat_xor, BitVec.toNat_ofNat, BitVec.toNat_ofNat, Nat.mod_eq_of_lt (by simpa using hw), Nat.mod_eq_of_lt (by simpa using hm), wr_u64_nat (Nat.xor_lt_two_pow (n := 64) hw hm)]

/-- What of w is not in m. -/
def dif (w m : Nat) : Nat := (BitVec.ofNat 64 w &&& ~~~BitVec.ofNat 64 m).toNat
theorem andNot_u64 (w m : Nat) : bitsE .andNot .u64 (w : Int) (m : Int) = some (U (dif w m : Nat)) := by
  show some (Value.int .u64 (IntKind.u64.wrap ((BitVec.ofInt 64 (w : Int) &&& ~~~BitVec.ofInt 64 (m : Int)).toNat : Int))) = _
  rw [ofInt_nat, ofInt_nat, show (BitVec.ofNat 64 w &&& ~~~BitVec.ofNat 64 m).toNat = dif w m from rfl, wr_u64_nat (BitVec.isLt _)]
theorem dif_zero {w m : Nat} (hw : w < 18446744073709551616) (hm : m < 18446744073709551616) : dif w m = 0 ↔ w &&& m = w := by
  unfold dif
  have hw' : (BitVec.ofNat 64 w).toNat = w := by simp; omega
  have hm' : (BitVec.ofNat 64 m).toNat = m := by simp; omega
  constructor
  · intro h
    have h1 : BitVec.ofNat 64 w &&& ~~~BitVec.ofNat 64 m = 0#64 := BitVec.eq_of_toNat_eq (by simpa using h)
    have h2 : BitVec.ofNat 64 w &&& BitVec.ofNat 64 m = BitVec.ofNat 64 w := by
      ext i hi
      have := congrArg (fun b => b.getLsbD i) h1
      simp [hi] at this ⊢
      intro hwi
      have h3 := this hwi
      simpa using h3
    have := congrArg BitVec.toNat h2
    rw [BitVec.toNat_and, hw', hm'] at this
    exact this
  · intro h
    have h2 : BitVec.ofNat 64 w &&& BitVec.ofNat 64 m = BitVec.ofNat 64 w := BitVec.eq_of_toNat_eq (by rw [BitVec.toNat_and, hw', hm', h])
    have h1 : BitVec.ofNat 64 w &&& ~~~BitVec.ofNat 64 m = 0#64 := by
      ext i hi
      have := congrArg (fun b => b.getLsbD i) h2
      simp [hi] at this ⊢
      exact this
    rw [h1]; rfl

theorem shr_nat (w n : Nat) (hn : n ≤ 64) (k : IntKind) (hk : k.bits = 64) : shiftE .shr k (w : Int) (n : Int) = some (.int k (w / 2 ^ n : Nat)) := by
  unfold shiftE
  rw [if_neg (by omega)]
  simp only [Int.toNat_natCast, hk, Nat.min_eq_left hn]
  congr 2
  rw [Int.fdiv_eq_ediv_of_nonneg _ (Int.le_of_lt (Int.pow_pos (by decide)))]
  simp
theorem shl_u64 (w n : Nat) (hn : n ≤ 64) (h : w * 2 ^ n < 18446744073709551616) : shiftE .shl .u64 (w : Int) (n : Int) = some (U (w * 2 ^ n : Nat)) := by
  unfold shiftE
  rw [if_neg (by omega)]
  simp only [Int.toNat_natCast, show IntKind.u64.bits = 64 from rfl, Nat.min_eq_left hn]
  rw [show (w : Int) * 2 ^ n = ((w * 2 ^ n : Nat) : Int) by simp, wr_u64_nat h]

theorem and_mod (w : Nat) (k m : Nat) (h : m + 1 = 2 ^ k) : w &&& m = w % 2 ^ k := by
  rw [show m = 2 ^ k - 1 by omega, Nat.and_two_pow_sub_one_eq_mod]
theorem and_field (w : Nat) (a b m : Nat) (h : m = (2 ^ a - 1) * 2 ^ b) : w &&& m = (w / 2 ^ b % 2 ^ a) * 2 ^ b := by
  subst h
  apply Nat.eq_of_testBit_eq
  intro i
  rw [Nat.testBit_and, Nat.testBit_mul_two_pow, Nat.testBit_mul_two_pow, Nat.testBit_two_pow_sub_one, Nat.testBit_mod_two_pow, Nat.testBit_div_two_pow]
  by_cases hb : b ≤ i
  · simp only [hb, decide_true, Bool.true_and]
    by_cases ha : i - b < a
    · simp [ha, show i - b + b = i by omega]
    · simp [ha]
  · simp [hb]
/-- Fields that do not meet are added. -/
theorem or_add {a b n : Nat} (hb : b < 2 ^ n) : a * 2 ^ n ||| b = a * 2 ^ n + b := by
  rw [Nat.mul_comm, Nat.two_pow_add_eq_or_of_lt hb]
theorem add_or {a b n : Nat} (hb : b < 2 ^ n) : b ||| a * 2 ^ n = a * 2 ^ n + b := by
  rw [Nat.or_comm, or_add hb]
end Go.Ahe.X
