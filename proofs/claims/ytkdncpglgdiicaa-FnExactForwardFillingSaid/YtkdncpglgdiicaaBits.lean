/- The machine's bit operations on whole numbers that are not negative, as Lean's own on numbers. -/
import Derived.WalkKit
import Derived.IntWalk
namespace Go.Proofs.Ytkdncpglgdiicaa
open Go Go.RowKit

theorem wraps62 (n : Int) (h0 : 0 ≤ n) (h1 : n < 2 ^ 62) : IntKind.i64.wrap n = n := IntWalk.i64_in n ⟨by omega, by omega⟩

theorem bor_nat (a b : Nat) (ha : a < 2 ^ 62) (hb : b < 2 ^ 62) : bits .or .i64 (a : Int) (b : Int) = ((a ||| b : Nat) : Int) := (bits_nat .i64 62 (by decide) wraps62 a b ha hb).2
theorem band_nat (a b : Nat) (ha : a < 2 ^ 62) (hb : b < 2 ^ 62) : bits .and .i64 (a : Int) (b : Int) = ((a &&& b : Nat) : Int) := (bits_nat .i64 62 (by decide) wraps62 a b ha hb).1

/-- What is in the first and not in the second. -/
def nd (a b : Nat) : Nat := a ^^^ (a &&& b)
theorem nd_testBit (a b i : Nat) : (nd a b).testBit i = (a.testBit i && !b.testBit i) := by
  unfold nd
  rw [Nat.testBit_xor, Nat.testBit_and]
  cases a.testBit i <;> cases b.testBit i <;> rfl
theorem nd_le (a b : Nat) : nd a b ≤ a := by
  have h : nd a b = nd a b &&& a := by
    apply Nat.eq_of_testBit_eq
    intro i
    rw [Nat.testBit_and, nd_testBit]
    cases a.testBit i <;> simp
  rw [h]
  exact Nat.and_le_right
theorem bandNot_nat (a b : Nat) (ha : a < 2 ^ 62) (hb : b < 2 ^ 62) : bits .andNot .i64 (a : Int) (b : Int) = ((nd a b : Nat) : Int) := by
  have ha' : a % 2 ^ 64 = a := Nat.mod_eq_of_lt (by omega)
  have hb' : b % 2 ^ 64 = b := Nat.mod_eq_of_lt (by omega)
  have h : (BitVec.ofNat 64 a &&& ~~~ BitVec.ofNat 64 b).toNat = nd a b := by
    apply Nat.eq_of_testBit_eq
    intro i
    rw [BitVec.toNat_and, Nat.testBit_and, nd_testBit, ← BitVec.getLsbD, ← BitVec.getLsbD, BitVec.getLsbD_not, BitVec.getLsbD_ofNat, BitVec.getLsbD_ofNat]
    by_cases hi : i < 64
    · simp [hi]
    · have h1 : a.testBit i = false := Nat.testBit_lt_two_pow (Nat.lt_of_lt_of_le ha (Nat.pow_le_pow_right (by decide) (by omega)))
      simp [hi, h1]
  have hw := wraps62 ((nd a b : Nat) : Int) (by omega) (by have := nd_le a b; exact_mod_cast Nat.lt_of_le_of_lt this ha)
  have e : bits .andNot .i64 (a : Int) (b : Int) = IntKind.i64.wrap ((BitVec.ofNat 64 a &&& ~~~ BitVec.ofNat 64 b).toNat : Int) := by
    simp only [bits, BitVec.ofInt_natCast]
    rfl
  rw [e, h, hw]

theorem shl_one (n : Nat) (h : n < 62) : IntKind.i64.wrap (1 * 2 ^ min (n : Int).toNat 64) = ((2 ^ n : Nat) : Int) := by
  have hm : min (n : Int).toNat 64 = n := by omega
  rw [hm, Int.one_mul]
  have h2 : (2 : Nat) ^ n < 2 ^ 62 := Nat.pow_lt_pow_right (by decide) h
  have e : ((2 : Int) ^ n) = ((2 ^ n : Nat) : Int) := by simp
  rw [e]
  exact wraps62 _ (Int.natCast_nonneg _) (by exact_mod_cast h2)

theorem wrap_pow (n : Nat) (h : n < 62) : wrap64 ((2 : Int) ^ n) = ((2 ^ n : Nat) : Int) := by
  have h2 : (2 : Nat) ^ n < 2 ^ 62 := Nat.pow_lt_pow_right (by decide) h
  have e : ((2 : Int) ^ n) = ((2 ^ n : Nat) : Int) := by simp
  rw [e]
  have h3 : ((2 ^ n : Nat) : Int) < 2 ^ 62 := by exact_mod_cast h2
  have h4 : (0 : Int) ≤ ((2 ^ n : Nat) : Int) := Int.natCast_nonneg _
  exact IntWalk.wrap64_in _ ⟨by omega, by omega⟩
/-- set | 1 << n. -/
theorem or_pow (N n : Nat) (hN : N < 2 ^ 62) (hn : n < 62) : bits .or .i64 (N : Int) (wrap64 ((2 : Int) ^ n)) = ((N ||| 2 ^ n : Nat) : Int) := by
  rw [wrap_pow n hn, bor_nat N _ hN (Nat.pow_lt_pow_right (by decide) hn)]
theorem ieq {a b : Nat} (h : a = b) : ((a : Int) == (b : Int)) = true := by subst h; simp
theorem ine {a b : Nat} (h : a ≠ b) : ((a : Int) == (b : Int)) = false := by
  simp only [beq_eq_false_iff_ne, ne_eq]
  omega
theorem ineq {a b : Nat} (h : a = b) : ((a : Int) != (b : Int)) = false := by subst h; simp
theorem inne {a b : Nat} (h : a ≠ b) : ((a : Int) != (b : Int)) = true := by
  simp only [bne_iff_ne, ne_eq]
  omega

theorem has_nat (s o : Nat) (hs : s < 2 ^ 62) (ho : o < 2 ^ 62) : (bits .andNot .i64 (o : Int) (s : Int) == 0) = decide (o &&& s = o) := by
  rw [bandNot_nat o s ho hs]
  rw [Bool.eq_iff_iff]
  simp only [beq_iff_eq, decide_eq_true_eq]
  constructor
  · intro h
    have h' : nd o s = 0 := by exact_mod_cast h
    apply Nat.eq_of_testBit_eq
    intro i
    have := nd_testBit o s i
    rw [h', Nat.zero_testBit] at this
    rw [Nat.testBit_and]
    cases h1 : o.testBit i <;> cases h2 : s.testBit i <;> simp_all
  · intro h
    have : nd o s = 0 := by unfold nd; rw [h]; simp
    rw [this]
    rfl

theorem div_cast (N k : Nat) : (N : Int) / 2 ^ k = ((N / 2 ^ k : Nat) : Int) := by simp
theorem pos_at (N k : Nat) : decide (0 < (N : Int) / 2 ^ k) = decide (0 < N / 2 ^ k) := by
  rw [div_cast]
  by_cases h : 0 < N / 2 ^ k
  · rw [decide_eq_true h, decide_eq_true (by omega)]
  · rw [decide_eq_false h, decide_eq_false (by omega)]
theorem bit_at (N k : Nat) (hN : N < 2 ^ 60) : (bits BinOp.and IntKind.i64 ((N : Int) / 2 ^ k) 1 == 1) = N.testBit k := by
  have hq : N / 2 ^ k < 2 ^ 62 := Nat.lt_of_le_of_lt (Nat.div_le_self _ _) (by omega)
  have h1 : bits BinOp.and IntKind.i64 ((N / 2 ^ k : Nat) : Int) ((1 : Nat) : Int) = ((N / 2 ^ k &&& 1 : Nat) : Int) := band_nat _ 1 hq (by decide)
  have h2 : ((1 : Nat) : Int) = 1 := rfl
  rw [h2] at h1
  rw [div_cast, h1, Nat.and_one_is_mod, Nat.testBit_eq_decide_div_mod_eq, Bool.eq_iff_iff]
  simp only [beq_iff_eq, decide_eq_true_eq]
  omega

end Go.Proofs.Ytkdncpglgdiicaa
