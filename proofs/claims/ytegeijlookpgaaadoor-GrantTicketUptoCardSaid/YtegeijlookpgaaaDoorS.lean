/- The 32-bit arithmetic and what RotateLeft32 and rot compute. -/
import Derived.Test.YtegeijlookpgaaaDoorU
import Derived.Laws.BitsLemmas
set_option linter.unusedVariables false
set_option linter.unusedSimpArgs false
namespace Go.Proofs.YtegeijlookpgaaaDoor
open Go.RowKit Go.Proofs.YtegeijlookpgaaaDoorW.PrintWords

/-! ### words of 32 bits -/
theorem bits_xor_nat (k : IntKind) (j : Nat) (hj : j ≤ k.bits) (hk : ∀ n : Int, 0 ≤ n → n < 2 ^ j → k.wrap n = n) (a b : Nat) (ha : a < 2 ^ j) (hb : b < 2 ^ j) :
    Go.bits .xor k a b = ((a ^^^ b : Nat) : Int) := by
  have hp : 2 ^ j ≤ 2 ^ k.bits := Nat.pow_le_pow_right (by decide) hj
  have ha' : a % 2 ^ k.bits = a := Nat.mod_eq_of_lt (Nat.lt_of_lt_of_le ha hp)
  have hb' : b % 2 ^ k.bits = b := Nat.mod_eq_of_lt (Nat.lt_of_lt_of_le hb hp)
  have cast : ∀ n : Nat, n < 2 ^ j → ((n : Nat) : Int) < 2 ^ j := fun n h => by exact_mod_cast h
  simp only [Go.bits, BitVec.ofInt_natCast, BitVec.toNat_xor, BitVec.toNat_ofNat, ha', hb']
  exact hk _ (Int.natCast_nonneg _) (cast _ (Nat.xor_lt_two_pow ha hb))
theorem wraps_u32 (n : Int) (h₀ : 0 ≤ n) (h₁ : n < 2 ^ 32) : IntKind.u32.wrap n = n := by rw [IntKind.wrap_u32]; omega
theorem u32_and (x y : UInt32) : Go.bits .and .u32 (x.toNat : Int) (y.toNat : Int) = ((x &&& y).toNat : Int) := by
  rw [(bits_nat .u32 32 (by decide) wraps_u32 _ _ x.toNat_lt y.toNat_lt).1, UInt32.toNat_and]
theorem u32_or (x y : UInt32) : Go.bits .or .u32 (x.toNat : Int) (y.toNat : Int) = ((x ||| y).toNat : Int) := by
  rw [(bits_nat .u32 32 (by decide) wraps_u32 _ _ x.toNat_lt y.toNat_lt).2, UInt32.toNat_or]
theorem u32_xor (x y : UInt32) : Go.bits .xor .u32 (x.toNat : Int) (y.toNat : Int) = ((x ^^^ y).toNat : Int) := by
  rw [bits_xor_nat .u32 32 (by decide) wraps_u32 _ _ x.toNat_lt y.toNat_lt, UInt32.toNat_xor]
theorem u32_add (x y : UInt32) : ((x.toNat : Int) + (y.toNat : Int)) % 4294967296 = ((x + y).toNat : Int) := by
  rw [UInt32.toNat_add]; omega
theorem u32_shl (x : UInt32) (n : Nat) (h : n < 32) : ((x.toNat : Int) * 2 ^ n) % 4294967296 = ((x <<< UInt32.ofNat n).toNat : Int) := by
  rw [UInt32.toNat_shiftLeft]
  have : (UInt32.ofNat n).toNat % 32 = n := by simp; omega
  rw [this, Nat.shiftLeft_eq]
  have e : ((x.toNat : Int) * 2 ^ n) = ((x.toNat * 2 ^ n : Nat) : Int) := by push_cast; rfl
  rw [e]
  generalize x.toNat * 2 ^ n = m
  omega
theorem u32_shr (x : UInt32) (n : Nat) (h : n < 32) : (x.toNat : Int) / 2 ^ n = ((x >>> UInt32.ofNat n).toNat : Int) := by
  rw [UInt32.toNat_shiftRight]
  have : (UInt32.ofNat n).toNat % 32 = n := by simp; omega
  rw [this, Nat.shiftRight_eq_div_pow]
  push_cast
  rfl
/-- to the right, around -/
def rotr (x : UInt32) (n : Nat) : UInt32 := (x >>> UInt32.ofNat n) ||| (x <<< UInt32.ofNat (32 - n))

theorem rotr_eq (x : UInt32) (n j : Nat) (h1 : 1 ≤ n) (h2 : n ≤ 31) (hj : j = 32 - n) : Go.bits .or .u32 ((x.toNat : Int) * 2 ^ j % 4294967296) ((x.toNat : Int) / 2 ^ (32 - j)) = ((rotr x n).toNat : Int) := by
  subst hj
  rw [u32_shl x (32 - n) (by omega), show 32 - (32 - n) = n by omega, u32_shr x n (by omega), u32_or, rotr, UInt32.or_comm]

set_option maxRecDepth 100000 in
theorem RotateLeft32_c (x : UInt32) (n : Nat) (k : Int) (hk : k = -(n : Int)) (h1 : 1 ≤ n) (h2 : n ≤ 31) (w : World) :
    Calls Tryd.prog 115 #[.int .u32 x.toNat, .int .i64 k] w fun e w' => e = .returned (.int .u32 (rotr x n).toNat) ∧ w = w' := by
  obtain ⟨j, hj, hj1, hj2⟩ : ∃ j : Nat, Go.bits .and .u64 (IntKind.u64.wrap k) 31 = (j : Int) ∧ j = 32 - n ∧ 32 - j = n := by
    refine ⟨32 - n, ?_, rfl, by omega⟩
    have hw : IntKind.u64.wrap k = ((18446744073709551616 - n : Nat) : Int) := by
      subst hk
      simp [IntKind.wrap, IntKind.bits, IntKind.signed]; omega
    rw [hw]
    have := (bits_nat .u64 64 (by decide) (fun m h0 h1 => by simp [IntKind.wrap, IntKind.bits, IntKind.signed]; omega) (18446744073709551616 - n) 31 (by omega) (by decide)).1
    refine Eq.trans (by simpa using this) ?_
    have h31 : (18446744073709551616 - n) &&& 31 = (18446744073709551616 - n) % 32 := Nat.and_two_pow_sub_one_eq_mod _ 5
    rw [h31]; omega
  have H1 := hid_ hj1
  have H2 := hid_ hj2
  have hjl : j ≤ 31 := by omega
  have hjl1 : 1 ≤ j := by omega
  have Hk := hid_ hk
  clear hj1 hj2 hk
  go_enter Tryd.func115, Tryd.ntmps115
  go_wp2
  go_ret
  exact ⟨by rw [← rotr_eq x n j h1 h2 H1.out]; rfl, rfl⟩

theorem rotl_eq (x : UInt32) (n : Nat) (h1 : 1 ≤ n) (h2 : n ≤ 31) : Go.bits .or .u32 ((x.toNat : Int) / 2 ^ n) ((x.toNat : Int) * 2 ^ (32 - n) % 4294967296) = ((rotr x n).toNat : Int) := by
  rw [u32_shl x (32 - n) (by omega), u32_shr x n (by omega), u32_or, rotr]
set_option maxRecDepth 100000 in
theorem rot_c (x : UInt32) (n : Nat) (h1 : 1 ≤ n) (h2 : n ≤ 31) (w : World) :
    Calls Tryd.prog 98 #[.int .u32 x.toNat, .int .u64 n] w fun e w' => e = .returned (.int .u32 (rotr x n).toNat) ∧ w = w' := by
  go_enter Tryd.func98, Tryd.ntmps98
  go_wp2
  go_ret
  exact ⟨by rw [← rotl_eq x n h1 h2]; rfl, rfl⟩
end Go.Proofs.YtegeijlookpgaaaDoor
