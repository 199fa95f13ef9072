/- What the reference digest's byteAt computes. -/
import Derived.Test.YtegeijlookpgaaaDoorS8
set_option linter.unusedVariables false
set_option linter.unusedSimpArgs false
namespace Go.Proofs.YtegeijlookpgaaaDoor
open Go.RowKit Go.Proofs.YtegeijlookpgaaaDoorW.PrintWords Go.Proofs.YtegeijlookpgaaaDoorW.PrintLast

theorem padB_lt (s : ByteArray) (i : Nat) (h : i < s.size) : padB (bs s) i = s[i] := by
  rw [padB, if_pos (by rw [bs_size]; exact h), List.getD_eq_getElem?_getD, List.getElem?_eq_getElem (by rw [bs_size]; exact h)]
  rfl
theorem u64_and255 (x : Nat) (h : x < 2 ^ 64) : Go.bits .and .u64 (x : Int) 255 = ((x % 256 : Nat) : Int) := by
  have wraps (n : Int) (h₀ : 0 ≤ n) (h₁ : n < 2 ^ 64) : IntKind.u64.wrap n = n := by rw [IntKind.wrap_u64]; omega
  have := (bits_nat .u64 64 (by decide) wraps x 255 h (by decide)).1
  rw [show ((255 : Nat) : Int) = 255 from rfl] at this
  rw [this, show (255 : Nat) = 2 ^ 8 - 1 from rfl, Nat.and_two_pow_sub_one_eq_mod]
theorem lenB_bits (n j : Nat) (hn : n ≤ 4503599627370496) : Go.bits .and .u64 ((n : Int) * 8 / 2 ^ (8 * j)) 255 % 4294967296 = ((lenB n j).toNat : Int) := by
  have e : ((n : Int) * 8 / 2 ^ (8 * j)) = ((n * 8 / 2 ^ (8 * j) : Nat) : Int) := by
    rw [Int.natCast_ediv, Int.natCast_mul, Int.natCast_pow]; rfl
  rw [← lenB_int n j, e, u64_and255 _ (Nat.lt_of_le_of_lt (Nat.div_le_self _ _) (by omega))]
  omega
set_option maxHeartbeats 4000000 in
set_option maxRecDepth 100000 in
theorem byteAt_c (s : ByteArray) (i : Nat) (w : World) (hi : i < whole s.size) (hs : s.size ≤ 4503599627370496) :
    Calls Tryd.prog 97 #[.string s, .int .i64 (whole s.size), .int .i64 i] w fun e w' => e = .returned (.int .u32 (padB (bs s) i).toNat) ∧ w = w' := by
  have hw1 : s.size + 9 ≤ whole s.size := by unfold whole; omega
  have hw2 : whole s.size ≤ s.size + 72 := by unfold whole; omega
  by_cases h1 : i < s.size
  · have HP := hid_ (padB_lt s i h1)
    generalize whole s.size = wh at *
    go_enter Tryd.func97, Tryd.ntmps97
    go_wp2
    go_ret
    exact ⟨ret_int (by rw [HP.out]; have := (s[i]).toNat_lt; omega), rfl⟩
  · by_cases h2 : i = s.size
    · have HP : As (padB (bs s) i = 0x80) := ⟨by rw [padB, if_neg (by rw [bs_size]; exact h1), if_pos (by rw [bs_size]; exact h2)]⟩
      generalize whole s.size = wh at *
      have h2' : (i : Int) = (s.size : Int) := by omega
      have HI := hid_ h2
      clear h2
      have q1 : ((i : Int) == (s.size : Int)) = true := by rw [beq_iff_eq]; exact h2'
      go_enter Tryd.func97, Tryd.ntmps97
      go_wp2
      go_ret
      exact ⟨ret_int (by rw [HP.out]; rfl), rfl⟩
    · have q1 : ((i : Int) == (s.size : Int)) = false := by rw [beq_eq_false_iff_ne]; omega
      by_cases h3 : i < whole s.size - 8
      · have HP : As (padB (bs s) i = 0) := ⟨by rw [padB, if_neg (by rw [bs_size]; exact h1), if_neg (by rw [bs_size]; exact h2), bs_size, if_pos h3]⟩
        have h3' : (i : Int) < (whole s.size : Int) - 8 := by omega
        generalize whole s.size = wh at *
        go_enter Tryd.func97, Tryd.ntmps97
        go_wp2
        go_ret
        exact ⟨ret_int (by rw [HP.out]; rfl), rfl⟩
      · obtain ⟨j, hj⟩ : ∃ j, j = whole s.size - 1 - i := ⟨_, rfl⟩
        have HP : As (padB (bs s) i = lenB s.size j) := ⟨by rw [padB, if_neg (by rw [bs_size]; exact h1), if_neg (by rw [bs_size]; exact h2), bs_size, if_neg h3, hj]⟩
        have hj' : ((whole s.size : Int) - 1 - (i : Int)) = (j : Int) := by omega
        have hj8 : j < 8 := by omega
        have HJ := hid_ hj
        clear hj
        have q2 : ¬ (i : Int) < (whole s.size : Int) - 8 := by omega
        generalize whole s.size = wh at *
        go_enter Tryd.func97, Tryd.ntmps97
        go_wp2
        go_ret
        exact ⟨ret_int (by rw [HP.out]; exact lenB_bits s.size j hs), rfl⟩
end Go.Proofs.YtegeijlookpgaaaDoor
