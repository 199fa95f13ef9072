/- Both writers of 32 bytes write the same text. -/
import Derived.Test.YtegeijlookpgaaaDoorR3
set_option linter.unusedVariables false
set_option linter.unusedSimpArgs false
namespace Go.Proofs.YtegeijlookpgaaaDoor
open Go.RowKit

/-! ### both write the same text -/
theorem bitsN_get (v : Nat) : ∀ (n k : Nat), k < n → (bitsN v n).getD k 0 = v / 2 ^ (7 - k) % 2
  | 0, k, h => by omega
  | n + 1, k, h => by
    rw [bitsN, List.getD_eq_getElem?_getD]
    by_cases hk : k < n
    · rw [List.getElem?_append_left (by rw [bitsN_len]; exact hk), ← List.getD_eq_getElem?_getD, bitsN_get v n k hk]
    · rw [List.getElem?_append_right (by rw [bitsN_len]; omega), bitsN_len, show k - n = 0 by omega, show n = k by omega]; rfl
theorem bitsL_get : ∀ (l : List UInt8) (j k : Nat), k < 8 → (bitsL l).getD (8 * j + k) 0 = (l.getD j 0).toNat / 2 ^ (7 - k) % 2
  | [], j, k, h => by simp [bitsL]
  | c :: r, j, k, h => by
    have hb : bitsL (c :: r) = bits8 c ++ bitsL r := by simp [bitsL]
    rw [hb, List.getD_eq_getElem?_getD]
    match j with
    | 0 =>
      rw [List.getElem?_append_left (by rw [bits8, bitsN_len]; omega), ← List.getD_eq_getElem?_getD, Nat.mul_zero, Nat.zero_add, bits8, bitsN_get _ 8 k h]
      rfl
    | j + 1 =>
      rw [List.getElem?_append_right (by rw [bits8, bitsN_len]; omega), bits8, bitsN_len, show 8 * (j + 1) + k - 8 = 8 * j + k by omega, ← List.getD_eq_getElem?_getD, bitsL_get r j k h]
      rfl
theorem bitsL_le (l : List UInt8) (i : Nat) : (bitsL l).getD i 0 ≤ 1 := by
  have := bitsL_get l (i / 8) (i % 8) (by omega)
  rw [show 8 * (i / 8) + i % 8 = i by omega] at this
  rw [this]; omega
theorem val6 (l : List Nat) (i : Nat) : valN l i 6 = 32 * l.getD i 0 + 16 * l.getD (i + 1) 0 + 8 * l.getD (i + 2) 0 + 4 * l.getD (i + 3) 0 + 2 * l.getD (i + 4) 0 + l.getD (i + 5) 0 := by
  simp only [valN, Nat.add_zero]; omega
theorem bget (l : List UInt8) (i j k : Nat) (hk : k < 8) (hi : i = 8 * j + k) : (bitsL l).getD i 0 = (l.getD j 0).toNat / 2 ^ (7 - k) % 2 := by rw [hi]; exact bitsL_get l j k hk
theorem val0 (l : List UInt8) (t : Nat) : valN (bitsL l) (6 * (4 * t)) 6 = n3 (l.getD (3 * t) 0) (l.getD (3 * t + 1) 0) (l.getD (3 * t + 2) 0) / 2 ^ 18 := by
  rw [val6, bget l _ (3 * t) 0 (by omega) (by omega), bget l _ (3 * t) 1 (by omega) (by omega), bget l _ (3 * t) 2 (by omega) (by omega), bget l _ (3 * t) 3 (by omega) (by omega), bget l _ (3 * t) 4 (by omega) (by omega), bget l _ (3 * t) 5 (by omega) (by omega), n3]
  have h0 := (l.getD (3 * t) 0).toNat_lt
  have h1 := (l.getD (3 * t + 1) 0).toNat_lt
  have h2 := (l.getD (3 * t + 2) 0).toNat_lt
  generalize (l.getD (3 * t) 0).toNat = a at *
  generalize (l.getD (3 * t + 1) 0).toNat = b at *
  generalize (l.getD (3 * t + 2) 0).toNat = c at *
  have e : (a * 65536 + b * 256 + c) / 2 ^ 18 = a / 4 := by omega
  rw [e]; omega
theorem val1 (l : List UInt8) (t : Nat) : valN (bitsL l) (6 * (4 * t + 1)) 6 = n3 (l.getD (3 * t) 0) (l.getD (3 * t + 1) 0) (l.getD (3 * t + 2) 0) / 2 ^ 12 % 64 := by
  rw [val6, bget l _ (3 * t) 6 (by omega) (by omega), bget l _ (3 * t) 7 (by omega) (by omega), bget l _ (3 * t + 1) 0 (by omega) (by omega), bget l _ (3 * t + 1) 1 (by omega) (by omega), bget l _ (3 * t + 1) 2 (by omega) (by omega), bget l _ (3 * t + 1) 3 (by omega) (by omega), n3]
  have h0 := (l.getD (3 * t) 0).toNat_lt
  have h1 := (l.getD (3 * t + 1) 0).toNat_lt
  have h2 := (l.getD (3 * t + 2) 0).toNat_lt
  generalize (l.getD (3 * t) 0).toNat = a at *
  generalize (l.getD (3 * t + 1) 0).toNat = b at *
  generalize (l.getD (3 * t + 2) 0).toNat = c at *
  have e : (a * 65536 + b * 256 + c) / 2 ^ 12 % 64 = a % 4 * 16 + b / 16 := by omega
  rw [e]; omega
theorem val2 (l : List UInt8) (t : Nat) : valN (bitsL l) (6 * (4 * t + 2)) 6 = n3 (l.getD (3 * t) 0) (l.getD (3 * t + 1) 0) (l.getD (3 * t + 2) 0) / 2 ^ 6 % 64 := by
  rw [val6, bget l _ (3 * t + 1) 4 (by omega) (by omega), bget l _ (3 * t + 1) 5 (by omega) (by omega), bget l _ (3 * t + 1) 6 (by omega) (by omega), bget l _ (3 * t + 1) 7 (by omega) (by omega), bget l _ (3 * t + 2) 0 (by omega) (by omega), bget l _ (3 * t + 2) 1 (by omega) (by omega), n3]
  have h0 := (l.getD (3 * t) 0).toNat_lt
  have h1 := (l.getD (3 * t + 1) 0).toNat_lt
  have h2 := (l.getD (3 * t + 2) 0).toNat_lt
  generalize (l.getD (3 * t) 0).toNat = a at *
  generalize (l.getD (3 * t + 1) 0).toNat = b at *
  generalize (l.getD (3 * t + 2) 0).toNat = c at *
  have e : (a * 65536 + b * 256 + c) / 2 ^ 6 % 64 = b % 16 * 4 + c / 64 := by omega
  rw [e]; omega
theorem val3 (l : List UInt8) (t : Nat) : valN (bitsL l) (6 * (4 * t + 3)) 6 = n3 (l.getD (3 * t) 0) (l.getD (3 * t + 1) 0) (l.getD (3 * t + 2) 0) % 64 := by
  rw [val6, bget l _ (3 * t + 2) 2 (by omega) (by omega), bget l _ (3 * t + 2) 3 (by omega) (by omega), bget l _ (3 * t + 2) 4 (by omega) (by omega), bget l _ (3 * t + 2) 5 (by omega) (by omega), bget l _ (3 * t + 2) 6 (by omega) (by omega), bget l _ (3 * t + 2) 7 (by omega) (by omega), n3]
  have h0 := (l.getD (3 * t) 0).toNat_lt
  have h1 := (l.getD (3 * t + 1) 0).toNat_lt
  have h2 := (l.getD (3 * t + 2) 0).toNat_lt
  generalize (l.getD (3 * t) 0).toNat = a at *
  generalize (l.getD (3 * t + 1) 0).toNat = b at *
  generalize (l.getD (3 * t + 2) 0).toNat = c at *
  omega
theorem enc_outR (A : ByteArray) (l : List UInt8) : ∀ t, enc A l t = outR A (bitsL l) (4 * t)
  | 0 => rfl
  | t + 1 => by
    have h : outR A (bitsL l) (4 * (t + 1)) = outR A (bitsL l) (4 * t) ++ [lt A (valN (bitsL l) (6 * (4 * t)) 6)] ++ [lt A (valN (bitsL l) (6 * (4 * t + 1)) 6)] ++ [lt A (valN (bitsL l) (6 * (4 * t + 2)) 6)] ++ [lt A (valN (bitsL l) (6 * (4 * t + 3)) 6)] := rfl
    rw [h, val0, val1, val2, val3, enc, enc_outR A l t, grp]
    simp only [List.append_assoc, List.cons_append, List.nil_append]
theorem url32_outR (A : ByteArray) (l : List UInt8) (hl : l.length = 32) : url32 A l = outR A (bitsL l) 43 := by
  have h : outR A (bitsL l) 43 = outR A (bitsL l) (4 * 10) ++ [lt A (valN (bitsL l) (6 * (4 * 10)) 6)] ++ [lt A (valN (bitsL l) (6 * (4 * 10 + 1)) 6)] ++ [lt A (valN (bitsL l) (6 * (4 * 10 + 2)) 6)] := rfl
  have h32 : l.getD (3 * 10 + 2) 0 = 0 := by rw [List.getD_eq_getElem?_getD, List.getElem?_eq_none (by omega)]; rfl
  rw [h, val0, val1, val2, ← enc_outR, url32, h32]
  simp only [List.append_assoc, List.cons_append, List.nil_append]
end Go.Proofs.YtegeijlookpgaaaDoor
