/- What the reference's bytes, Lower, Lookup and the runs of a Content-Type compute. -/
import Derived.Test.YtegeijlookpgaaaDoorM2
set_option linter.unusedVariables false
set_option linter.unusedSimpArgs false
namespace Go.Proofs.YtegeijlookpgaaaDoor
open Go.RowKit Go.Proofs.YtegeijlookpgaaaDoorW.PrintWords

def standsB (s : ByteArray) (c : UInt8) : Bool := (bs s).contains c
theorem eq_t {a b : UInt8} (h : a = b) : ((a.toNat : Int) == (b.toNat : Int)) = true ∧ ((a.toNat : Int) != (b.toNat : Int)) = false := by rw [h]; simp
theorem eq_f {a b : UInt8} (h : a ≠ b) : ((a.toNat : Int) == (b.toNat : Int)) = false ∧ ((a.toNat : Int) != (b.toNat : Int)) = true := by
  have hn : a.toNat ≠ b.toNat := fun e => h (UInt8.toNat_inj.1 e)
  exact ⟨by rw [beq_eq_false_iff_ne]; omega, by rw [bne_iff_ne]; omega⟩
theorem eqn_t {a : UInt8} {n : Nat} (h : a.toNat = n) : ((a.toNat : Int) == (n : Int)) = true ∧ ((a.toNat : Int) != (n : Int)) = false := by rw [h]; simp
theorem eqn_f {a : UInt8} {n : Nat} (h : a.toNat ≠ n) : ((a.toNat : Int) == (n : Int)) = false ∧ ((a.toNat : Int) != (n : Int)) = true :=
  ⟨by rw [beq_eq_false_iff_ne]; omega, by rw [bne_iff_ne]; omega⟩

set_option maxHeartbeats 1000000 in
set_option maxRecDepth 100000 in
theorem stands_c (s : ByteArray) (c : UInt8) (w : World) (hs : s.size ≤ 1099511627776) :
    Calls Tryd.prog 94 #[.string s, .int .u8 c.toNat] w fun e w' => e = .returned (.bool (standsB s c)) ∧ w' = w := by
  go_enter Tryd.func94, Tryd.ntmps94
  go_wp2
  go_loop [5] (fun v => ∃ i : Nat, v = .int .i64 i ∧ i ≤ s.size ∧ As (standsB s c = ((bs s).drop i).contains c)) (fun v => s.size - (intOf v).toNat)
  case atStart => exact ⟨0, rfl, Nat.zero_le _, ⟨rfl⟩⟩
  case round =>
    obtain ⟨i, rfl, hi, HA⟩ := hrel
    by_cases hlt : i < s.size
    · have HS : As (standsB s c = (s[i] == c || ((bs s).drop (i + 1)).contains c)) := ⟨by
        rw [HA.out, drop_bs s i hlt, List.contains_cons]
        congr 1
        rw [Bool.eq_iff_iff, beq_iff_eq, beq_iff_eq]; exact eq_comm⟩
      by_cases he : s[i] = c
      · obtain ⟨q1, q2⟩ := eq_t he
        have HF : As (standsB s c = true) := ⟨by rw [HS.out, he]; simp⟩
        clear he HS HA
        go_wp2
        go_ret
        exact ⟨ret_bool HF.out.symm, rfl⟩
      · obtain ⟨q1, q2⟩ := eq_f he
        have HF : As (standsB s c = ((bs s).drop (i + 1)).contains c) := ⟨by rw [HS.out, beq_eq_false_iff_ne.2 he]; rfl⟩
        clear he HS HA
        go_wp2
        exact ⟨⟨i + 1, by go_num, by omega, HF⟩, by simp [intOf]; omega⟩
    · have HF : As (standsB s c = false) := ⟨by rw [HA.out, List.drop_of_length_le (by rw [bs_size]; omega)]; rfl⟩
      go_wp2
      go_ret
      exact ⟨ret_bool HF.out.symm, rfl⟩

/-- the ways of a byte through the tests of letters and digits, large ones first -/
theorem alnum_ways (c : UInt8) : (alnum c = true ∧ ((65 ≤ (c.toNat : Int) ∧ (c.toNat : Int) ≤ 90) ∨ (65 ≤ (c.toNat : Int) ∧ 90 < (c.toNat : Int) ∧ 97 ≤ (c.toNat : Int) ∧ (c.toNat : Int) ≤ 122) ∨ ((c.toNat : Int) < 65 ∧ (c.toNat : Int) < 97 ∧ 48 ≤ (c.toNat : Int) ∧ (c.toNat : Int) ≤ 57))) ∨
    (alnum c = false ∧ ((65 ≤ (c.toNat : Int) ∧ 90 < (c.toNat : Int) ∧ 97 ≤ (c.toNat : Int) ∧ 122 < (c.toNat : Int) ∧ 48 ≤ (c.toNat : Int) ∧ 57 < (c.toNat : Int)) ∨ (65 ≤ (c.toNat : Int) ∧ 90 < (c.toNat : Int) ∧ (c.toNat : Int) < 97 ∧ 48 ≤ (c.toNat : Int) ∧ 57 < (c.toNat : Int)) ∨
      ((c.toNat : Int) < 65 ∧ (c.toNat : Int) < 97 ∧ 48 ≤ (c.toNat : Int) ∧ 57 < (c.toNat : Int)) ∨ ((c.toNat : Int) < 65 ∧ (c.toNat : Int) < 97 ∧ (c.toNat : Int) < 48))) := by
  cases h : alnum c with
  | true =>
    have := (alnum_iff c).1 h
    exact .inl ⟨rfl, by omega⟩
  | false =>
    have h0 : ¬ ((65 ≤ c.toNat ∧ c.toNat ≤ 90) ∨ (97 ≤ c.toNat ∧ c.toNat ≤ 122) ∨ (48 ≤ c.toNat ∧ c.toNat ≤ 57)) := fun hh => by rw [(alnum_iff c).2 hh] at h; cases h
    exact .inr ⟨rfl, by omega⟩

set_option maxHeartbeats 1000000 in
set_option maxRecDepth 100000 in
theorem TokenByte_c (c : UInt8) (w : World) : Calls Tryd.prog 61 #[.int .u8 c.toNat] w fun e w' => e = .returned (.bool (tokB c)) ∧ w' = w := by
  have hcl := c.toNat_lt
  have HST : As (Calls Tryd.prog 94 #[.string ⟨#[33, 35, 36, 37, 38, 39, 42, 43, 45, 46, 94, 95, 124, 126, 96]⟩, .int .u8 c.toNat] w fun e w' => e = .returned (.bool (marksL.contains c)) ∧ w' = w) := ⟨stands_c ⟨#[33, 35, 36, 37, 38, 39, 42, 43, 45, 46, 94, 95, 124, 126, 96]⟩ c w (by decide)⟩
  rcases alnum_ways c with ⟨ha, h⟩ | ⟨ha, h⟩
  · have HF : As (tokB c = true) := ⟨by unfold tokB; rw [ha]; rfl⟩
    clear ha HST
    rcases h with ⟨h1, h2⟩ | ⟨h1, h2, h3, h4⟩ | ⟨h1, h2, h3, h4⟩
    all_goals
      go_enter Tryd.func61, Tryd.ntmps61
      go_wp2
      go_ret
      exact ⟨ret_bool HF.out.symm, rfl⟩
  · have HF : As (tokB c = marksL.contains c) := ⟨by unfold tokB; rw [ha]; rfl⟩
    rw [← HF.out] at HST
    clear ha HF
    rcases h with ⟨h1, h2, h3, h4, h5, h6⟩ | ⟨h1, h2, h3, h4, h5⟩ | ⟨h1, h2, h3, h4⟩ | ⟨h1, h2, h3⟩
    all_goals
      go_enter Tryd.func61, Tryd.ntmps61
      go_wp2_with fail
      refine HST.out.mono ?_
      rintro e w' ⟨rfl, rfl⟩
      go_wp2
      go_ret
      exact ⟨rfl, rfl⟩
theorem TokenByte_v (c : UInt8) (v : Bool) (hv : tokB c = v) (w : World) : Calls Tryd.prog 61 #[.int .u8 c.toNat] w fun e w' => e = .returned (.bool v) ∧ w' = w := hv ▸ TokenByte_c c w

theorem valB_iff (c : UInt8) : valB c = true ↔ c.toNat = 9 ∨ (32 ≤ c.toNat ∧ c.toNat ≤ 126) ∨ 128 ≤ c.toNat := by
  unfold valB
  simp only [Bool.or_eq_true, Bool.and_eq_true, decide_eq_true_eq, UInt8.le_iff_toNat_le, beq_iff_eq]
  constructor
  · rintro ((h | h) | h)
    · exact .inl (by rw [h]; rfl)
    · exact .inr (.inl h)
    · exact .inr (.inr h)
  · rintro (h | h | h)
    · exact .inl (.inl (UInt8.toNat_inj.1 h))
    · exact .inl (.inr h)
    · exact .inr h
set_option maxHeartbeats 1000000 in
set_option maxRecDepth 100000 in
theorem ValueByte_c (c : UInt8) (w : World) : Calls Tryd.prog 125 #[.int .u8 c.toNat] w fun e w' => e = .returned (.bool (valB c)) ∧ w' = w := by
  have hcl := c.toNat_lt
  have HI := As.mk (valB_iff c)
  by_cases h9 : c.toNat = 9
  · have q1 : ((c.toNat : Int) == 9) = true := by rw [beq_iff_eq]; omega
    have q2 : (c.toNat : Int) < 32 := by omega
    have q3 : (c.toNat : Int) < 128 := by omega
    have HF : As (valB c = true) := ⟨HI.out.2 (.inl h9)⟩
    clear h9 HI
    go_enter Tryd.func125, Tryd.ntmps125
    go_wp2
    go_ret
    exact ⟨ret_bool HF.out.symm, rfl⟩
  · have q1 : ((c.toNat : Int) == 9) = false := by rw [beq_eq_false_iff_ne]; omega
    have hw : (32 ≤ (c.toNat : Int) ∧ (c.toNat : Int) ≤ 126) ∨ (32 ≤ (c.toNat : Int) ∧ 126 < (c.toNat : Int) ∧ 128 ≤ (c.toNat : Int)) ∨ (32 ≤ (c.toNat : Int) ∧ 126 < (c.toNat : Int) ∧ (c.toNat : Int) < 128) ∨ ((c.toNat : Int) < 32 ∧ (c.toNat : Int) < 128) := by omega
    rcases hw with ⟨h1, h2⟩ | ⟨h1, h2, h3⟩ | ⟨h1, h2, h3⟩ | ⟨h1, h2⟩
    · have HF : As (valB c = true) := ⟨HI.out.2 (by omega)⟩
      clear h9 HI
      go_enter Tryd.func125, Tryd.ntmps125
      go_wp2
      go_ret
      exact ⟨ret_bool HF.out.symm, rfl⟩
    · have HF : As (valB c = true) := ⟨HI.out.2 (by omega)⟩
      clear h9 HI
      go_enter Tryd.func125, Tryd.ntmps125
      go_wp2
      go_ret
      exact ⟨ret_bool HF.out.symm, rfl⟩
    · have HF : As (valB c = false) := ⟨by
        cases h : valB c
        · rfl
        · have := HI.out.1 h; omega⟩
      clear h9 HI
      go_enter Tryd.func125, Tryd.ntmps125
      go_wp2
      go_ret
      exact ⟨ret_bool (by rw [HF.out]; simp; omega), rfl⟩
    · have HF : As (valB c = false) := ⟨by
        cases h : valB c
        · rfl
        · have := HI.out.1 h; omega⟩
      clear h9 HI
      go_enter Tryd.func125, Tryd.ntmps125
      go_wp2
      go_ret
      exact ⟨ret_bool (by rw [HF.out]; simp; omega), rfl⟩
theorem ValueByte_v (c : UInt8) (v : Bool) (hv : valB c = v) (w : World) : Calls Tryd.prog 125 #[.int .u8 c.toNat] w fun e w' => e = .returned (.bool v) ∧ w' = w := hv ▸ ValueByte_c c w

set_option maxRecDepth 100000 in
theorem small_c (c : UInt8) (w : World) : Calls Tryd.prog 93 #[.int .u8 c.toNat] w fun e w' => e = .returned (.int .u8 (lowB c).toNat) ∧ w' = w := by
  have hcl := c.toNat_lt
  have HL := As.mk (lowB_nat c)
  by_cases hu : 65 ≤ c.toNat ∧ c.toNat ≤ 90
  · have u1 : (65 : Int) ≤ (c.toNat : Int) := by omega
    have u2 : (c.toNat : Int) ≤ 90 := by omega
    rw [if_pos hu] at HL
    clear hu
    go_enter Tryd.func93, Tryd.ntmps93
    go_wp2
    go_ret
    exact ⟨ret_int (by rw [HL.out]; simp), rfl⟩
  · rw [if_neg hu] at HL
    have hw : (c.toNat : Int) < 65 ∨ (65 ≤ (c.toNat : Int) ∧ 90 < (c.toNat : Int)) := by omega
    clear hu
    rcases hw with h1 | ⟨h1, h2⟩
    all_goals
      go_enter Tryd.func93, Tryd.ntmps93
      go_wp2
      go_ret
      exact ⟨ret_int (by rw [HL.out]), rfl⟩

theorem low_snoc (l : List UInt8) (c : UInt8) : low (l ++ [c]) = low l ++ [lowB c] := by simp [low]
set_option maxHeartbeats 1000000 in
set_option maxRecDepth 100000 in
theorem Lower_c (s : ByteArray) (w : World) (hs : s.size ≤ 1099511627776) :
    Calls Tryd.prog 60 #[.string s] w fun e w' => e = .returned (.string (sb (low (bs s)))) ∧ Below w.heap.size w w' := by
  go_enter Tryd.func60, Tryd.ntmps60
  go_wp2
  go_loopw [3, 4] (fun c3 c4 wr => ∃ i : Nat, c4 = .int .i64 i ∧ i ≤ s.size ∧ As (BR w.heap.size c3 (low ((bs s).take i)) wr) ∧ As (Below w.heap.size w wr)) (fun _ v _ => s.size - (intOf v).toNat)
  case atStart => exact ⟨0, rfl, Nat.zero_le _, ⟨BR.nil _ _⟩, ⟨Below.refl _ _⟩⟩
  case round =>
    obtain ⟨i, rfl, hi, HO, HW⟩ := hrel
    by_cases hlt : i < s.size
    · have HS : As (low ((bs s).take (i + 1)) = low ((bs s).take i) ++ [lowB s[i]]) := ⟨by rw [take_snoc s i hlt, low_snoc]⟩
      have HLL : As ((low ((bs s).take i)).length + 1 ≤ 140737488355328 ∧ w.heap.size ≤ wr.heap.size) := ⟨by
        rw [low_len]
        have := List.length_take_le i (bs s)
        omega, HW.out.size⟩
      generalize low ((bs s).take i) = acc at *
      have HSM := As.mk (small_c s[i] wr)
      go_wp2_with (first | (go_at_call 93; refine HSM.out.mono ?_; rintro e w' ⟨rfl, rfl⟩) | (at_builtin; refine byte_app w.heap.size rfl _ _ rfl u3 acc [lowB s[i]] 1 rfl rfl rfl _ rfl HO.out HLL.out.2 HLL.out.1 ?_; intro v1 w5 hbr hg; have HO5 := As.mk hbr; have HW5 : As (Below w.heap.size w w5) := ⟨grown_below HO.out hg HW.out (Nat.le_refl _)⟩; clear hbr hg HO HW))
      exact ⟨⟨i + 1, by go_num, by omega, ⟨by rw [HS.out]; exact HO5.out⟩, HW5⟩, by simp [intOf]; omega⟩
    · have HE : As ((bs s).take i = bs s) := ⟨take_all s i (by omega)⟩
      go_wp2_with (refine byte_str w.heap.size rfl _ rfl u3 (low ((bs s).take i)) rfl HO.out ?_)
      go_ret
      exact ⟨ret_str (by rw [HE.out]), HW.out⟩
end Go.Proofs.YtegeijlookpgaaaDoor
