/- What pct.digit and pct.Unescape compute. -/
import Derived.Test.YtegeijlookpgaaaDoorN6
set_option linter.unusedVariables false
set_option linter.unusedSimpArgs false
namespace Go.Proofs.YtegeijlookpgaaaDoor
open Go.RowKit Go.Proofs.YtegeijlookpgaaaDoorW.PrintWords

set_option maxHeartbeats 1000000 in
set_option maxRecDepth 100000 in
theorem digit_c (c : UInt8) (w : World) : Calls Tryd.prog 78 #[.int .u8 c.toNat] w fun e w' => e = .returned (.int .u8 (hexV c)) ∧ w' = w := by
  have hc := c.toNat_lt
  have HX : As (hexV c = if 48 ≤ c.toNat ∧ c.toNat ≤ 57 then c.toNat - 48 else if 65 ≤ c.toNat ∧ c.toNat ≤ 70 then c.toNat - 55 else if 97 ≤ c.toNat ∧ c.toNat ≤ 102 then c.toNat - 87 else 16) := ⟨rfl⟩
  go_enter Tryd.func78, Tryd.ntmps78
  go_wp2
  all_goals
    go_ret
    refine ⟨ret_int ?_, rfl⟩
    show _ = ((hexV c : Nat) : Int)
    rw [HX.out]
    try simp only [decide_eq_true_eq, decide_eq_false_iff_not, Bool.and_eq_true, Bool.and_eq_false_iff] at *
    split <;> (try split) <;> (try split) <;> (try simp) <;> omega
end Go.Proofs.YtegeijlookpgaaaDoor
