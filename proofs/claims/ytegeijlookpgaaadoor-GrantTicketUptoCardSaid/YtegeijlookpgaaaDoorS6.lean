/- What sums.Sha computes. -/
import Derived.Test.YtegeijlookpgaaaDoorS5
set_option linter.unusedVariables false
set_option linter.unusedSimpArgs false
namespace Go.Proofs.YtegeijlookpgaaaDoor
open Go.RowKit Go.Proofs.YtegeijlookpgaaaDoorW.PrintWords Go.Proofs.YtegeijlookpgaaaDoorW.PrintLast

/-- the two tables of the digest -/
def ShaT (w : World) : Prop := Whole8 15 vInit w ∧ Tab32 17 kTab w ∧ 17 < w.heap.size
theorem ShaT.below {w w' : World} (h : ShaT w) (hb : Below w.heap.size w w') : ShaT w' :=
  ⟨by obtain ⟨t, fr, h1⟩ := h.1; exact ⟨t, fr, (hb.block _ (Nat.lt_trans (by decide) h.2.2)).trans h1⟩, h.2.1.below hb, Nat.lt_of_lt_of_le h.2.2 hb.size⟩

set_option maxHeartbeats 4000000 in
set_option maxRecDepth 100000 in
theorem Sha_c (s : ByteArray) (w : World) (hT : ShaT w) (hs : s.size ≤ 4503599627370496) :
    Calls Tryd.prog 63 #[.string s] w fun e w' => e = .returned (.string (sb (shaL (bs s)))) ∧ Below w.heap.size w w' := by
  have HT := As.mk hT
  clear hT
  go_enter Tryd.func63, Tryd.ntmps63
  go_wp2_with fail
  refine (NewHash_c w HT.out.1).mono ?_
  rintro _ w1 ⟨rfl, h1, hb1⟩
  have H1 := As.mk h1
  have HB1 := As.mk hb1
  clear h1 hb1
  go_wp2_with fail
  refine (Add_c w.heap.size [] 0 s w1 (by have := HT.out.2.2; omega) (HT.out.below HB1.out).2.1 H1.out (by omega)).mono ?_
  rintro _ w2 ⟨rfl, h2, hf2⟩
  have H2 : As (HC w.heap.size (bs s) (bs s).length w2) := ⟨by rw [bs_size]; simpa using h2⟩
  have HB2 : As (Below w.heap.size w w2) := ⟨below_fr HB1.out hf2⟩
  clear h2 hf2 H1 HB1
  go_wp2_with fail
  refine (Sum_c w.heap.size (bs s) w2 (HT.out.below HB2.out).2.1 H2.out (by rw [bs_size]; exact hs)).mono ?_
  rintro _ w3 ⟨rfl, hb3⟩
  have HB3 : As (Below w.heap.size w w3) := ⟨HB2.out.trans ⟨hb3.os, hb3.tape, hb3.output, hb3.size, fun k hk => hb3.block k (Nat.lt_of_lt_of_le hk HB2.out.size)⟩⟩
  clear hb3
  go_wp2_with fail
  go_ret
  exact ⟨rfl, HB3.out⟩
end Go.Proofs.YtegeijlookpgaaaDoor
