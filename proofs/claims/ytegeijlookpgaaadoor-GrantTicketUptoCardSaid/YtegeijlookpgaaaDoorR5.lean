/- What both Urls compute on 32 bytes. -/
import Derived.Test.YtegeijlookpgaaaDoorR4
set_option linter.unusedVariables false
set_option linter.unusedSimpArgs false
namespace Go.Proofs.YtegeijlookpgaaaDoor
open Go.RowKit Go.Proofs.YtegeijlookpgaaaDoorW.PrintWords Go.Proofs.YtegeijlookpgaaaDoorW.PrintLast

def urlA : ByteArray := ⟨#[65, 66, 67, 68, 69, 70, 71, 72, 73, 74, 75, 76, 77, 78, 79, 80, 81, 82, 83, 84, 85, 86, 87, 88, 89, 90, 97, 98, 99, 100, 101, 102, 103, 104, 105, 106, 107, 108, 109, 110, 111, 112, 113, 114, 115, 116, 117, 118, 119, 120, 121, 122, 48, 49, 50, 51, 52, 53, 54, 55, 56, 57, 45, 95]⟩
theorem urlA_size : urlA.size = 64 := rfl
set_option maxHeartbeats 4000000 in
set_option maxRecDepth 100000 in
theorem Url_c (p : ByteArray) (w : World) (hp : p.size = 32) :
    Calls Tryd.prog 14 #[.string p] w fun e w' => e = .returned (.string (sb (url32 urlA (bs p)))) ∧ Below w.heap.size w w' := by
  go_enter Tryd.func14, Tryd.ntmps14
  go_wp2_with fail
  refine (write_c urlA p w urlA_size hp).mono ?_
  rintro _ w1 ⟨rfl, hb1⟩
  have HB1 := As.mk hb1
  clear hb1
  go_wp2
  go_ret
  exact ⟨rfl, HB1.out⟩
set_option maxHeartbeats 4000000 in
set_option maxRecDepth 100000 in
theorem refUrl_c (p : ByteArray) (w : World) (hp : p.size = 32) :
    Calls Tryd.prog 19 #[.string p] w fun e w' => e = .returned (.string (sb (url32 urlA (bs p)))) ∧ Below w.heap.size w w' := by
  have HE : As (outR urlA (bitsL (bs p)) 43 = url32 urlA (bs p)) := ⟨(url32_outR urlA (bs p) (by rw [bs_size]; exact hp)).symm⟩
  have hl : (bitsL (bs p)).length = 256 := by rw [bitsL_len, bs_size, hp]
  have HL := hid_ hl
  clear hl
  go_enter Tryd.func19, Tryd.ntmps19
  go_wp2_with fail
  refine (bits_c p w (by omega)).mono ?_
  rintro _ w1 ⟨⟨v, rfl, hi⟩, hb1⟩
  have HB1 := As.mk hb1
  have HI := As.mk hi
  clear hb1 hi
  go_wp2_with fail
  refine (letters_c urlA v (bitsL (bs p)) w.heap.size w1 urlA_size HI.out HL.out (bitsL_le _)).mono ?_
  rw [HE.out]
  rintro _ w2 ⟨rfl, hb2⟩
  have HB2 := As.mk (below_next HB1.out hb2)
  clear hb2
  go_wp2
  go_ret
  exact ⟨rfl, HB2.out⟩
end Go.Proofs.YtegeijlookpgaaaDoor
