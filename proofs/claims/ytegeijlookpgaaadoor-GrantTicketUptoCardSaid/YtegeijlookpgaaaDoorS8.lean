/- What sums.signed and sums.Mac compute. -/
import Derived.Test.YtegeijlookpgaaaDoorS7
set_option linter.unusedVariables false
set_option linter.unusedSimpArgs false
namespace Go.Proofs.YtegeijlookpgaaaDoor
open Go.RowKit Go.Proofs.YtegeijlookpgaaaDoorW.PrintWords Go.Proofs.YtegeijlookpgaaaDoorW.PrintLast

theorem HC.start {b : Nat} {l : List UInt8} {r : Nat → UInt8} {w : World} (hl : l.length = 64) (h : w.heap[b]? = some (.cells (af 74 (hf (stOf l) r 0 64)) 64 (0, 0))) : HC b l 64 w := by
  refine ⟨r, ?_, fun i hi => by rw [hl] at hi; omega⟩
  rw [hl]; exact h
theorem below_next {w w1 w2 : World} (h : Below w.heap.size w w1) (k : Below w1.heap.size w1 w2) : Below w.heap.size w w2 :=
  h.trans ⟨k.os, k.tape, k.output, k.size, fun i hi => k.block i (Nat.lt_of_lt_of_le hi h.size)⟩

set_option maxHeartbeats 4000000 in
set_option maxRecDepth 100000 in
theorem signed_c (l1 l2 : List UInt8) (r1 r2 : Nat → UInt8) (m : ByteArray) (w : World) (hT : ShaT w) (h1 : l1.length = 64) (h2 : l2.length = 64) (hm : m.size ≤ 4503599627370000) :
    Calls Tryd.prog 37 #[.agg (af 74 (hf (stOf l1) r1 0 64)), .agg (af 74 (hf (stOf l2) r2 0 64)), .string m] w fun e w' => e = .returned (.string (sb (shaL (l2 ++ shaL (l1 ++ bs m))))) ∧ Below w.heap.size w w' := by
  have HT := As.mk hT
  clear hT
  obtain ⟨q1, q2⟩ := alloc2 w (.cells (af 74 (hf (stOf l1) r1 0 64)) 64) (.cells (af 74 (hf (stOf l2) r2 0 64)) 64)
  have HA := As.mk (HC.start h1 q1)
  have HB := As.mk (HC.start h2 q2)
  have HW : As (Below w.heap.size w ((w.alloc (.cells (af 74 (hf (stOf l1) r1 0 64)) 64)).alloc (.cells (af 74 (hf (stOf l2) r2 0 64)) 64))) := ⟨((Below.refl _ _).alloc (Nat.le_refl _) _).alloc (by simp only [size_al]; omega) _⟩
  have H17 := hid_ HT.out.2.2
  clear q1 q2
  go_enter Tryd.func37, Tryd.ntmps37
  go_wp2_with fail
  generalize (w.alloc (.cells (af 74 (hf (stOf l1) r1 0 64)) 64)).alloc (.cells (af 74 (hf (stOf l2) r2 0 64)) 64) = w1 at *
  refine (Add_c w.heap.size l1 64 m w1 (by have := H17.out; omega) (HT.out.below HW.out).2.1 HA.out (by omega)).mono ?_
  rintro _ w2 ⟨rfl, h2', hf2⟩
  have HA2 : As (HC w.heap.size (l1 ++ bs m) (l1 ++ bs m).length w2) := ⟨by rw [List.length_append, h1, bs_size]; exact h2'⟩
  have HB2 := As.mk (HB.out.fr hf2 (by omega))
  have HW2 : As (Below w.heap.size w w2) := ⟨below_fr HW.out hf2⟩
  clear h2' hf2 HA HB HW
  go_wp2_with fail
  refine (Sum_c w.heap.size (l1 ++ bs m) w2 (HT.out.below HW2.out).2.1 HA2.out (by rw [List.length_append, h1, bs_size]; omega)).mono ?_
  rintro _ w3 ⟨rfl, hb3⟩
  have HB3 := As.mk (HB2.out.below hb3)
  have HW3 := As.mk (below_next HW2.out hb3)
  clear hb3 HA2 HB2 HW2
  go_wp2_with fail
  refine (Add_c (w.heap.size + 1) l2 64 (sb (shaL (l1 ++ bs m))) w3 (by have := H17.out; omega) (HT.out.below HW3.out).2.1 HB3.out (by rw [sb_size, shaL_len]; omega)).mono ?_
  rintro _ w4 ⟨rfl, h4', hf4⟩
  rw [bs_sb] at h4'
  have HB4 : As (HC (w.heap.size + 1) (l2 ++ shaL (l1 ++ bs m)) (l2 ++ shaL (l1 ++ bs m)).length w4) := ⟨by rw [sb_size] at h4'; rw [List.length_append, h2]; exact h4'⟩
  have HW4 : As (Below w.heap.size w w4) := ⟨HW3.out.trans (hf4.below HW3.out.size (fun k hk e => by omega))⟩
  clear h4' hf4 HB3 HW3
  go_wp2_with fail
  refine (Sum_c (w.heap.size + 1) _ w4 (HT.out.below HW4.out).2.1 HB4.out (by rw [List.length_append, h2, shaL_len]; omega)).mono ?_
  rintro _ w5 ⟨rfl, hb5⟩
  have HW5 := As.mk (below_next HW4.out hb5)
  clear hb5 HW4 HB4
  go_wp2
  go_ret
  exact ⟨rfl, HW5.out⟩

/-- the keyed digest -/
def macL (k m : ByteArray) : List UInt8 := shaL (kPad k 0x5c ++ shaL (kPad k 0x36 ++ bs m))
set_option maxHeartbeats 4000000 in
set_option maxRecDepth 100000 in
theorem Mac_c (k m : ByteArray) (w : World) (hT : ShaT w) (hk : k.size ≤ 4503599627370496) (hm : m.size ≤ 4503599627370000) :
    Calls Tryd.prog 15 #[.string k, .string m] w fun e w' => e = .returned (.string (sb (macL k m))) ∧ Below w.heap.size w w' := by
  have HT := As.mk hT
  clear hT
  go_enter Tryd.func15, Tryd.ntmps15
  go_wp2_with fail
  refine (keyed_c k w HT.out hk).mono ?_
  rintro _ w1 ⟨⟨r1, r2, rfl⟩, hb1⟩
  have HB1 := As.mk hb1
  clear hb1
  obtain ⟨q1, q2⟩ := alloc2 w1 (.cells Tryd.zeroCells64 64) (.cells Tryd.zeroCells64 64)
  have HQ1 := As.mk q1
  have HQ2 := As.mk q2
  have HW : As (Below w.heap.size w ((w1.alloc (.cells Tryd.zeroCells64 64)).alloc (.cells Tryd.zeroCells64 64))) := ⟨(HB1.out.alloc HB1.out.size _).alloc (by rw [size_al]; have := HB1.out.size; omega) _⟩
  have HL := hid_ HB1.out.size
  clear q1 q2 HB1
  go_wp2_with (first
    | (refine wpList_store_sub rfl 64 _ _ rfl w1.heap.size 0 rfl 64 Tryd.zeroCells64 (af 74 (hf (stOf (kPad k 0x36)) r1 0 64)).toList rfl HQ1.out (by rw [af_len]; kernel_rfl) (by rw [af_len, zero64_size]; exact Nat.le_refl _) (hf_one _ _ _ _) ?_
       intro w2 h2 hf2
       rw [whole_store _ _ _ zero64_size] at h2
       have HR1 := As.mk (show AF w1.heap.size 64 74 (hf (stOf (kPad k 0x36)) r1 0 64) w2 from h2)
       have HR2 := As.mk ((hf2.block (w1.heap.size + 1) (by simp only [size_al]; omega) (by omega)).trans HQ2.out)
       have HW2 : As (Below w.heap.size w w2) := ⟨HW.out.trans (hf2.below HW.out.size (fun k hk e => by have := HL.out; omega))⟩
       clear HQ1 HQ2 HW h2 hf2)
    | (refine wpList_store_sub rfl 64 _ _ rfl (w1.heap.size + 1) 0 rfl 64 Tryd.zeroCells64 (af 74 (hf (stOf (kPad k 0x5c)) r2 0 64)).toList rfl HR2.out (by rw [af_len]; kernel_rfl) (by rw [af_len, zero64_size]; exact Nat.le_refl _) (hf_one _ _ _ _) ?_
       intro w3 h3 hf3
       rw [whole_store _ _ _ zero64_size] at h3
       have HV2 := As.mk (show AF (w1.heap.size + 1) 64 74 (hf (stOf (kPad k 0x5c)) r2 0 64) w3 from h3)
       have HV1 := As.mk (show AF w1.heap.size 64 74 (hf (stOf (kPad k 0x36)) r1 0 64) w3 from (hf3.block w1.heap.size HR1.out.lt (by omega)).trans HR1.out)
       have HW3 : As (Below w.heap.size w w3) := ⟨HW2.out.trans (hf3.below HW2.out.size (fun k hk e => by have := HL.out; omega))⟩
       clear HR1 HR2 HW2 h3 hf3)
    | (refine wpList_load_sub rfl 64 _ rfl w1.heap.size 0 rfl 64 _ (0, 0) _ (af 74 (hf (stOf (kPad k 0x36)) r1 0 64)).toList HV1.out Tryd.underlying64 rfl (by kernel_rfl) (fun j x hx => by simpa using hx) ?_)
    | (refine wpList_load_sub rfl 64 _ rfl (w1.heap.size + 1) 0 rfl 64 _ (0, 0) _ (af 74 (hf (stOf (kPad k 0x5c)) r2 0 64)).toList HV2.out Tryd.underlying64 rfl (by kernel_rfl) (fun j x hx => by simpa using hx) ?_))
  refine (signed_c (kPad k 0x36) (kPad k 0x5c) r1 r2 m w3 (HT.out.below HW3.out) (kPad_len _ _) (kPad_len _ _) hm).mono ?_
  rintro _ w4 ⟨rfl, hb4⟩
  have HW4 := As.mk (below_next HW3.out hb4)
  clear hb4 HW3 HV1 HV2
  go_wp2
  go_ret
  exact ⟨rfl, HW4.out⟩
end Go.Proofs.YtegeijlookpgaaaDoor
