/- What the reference's block and Mac compute. -/
import Derived.Test.YtegeijlookpgaaaDoorSB
set_option linter.unusedVariables false
set_option linter.unusedSimpArgs false
namespace Go.Proofs.YtegeijlookpgaaaDoor
open Go.RowKit Go.Proofs.YtegeijlookpgaaaDoorW.PrintWords Go.Proofs.YtegeijlookpgaaaDoorW.PrintLast

theorem bs_getD (y : ByteArray) (i : Nat) (h : i < y.size) : (bs y).getD i 0 = y[i] := by
  rw [List.getD_eq_getElem?_getD, List.getElem?_eq_getElem (by rw [bs_size]; exact h)]
  rfl
theorem bs_getD0 (y : ByteArray) (i : Nat) (h : ¬ i < y.size) : (bs y).getD i 0 = 0 := by
  rw [List.getD_eq_getElem?_getD, List.getElem?_eq_none (by rw [bs_size]; omega)]
  rfl
theorem bs_append (a b : ByteArray) : bs (a ++ b) = bs a ++ bs b := by simp [bs]
def kL (l : List UInt8) (x : UInt8) (i : Nat) : List UInt8 := (List.range i).map fun j => l.getD j 0 ^^^ x
theorem kL_snoc (l : List UInt8) (x : UInt8) (i : Nat) : kL l x (i + 1) = kL l x i ++ [l.getD i 0 ^^^ x] := by
  simp [kL, List.range_succ]
theorem kL_len (l : List UInt8) (x : UInt8) (i : Nat) : (kL l x i).length = i := by simp [kL]
theorem kPad_kL (k : ByteArray) (x : UInt8) : kPad k x = kL (kCut k) x 64 := rfl

set_option maxHeartbeats 4000000 in
set_option maxRecDepth 100000 in
theorem block_c (s : ByteArray) (x : UInt8) (w : World) (hT : RefT w) (hs : s.size ≤ 4503599627370496) :
    Calls Tryd.prog 43 #[.string s, .int .u8 x.toNat] w fun e w' => e = .returned (.string (sb (kPad s x))) ∧ Below w.heap.size w w' := by
  have HT := As.mk hT
  clear hT
  by_cases hbig : 64 < s.size
  · obtain ⟨y, hy⟩ : ∃ y, y = sb (shaL (bs s)) := ⟨_, rfl⟩
    have HY : As (bs y = kCut s) := ⟨by rw [hy, bs_sb, kCut, if_pos hbig]⟩
    have hy64 : y.size ≤ 64 := by rw [hy, sb_size, shaL_len]; omega
    go_enter Tryd.func43, Tryd.ntmps43
    go_wp2_with fail
    refine (refSha_c s _ HT.out hs).mono ?_
    rw [← hy]
    clear hy
    rintro _ w1 ⟨rfl, hb1⟩
    have HB1 := As.mk hb1
    clear hb1
    go_wp2
    go_loopw [5, 6] (fun c5 c6 wr => ∃ i : Nat, c6 = .int .i64 i ∧ i ≤ 64 ∧ As (BR w.heap.size c5 (kL (bs y) x i) wr ∧ Below w.heap.size w wr)) (fun _ c _ => (64 - intOf c).toNat)
    case atStart => exact ⟨0, rfl, by omega, ⟨BR.nil _ _, HB1.out⟩⟩
    case round =>
      clear HB1
      obtain ⟨i, rfl, hi, HS⟩ := hrel
      have HLL : As ((kL (bs y) x i).length + 1 ≤ 140737488355328 ∧ w.heap.size ≤ wr.heap.size) := ⟨by rw [kL_len]; omega, HS.out.2.size⟩
      by_cases hi64 : i < 64
      · by_cases hiy : i < y.size
        · have HX : As (kL (bs y) x (i + 1) = kL (bs y) x i ++ [y[i] ^^^ x]) := ⟨by rw [kL_snoc, bs_getD y i hiy]⟩
          go_wp2_with (at_builtin; refine byte_app (W := wr) w.heap.size rfl _ _ rfl u5 (kL (bs y) x i) [y[i] ^^^ x] 1 rfl rfl rfl _ (congrArg (fun z => #[Value.int .u8 z]) (u8_xor y[i] x)) HS.out.1 HLL.out.2 HLL.out.1 ?_)
          intro v1 w5 hbr hg
          have HS5 : As (BR w.heap.size v1 (kL (bs y) x (i + 1)) w5 ∧ Below w.heap.size w w5) := ⟨by rw [HX.out]; exact hbr, grown_below HS.out.1 hg HS.out.2 (Nat.le_refl _)⟩
          clear hbr hg HS HX HLL
          go_wp2
          exact ⟨⟨i + 1, by go_num, by omega, HS5⟩, by simp [intOf]; omega⟩
        · have HX : As (kL (bs y) x (i + 1) = kL (bs y) x i ++ [0 ^^^ x]) := ⟨by rw [kL_snoc, bs_getD0 y i hiy]⟩
          go_wp2_with (at_builtin; refine byte_app (W := wr) w.heap.size rfl _ _ rfl u5 (kL (bs y) x i) [0 ^^^ x] 1 rfl rfl rfl _ (congrArg (fun z => #[Value.int .u8 z]) (u8_xor 0 x)) HS.out.1 HLL.out.2 HLL.out.1 ?_)
          intro v1 w5 hbr hg
          have HS5 : As (BR w.heap.size v1 (kL (bs y) x (i + 1)) w5 ∧ Below w.heap.size w w5) := ⟨by rw [HX.out]; simpa using hbr, grown_below HS.out.1 hg HS.out.2 (Nat.le_refl _)⟩
          clear hbr hg HS HX HLL
          go_wp2
          exact ⟨⟨i + 1, by go_num, by omega, HS5⟩, by simp [intOf]; omega⟩
      · have HX : As (sb (kL (bs y) x i) = sb (kPad s x)) := ⟨by rw [show i = 64 by omega, kPad_kL, HY.out]⟩
        go_wp2_with (refine byte_str w.heap.size rfl _ rfl u5 (kL (bs y) x i) rfl HS.out.1 ?_)
        go_ret
        exact ⟨ret_str HX.out, HS.out.2⟩
  · have hsm : s.size ≤ 64 := by omega
    have HY : As (bs s = kCut s) := ⟨by rw [kCut, if_neg hbig]⟩
    have HB1 : As (Below w.heap.size w w) := ⟨Below.refl _ _⟩
    go_enter Tryd.func43, Tryd.ntmps43
    go_wp2
    go_loopw [5, 6] (fun c5 c6 wr => ∃ i : Nat, c6 = .int .i64 i ∧ i ≤ 64 ∧ As (BR w.heap.size c5 (kL (bs s) x i) wr ∧ Below w.heap.size w wr)) (fun _ c _ => (64 - intOf c).toNat)
    case atStart => exact ⟨0, rfl, by omega, ⟨BR.nil _ _, HB1.out⟩⟩
    case round =>
      clear HB1
      obtain ⟨i, rfl, hi, HS⟩ := hrel
      have HLL : As ((kL (bs s) x i).length + 1 ≤ 140737488355328 ∧ w.heap.size ≤ wr.heap.size) := ⟨by rw [kL_len]; omega, HS.out.2.size⟩
      by_cases hi64 : i < 64
      · by_cases hiy : i < s.size
        · have HX : As (kL (bs s) x (i + 1) = kL (bs s) x i ++ [s[i] ^^^ x]) := ⟨by rw [kL_snoc, bs_getD s i hiy]⟩
          go_wp2_with (at_builtin; refine byte_app (W := wr) w.heap.size rfl _ _ rfl u5 (kL (bs s) x i) [s[i] ^^^ x] 1 rfl rfl rfl _ (congrArg (fun z => #[Value.int .u8 z]) (u8_xor s[i] x)) HS.out.1 HLL.out.2 HLL.out.1 ?_)
          intro v1 w5 hbr hg
          have HS5 : As (BR w.heap.size v1 (kL (bs s) x (i + 1)) w5 ∧ Below w.heap.size w w5) := ⟨by rw [HX.out]; exact hbr, grown_below HS.out.1 hg HS.out.2 (Nat.le_refl _)⟩
          clear hbr hg HS HX HLL
          go_wp2
          exact ⟨⟨i + 1, by go_num, by omega, HS5⟩, by simp [intOf]; omega⟩
        · have HX : As (kL (bs s) x (i + 1) = kL (bs s) x i ++ [0 ^^^ x]) := ⟨by rw [kL_snoc, bs_getD0 s i hiy]⟩
          go_wp2_with (at_builtin; refine byte_app (W := wr) w.heap.size rfl _ _ rfl u5 (kL (bs s) x i) [0 ^^^ x] 1 rfl rfl rfl _ (congrArg (fun z => #[Value.int .u8 z]) (u8_xor 0 x)) HS.out.1 HLL.out.2 HLL.out.1 ?_)
          intro v1 w5 hbr hg
          have HS5 : As (BR w.heap.size v1 (kL (bs s) x (i + 1)) w5 ∧ Below w.heap.size w w5) := ⟨by rw [HX.out]; simpa using hbr, grown_below HS.out.1 hg HS.out.2 (Nat.le_refl _)⟩
          clear hbr hg HS HX HLL
          go_wp2
          exact ⟨⟨i + 1, by go_num, by omega, HS5⟩, by simp [intOf]; omega⟩
      · have HX : As (sb (kL (bs s) x i) = sb (kPad s x)) := ⟨by rw [show i = 64 by omega, kPad_kL, HY.out]⟩
        go_wp2_with (refine byte_str w.heap.size rfl _ rfl u5 (kL (bs s) x i) rfl HS.out.1 ?_)
        go_ret
        exact ⟨ret_str HX.out, HS.out.2⟩

set_option maxHeartbeats 4000000 in
set_option maxRecDepth 100000 in
theorem refMac_c (k m : ByteArray) (w : World) (hT : RefT w) (hk : k.size ≤ 4503599627370496) (hm : m.size ≤ 4503599627370000) :
    Calls Tryd.prog 18 #[.string k, .string m] w fun e w' => e = .returned (.string (sb (macL k m))) ∧ Below w.heap.size w w' := by
  have HT := As.mk hT
  clear hT
  go_enter Tryd.func18, Tryd.ntmps18
  go_wp2_with fail
  refine (block_c k 0x36 w HT.out hk).mono ?_
  rintro _ w1 ⟨rfl, hb1⟩
  have HB1 := As.mk hb1
  clear hb1
  go_wp2_with fail
  refine (block_c k 0x5c w1 (HT.out.below HB1.out) hk).mono ?_
  rintro _ w2 ⟨rfl, hb2⟩
  have HB2 := As.mk (below_next HB1.out hb2)
  clear hb2 HB1
  have z1 : (sb (kPad k 0x36)).size = 64 := by rw [sb_size, kPad_len]
  have z2 : (sb (kPad k 0x5c)).size = 64 := by rw [sb_size, kPad_len]
  go_wp2_with fail
  refine (refSha_c (sb (kPad k 0x36) ++ m) w2 (HT.out.below HB2.out) (by rw [ByteArray.size_append, sb_size, kPad_len]; omega)).mono ?_
  rw [show bs (sb (kPad k 0x36) ++ m) = kPad k 0x36 ++ bs m by rw [bs_append, bs_sb]]
  rintro _ w3 ⟨rfl, hb3⟩
  have HB3 := As.mk (below_next HB2.out hb3)
  clear hb3 HB2
  have z3 : (sb (shaL (kPad k 0x36 ++ bs m))).size = 32 := by rw [sb_size, shaL_len]
  go_wp2_with fail
  refine (refSha_c (sb (kPad k 0x5c) ++ sb (shaL (kPad k 0x36 ++ bs m))) w3 (HT.out.below HB3.out) (by rw [ByteArray.size_append, sb_size, sb_size, kPad_len, shaL_len]; omega)).mono ?_
  rw [show bs (sb (kPad k 0x5c) ++ sb (shaL (kPad k 0x36 ++ bs m))) = kPad k 0x5c ++ shaL (kPad k 0x36 ++ bs m) by rw [bs_append, bs_sb, bs_sb]]
  rintro _ w4 ⟨rfl, hb4⟩
  have HB4 := As.mk (below_next HB3.out hb4)
  clear hb4 HB3
  go_wp2
  go_ret
  exact ⟨rfl, HB4.out⟩
end Go.Proofs.YtegeijlookpgaaaDoor
