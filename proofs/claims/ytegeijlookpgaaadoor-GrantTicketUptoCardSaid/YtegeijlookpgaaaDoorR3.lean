/- What the reference's letters computes. -/
import Derived.Test.YtegeijlookpgaaaDoorR2
import Derived.Test.YtegeijlookpgaaaDoorR
set_option linter.unusedVariables false
set_option linter.unusedSimpArgs false
namespace Go.Proofs.YtegeijlookpgaaaDoor
open Go.RowKit Go.Proofs.YtegeijlookpgaaaDoorW.PrintWords Go.Proofs.YtegeijlookpgaaaDoorW.PrintLast

/-- the number in k bits from number i on -/
def valN (l : List Nat) (i : Nat) : Nat → Nat
  | 0 => 0
  | k + 1 => 2 * valN l i k + l.getD (i + k) 0
theorem valN_lt (l : List Nat) (hl : ∀ j, l.getD j 0 ≤ 1) (i : Nat) : ∀ k, valN l i k < 2 ^ k
  | 0 => Nat.one_pos
  | k + 1 => by
    have h1 := valN_lt l hl i k
    have h2 := hl (i + k)
    rw [valN, Nat.pow_succ]; omega
def outR (A : ByteArray) (l : List Nat) : Nat → List UInt8
  | 0 => []
  | m + 1 => outR A l m ++ [lt A (valN l (6 * m) 6)]
theorem outR_len (A : ByteArray) (l : List Nat) : ∀ m, (outR A l m).length = m
  | 0 => rfl
  | m + 1 => by rw [outR, List.length_append, outR_len A l m]; rfl
theorem IR.form {B : Nat} {v : Value} {l : List Nat} {w : World} (h : IR B v l w) (h0 : 0 < l.length) : ∃ g cap, v = .slice (some ⟨g, 0, none⟩) l.length cap ∧ g < w.heap.size ∧ ∀ j, j < l.length → w.cell? ⟨g, j, none⟩ = some (.int .i64 (l.getD j 0 : Nat)) := by
  rcases h.2 with ⟨_, h2⟩ | ⟨g, cap, cur, h1, h2, h3, _, _, _, h7⟩
  · omega
  · refine ⟨g, cap, h1, (Array.getElem?_eq_some_iff.1 h3).1, fun j hj => ?_⟩
    rw [Lib.cell_of_heap h3]
    have h8 : (cur.toList.take (l.length * 1))[j]? = cur[j]? := by rw [List.getElem?_take, if_pos (by omega), Array.getElem?_toList]
    rw [← h8, h7]
    simp only [nums, List.getElem?_map, List.getElem?_eq_getElem hj, List.getD_eq_getElem?_getD]
    rfl

set_option maxHeartbeats 4000000 in
set_option maxRecDepth 100000 in
theorem letters_c (A : ByteArray) (v : Value) (l : List Nat) (B : Nat) (w : World) (hA : A.size = 64) (h : IR B v l w) (hl : l.length = 256) (h1 : ∀ j, l.getD j 0 ≤ 1) :
    Calls Tryd.prog 46 #[v, .int .i64 6, .string A] w fun e w' => e = .returned (.string (sb (outR A l 43))) ∧ Below w.heap.size w w' := by
  obtain ⟨g, cap, rfl, hg, hc⟩ := h.form (by omega)
  rw [hl] at hc ⊢
  have HC := As.mk hc
  have HG := hid_ hg
  have H1 := hid_ h1
  have hA' : (A.size : Int) = 64 := by omega
  clear h hc hg h1
  go_enter Tryd.func46, Tryd.ntmps46
  go_wp2
  go_loopw [7, 8] (fun c7 c8 wr => ∃ m : Nat, c8 = .int .i64 (6 * (m : Int)) ∧ m ≤ 43 ∧ As (BR w.heap.size c7 (outR A l m) wr) ∧ As (Below w.heap.size w wr)) (fun _ v _ => (264 - intOf v).toNat)
  case atStart => exact ⟨0, rfl, Nat.zero_le _, ⟨BR.nil _ _⟩, ⟨Below.refl _ _⟩⟩
  case round =>
    obtain ⟨m, rfl, hm, HO, HW⟩ := hrel
    by_cases hlt : m < 43
    · go_wp2
      go_loopw [9, 10] (fun c9 c10 wr => ∃ k : Nat, c10 = .int .i64 k ∧ k ≤ 6 ∧ c9 = .int .i64 (valN l (6 * m) k) ∧ As (BR w.heap.size u7 (outR A l m) wr) ∧ As (Below w.heap.size w wr)) (fun _ v _ => (6 - intOf v).toNat)
      case atStart => exact ⟨0, rfl, by omega, rfl, HO, HW⟩
      case round =>
        clear HO HW
        obtain ⟨k, rfl, hk, rfl, HO, HW⟩ := hrel
        by_cases hk6 : k < 6
        · have hv := valN_lt l H1.out (6 * m) k
          have hv64 : valN l (6 * m) k < 64 := Nat.lt_of_lt_of_le hv (Nat.pow_le_pow_right (by omega) (by omega : k ≤ 6))
          have HV : As (valN l (6 * m) (k + 1) = 2 * valN l (6 * m) k + l.getD (6 * m + k) 0) := ⟨rfl⟩
          have hb := H1.out (6 * m + k)
          by_cases hin : 6 * m + k < 256
          · have q1 := pw_cell_below HW.out (HC.out (6 * m + k) hin)
            generalize l.getD (6 * m + k) 0 = b at *
            generalize valN l (6 * m) k = V at *
            have c0 : (0 : Int) ≤ 6 * (m : Int) + k := by omega
            have c1 : 6 * (m : Int) + k < 256 := by omega
            have c2 : (6 * (m : Int) + k).toNat = 6 * m + k := by omega
            go_wp2
            exact ⟨⟨k + 1, by go_num, by omega, by rw [HV.out]; go_num, HO, HW⟩, by simp [intOf]; omega⟩
          · have hb0 : l.getD (6 * m + k) 0 = 0 := by rw [List.getD_eq_getElem?_getD, List.getElem?_eq_none (by omega)]; rfl
            rw [hb0] at HV
            clear hb hb0
            generalize valN l (6 * m) k = V at *
            have c1 : (256 : Int) ≤ 6 * (m : Int) + k := by omega
            go_wp2
            exact ⟨⟨k + 1, by go_num, by omega, by rw [HV.out]; go_num, HO, HW⟩, by simp [intOf]; omega⟩
        · have hv : valN l (6 * m) k < 64 := by
            have := valN_lt l H1.out (6 * m) k
            rw [show k = 6 by omega] at this ⊢; exact this
          have HE : As (outR A l (m + 1) = outR A l m ++ [lt A (valN l (6 * m) k)]) := ⟨by rw [outR, show k = 6 by omega]⟩
          have HLL : As ((outR A l m).length + 1 ≤ 140737488355328 ∧ w.heap.size ≤ wr.heap.size) := ⟨by rw [outR_len]; omega, HW.out.size⟩
          generalize valN l (6 * m) k = V at *
          have k0 : V < A.size := by omega
          have HK : As (A[V] = lt A V) := ⟨(bs_getD A V k0).symm⟩
          have c0 : (0 : Int) ≤ (V : Int) := by omega
          have c1 : (V : Int) < 64 := by omega
          go_wp2_with (at_builtin; refine byte_app (W := wr) w.heap.size rfl _ _ rfl u7 (outR A l m) [lt A V] 1 rfl rfl rfl _ (congrArg (fun z : UInt8 => #[Value.int .u8 z.toNat]) HK.out) HO.out HLL.out.2 HLL.out.1 ?_)
          intro v1 w5 hbr hg
          have HO5 : As (BR w.heap.size v1 (outR A l (m + 1)) w5) := ⟨by rw [HE.out]; exact hbr⟩
          have HW5 : As (Below w.heap.size w w5) := ⟨grown_below HO.out hg HW.out (Nat.le_refl _)⟩
          clear hbr hg HO HW HLL HE HK
          go_wp2
          go_roundw
          case rel => exact ⟨m + 1, by go_num, by omega, HO5, HW5⟩
          case measure => simp [intOf]; omega
    · have HE : As (sb (outR A l m) = sb (outR A l 43)) := ⟨by rw [show m = 43 by omega]⟩
      go_wp2_with (refine byte_str w.heap.size rfl _ rfl u7 (outR A l m) rfl HO.out ?_)
      go_ret
      exact ⟨ret_str HE.out, HW.out⟩

end Go.Proofs.YtegeijlookpgaaaDoor
