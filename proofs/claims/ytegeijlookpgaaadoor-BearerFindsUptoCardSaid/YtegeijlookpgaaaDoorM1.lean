/- What pct.Get, bearer.named, bearer.byField and bearer.tokenText compute. -/
import Derived.Test.YtegeijlookpgaaaDoorN6
import Derived.Test.YtegeijlookpgaaaDoorPS
import Derived.Test.YtegeijlookpgaaaDoorShelf
set_option linter.unusedVariables false
set_option linter.unusedSimpArgs false
namespace Go.Proofs.YtegeijlookpgaaaDoor
open Go.RowKit Go.Proofs.YtegeijlookpgaaaDoorW.PrintWords

def hasGet (nm : ByteArray) (p : Pr) : Bool := bs p.f0 == bs nm && !(bs p.f1).isEmpty
def getV (nm : ByteArray) (l : List Pr) : ByteArray := match l.find? (hasGet nm) with | some p => p.f1 | none => ⟨#[]⟩
def getN (nm : ByteArray) (l : List Pr) : Nat := (l.filter (hasGet nm)).length
theorem getN_no {nm : ByteArray} {l : List Pr} {p : Pr} (h : hasGet nm p = false) : getN nm (l ++ [p]) = getN nm l := by simp [getN, List.filter_append, h]
theorem getN_yes {nm : ByteArray} {l : List Pr} {p : Pr} (h : hasGet nm p = true) : getN nm (l ++ [p]) = getN nm l + 1 := by simp [getN, List.filter_append, h]
theorem getV_no {nm : ByteArray} {l : List Pr} {p : Pr} (h : hasGet nm p = false) : getV nm (l ++ [p]) = getV nm l := by
  simp [getV, List.find?_append, h]
theorem getV_more {nm : ByteArray} {l : List Pr} {p : Pr} (h0 : getN nm l ≠ 0) : getV nm (l ++ [p]) = getV nm l := by
  have : ∃ q, l.find? (hasGet nm) = some q := by
    cases hf : l.find? (hasGet nm) with
    | some q => exact ⟨q, rfl⟩
    | none =>
      rw [List.find?_eq_none] at hf
      exact absurd (by unfold getN; rw [List.filter_eq_nil_iff.2 hf]; rfl) h0
  obtain ⟨q, hq⟩ := this
  simp [getV, List.find?_append, hq]
theorem getV_first {nm : ByteArray} {l : List Pr} {p : Pr} (h : hasGet nm p = true) (h0 : getN nm l = 0) : getV nm (l ++ [p]) = p.f1 := by
  have hf : l.find? (hasGet nm) = none := by
    rw [List.find?_eq_none]
    unfold getN at h0
    exact List.filter_eq_nil_iff.1 (List.eq_nil_of_length_eq_zero h0)
  simp [getV, List.find?_append, hf, h]
theorem getN_le (nm : ByteArray) (l : List Pr) : getN nm l ≤ l.length := List.length_filter_le _ _

set_option maxHeartbeats 1000000 in
set_option maxRecDepth 100000 in
theorem Get_c (A : Option Addr) (c : Nat) (l : List Pr) (name : ByteArray) (w : World) (hr : kP.C w A l.length l) (hl : l.length ≤ 1099511627776) :
    Calls Tryd.prog 26 #[.slice A l.length c, .string name] w fun e w' => e = .returned (.tuple #[.string (getV name l), .int .i64 (getN name l)]) ∧ Below w.heap.size w w' := by
  have HR := As.mk hr
  clear hr
  go_enter Tryd.func26, Tryd.ntmps26
  go_wp2
  go_loopw [6, 7, 12] (fun c6 c7 c14 wr => ∃ i : Nat, c14 = .int .i64 i ∧ i ≤ l.length ∧ c6 = .string (getV name (l.take i)) ∧ c7 = .int .i64 (getN name (l.take i)) ∧ As (Below w.heap.size w wr)) (fun _ _ v _ => l.length - (intOf v).toNat)
  case atStart => exact ⟨0, rfl, Nat.zero_le _, rfl, rfl, ⟨Below.refl _ _⟩⟩
  case round =>
    obtain ⟨i, rfl, hi, rfl, rfl, HW⟩ := hrel
    by_cases hlt : i < l.length
    · obtain ⟨ad, rfl, h0, h1⟩ := kP_at HR.out i hlt
      have d0 := pw_cell_below HW.out h0
      have d1 := pw_cell_below HW.out h1
      have HS := hid_ (take_pr l i hlt)
      clear h0 h1
      have hlk := Nat.le_trans (getN_le name (l.take i)) (List.length_take_le i l)
      have HW2 : As (Below w.heap.size w (wr.alloc (Obj.cells #[Value.string l[i].f0, Value.string l[i].f1] 29))) := ⟨below_alloc HW.out _⟩
      by_cases hn : bs l[i].f0 = bs name
      · obtain ⟨g1, g2⟩ := str_eq hn
        by_cases hv : bs l[i].f1 = []
        · have hh : hasGet name l[i] = false := by simp [hasGet, hv]
          have e1 := hid_ (getV_no (l := l.take i) hh)
          have e2 := hid_ (getN_no (l := l.take i) hh)
          obtain ⟨k1, k2, k3⟩ := str_nil _ hv
          clear hh hn hv
          go_wp2
          go_roundw
          case rel => exact ⟨i + 1, by go_num, by omega, by rw [HS.out, e1.out], by rw [HS.out, e2.out], HW2⟩
          case measure => simp [intOf]; omega
        · have hh : hasGet name l[i] = true := by simp [hasGet, hn]; simpa using hv
          have e2 := hid_ (getN_yes (l := l.take i) hh)
          obtain ⟨k1, k2, k3⟩ := str_some _ hv
          by_cases h0 : getN name (l.take i) = 0
          · have e1 := hid_ (getV_first hh h0)
            have q0 : ((getN name (l.take i) : Int) == 0) = true := by rw [h0]; rfl
            clear hh h0 hn hv
            go_wp2
            go_roundw
            case rel => exact ⟨i + 1, by go_num, by omega, by rw [HS.out, e1.out], by rw [HS.out, e2.out]; go_num, HW2⟩
            case measure => simp [intOf]; omega
          · have e1 := hid_ (getV_more (p := l[i]) h0)
            have q0 : ((getN name (l.take i) : Int) == 0) = false := by rw [beq_eq_false_iff_ne]; omega
            clear hh h0 hn hv
            go_wp2
            go_roundw
            case rel => exact ⟨i + 1, by go_num, by omega, by rw [HS.out, e1.out], by rw [HS.out, e2.out]; go_num, HW2⟩
            case measure => simp [intOf]; omega
      · obtain ⟨g1, g2⟩ := str_ne hn
        have hh : hasGet name l[i] = false := by unfold hasGet; rw [beq_eq_false_iff_ne.2 hn]; rfl
        have e1 := hid_ (getV_no (l := l.take i) hh)
        have e2 := hid_ (getN_no (l := l.take i) hh)
        clear hh hn
        go_wp2
        go_roundw
        case rel => exact ⟨i + 1, by go_num, by omega, by rw [HS.out, e1.out], by rw [HS.out, e2.out], HW2⟩
        case measure => simp [intOf]; omega
    · have HE : As (l.take i = l) := ⟨List.take_of_length_le (by omega)⟩
      go_wp2
      go_ret2
      rw [HE.out]
      exact ⟨rfl, HW.out⟩

def bearerL : List UInt8 := [98, 101, 97, 114, 101, 114]
/-- is s the word Bearer, in any case of letters? -/
def isBearer (s : ByteArray) : Bool := low (bs s) == bearerL
theorem low_get (s : ByteArray) (i : Nat) (h : i < s.size) : (low (bs s))[i]? = some (lowB s[i]) := by
  rw [low, List.getElem?_map, List.getElem?_eq_getElem (by rw [bs_size]; exact h)]; rfl
theorem lowB_nat (c : UInt8) : (lowB c).toNat = if 65 ≤ c.toNat ∧ c.toNat ≤ 90 then c.toNat + 32 else c.toNat := by
  have h : ∀ n : Fin 256, (lowB (UInt8.ofNat n.val)).toNat = if 65 ≤ n.val ∧ n.val ≤ 90 then n.val + 32 else n.val := by decide +kernel
  have := h ⟨c.toNat, c.toNat_lt⟩
  simpa using this
theorem bearer_no {s : ByteArray} (i : Nat) (h : i < 6) (hi : i < s.size) (hn : lowB s[i] ≠ bearerL.getD i 0) : isBearer s = false := by
  unfold isBearer
  rw [beq_eq_false_iff_ne]
  intro e
  have := low_get s i hi
  rw [e] at this
  rw [List.getD_eq_getElem?_getD, this] at hn
  exact hn rfl
theorem bearer_len {s : ByteArray} (h : s.size ≠ 6) : isBearer s = false := by
  unfold isBearer
  rw [beq_eq_false_iff_ne]
  intro e
  have := congrArg List.length e
  rw [low_len, bs_size] at this
  exact h this
theorem bearer_yes {s : ByteArray} (h : s.size = 6) (hy : ∀ j, j < 6 → (low (bs s))[j]? = bearerL[j]?) : isBearer s = true := by
  unfold isBearer
  rw [beq_iff_eq]
  refine List.ext_getElem? (fun j => ?_)
  rcases Nat.lt_or_ge j 6 with hj | hj
  · exact hy j hj
  · rw [List.getElem?_eq_none (by rw [low_len, bs_size]; omega), List.getElem?_eq_none (by exact hj)]
set_option maxHeartbeats 1000000 in
set_option maxRecDepth 100000 in
theorem named_c (s : ByteArray) (w : World) (hs : s.size ≤ 1099511627776) :
    Calls Tryd.prog 53 #[.string s] w fun e w' => e = .returned (.bool (isBearer s)) ∧ w' = w := by
  by_cases h6 : s.size = 6
  · have q6 : ((s.size : Int) != 6) = false := by rw [h6]; rfl
    have H6 := hid_ h6
    clear h6
    go_enter Tryd.func53, Tryd.ntmps53
    go_wp2
    go_loop [8] (fun v => ∃ i : Nat, v = .int .i64 i ∧ i ≤ 6 ∧ As (∀ j, j < i → (low (bs s))[j]? = bearerL[j]?)) (fun v => 6 - (intOf v).toNat)
    case atStart => exact ⟨0, rfl, by omega, ⟨fun j hj => by omega⟩⟩
    case round =>
      obtain ⟨i, rfl, hi, HA⟩ := hrel
      by_cases hlt : i < 6
      · have hls : i < s.size := by have := H6.out; omega
        have hcl := (s[i]).toNat_lt
        have HG := hid_ (low_get s i hls)
        have HN := hid_ (lowB_nat s[i])
        have HB := As.mk (bearer_no (s := s) i hlt hls)
        have hix : i < (ByteArray.mk #[98, 101, 97, 114, 101, 114]).size := hlt
        have HX : Hid ((ByteArray.mk #[98, 101, 97, 114, 101, 114])[i] = bearerL.getD i 0) := hid_ (lit_get i bearerL hlt)
        have HST : As (lowB s[i] = bearerL.getD i 0 → ∀ j, j < i + 1 → (low (bs s))[j]? = bearerL[j]?) := ⟨fun e j hj => by
          rcases Nat.lt_succ_iff_lt_or_eq.1 hj with h | rfl
          · exact HA.out j h
          · rw [HG.out, e, List.getD_eq_getElem?_getD, List.getElem?_eq_getElem (by exact hlt)]; rfl⟩
        have HNE : As (lowB s[i] = bearerL.getD i 0 ↔ (lowB s[i]).toNat = ((ByteArray.mk #[98, 101, 97, 114, 101, 114])[i]).toNat) := ⟨by
          rw [HX.out]
          exact ⟨fun e => by rw [e], fun e => UInt8.toNat_inj.1 e⟩⟩
        rw [HN.out] at HNE
        clear HA HG HX HN
        by_cases hu : 65 ≤ s[i].toNat ∧ s[i].toNat ≤ 90
        · have u1 : (65 : Int) ≤ (s[i].toNat : Int) := by omega
          have u2 : (s[i].toNat : Int) ≤ 90 := by omega
          rw [if_pos hu] at HNE
          by_cases he : s[i].toNat + 32 = ((ByteArray.mk #[98, 101, 97, 114, 101, 114])[i]).toNat
          · have HY := HST.out (HNE.out.2 he)
            have HY2 := As.mk HY
            have q : ((s[i].toNat : Int) + 32 != (((ByteArray.mk #[98, 101, 97, 114, 101, 114])[i]).toNat : Int)) = false := by
              rw [bne_eq_false_iff_eq]; omega
            clear HY HST HNE HB he
            go_wp2
            exact ⟨⟨i + 1, by go_num, by omega, HY2⟩, by simp [intOf]; omega⟩
          · have HY2 := hid_ (HB.out (fun e => he (HNE.out.1 e)))
            have q : ((s[i].toNat : Int) + 32 != (((ByteArray.mk #[98, 101, 97, 114, 101, 114])[i]).toNat : Int)) = true := by
              rw [bne_iff_ne]; omega
            clear HST HNE HB he
            go_wp2
            go_ret
            exact ⟨ret_bool HY2.out.symm, rfl⟩
        · rw [if_neg hu] at HNE
          have hu2 : (s[i].toNat : Int) < 65 ∨ (65 ≤ (s[i].toNat : Int) ∧ 90 < (s[i].toNat : Int)) := by omega
          by_cases he : s[i].toNat = ((ByteArray.mk #[98, 101, 97, 114, 101, 114])[i]).toNat
          · have HY := HST.out (HNE.out.2 he)
            have HY2 := As.mk HY
            have q : ((s[i].toNat : Int) != (((ByteArray.mk #[98, 101, 97, 114, 101, 114])[i]).toNat : Int)) = false := by
              rw [bne_eq_false_iff_eq]; omega
            clear HY HST HNE HB he hu
            rcases hu2 with u1 | ⟨u1, u2⟩
            all_goals
              go_wp2
              exact ⟨⟨i + 1, by go_num, by omega, HY2⟩, by simp [intOf]; omega⟩
          · have HY2 := hid_ (HB.out (fun e => he (HNE.out.1 e)))
            have q : ((s[i].toNat : Int) != (((ByteArray.mk #[98, 101, 97, 114, 101, 114])[i]).toNat : Int)) = true := by
              rw [bne_iff_ne]; omega
            clear HST HNE HB he hu
            rcases hu2 with u1 | ⟨u1, u2⟩
            all_goals
              go_wp2
              go_ret
              exact ⟨ret_bool HY2.out.symm, rfl⟩
      · have HY := hid_ (bearer_yes H6.out (fun j hj => HA.out j (by omega)))
        go_wp2
        go_ret
        exact ⟨ret_bool HY.out.symm, rfl⟩
  · have q6 : ((s.size : Int) != 6) = true := by rw [bne_iff_ne]; omega
    go_enter Tryd.func53, Tryd.ntmps53
    go_wp2
    go_ret
    exact ⟨ret_bool (bearer_len h6).symm, rfl⟩
end Go.Proofs.YtegeijlookpgaaaDoor
