/- What the reference's Lookup, Get and the runs of a Content-Type compute. -/
import Derived.Test.YtegeijlookpgaaaDoorG1
import Derived.Test.YtegeijlookpgaaaDoorM3
set_option linter.unusedVariables false
set_option linter.unusedSimpArgs false
namespace Go.Proofs.YtegeijlookpgaaaDoor
open Go.RowKit Go.Proofs.YtegeijlookpgaaaDoorW.PrintWords

set_option maxHeartbeats 1000000 in
set_option maxRecDepth 100000 in
theorem refLookup_c (A : Option Addr) (c : Nat) (l : List Pr) (name : ByteArray) (w : World) (hr : kP.C w A l.length l) (hn : name.size ≤ 1099511627776) (hl : l.length ≤ 1099511627776) (hf : ∀ i (h : i < l.length), l[i].f0.size ≤ 1099511627776) :
    Calls Tryd.prog 31 #[.slice A l.length c, .string name] w fun e w' => e = .returned (.tuple #[.string (lookV (low (bs name)) l), .int .i64 (lookN (low (bs name)) l)]) ∧ Below w.heap.size w w' := by
  have HR := As.mk hr
  have HF := As.mk hf
  clear hr hf
  go_enter Tryd.func31, Tryd.ntmps31
  go_wp2_with fail
  refine (Lower_c name _ hn).mono ?_
  rintro e w1 ⟨rfl, hb⟩
  have HB1 := As.mk hb
  clear hb
  have hnm := bs_sb (low (bs name))
  generalize sb (low (bs name)) = nms at *
  generalize hq : low (bs name) = nm at *
  have HQ := hid_ hq
  clear hq
  have HNM := hid_ hnm
  clear hnm
  go_wp2
  go_loopw [7, 8, 9] (fun c6 c7 c14 wr => ∃ i : Nat, c14 = .int .i64 i ∧ i ≤ l.length ∧ c6 = .string (lookV nm (l.take i)) ∧ c7 = .int .i64 (lookN nm (l.take i)) ∧ As (Below w.heap.size w wr)) (fun _ _ v _ => l.length - (intOf v).toNat)
  case atStart => exact ⟨0, rfl, Nat.zero_le _, rfl, rfl, HB1⟩
  case round =>
    obtain ⟨i, rfl, hi, rfl, rfl, HW⟩ := hrel
    by_cases hlt : i < l.length
    · obtain ⟨ad, rfl, h0, h1⟩ := kP_at HR.out i hlt
      have d0 := pw_cell_below HW.out h0
      have d1 := pw_cell_below HW.out h1
      have hfi := HF.out i hlt
      have HS := hid_ (take_pr l i hlt)
      clear h0 h1
      go_wp2_with fail
      refine (Lower_c l[i].f0 _ hfi).mono ?_
      rintro e w2 ⟨rfl, hb⟩
      have d2 := pw_cell_below hb d1
      have HW2 : As (Below w.heap.size w w2) := ⟨below_nx HW.out hb⟩
      clear hb d0 d1
      have hu := bs_sb (low (bs l[i].f0))
      generalize sb (low (bs l[i].f0)) = u at *
      have hlk := Nat.le_trans (lookN_le nm (l.take i)) (List.length_take_le i l)
      cases hh : hasName nm l[i] with
      | false =>
        obtain ⟨g1, g2⟩ := str_ne (u := u) (v := nms) (fun e => by
          rw [HNM.out, hu] at e
          simp [hasName, e] at hh)
        have e1 := hid_ (lookV_no (l := l.take i) hh)
        have e2 := hid_ (lookN_no (l := l.take i) hh)
        clear hu hh
        go_wp2
        go_roundw
        case rel => exact ⟨i + 1, by go_num, by omega, by rw [HS.out, e1.out], by rw [HS.out, e2.out], HW2⟩
        case measure => simp [intOf]; omega
      | true =>
        obtain ⟨g1, g2⟩ := str_eq (u := u) (v := nms) (by
          rw [HNM.out, hu]
          simpa [hasName] using hh)
        have e2 := hid_ (lookN_yes (l := l.take i) hh)
        by_cases h0 : lookN nm (l.take i) = 0
        · have e1 := hid_ (lookV_first hh h0)
          have q0 : ((lookN nm (l.take i) : Int) == 0) = true := by rw [h0]; rfl
          clear hu hh h0
          go_wp2
          go_roundw
          case rel => exact ⟨i + 1, by go_num, by omega, by rw [HS.out, e1.out], by rw [HS.out, e2.out]; go_num, HW2⟩
          case measure => simp [intOf]; omega
        · have e1 := hid_ (lookV_more (p := l[i]) h0)
          have q0 : ((lookN nm (l.take i) : Int) == 0) = false := by rw [beq_eq_false_iff_ne]; omega
          clear hu hh h0
          go_wp2
          go_roundw
          case rel => exact ⟨i + 1, by go_num, by omega, by rw [HS.out, e1.out], by rw [HS.out, e2.out]; go_num, HW2⟩
          case measure => simp [intOf]; omega
    · have HE : As (l.take i = l) := ⟨List.take_of_length_le (by omega)⟩
      go_wp2
      go_ret2
      rw [HE.out, HQ.out]
      exact ⟨rfl, HW.out⟩

set_option maxHeartbeats 1000000 in
set_option maxRecDepth 100000 in
theorem refGet_c (A : Option Addr) (c : Nat) (l : List Pr) (name : ByteArray) (w : World) (hr : kP.C w A l.length l) (hl : l.length ≤ 1099511627776) :
    Calls Tryd.prog 59 #[.slice A l.length c, .string name] w fun e w' => e = .returned (.tuple #[.string (getV name l), .int .i64 (getN name l)]) ∧ Below w.heap.size w w' := by
  have HR := As.mk hr
  clear hr
  go_enter Tryd.func59, Tryd.ntmps59
  go_wp2
  go_loopw [6, 7, 8] (fun c6 c7 c14 wr => ∃ i : Nat, c14 = .int .i64 i ∧ i ≤ l.length ∧ c6 = .string (getV name (l.take i)) ∧ c7 = .int .i64 (getN name (l.take i)) ∧ As (Below w.heap.size w wr)) (fun _ _ v _ => l.length - (intOf v).toNat)
  case atStart => exact ⟨0, rfl, Nat.zero_le _, rfl, rfl, ⟨Below.refl _ _⟩⟩
  case round =>
    obtain ⟨i, rfl, hi, rfl, rfl, HW⟩ := hrel
    by_cases hlt : i < l.length
    · obtain ⟨ad, rfl, h0, h1⟩ := kP_at HR.out i hlt
      have d0 := pw_cell_below HW.out h0
      have d1 := pw_cell_below HW.out h1
      have HS := hid_ (take_pr l i hlt)
      clear h0 h1
      have hlk := Nat.le_trans (getN_le name (l.take i)) (List.length_take_le i l)
      by_cases hn : bs l[i].f0 = bs name
      · obtain ⟨g1, g2⟩ := str_eq hn
        by_cases hv : bs l[i].f1 = []
        · have hh : hasGet name l[i] = false := by simp [hasGet, hv]
          have e1 := hid_ (getV_no (l := l.take i) hh)
          have e2 := hid_ (getN_no (l := l.take i) hh)
          obtain ⟨k1, k2, k3⟩ := str_nil _ hv
          clear hh hn hv
          go_wp2
          go_roundw
          case rel => exact ⟨i + 1, by go_num, by omega, by rw [HS.out, e1.out], by rw [HS.out, e2.out], HW⟩
          case measure => simp [intOf]; omega
        · have hh : hasGet name l[i] = true := by simp [hasGet, hn]; simpa using hv
          have e2 := hid_ (getN_yes (l := l.take i) hh)
          obtain ⟨k1, k2, k3⟩ := str_some _ hv
          by_cases h0 : getN name (l.take i) = 0
          · have e1 := hid_ (getV_first hh h0)
            have q0 : ((getN name (l.take i) : Int) == 0) = true := by rw [h0]; rfl
            clear hh h0 hn hv
            go_wp2
            go_roundw
            case rel => exact ⟨i + 1, by go_num, by omega, by rw [HS.out, e1.out], by rw [HS.out, e2.out]; go_num, HW⟩
            case measure => simp [intOf]; omega
          · have e1 := hid_ (getV_more (p := l[i]) h0)
            have q0 : ((getN name (l.take i) : Int) == 0) = false := by rw [beq_eq_false_iff_ne]; omega
            clear hh h0 hn hv
            go_wp2
            go_roundw
            case rel => exact ⟨i + 1, by go_num, by omega, by rw [HS.out, e1.out], by rw [HS.out, e2.out]; go_num, HW⟩
            case measure => simp [intOf]; omega
      · obtain ⟨g1, g2⟩ := str_ne hn
        have hh : hasGet name l[i] = false := by unfold hasGet; rw [beq_eq_false_iff_ne.2 hn]; rfl
        have e1 := hid_ (getV_no (l := l.take i) hh)
        have e2 := hid_ (getN_no (l := l.take i) hh)
        clear hh hn
        go_wp2
        go_roundw
        case rel => exact ⟨i + 1, by go_num, by omega, by rw [HS.out, e1.out], by rw [HS.out, e2.out], HW⟩
        case measure => simp [intOf]; omega
    · have HE : As (l.take i = l) := ⟨List.take_of_length_le (by omega)⟩
      go_wp2
      go_ret2
      rw [HE.out]
      exact ⟨rfl, HW.out⟩

/-! ### the runs: their answer is a place; what stands behind it is told -/
/-- the place j is where the run of p from i on ends -/
def atEnd (s : ByteArray) (p : UInt8 → Bool) (i j : Nat) : Prop := i ≤ j ∧ j ≤ s.size ∧ (bs s).drop j = ((bs s).drop i).dropWhile p
set_option maxHeartbeats 1000000 in
set_option maxRecDepth 100000 in
theorem token_c (s : ByteArray) (i : Nat) (ii : Int) (hii : ii = i) (w : World) (hs : s.size ≤ 1099511627776) (hi : i ≤ s.size) :
    Calls Tryd.prog 88 #[.string s, .int .i64 ii] w fun e w' => (∃ j : Nat, e = .returned (.int .i64 j) ∧ atEnd s tokB i j) ∧ w' = w := by
  subst hii
  go_enter Tryd.func88, Tryd.ntmps88
  go_wp2
  go_loop [1] (fun v => ∃ j : Nat, v = .int .i64 j ∧ i ≤ j ∧ j ≤ s.size ∧ As (((bs s).drop j).dropWhile tokB = ((bs s).drop i).dropWhile tokB)) (fun v => s.size - (intOf v).toNat)
  case atStart => exact ⟨i, rfl, Nat.le_refl _, hi, ⟨rfl⟩⟩
  case round =>
    obtain ⟨j, rfl, hij, hj, HA⟩ := hrel
    by_cases hlt : j < s.size
    · cases hp : tokB s[j] with
      | false =>
        have HE : As (atEnd s tokB i j) := ⟨hij, hj, by rw [← HA.out, drop_bs s j hlt, List.dropWhile_cons, hp]; rfl⟩
        have HV := As.mk (fun w => TokenByte_v s[j] false hp w)
        clear hp
        go_wp2_with (go_at_call 61; refine (HV.out _).mono ?_; rintro e w' ⟨rfl, rfl⟩)
        go_ret
        exact ⟨⟨j, rfl, HE.out⟩, rfl⟩
      | true =>
        have HE : As (((bs s).drop (j + 1)).dropWhile tokB = ((bs s).drop i).dropWhile tokB) := ⟨by rw [← HA.out, drop_bs s j hlt, List.dropWhile_cons, hp]; rfl⟩
        have HV := As.mk (fun w => TokenByte_v s[j] true hp w)
        clear hp
        go_wp2_with (go_at_call 61; refine (HV.out _).mono ?_; rintro e w' ⟨rfl, rfl⟩)
        exact ⟨⟨j + 1, by go_num, by omega, by omega, HE⟩, by simp [intOf]; omega⟩
    · have HE : As (atEnd s tokB i j) := ⟨hij, hj, by rw [← HA.out, List.drop_of_length_le (by rw [bs_size]; omega)]; rfl⟩
      go_wp2
      go_ret
      exact ⟨⟨j, rfl, HE.out⟩, rfl⟩
theorem whiteB_f {c : UInt8} (h : whiteB c = false) : ((c.toNat : Int) == 32) = false ∧ ((c.toNat : Int) == 9) = false := by
  refine ⟨?_, ?_⟩
  · rw [beq_eq_false_iff_ne]
    intro e
    have : c = 32 := UInt8.toNat_inj.1 (by show c.toNat = 32; omega)
    rw [this] at h; revert h; decide
  · rw [beq_eq_false_iff_ne]
    intro e
    have : c = 9 := UInt8.toNat_inj.1 (by show c.toNat = 9; omega)
    rw [this] at h; revert h; decide
theorem whiteB_t {c : UInt8} (h : whiteB c = true) : ((c.toNat : Int) == 32) = true ∨ (((c.toNat : Int) == 32) = false ∧ ((c.toNat : Int) == 9) = true) := by
  unfold whiteB at h
  rw [Bool.or_eq_true, beq_iff_eq, beq_iff_eq] at h
  rcases h with rfl | rfl
  · exact .inl rfl
  · exact .inr ⟨rfl, rfl⟩
set_option maxHeartbeats 1000000 in
set_option maxRecDepth 100000 in
theorem white_c (s : ByteArray) (i : Nat) (ii : Int) (hii : ii = i) (w : World) (hs : s.size ≤ 1099511627776) (hi : i ≤ s.size) :
    Calls Tryd.prog 89 #[.string s, .int .i64 ii] w fun e w' => (∃ j : Nat, e = .returned (.int .i64 j) ∧ atEnd s whiteB i j) ∧ w' = w := by
  subst hii
  go_enter Tryd.func89, Tryd.ntmps89
  go_wp2
  go_loop [1] (fun v => ∃ j : Nat, v = .int .i64 j ∧ i ≤ j ∧ j ≤ s.size ∧ As (((bs s).drop j).dropWhile whiteB = ((bs s).drop i).dropWhile whiteB)) (fun v => s.size - (intOf v).toNat)
  case atStart => exact ⟨i, rfl, Nat.le_refl _, hi, ⟨rfl⟩⟩
  case round =>
    obtain ⟨j, rfl, hij, hj, HA⟩ := hrel
    by_cases hlt : j < s.size
    · cases hp : whiteB s[j] with
      | false =>
        have HE : As (atEnd s whiteB i j) := ⟨hij, hj, by rw [← HA.out, drop_bs s j hlt, List.dropWhile_cons, hp]; rfl⟩
        obtain ⟨q1, q2⟩ := whiteB_f hp
        clear hp
        go_wp2
        go_ret
        exact ⟨⟨j, rfl, HE.out⟩, rfl⟩
      | true =>
        have HE : As (((bs s).drop (j + 1)).dropWhile whiteB = ((bs s).drop i).dropWhile whiteB) := ⟨by rw [← HA.out, drop_bs s j hlt, List.dropWhile_cons, hp]; rfl⟩
        rcases whiteB_t hp with q1 | ⟨q1, q2⟩
        all_goals
          clear hp
          go_wp2
          exact ⟨⟨j + 1, by go_num, by omega, by omega, HE⟩, by simp [intOf]; omega⟩
    · have HE : As (atEnd s whiteB i j) := ⟨hij, hj, by rw [← HA.out, List.drop_of_length_le (by rw [bs_size]; omega)]; rfl⟩
      go_wp2
      go_ret
      exact ⟨⟨j, rfl, HE.out⟩, rfl⟩
end Go.Proofs.YtegeijlookpgaaaDoor
