/- What field.Lookup computes. -/
import Derived.Test.YtegeijlookpgaaaDoorN5
set_option linter.unusedVariables false
set_option linter.unusedSimpArgs false
namespace Go.Proofs.YtegeijlookpgaaaDoor
open Go.RowKit Go.Proofs.YtegeijlookpgaaaDoorW.PrintWords

def hasName (nm : List UInt8) (p : Pr) : Bool := low (bs p.f0) == nm
def lookV (nm : List UInt8) (l : List Pr) : ByteArray := match l.find? (hasName nm) with | some p => p.f1 | none => ⟨#[]⟩
def lookN (nm : List UInt8) (l : List Pr) : Nat := (l.filter (hasName nm)).length
theorem lookN_no {nm : List UInt8} {l : List Pr} {p : Pr} (h : hasName nm p = false) : lookN nm (l ++ [p]) = lookN nm l := by simp [lookN, List.filter_append, h]
theorem lookN_yes {nm : List UInt8} {l : List Pr} {p : Pr} (h : hasName nm p = true) : lookN nm (l ++ [p]) = lookN nm l + 1 := by simp [lookN, List.filter_append, h]
theorem lookV_no {nm : List UInt8} {l : List Pr} {p : Pr} (h : hasName nm p = false) : lookV nm (l ++ [p]) = lookV nm l := by
  simp [lookV, List.find?_append, h]
theorem lookV_more {nm : List UInt8} {l : List Pr} {p : Pr} (h0 : lookN nm l ≠ 0) : lookV nm (l ++ [p]) = lookV nm l := by
  have : ∃ q, l.find? (hasName nm) = some q := by
    cases hf : l.find? (hasName nm) with
    | some q => exact ⟨q, rfl⟩
    | none =>
      rw [List.find?_eq_none] at hf
      exact absurd (by unfold lookN; rw [List.filter_eq_nil_iff.2 hf]; rfl) h0
  obtain ⟨q, hq⟩ := this
  simp [lookV, List.find?_append, hq]
theorem lookV_first {nm : List UInt8} {l : List Pr} {p : Pr} (h : hasName nm p = true) (h0 : lookN nm l = 0) : lookV nm (l ++ [p]) = p.f1 := by
  have hf : l.find? (hasName nm) = none := by
    rw [List.find?_eq_none]
    unfold lookN at h0
    exact List.filter_eq_nil_iff.1 (List.eq_nil_of_length_eq_zero h0)
  simp [lookV, List.find?_append, hf, h]
theorem take_pr (l : List Pr) (i : Nat) (h : i < l.length) : l.take (i + 1) = l.take i ++ [l[i]] := by rw [List.take_add_one, List.getElem?_eq_getElem h]; rfl
theorem lookN_le (nm : List UInt8) (l : List Pr) : lookN nm l ≤ l.length := List.length_filter_le _ _

theorem str_ne {u v : ByteArray} (h : bs u ≠ bs v) : (u.toList == v.toList) = false ∧ (!(u.toList == v.toList)) = true := by
  have : (u.toList == v.toList) = false := by rw [ByteArray.toList_eq, ByteArray.toList_eq]; simpa using h
  rw [this]; exact ⟨rfl, rfl⟩
theorem str_eq {u v : ByteArray} (h : bs u = bs v) : (u.toList == v.toList) = true ∧ (!(u.toList == v.toList)) = false := by
  have : (u.toList == v.toList) = true := by rw [ByteArray.toList_eq, ByteArray.toList_eq]; simpa using h
  rw [this]; exact ⟨rfl, rfl⟩
theorem alloc_size (w : World) (o : Obj) : (w.alloc o).heap.size = w.heap.size + 1 := by simp

set_option maxHeartbeats 1000000 in
set_option maxRecDepth 100000 in
theorem Lookup_c (A : Option Addr) (c : Nat) (l : List Pr) (name : ByteArray) (w : World) (hr : kP.C w A l.length l) (hn : name.size ≤ 1099511627776) (hl : l.length ≤ 1099511627776) (hf : ∀ i (h : i < l.length), l[i].f0.size ≤ 1099511627776) :
    Calls Tryd.prog 24 #[.slice A l.length c, .string name] w fun e w' => e = .returned (.tuple #[.string (lookV (low (bs name)) l), .int .i64 (lookN (low (bs name)) l)]) ∧ Below w.heap.size w w' := by
  have HR := As.mk hr
  have HF := As.mk hf
  clear hr hf
  go_enter Tryd.func24, Tryd.ntmps24
  go_wp2_with fail
  refine (low_c name _ hn).mono ?_
  rintro e w1 ⟨rfl, hb⟩
  have HB1 := As.mk hb
  clear hb
  have hnm := bs_sb (low (bs name))
  generalize sb (low (bs name)) = nms at *
  generalize hq : low (bs name) = nm at *
  have HQ := hid_ hq
  clear hq
  have HNM := hid_ hnm
  clear hnm
  go_wp2
  go_loopw [6, 7, 14] (fun c6 c7 c14 wr => ∃ i : Nat, c14 = .int .i64 i ∧ i ≤ l.length ∧ c6 = .string (lookV nm (l.take i)) ∧ c7 = .int .i64 (lookN nm (l.take i)) ∧ As (Below w.heap.size w wr)) (fun _ _ v _ => l.length - (intOf v).toNat)
  case atStart => exact ⟨0, rfl, Nat.zero_le _, rfl, rfl, HB1⟩
  case round =>
    obtain ⟨i, rfl, hi, rfl, rfl, HW⟩ := hrel
    by_cases hlt : i < l.length
    · obtain ⟨ad, rfl, h0, h1⟩ := kP_at HR.out i hlt
      have d0 := pw_cell_below HW.out h0
      have d1 := pw_cell_below HW.out h1
      have hfi := HF.out i hlt
      have HS := hid_ (take_pr l i hlt)
      clear h0 h1
      go_wp2_with fail
      refine (low_c l[i].f0 _ hfi).mono ?_
      rintro e w2 ⟨rfl, hb⟩
      have d2 : w2.cell? ⟨wr.heap.size, 1, none⟩ = some (.string l[i].f1) := pw_cell_below hb (by simp)
      have HW2 : As (Below w.heap.size w w2) := ⟨(below_alloc HW.out _).trans (hb.mono (by have := HW.out.size; rw [alloc_size]; omega))⟩
      clear hb d0 d1
      have hu := bs_sb (low (bs l[i].f0))
      generalize sb (low (bs l[i].f0)) = u at *
      have hlk := Nat.le_trans (lookN_le nm (l.take i)) (List.length_take_le i l)
      cases hh : hasName nm l[i] with
      | false =>
        obtain ⟨g1, g2⟩ := str_ne (u := u) (v := nms) (fun e => by
          rw [HNM.out, hu] at e
          simp [hasName, e] at hh)
        have e1 := hid_ (lookV_no (l := l.take i) hh)
        have e2 := hid_ (lookN_no (l := l.take i) hh)
        clear hu hh
        go_wp2
        go_roundw
        case rel => exact ⟨i + 1, by go_num, by omega, by rw [HS.out, e1.out], by rw [HS.out, e2.out], HW2⟩
        case measure => simp [intOf]; omega
      | true =>
        obtain ⟨g1, g2⟩ := str_eq (u := u) (v := nms) (by
          rw [HNM.out, hu]
          simpa [hasName] using hh)
        have e2 := hid_ (lookN_yes (l := l.take i) hh)
        by_cases h0 : lookN nm (l.take i) = 0
        · have e1 := hid_ (lookV_first hh h0)
          have q0 : ((lookN nm (l.take i) : Int) == 0) = true := by rw [h0]; rfl
          clear hu hh h0
          go_wp2
          go_roundw
          case rel => exact ⟨i + 1, by go_num, by omega, by rw [HS.out, e1.out], by rw [HS.out, e2.out]; go_num, HW2⟩
          case measure => simp [intOf]; omega
        · have e1 := hid_ (lookV_more (p := l[i]) h0)
          have q0 : ((lookN nm (l.take i) : Int) == 0) = false := by rw [beq_eq_false_iff_ne]; omega
          clear hu hh h0
          go_wp2
          go_roundw
          case rel => exact ⟨i + 1, by go_num, by omega, by rw [HS.out, e1.out], by rw [HS.out, e2.out]; go_num, HW2⟩
          case measure => simp [intOf]; omega
    · have HE : As (l.take i = l) := ⟨List.take_of_length_le (by omega)⟩
      go_wp2
      go_ret2
      rw [HE.out, HQ.out]
      exact ⟨rfl, HW.out⟩
end Go.Proofs.YtegeijlookpgaaaDoor
