/- The law GrantTicket, walked: it returns true and old memory stays. -/
import Derived.Test.YtegeijlookpgaaaDoorL2
set_option linter.unusedVariables false
set_option linter.unusedSimpArgs false
namespace Go.Proofs.YtegeijlookpgaaaDoor
open Go.RowKit Go.Proofs.YtegeijlookpgaaaDoorW.PrintWords Go.Proofs.YtegeijlookpgaaaDoorW.PrintLast

/-- what stands while the law runs: the argument's box, the argument's list -/
structure LS (w1 : World) (sid : ByteArray) (A : Option Addr) (c : Nat) (l : List Pr) (b : Nat) (w' : World) : Prop where
  box : w'.heap[b]? = some (.cells #[.string sid, .slice A l.length c] 24 (0, 0))
  row : kP.C w' A l.length l
  tab : GT w'
  lt : b < w1.heap.size
  fr : Below w1.heap.size w1 w'
theorem LS.below {w1 : World} {sid : ByteArray} {A : Option Addr} {c : Nat} {l : List Pr} {b : Nat} {w' w'' : World} (h : LS w1 sid A c l b w') (hb : Below w'.heap.size w' w'') : LS w1 sid A c l b w'' :=
  ⟨(hb.block b (Nat.lt_of_lt_of_le h.lt h.fr.size)).trans h.box, Kd.C_below h.row hb, h.tab.below hb, h.lt, below_next h.fr hb⟩
theorem LS.cell0 {w1 : World} {sid : ByteArray} {A : Option Addr} {c : Nat} {l : List Pr} {b : Nat} {w' : World} (h : LS w1 sid A c l b w') : w'.cell? ⟨b, 0, none⟩ = some (.string sid) := by rw [Lib.cell_of_heap h.box]; rfl
theorem LS.cell1 {w1 : World} {sid : ByteArray} {A : Option Addr} {c : Nat} {l : List Pr} {b : Nat} {w' : World} (h : LS w1 sid A c l b w') : w'.cell? ⟨b, 1, none⟩ = some (.slice A l.length c) := by rw [Lib.cell_of_heap h.box]; rfl

set_option maxHeartbeats 8000000 in
set_option maxRecDepth 100000 in
theorem law_c (sid : ByteArray) (A : Option Addr) (c : Nat) (l : List Pr) (w : World) (hr : kP.C w A l.length l) (hc : l.length ≤ c) (hT : GT w)
    (h1 : sid.size ≤ 268435456) (h2 : (form l).length ≤ 268435456) (h3 : (form (l.map addX)).length ≤ 268435456) (h4 : l.length ≤ 268435456) (h5 : ∀ i (h : i < l.length), l[i].f1.size ≤ 268435456) :
    Calls Tryd.prog 3 #[.agg #[.string sid, .slice A l.length c]] w fun e w' => e = .returned (.bool true) ∧ Below w.heap.size w w' := by
  have HW : As (Below w.heap.size w (w.alloc (.cells #[.string sid, .slice A l.length c] 24))) := ⟨below_alloc (Below.refl _ _) _⟩
  have HL : As (LS (w.alloc (.cells #[.string sid, .slice A l.length c] 24)) sid A c l w.heap.size (w.alloc (.cells #[.string sid, .slice A l.length c] 24))) := ⟨⟨Array.getElem?_push_size, Kd.C_below hr HW.out, hT.below HW.out, by rw [size_al]; omega, Below.refl _ _⟩⟩
  have H2 := hid_ h2
  have H3 := hid_ h3
  have H5 := hid_ h5
  clear hr hT h2 h3 h5
  have d0 := HL.out.cell0
  have d1 := HL.out.cell1
  go_enter Tryd.func3, Tryd.ntmps3
  go_wp2_with fail
  generalize w.alloc (.cells #[.string sid, .slice A l.length c] 24) = w1 at *
  generalize hb0 : w.heap.size = b at *
  have HB0 := hid_ hb0
  clear hb0
  clear d0 d1
  refine (pairs_c A c l w1 HL.out.row (by omega)).mono ?_
  rintro _ w2 ⟨⟨v1, rfl, hp⟩, hb⟩
  have HV := As.mk hp
  have HL2 := As.mk (HL.out.below hb)
  clear hp hb
  have d0 := HL2.out.cell0
  have d1 := HL2.out.cell1
  go_wp2_with fail
  clear d0 d1
  refine (Ticket_c sid A c l w2 HL2.out.row HL2.out.tab H2.out h1).mono ?_
  rintro _ w3 ⟨rfl, hb⟩
  have HV3 := As.mk (HV.out.below hb)
  have HL3 := As.mk (HL2.out.below hb)
  clear hb HV HL2
  obtain ⟨A1, c1, rfl, hc1, hr1⟩ := HV3.out.reads
  have HR1 := As.mk hr1
  clear hr1
  have d1 := HL3.out.cell1
  go_wp2_with fail
  clear d1
  refine (SamePairs_c A A1 c c1 l w3 HL3.out.row HR1.out hc hc1).mono ?_
  rintro _ w4 ⟨rfl, hb⟩
  have HR4 := As.mk (Kd.C_below HR1.out hb)
  have HL4 := As.mk (HL3.out.below hb)
  clear hb HR1 HL3 HV3
  have d0 := HL4.out.cell0
  go_wp2_with fail
  clear d0
  refine (refTicket_c sid A1 c1 l w4 HR4.out HL4.out.tab H2.out h1).mono ?_
  rintro _ w5 ⟨rfl, hb⟩
  have HR5 := As.mk (Kd.C_below HR4.out hb)
  have HL5 := As.mk (HL4.out.below hb)
  clear hb HR4 HL4
  go_wp2_with fail
  refine (pairs_c A1 c1 l w5 HR5.out (by omega)).mono ?_
  rintro _ w6 ⟨⟨v2, rfl, hp⟩, hb⟩
  have HB6 := hid_ HL5.out.fr.size
  have HL6 := As.mk (HL5.out.below hb)
  have HV6 : As (PR w1.heap.size v2 l w6) := ⟨by
    refine ⟨hp.1, ?_⟩
    rcases hp.2 with h0 | ⟨g, cap, cur, e1, e2, e3⟩
    · exact .inl h0
    · exact .inr ⟨g, cap, cur, e1, Nat.le_trans HL5.out.fr.size e2, e3⟩⟩
  clear hp hb HR5 HL5 HB6
  obtain ⟨A2, c2, rfl, hc2, hr2⟩ := HV6.out.reads
  have HR6 := As.mk hr2
  clear hr2
  have d0 := HL6.out.cell0
  go_wp2_with fail
  clear d0
  refine (Ticket_c sid A2 c2 l w6 HR6.out HL6.out.tab H2.out h1).mono ?_
  rintro _ w7 ⟨rfl, hb⟩
  have HV7 := As.mk (HV6.out.below hb)
  have HL7 := As.mk (HL6.out.below hb)
  clear hb HV6 HR6 HL6
  go_wp2_with fail
  go_loopw [8] (fun c8 wr => ∃ i : Nat, c8 = .int .i64 i ∧ i ≤ l.length ∧ As (PR w1.heap.size (.slice A2 l.length c2) (bump l i) wr) ∧ As (Below w1.heap.size w1 wr)) (fun v _ => l.length - (intOf v).toNat)
  case atStart => exact ⟨0, rfl, Nat.zero_le _, HV7, ⟨HL7.out.fr⟩⟩
  case round =>
    clear HV7 HL7
    obtain ⟨i, rfl, hi, HV, HL7⟩ := hrel
    by_cases hlt : i < l.length
    · obtain ⟨g, cap, cur, e1, hg, hh, hcap, hcap2, hsz, htk⟩ : ∃ g cap cur, Value.slice A2 l.length c2 = .slice (some ⟨g, 0, none⟩) (bump l i).length cap ∧ w1.heap.size ≤ g ∧ wr.heap[g]? = some (.cells cur 29 (0, 0)) ∧ (bump l i).length ≤ cap ∧ cap ≤ maxLen ∧ cur.size = cap * 2 ∧ cur.toList.take (2 * (bump l i).length) = pcs (bump l i) := by
        rcases HV.out.form with ⟨_, e⟩ | h
        · have := congrArg List.length e
          rw [bump_len] at this
          simp only [List.length_nil] at this; omega
        · exact h
      injection e1 with e1 e2 e3
      subst e1
      rw [bump_len] at htk hcap
      have hgt : wr.cell? ⟨g, 2 * i + 1, none⟩ = some (.string l[i].f1) := by
        rw [Lib.cell_of_heap hh, ← (pcs_get (bump l i) i l[i] (bump_get l i hlt)).2, ← htk, List.getElem?_take, if_pos (by omega), Array.getElem?_toList]
      have hfz : wr.frozen? ⟨g, 2 * i + 1, none⟩ = false := Lib.frozen_of_heap hh _
      rw [Nat.mul_comm] at hgt hfz
      have hs5 := H5.out i hlt
      have HG := hid_ hg
      have HBN : As (PR w1.heap.size (.slice (some ⟨g, 0, none⟩) l.length c2) (bump l (i + 1)) (wr.setCell ⟨g, i * 2 + 1, none⟩ (.string (l[i].f1 ++ ⟨#[120]⟩)))) := ⟨by
        have hlb : i < (bump l i).length := by rw [bump_len]; exact hlt
        have hge : (bump l i)[i] = l[i] := by have := bump_get l i hlt; rw [List.getElem?_eq_getElem hlb] at this; exact Option.some.inj this
        have := PR.set (B := w1.heap.size) (g := g) (cap := c2) (l := bump l i) (w := wr) (by rw [bump_len]; exact HV.out) i hlb (l[i].f1 ++ ⟨#[120]⟩)
        rw [hge, bump_len, Nat.mul_comm] at this
        rw [← bump_succ l i hlt]
        exact this⟩
      have HLN : As (Below w1.heap.size w1 (wr.setCell ⟨g, i * 2 + 1, none⟩ (.string (l[i].f1 ++ ⟨#[120]⟩)))) := ⟨HL7.out.setCell hg _⟩
      clear hg hh hcap hcap2 hsz htk HV HL7 e2 e3
      go_wp2_with fail
      exact ⟨⟨i + 1, by go_num, by omega, HBN, HLN⟩, by simp [intOf]; omega⟩
    · have HV8 : As (PR w1.heap.size (.slice A2 l.length c2) (l.map addX) wr.drew) := ⟨by
        have := HV.out
        rw [show i = l.length by omega, bump, List.take_length, List.drop_length, List.append_nil] at this
        exact this.below (below_drew (Below.refl _ _))⟩
      have HL8 : As (LS w1 sid A c l b wr.drew) := ⟨HL.out.below (below_drew HL7.out)⟩
      clear HV HL7
      go_wp2_with fail
      have hlm : (l.map addX).length = l.length := List.length_map _
      have HTK : As (∀ w', Below wr.drew.heap.size wr.drew w' → Calls Tryd.prog 6 #[.string sid, .slice A2 l.length c2] w' fun e w'' => e = .returned (.string (tkt sid (l.map addX))) ∧ Below w'.heap.size w' w'') := ⟨fun w' hb => by
        obtain ⟨A', c', e, _, hr⟩ := (HV8.out.below hb).reads
        rw [hlm] at e
        injection e with e1 e2 e3
        subst e1 e3
        have := Ticket_c sid A2 c2 (l.map addX) w' hr (HL8.out.below hb).tab H3.out h1
        rw [hlm] at this
        exact this⟩
      have HPS : As (∀ w', Below wr.drew.heap.size wr.drew w' → Calls Tryd.prog 5 #[.slice A2 l.length c2] w' fun e w'' => (∃ v, e = .returned v ∧ PR w'.heap.size v (l.map addX) w'') ∧ Below w'.heap.size w' w'') := ⟨fun w' hb => by
        obtain ⟨A', c', e, _, hr⟩ := (HV8.out.below hb).reads
        rw [hlm] at e
        injection e with e1 e2 e3
        subst e1 e3
        have := pairs_c A2 c2 (l.map addX) w' hr (by omega)
        rw [hlm] at this
        exact this⟩
      refine start_ (n := 16) (S := fun w' => Below wr.drew.heap.size wr.drew w') (ds := []) #[false, false, false, false, false, false, false, false, false, false, false, false, false, false, false, false] (by kernel_rfl) rfl rfl (Below.refl _ _) (fun hHeld => ?_)
      generalize wr.drew = w8 at *
      refine pure_ (i := 0) (N := some 53) (v := ?_) (a' := ?_) #[true, false, false, false, false, false, false, false, false, false, false, false, false, false, false, false] rfl rfl (by kernel_rfl) (fun _ _ _ h => h) (Or.inl ⟨by rfl, ?_⟩) ?_ ?_
      rotate_left
      · intro w'
        go_simp
        with_reducible rfl
      rotate_left
      · simp only [Act.put, List.setIfInBounds_toArray, List.set_cons_zero, List.set_cons_succ]
        rfl
      refine pure_ (i := 1) (N := some 54) (v := ?_) (a' := ?_) #[true, true, false, false, false, false, false, false, false, false, false, false, false, false, false, false] rfl rfl (by kernel_rfl) (fun _ _ _ h => h) (Or.inl ⟨by rfl, ?_⟩) ?_ ?_
      rotate_left
      · intro w'
        go_simp
        with_reducible rfl
      rotate_left
      · simp only [Act.put, List.setIfInBounds_toArray, List.set_cons_zero, List.set_cons_succ]
        rfl
      refine pure_ (i := 2) (N := some 55) (v := ?_) (a' := ?_) #[true, true, true, false, false, false, false, false, false, false, false, false, false, false, false, false] rfl rfl (by kernel_rfl) (fun _ _ _ h => h) (Or.inl ⟨by rfl, ?_⟩) ?_ ?_
      rotate_left
      · intro w'
        go_simp
        with_reducible rfl
      rotate_left
      · simp only [Act.put, List.setIfInBounds_toArray, List.set_cons_zero, List.set_cons_succ]
        rfl
      refine pure_ (i := 3) (N := some 56) (v := ?_) (a' := ?_) #[true, true, true, true, false, false, false, false, false, false, false, false, false, false, false, false] rfl rfl (by kernel_rfl) (fun _ _ _ h => h) (Or.inl ⟨by rfl, ?_⟩) ?_ ?_
      rotate_left
      · intro w'
        go_simp
        with_reducible rfl
      rotate_left
      · simp only [Act.put, List.setIfInBounds_toArray, List.set_cons_zero, List.set_cons_succ]
        rfl
      refine pure_ (i := 4) (N := some 57) (v := ?_) (a' := ?_) #[true, true, true, true, true, false, false, false, false, false, false, false, false, false, false, false] rfl rfl (by kernel_rfl) (fun _ _ _ h => h) (Or.inl ⟨by rfl, ?_⟩) ?_ ?_
      rotate_left
      · intro w'
        go_simp
        with_reducible rfl
      rotate_left
      · simp only [Act.put, List.setIfInBounds_toArray, List.set_cons_zero, List.set_cons_succ]
        rfl
      refine pure_ (i := 6) (N := some 59) (v := ?_) (a' := ?_) #[true, true, true, true, true, false, true, false, false, false, false, false, false, false, false, false] rfl rfl (by kernel_rfl) (fun _ _ _ h => h) (Or.inl ⟨by rfl, ?_⟩) ?_ ?_
      rotate_left
      · intro w'
        go_simp
        with_reducible rfl
      rotate_left
      · simp only [Act.put, List.setIfInBounds_toArray, List.set_cons_zero, List.set_cons_succ]
        rfl
      refine pure_ (i := 8) (N := some 61) (v := ?_) (a' := ?_) #[true, true, true, true, true, false, true, false, true, false, false, false, false, false, false, false] rfl rfl (by kernel_rfl) (fun _ _ _ h => h) (Or.inl ⟨by rfl, ?_⟩) ?_ ?_
      rotate_left
      · intro w'
        go_simp
        with_reducible rfl
      rotate_left
      · simp only [Act.put, List.setIfInBounds_toArray, List.set_cons_zero, List.set_cons_succ]
        rfl
      refine pure_ (i := 10) (N := some 63) (v := ?_) (a' := ?_) #[true, true, true, true, true, false, true, false, true, false, true, false, false, false, false, false] rfl rfl (by kernel_rfl) (fun _ _ _ h => h) (Or.inl ⟨by rfl, ?_⟩) ?_ ?_
      rotate_left
      · intro w'
        go_simp
        with_reducible rfl
      rotate_left
      · simp only [Act.put, List.setIfInBounds_toArray, List.set_cons_zero, List.set_cons_succ]
        rfl
      refine take_ (i := 5) (N := some 58) (v := .string sid) (a' := ?_) #[true, true, true, true, true, true, true, false, true, false, true, false, false, false, false, false] rfl rfl (by kernel_rfl) (fun _ _ _ h => h) (Or.inl ⟨by rfl, ?_⟩) hHeld ?_ ?_
      · intro w' hS
        have h := (HL8.out.below hS).cell0
        go_simp
      rotate_left
      · simp only [Act.put, List.setIfInBounds_toArray, List.set_cons_zero, List.set_cons_succ]
        rfl
      refine take_ (i := 9) (N := some 62) (v := .string sid) (a' := ?_) #[true, true, true, true, true, true, true, false, true, true, true, false, false, false, false, false] rfl rfl (by kernel_rfl) (fun _ _ _ h => h) (Or.inl ⟨by rfl, ?_⟩) hHeld ?_ ?_
      · intro w' hS
        have h := (HL8.out.below hS).cell0
        go_simp
      rotate_left
      · simp only [Act.put, List.setIfInBounds_toArray, List.set_cons_zero, List.set_cons_succ]
        rfl
      refine one_ (i := 7) (N := some 60) #[true, true, true, true, true, true, true, true, true, true, true, false, false, false, false, false] rfl rfl (by kernel_rfl) (by decide) (fun K hK => ?_)
      refine goes_ Tryd.func6 (by kernel_rfl) rfl #[.string sid, .slice A2 l.length c2] (by rfl) rfl rfl (by simp only [List.map_toArray, List.map_cons, List.map_nil]; rfl) ?_
      refine (HTK.out w8 (Below.refl _ _)).mono ?_
      rintro e w9 ⟨rfl, hb9⟩
      refine ⟨_, rfl, ?_⟩
      have HB9 := As.mk hb9
      clear hb9
      refine hK.out _ _ HB9.out (fun hHeld => ?_)
      clear hK K
      refine one_ (i := 11) (N := some 64) #[true, true, true, true, true, true, true, true, true, true, true, true, false, false, false, false] rfl rfl (by kernel_rfl) (by decide) (fun K hK => ?_)
      refine goes_ Tryd.func5 (by kernel_rfl) rfl #[.slice A2 l.length c2] (by rfl) rfl rfl (by simp only [List.map_toArray, List.map_cons, List.map_nil]; rfl) ?_
      refine (HPS.out w9 HB9.out).mono ?_
      rintro e w10 ⟨⟨v3, rfl, hp3⟩, hb10⟩
      refine ⟨_, rfl, ?_⟩
      have HB10 : As (Below w8.heap.size w8 w10) := ⟨below_next HB9.out hb10⟩
      obtain ⟨A3, c3, rfl, hc3, hr3⟩ := hp3.reads
      have HR3 := As.mk hr3
      clear hb10 hp3 hr3
      refine hK.out _ _ HB10.out (fun hHeld => ?_)
      clear hK K
      refine one_ (i := 12) (N := some 65) #[true, true, true, true, true, true, true, true, true, true, true, true, true, false, false, false] rfl rfl (by kernel_rfl) (by decide) (fun K hK => ?_)
      refine goes_ Tryd.func8 (by kernel_rfl) rfl #[.string sid, .slice A3 (l.map addX).length c3] (by rfl) rfl rfl (by simp only [List.map_toArray, List.map_cons, List.map_nil]; rfl) ?_
      refine (refTicket_c sid A3 c3 (l.map addX) w10 HR3.out (HL8.out.below HB10.out).tab H3.out h1).mono ?_
      rintro e w11 ⟨rfl, hb11⟩
      refine ⟨_, rfl, ?_⟩
      have HB11 : As (Below w8.heap.size w8 w11) := ⟨below_next HB10.out hb11⟩
      clear hb11
      refine hK.out _ _ HB11.out (fun hHeld => ?_)
      clear hK K
      refine pure_ (i := 13) (N := some 66) (v := ?_) (a' := ?_) #[true, true, true, true, true, true, true, true, true, true, true, true, true, true, false, false] rfl rfl (by kernel_rfl) (fun _ _ _ h => h) (Or.inl ⟨by rfl, ?_⟩) ?_ ?_
      rotate_left
      · intro w'
        go_simp
        with_reducible rfl
      rotate_left
      · simp only [Act.put, List.setIfInBounds_toArray, List.set_cons_zero, List.set_cons_succ]
        rfl
      refine pure_ (i := 14) (N := some 67) (v := ?_) (a' := ?_) #[true, true, true, true, true, true, true, true, true, true, true, true, true, true, true, false] rfl rfl (by kernel_rfl) (fun _ _ _ h => h) (Or.inl ⟨by rfl, ?_⟩) ?_ ?_
      rotate_left
      · intro w'
        go_simp
        with_reducible rfl
      rotate_left
      · simp only [Act.put, List.setIfInBounds_toArray, List.set_cons_zero, List.set_cons_succ]
        rfl
      refine pure_ (i := 15) (N := some 2) (v := ?_) (a' := ?_) #[true, true, true, true, true, true, true, true, true, true, true, true, true, true, true, true] rfl rfl (by kernel_rfl) (fun _ _ _ h => h) (Or.inl ⟨by rfl, ?_⟩) ?_ ?_
      rotate_left
      · intro w'
        go_simp
        with_reducible rfl
      rotate_left
      · simp only [Act.put, List.setIfInBounds_toArray, List.set_cons_zero, List.set_cons_succ]
        rfl
      refine done_ (by kernel_rfl) ?_
      go_wp2
      go_ret
      exact ⟨rfl, by rw [HB0.out]; exact HW.out.trans ((below_next HL8.out.fr HB11.out).mono (Nat.le_of_lt HL8.out.lt))⟩
end Go.Proofs.YtegeijlookpgaaaDoor
