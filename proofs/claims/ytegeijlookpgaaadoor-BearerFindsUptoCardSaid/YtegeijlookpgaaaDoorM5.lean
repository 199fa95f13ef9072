/- What bearer.Find computes. -/
import Derived.Test.YtegeijlookpgaaaDoorM4
import Derived.Deep.DeepCutAuto
set_option linter.unusedVariables false
set_option linter.unusedSimpArgs false
namespace Go.Proofs.YtegeijlookpgaaaDoor
open Go.RowKit Go.Proofs.YtegeijlookpgaaaDoorW.PrintWords

def auL : List UInt8 := [97, 117, 116, 104, 111, 114, 105, 122, 97, 116, 105, 111, 110]
def atB : ByteArray := ⟨#[97, 99, 99, 101, 115, 115, 95, 116, 111, 107, 101, 110]⟩
def queryS (q : Rq) : Option (List (List UInt8 × List UInt8)) := if (bs q.t).contains 63 then pairsS (cutB 63 (bs q.t)) else some []
def shown0 (q : Rq) : ByteArray × Nat := if lookN auL q.l = 1 then (sb (byF (bs (lookV auL q.l))).1, (byF (bs (lookV auL q.l))).2) else (⟨#[]⟩, 0)
def stepS (st : ByteArray × Nat) (l : List Pr) : ByteArray × Nat := if 0 < getN atB l then (getV atB l, st.2 + getN atB l) else st
/-- the end: a token (0), ErrText (2), ErrTwice (4), ErrLost (12) -/
def endS (st : ByteArray × Nat) : Nat × ByteArray := if 1 < st.2 then (4, ⟨#[]⟩) else if st.2 = 0 then (12, ⟨#[]⟩) else if textS (bs st.1) then (0, st.1) else (2, ⟨#[]⟩)
def tailS (q : Rq) (body query : List Pr) : Nat × ByteArray := if 1 < lookN auL q.l then (4, ⟨#[]⟩) else endS (stepS (stepS (shown0 q) body) query)
def findS (q : Rq) : Nat × ByteArray := match formS q with
  | none => (2, ⟨#[]⟩)
  | some body => match queryS q with | none => (2, ⟨#[]⟩) | some query => tailS q (body.map prOf) (query.map prOf)
/-- the error of a number -/
def errV (A : Nat → Addr) : Nat → Value
  | 0 => .nilIface
  | 2 => ev (A 0)
  | 4 => ev (A 1)
  | _ => ev (A 2)
structure FD (A : Nat → Addr) (w : World) (r : Nat × ByteArray) (e : Ending) (w' : World) : Prop where
  ret : e = .returned (.tuple #[.string r.2, errV A r.1])
  fr : Below w.heap.size w w'
theorem byF_len (l : List UInt8) : (byF l).1.length ≤ l.length ∧ (byF l).2 ≤ 1 := by
  unfold byF
  have h1 := dropWhile_len tokB l
  have h2 := dropWhile_len (· == 32) (l.dropWhile tokB)
  split
  · split
    · simp
    · simp; omega
  · simp
theorem shown0_b (q : Rq) (h : ∀ i (h : i < q.l.length), q.l[i].f1.size ≤ 1048576) : (shown0 q).1.size ≤ 1048576 ∧ (shown0 q).2 ≤ 1 := by
  unfold shown0
  split
  · have h1 := byF_len (bs (lookV auL q.l))
    have h2 := lookV_size (nm := auL) h
    rw [bs_size] at h1
    exact ⟨by rw [size_sb]; omega, h1.2⟩
  · exact ⟨by decide, Nat.zero_le _⟩
/-- a list of pairs read from a text of a bound -/
structure PB (l : List Pr) : Prop where
  len : l.length ≤ 32
  f1 : ∀ p ∈ l, p.f1.size ≤ 1048576
theorem PB.of {t : List UInt8} {xs : List (List UInt8 × List UInt8)} (h : pairsS t = some xs) (ht : t.length ≤ 1048576) : PB (xs.map prOf) := by
  obtain ⟨h1, h2⟩ := pairsS_len h
  refine ⟨by rw [List.length_map]; exact h1, fun p hp => ?_⟩
  obtain ⟨x, hx, rfl⟩ := List.mem_map.1 hp
  have := (h2 x hx).2
  show (sb x.2).size ≤ _
  rw [size_sb]; omega
theorem PB.nil : PB [] := ⟨Nat.zero_le _, fun p hp => by cases hp⟩
theorem stepS_b {st : ByteArray × Nat} {l : List Pr} (hl : PB l) {n : Nat} (h : st.1.size ≤ 1048576 ∧ st.2 ≤ n) : (stepS st l).1.size ≤ 1048576 ∧ (stepS st l).2 ≤ n + 32 := by
  unfold stepS
  have h1 := Nat.le_trans (getN_le atB l) hl.len
  split
  · refine ⟨?_, by simp; omega⟩
    show (getV atB l).size ≤ _
    unfold getV
    split
    · rename_i p hp
      exact hl.f1 p (List.mem_of_find?_eq_some hp)
    · decide
  · exact ⟨h.1, by omega⟩
theorem stepS_pos {st : ByteArray × Nat} {l : List Pr} (h : 0 < getN atB l) : stepS st l = (getV atB l, st.2 + getN atB l) := by unfold stepS; rw [if_pos h]
theorem stepS_zero {st : ByteArray × Nat} {l : List Pr} (h : getN atB l = 0) : stepS st l = st := by unfold stepS; rw [if_neg (by omega)]

/-- what stands while Find runs -/
structure FS (A : Nat → Addr) (m : Int) (q : Rq) (R : Option Addr) (c : Nat) (w w' : World) : Prop where
  box : w'.heap[w.heap.size]? = some (.cells #[.string q.m, .string q.t, .int .i64 q.k, .slice R q.l.length c, .string q.b, .bool q.cl] 32 (0, 0))
  row : kP.C w' R q.l.length q.l
  ft : FT A m w'
  fr : Below w.heap.size w w'
theorem FS.next {A : Nat → Addr} {m : Int} {q : Rq} {R : Option Addr} {c : Nat} {w w' w'' : World} (h : FS A m q R c w w') (hb : Below w'.heap.size w' w'') : FS A m q R c w w'' :=
  ⟨(hb.block _ (Array.getElem?_eq_some_iff.1 h.box).1).trans h.box, Kd.C_below h.row hb, h.ft.below hb, below_nx h.fr hb⟩
theorem FS.drewN {A : Nat → Addr} {m : Int} {q : Rq} {R : Option Addr} {c : Nat} {w w' : World} (h : FS A m q R c w w') (n : Nat) : FS A m q R c w (w'.drewN n) := h.next (pw_below_drewN (Below.refl _ _) n)
theorem FS.cell {A : Nat → Addr} {m : Int} {q : Rq} {R : Option Addr} {c : Nat} {w w' : World} (h : FS A m q R c w w') (j : Nat) : w'.cell? ⟨w.heap.size, j, none⟩ = (#[Value.string q.m, .string q.t, .int .i64 q.k, .slice R q.l.length c, .string q.b, .bool q.cl])[j]? := Lib.cell_of_heap h.box j

set_option maxHeartbeats 2000000 in
set_option maxRecDepth 100000 in
theorem Find_c (A : Nat → Addr) (m : Int) (q : Rq) (R : Option Addr) (c : Nat) (w : World) (hq : RB q) (hT : FT A m w) (hr : kP.C w R q.l.length q.l) :
    Calls Tryd.prog 10 #[.agg (rqC q R c)] w (FD A w (findS q)) := by
  have HQ := As.mk hq
  have HS : As (FS A m q R c w (w.alloc (.cells (rqC q R c) 32))) := ⟨⟨heap_alloc_new w _, Kd.C_below hr (below_alloc (Below.refl _ _) _), hT.below (below_alloc (Below.refl _ _) _), below_alloc (Below.refl _ _) _⟩⟩
  clear hr hT hq
  unfold rqC at *
  go_enter Tryd.func10, Tryd.ntmps10
  go_wp2_with fail
  generalize w.alloc (.cells #[.string q.m, .string q.t, .int .i64 q.k, .slice R q.l.length c, .string q.b, .bool q.cl] 32) = w0 at *
  refine (form_c A m q R c w0 HQ.out HS.out.ft HS.out.row).mono ?_
  rintro e w1 ⟨hy, hn, hb1⟩
  have HS1 := As.mk (HS.out.next hb1)
  cases hf : formS q with
  | none =>
    have HN : As (findS q = (2, ⟨#[]⟩)) := ⟨by unfold findS; rw [hf]⟩
    obtain ⟨g, hg, he⟩ := hn hf
    rw [he]
    have hE := HS1.out.ft.ew.cell 0 (by simp [errG])
    clear hy hn hf hb1 he hg HS
    go_wp2
    go_quiet (fail)
    go_wp2
    go_ret2
    exact ⟨by rw [HN.out]; rfl, (HS1.out.drewN _).fr⟩
  | some body =>
    obtain ⟨vb, he, hpr⟩ := hy body hf
    have HPB : As (PB (body.map prOf)) := ⟨by
      unfold formS at hf
      split at hf
      · exact PB.of hf (by rw [bs_size]; exact HQ.out.b)
      · obtain rfl : [] = body := Option.some.inj hf
        exact PB.nil⟩
    have HVB : As (PR w.heap.size vb (body.map prOf) w1) := ⟨hpr.lower HS.out.fr.size⟩
    have HFN : As (findS q = match queryS q with | none => (2, ⟨#[]⟩) | some query => tailS q (body.map prOf) (query.map prOf)) := ⟨by unfold findS; rw [hf]⟩
    rw [he]
    clear hy hn hf hb1 he hpr HS
    generalize body.map prOf = B at *
    have d1 := HS1.out.cell 1
    simp only [List.getElem?_toArray, List.getElem?_cons_succ, List.getElem?_cons_zero] at d1
    go_wp2_with fail
    clear d1
    refine (Split_c q.t m w1 HQ.out.t HS1.out.ft.mx).mono ?_
    rintro e w2 ⟨rfl, n2, rfl⟩
    have HS2 := As.mk (HS1.out.drewN n2)
    have HVB2 := As.mk (HVB.out.drewN n2)
    generalize w1.drewN n2 = w2 at *
    clear HS1 HVB
    have HTA : As ((sb (cutB 63 (bs q.t))).size ≤ 1048576 ∧ bs (sb (cutB 63 (bs q.t))) = cutB 63 (bs q.t)) := ⟨by
      rw [size_sb, bs_sb]
      have := cutB_le 63 (bs q.t)
      rw [bs_size] at this
      exact ⟨Nat.le_trans this HQ.out.t, rfl⟩⟩
    generalize sb (cutB 63 (bs q.t)) = tb at *
    generalize sb (cutA 63 (bs q.t)) = ta at *
    obtain ⟨hb, hhb⟩ : ∃ hb, hb = (bs q.t).contains 63 := ⟨_, rfl⟩
    rw [← hhb]
    have HQS : As (queryS q = if hb then pairsS (bs tb) else some []) := ⟨by unfold queryS; rw [← hhb, HTA.out.2]⟩
    clear hhb
    go_upto_if 33 with (fail)
    go_cut [5, 6] (fun s5 s6 wx => ∃ Q : List Pr, As (findS q = tailS q B Q) ∧ As (PB Q) ∧ As (FS A m q R c w wx) ∧ As (PR w.heap.size vb B wx) ∧ As (PR w.heap.size s6 Q wx))
    case first =>
      cases hb with
      | false =>
        go_wp2
        go_meet
        exact ⟨[], ⟨by rw [HFN.out, HQS.out]; rfl⟩, ⟨PB.nil⟩, HS2, HVB2, ⟨PR.nil _ _⟩⟩
      | true =>
        have HQT : As (queryS q = pairsS (bs tb)) := ⟨by rw [HQS.out, if_pos rfl]⟩
        go_wp2_with fail
        refine (Pairs_c A tb m w2 HS2.out.ft.ew HS2.out.ft.mx HTA.out.1).mono ?_
        rintro e w3 ⟨hy, hn, hb3⟩
        have HS3 := As.mk (HS2.out.next hb3)
        have HVB3 := As.mk (HVB2.out.below hb3)
        cases hp : pairsS (bs tb) with
        | none =>
          have HN : As (findS q = (2, ⟨#[]⟩)) := ⟨by rw [HFN.out, HQT.out, hp]⟩
          obtain ⟨g, hg, he⟩ := hn hp
          rw [he]
          have hE := HS3.out.ft.ew.cell 0 (by simp [errG])
          clear hy hn hp hb3 he hg
          go_wp2
          go_quiet (fail)
          go_wp2
          go_ret2
          exact ⟨by rw [HN.out]; rfl, (HS3.out.drewN _).fr⟩
        | some query =>
          obtain ⟨vq, he, hpr⟩ := hy query hp
          have HVQ : As (PR w.heap.size vq (query.map prOf) w3) := ⟨hpr.lower HS2.out.fr.size⟩
          have HPQ : As (PB (query.map prOf)) := ⟨PB.of hp (by rw [bs_size]; exact HTA.out.1)⟩
          have HN : As (findS q = tailS q B (query.map prOf)) := ⟨by rw [HFN.out, HQT.out, hp]⟩
          rw [he]
          clear hy hn hp hb3 he hpr
          go_wp2
          go_meet
          exact ⟨_, HN, HPQ, HS3, HVB3, HVQ⟩
    case rest =>
      obtain ⟨Q, HN, HPQ, HSx, HVBx, HVQ⟩ := hcut
      clear HFN HQS HTA HS2 HVB2
      have hau : low (bs ⟨#[97, 117, 116, 104, 111, 114, 105, 122, 97, 116, 105, 111, 110]⟩) = auL := by decide
      have HL : As (Calls Tryd.prog 24 #[.slice R q.l.length c, .string ⟨#[97, 117, 116, 104, 111, 114, 105, 122, 97, 116, 105, 111, 110]⟩] wc fun e w' => e = .returned (.tuple #[.string (lookV auL q.l), .int .i64 (lookN auL q.l)]) ∧ Below wc.heap.size wc w') := ⟨by
        have := Lookup_c R c q.l ⟨#[97, 117, 116, 104, 111, 114, 105, 122, 97, 116, 105, 111, 110]⟩ wc HSx.out.row (by decide) (by have := HQ.out.l; omega) (fun i h => by have := HQ.out.f0 i h; omega)
        rw [hau] at this
        exact this⟩
      clear hau
      have d3 := HSx.out.cell 3
      simp only [List.getElem?_toArray, List.getElem?_cons_succ, List.getElem?_cons_zero] at d3
      go_wp2_with fail
      clear d3
      refine HL.out.mono ?_
      rintro e w4 ⟨rfl, hb4⟩
      have HS4 := As.mk (HSx.out.next hb4)
      have HVB4 := As.mk (HVBx.out.below hb4)
      have HVQ4 := As.mk (HVQ.out.below hb4)
      have hsz := shown0_b q HQ.out.f1
      have hlv := lookV_size (nm := auL) HQ.out.f1
      have hln := Nat.le_trans (lookN_le auL q.l) HQ.out.l
      have HTL : As (tailS q B Q = if 1 < lookN auL q.l then (4, ⟨#[]⟩) else endS (stepS (stepS (shown0 q) B) Q)) := ⟨rfl⟩
      have HSH : As (shown0 q = if lookN auL q.l = 1 then (sb (byF (bs (lookV auL q.l))).1, (byF (bs (lookV auL q.l))).2) else (⟨#[]⟩, 0)) := ⟨rfl⟩
      clear hb4 HL HSx HVBx HVQ
      generalize lookN auL q.l = ln at *
      generalize lookV auL q.l = lv at *
      by_cases h1 : 1 < ln
      · have HR : As (findS q = (4, ⟨#[]⟩)) := ⟨by rw [HN.out, HTL.out, if_pos h1]⟩
        have hE := HS4.out.ft.ew.cell 1 (by simp [errG])
        clear HSH HTL hsz
        go_wp2
        go_quiet (fail)
        go_wp2
        go_ret2
        exact ⟨by rw [HR.out]; rfl, (HS4.out.drewN _).fr⟩
      · have HR : As (findS q = endS (stepS (stepS (shown0 q) B) Q)) := ⟨by rw [HN.out, HTL.out, if_neg h1]⟩
        have hln1 : ln ≤ 1 := by omega
        clear HTL HN h1
        generalize shown0 q = st0 at *
        go_upto_if 52 with (fail)
        go_cut [12, 13] (fun s12 s13 wx => s12 = .string st0.1 ∧ s13 = .int .i64 st0.2 ∧ As (FS A m q R c w wx) ∧ As (PR w.heap.size vb B wx) ∧ As (PR w.heap.size u6 Q wx))
        case first =>
          rcases Nat.lt_or_ge ln 1 with h | h
          · have q1 : ((ln : Int) == 1) = false := by rw [beq_eq_false_iff_ne]; omega
            have HS0 : As (st0 = (⟨#[]⟩, 0)) := ⟨by rw [HSH.out, if_neg (by omega)]⟩
            clear HSH h
            go_wp2
            go_meet
            rw [HS0.out]
            exact ⟨rfl, rfl, HS4, HVB4, HVQ4⟩
          · have q1 : ((ln : Int) == 1) = true := by rw [beq_iff_eq]; omega
            have HS0 : As (st0 = (sb (byF (bs lv)).1, (byF (bs lv)).2)) := ⟨by rw [HSH.out, if_pos (by omega)]⟩
            clear HSH h
            go_wp2_with fail
            refine (byField_c lv _ HS4.out.ft.kt (by omega)).mono ?_
            rintro e w5 ⟨rfl, rfl⟩
            go_wp2
            go_meet
            rw [HS0.out]
            exact ⟨rfl, rfl, HS4, HVB4, HVQ4⟩
        case rest =>
          obtain ⟨rfl, rfl, HS5, HVB5, HVQ5⟩ := hcut
          clear HSH HS4 HVB4 HVQ4
          obtain ⟨Ab, cb, rfl, hcb, hrb⟩ := HVB5.out.reads
          obtain ⟨Aq, cq, rfl, hcq, hrq⟩ := HVQ5.out.reads
          have HGB : As (∀ W, Below wc.heap.size wc W → Calls Tryd.prog 26 #[.slice Ab B.length cb, .string ⟨#[97, 99, 99, 101, 115, 115, 95, 116, 111, 107, 101, 110]⟩] W fun e w' => e = .returned (.tuple #[.string (getV atB B), .int .i64 (getN atB B)]) ∧ Below W.heap.size W w') := ⟨fun W hW => Get_c Ab cb B atB W (Kd.C_below hrb hW) (by have := HPB.out.len; omega)⟩
          have HGQ : As (∀ W, Below wc.heap.size wc W → Calls Tryd.prog 26 #[.slice Aq Q.length cq, .string ⟨#[97, 99, 99, 101, 115, 115, 95, 116, 111, 107, 101, 110]⟩] W fun e w' => e = .returned (.tuple #[.string (getV atB Q), .int .i64 (getN atB Q)]) ∧ Below W.heap.size W w') := ⟨fun W hW => Get_c Aq cq Q atB W (Kd.C_below hrq hW) (by have := HPQ.out.len; omega)⟩
          clear hrb hrq HVB5 HVQ5
          have i0 : ∀ w, (Instr.index 53 (.agg #[.slice Ab B.length cb, .slice Aq Q.length cq]) (.int .i64 0)).run Tryd.prog w = .ok (.slice Ab B.length cb) w := fun _ => by kernel_rfl
          have i1 : ∀ w, (Instr.index 53 (.agg #[.slice Ab B.length cb, .slice Aq Q.length cq]) (.int .i64 1)).run Tryd.prog w = .ok (.slice Aq Q.length cq) w := fun _ => by kernel_rfl
          go_wp2
          go_loopw [12, 13, 61] (fun c12 c13 c61 wr => ∃ (i : Nat) (st : ByteArray × Nat), c61 = .int .i64 i ∧ c12 = .string st.1 ∧ c13 = .int .i64 st.2 ∧ As ((i = 0 ∧ st = st0) ∨ (i = 1 ∧ st = stepS st0 B) ∨ (i = 2 ∧ st = stepS (stepS st0 B) Q)) ∧ As (Below wc.heap.size wc wr)) (fun _ _ v _ => 2 - (intOf v).toNat)
          case atStart => exact ⟨0, st0, rfl, rfl, rfl, ⟨.inl ⟨rfl, rfl⟩⟩, ⟨Below.refl _ _⟩⟩
          case round =>
            obtain ⟨i, st, rfl, rfl, rfl, HW, HB⟩ := hrel
            have hb1 := stepS_b HPB.out hsz
            have hb2 := stepS_b HPQ.out hb1
            rcases HW.out with ⟨rfl, hst⟩ | ⟨rfl, hst⟩ | ⟨rfl, hst⟩
            · have hst2 : st.2 ≤ 1 := by rw [hst]; exact hsz.2
              have hgn := Nat.le_trans (getN_le atB B) HPB.out.len
              have HST := hid_ hst
              clear hst HW i1
              go_wp2_with fail
              refine (HGB.out _ HB.out).mono ?_
              rintro e w5 ⟨rfl, hb5⟩
              have HB5 := As.mk (below_nx HB.out hb5)
              clear hb5
              by_cases hg : 0 < getN atB B
              · have HS1 : As (stepS st0 B = (getV atB B, st.2 + getN atB B)) := ⟨by rw [stepS_pos hg, HST.out]⟩
                generalize getN atB B = gn at *
                generalize getV atB B = gv at *
                have hg' : (0 : Int) < (gn : Int) := by omega
                go_wp2
                refine ⟨⟨1, (gv, st.2 + gn), rfl, rfl, ?_, ⟨.inr (.inl ⟨rfl, HS1.out.symm⟩)⟩, HB5⟩, by simp [intOf]⟩
                go_num
              · have hg0 : getN atB B = 0 := by omega
                have HS1 : As (stepS st0 B = st) := ⟨by rw [stepS_zero hg0, HST.out]⟩
                rw [hg0]
                clear hg hg0 hgn
                go_wp2
                exact ⟨⟨1, st, rfl, rfl, rfl, ⟨.inr (.inl ⟨rfl, HS1.out.symm⟩)⟩, HB5⟩, by simp [intOf]⟩
            · have hst2 : st.2 ≤ 33 := by rw [hst]; exact hb1.2
              have hgn := Nat.le_trans (getN_le atB Q) HPQ.out.len
              have HST := hid_ hst
              clear hst HW i0
              go_wp2_with fail
              refine (HGQ.out _ HB.out).mono ?_
              rintro e w5 ⟨rfl, hb5⟩
              have HB5 := As.mk (below_nx HB.out hb5)
              clear hb5
              by_cases hg : 0 < getN atB Q
              · have HS1 : As (stepS (stepS st0 B) Q = (getV atB Q, st.2 + getN atB Q)) := ⟨by rw [stepS_pos hg, HST.out]⟩
                generalize getN atB Q = gn at *
                generalize getV atB Q = gv at *
                have hg' : (0 : Int) < (gn : Int) := by omega
                go_wp2
                refine ⟨⟨2, (gv, st.2 + gn), rfl, rfl, ?_, ⟨.inr (.inr ⟨rfl, HS1.out.symm⟩)⟩, HB5⟩, by simp [intOf]⟩
                go_num
              · have hg0 : getN atB Q = 0 := by omega
                have HS1 : As (stepS (stepS st0 B) Q = st) := ⟨by rw [stepS_zero hg0, HST.out]⟩
                rw [hg0]
                clear hg hg0 hgn
                go_wp2
                exact ⟨⟨2, st, rfl, rfl, rfl, ⟨.inr (.inr ⟨rfl, HS1.out.symm⟩)⟩, HB5⟩, by simp [intOf]⟩
            · have hsb : st.1.size ≤ 1048576 ∧ st.2 ≤ 65 := by rw [hst]; exact hb2
              have HE : As (findS q = if 1 < st.2 then (4, ⟨#[]⟩) else if st.2 = 0 then (12, ⟨#[]⟩) else if textS (bs st.1) then (0, st.1) else (2, ⟨#[]⟩)) := ⟨by rw [HR.out, ← hst]; rfl⟩
              have HS6 := As.mk (HS5.out.next HB.out)
              clear hst HW i0 i1 HGB HGQ HR
              generalize st.2 = n at *
              generalize st.1 = t at *
              rcases Nat.lt_or_ge 1 n with h1 | h1
              · have HF : As (findS q = (4, ⟨#[]⟩)) := ⟨by rw [HE.out, if_pos h1]⟩
                have hE := HS6.out.ft.ew.cell 1 (by simp [errG])
                clear HE
                go_wp2
                go_quiet (fail)
                go_wp2
                go_ret2
                exact ⟨by rw [HF.out]; rfl, (HS6.out.drewN _).fr⟩
              · rcases Nat.lt_or_ge 0 n with h0 | h0
                · have q0 : ((n : Int) == 0) = false := by rw [beq_eq_false_iff_ne]; omega
                  have hE := HS6.out.ft.ew.cell 0 (by simp [errG])
                  cases htx : textS (bs t) with
                  | false =>
                    have HF : As (findS q = (2, ⟨#[]⟩)) := ⟨by rw [HE.out, if_neg (by omega), if_neg (by omega), htx]; rfl⟩
                    have HTX := hid_ htx
                    clear HE htx
                    go_wp2_with (go_at_call 27; refine (tokenText_c t _ (by omega)).mono ?_; rintro e w' ⟨rfl, rfl⟩; rw [HTX.out])
                    go_quiet (fail)
                    go_wp2
                    go_ret2
                    exact ⟨by rw [HF.out]; rfl, (HS6.out.drewN _).fr⟩
                  | true =>
                    have HF : As (findS q = (0, t)) := ⟨by rw [HE.out, if_neg (by omega), if_neg (by omega), htx]; rfl⟩
                    have HTX := hid_ htx
                    clear HE htx
                    go_wp2_with (go_at_call 27; refine (tokenText_c t _ (by omega)).mono ?_; rintro e w' ⟨rfl, rfl⟩; rw [HTX.out])
                    go_ret2
                    exact ⟨by rw [HF.out]; rfl, HS6.out.fr⟩
                · have q0 : ((n : Int) == 0) = true := by rw [beq_iff_eq]; omega
                  have hE := HS6.out.ft.ew.cell 2 (by simp [errG])
                  have HF : As (findS q = (12, ⟨#[]⟩)) := ⟨by rw [HE.out, if_neg (by omega), if_pos (by omega)]⟩
                  clear HE
                  go_wp2
                  go_quiet (fail)
                  go_wp2
                  go_ret2
                  exact ⟨by rw [HF.out]; rfl, (HS6.out.drewN _).fr⟩
end Go.Proofs.YtegeijlookpgaaaDoor
