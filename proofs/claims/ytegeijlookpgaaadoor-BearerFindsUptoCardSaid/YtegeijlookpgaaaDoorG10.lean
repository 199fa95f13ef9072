/- What usherref22.Find computes. -/
import Derived.Test.YtegeijlookpgaaaDoorG9
set_option linter.unusedVariables false
set_option linter.unusedSimpArgs false
namespace Go.Proofs.YtegeijlookpgaaaDoor
open Go.RowKit Go.Proofs.YtegeijlookpgaaaDoorW.PrintWords

structure RD (w : World) (r : Nat × ByteArray) (e : Ending) (w' : World) : Prop where
  ret : e = .returned (.tuple #[.string r.2, .int .i64 r.1])
  fr : Below w.heap.size w w'
theorem ba_nil (t : ByteArray) : (⟨#[]⟩ : ByteArray) ++ t = t := by
  rw [← sb_bs t]; exact (sb_app [] (bs t)).symm
theorem ba_nil' (t : ByteArray) : t ++ (⟨#[]⟩ : ByteArray) = t := by
  conv => rhs; rw [← sb_bs t]
  conv => lhs; rw [← sb_bs t]
  have := (sb_app (bs t) []).symm
  rw [List.append_nil] at this
  exact this
theorem getV_zero {nm : ByteArray} {l : List Pr} (h : getN nm l = 0) : getV nm l = ⟨#[]⟩ := by
  unfold getN at h
  unfold getV
  have : l.find? (hasGet nm) = none := by
    rw [List.find?_eq_none]
    exact List.filter_eq_nil_iff.1 (List.eq_nil_of_length_eq_zero h)
  rw [this]
/-- what the field adds -/
def fieldA (q : Rq) : ByteArray × Nat := if lookN auL q.l = 1 ∧ (byR (bs (lookV auL q.l))).2 = true then (sb (byR (bs (lookV auL q.l))).1, 1) else (⟨#[]⟩, 0)
theorem byF_zero (l : List UInt8) (h : (byF l).2 ≠ 1) : byF l = ([], 0) := by
  unfold byF at h ⊢
  split
  · rename_i hb
    rw [if_pos hb] at h
    split at h <;> simp at h
  · rfl
theorem fieldA_eq (q : Rq) (h : lookN auL q.l ≤ 1) : fieldA q = shown0 q := by
  unfold fieldA shown0 byR
  by_cases h1 : lookN auL q.l = 1
  · rw [if_pos h1]
    by_cases h2 : (byF (bs (lookV auL q.l))).2 = 1
    · rw [if_pos ⟨h1, by simpa using h2⟩, h2]
    · rw [if_neg (by rintro ⟨_, h⟩; exact h2 (by simpa using h)), byF_zero _ h2]
  · rw [if_neg h1, if_neg (fun h => h1 h.1)]
theorem ref_end (q : Rq) (B Q : List Pr) : tailS q B Q =
    if 1 < lookN auL q.l ∨ 1 < getN atB B + getN atB Q + (fieldA q).2 then (4, ⟨#[]⟩) else if getN atB B + getN atB Q + (fieldA q).2 = 0 then (12, ⟨#[]⟩)
    else if textS (bs (getV atB B ++ getV atB Q ++ (fieldA q).1)) then (0, getV atB B ++ getV atB Q ++ (fieldA q).1) else (2, ⟨#[]⟩) := by
  unfold tailS
  by_cases h1 : 1 < lookN auL q.l
  · rw [if_pos h1, if_pos (.inl h1)]
  · rw [if_neg h1, fieldA_eq q (by omega)]
    have hz : (shown0 q).2 = 0 → (shown0 q).1 = ⟨#[]⟩ := by
      rw [← fieldA_eq q (by omega)]
      unfold fieldA
      split
      · simp
      · simp
    generalize shown0 q = st at *
    obtain ⟨t0, n0⟩ := st
    simp only at hz
    rcases Nat.lt_or_ge 0 (getN atB B) with hb | hb
    · rw [stepS_pos (st := (t0, n0)) hb]
      rcases Nat.lt_or_ge 0 (getN atB Q) with hq | hq
      · rw [stepS_pos hq]
        unfold endS
        simp only
        rw [if_pos (by omega), if_pos (by omega)]
      · rw [stepS_zero (l := Q) (by omega), getV_zero (l := Q) (by omega), show getN atB Q = 0 by omega]
        generalize getN atB B = kb at *
        unfold endS
        simp only
        by_cases hn : 1 < n0 + kb
        · rw [if_pos hn, if_pos (by omega)]
        · obtain rfl : n0 = 0 := by omega
          rw [hz rfl, if_neg hn, if_neg (show ¬ (0 + kb = 0) by omega), if_neg (show ¬ (1 < lookN auL q.l ∨ 1 < kb + 0 + 0) by omega), if_neg (show ¬ (kb + 0 + 0 = 0) by omega), ba_nil', ba_nil']
    · rw [stepS_zero (l := B) (by omega), getV_zero (l := B) (by omega), show getN atB B = 0 by omega, ba_nil]
      rcases Nat.lt_or_ge 0 (getN atB Q) with hq | hq
      · rw [stepS_pos (st := (t0, n0)) hq]
        generalize getN atB Q = kq at *
        unfold endS
        simp only
        by_cases hn : 1 < n0 + kq
        · rw [if_pos hn, if_pos (by omega)]
        · obtain rfl : n0 = 0 := by omega
          rw [hz rfl, if_neg hn, if_neg (show ¬ (0 + kq = 0) by omega), if_neg (show ¬ (1 < lookN auL q.l ∨ 1 < 0 + kq + 0) by omega), if_neg (show ¬ (0 + kq + 0 = 0) by omega), ba_nil']
      · rw [stepS_zero (l := Q) (by omega), getV_zero (l := Q) (by omega), show getN atB Q = 0 by omega, ba_nil]
        unfold endS
        simp only
        by_cases hn : 1 < n0
        · rw [if_pos hn, if_pos (by omega)]
        · rw [if_neg hn, if_neg (show ¬ (1 < lookN auL q.l ∨ 1 < 0 + 0 + n0) by omega)]
          by_cases h0 : n0 = 0
          · rw [if_pos h0, if_pos (show 0 + 0 + n0 = 0 by omega)]
          · rw [if_neg h0, if_neg (show ¬ (0 + 0 + n0 = 0) by omega)]

/-- what stands while the reference's Find runs -/
structure GS (q : Rq) (R : Option Addr) (c : Nat) (w w' : World) : Prop where
  box : w'.heap[w.heap.size]? = some (.cells #[.string q.m, .string q.t, .int .i64 q.k, .slice R q.l.length c, .string q.b, .bool q.cl] 32 (0, 0))
  row : kP.C w' R q.l.length q.l
  fr : Below w.heap.size w w'
theorem GS.next {q : Rq} {R : Option Addr} {c : Nat} {w w' w'' : World} (h : GS q R c w w') (hb : Below w'.heap.size w' w'') : GS q R c w w'' :=
  ⟨(hb.block _ (Array.getElem?_eq_some_iff.1 h.box).1).trans h.box, Kd.C_below h.row hb, below_nx h.fr hb⟩
theorem GS.cell {q : Rq} {R : Option Addr} {c : Nat} {w w' : World} (h : GS q R c w w') (j : Nat) : w'.cell? ⟨w.heap.size, j, none⟩ = (#[Value.string q.m, .string q.t, .int .i64 q.k, .slice R q.l.length c, .string q.b, .bool q.cl])[j]? := Lib.cell_of_heap h.box j
theorem getV_size {l : List Pr} (h : PB l) : (getV atB l).size ≤ 1048576 := by
  unfold getV
  split
  · rename_i p hp
    exact h.f1 p (List.mem_of_find?_eq_some hp)
  · decide

set_option maxHeartbeats 4000000 in
set_option maxRecDepth 100000 in
theorem refFind_c (q : Rq) (R : Option Addr) (c : Nat) (w : World) (hq : RB q) (hr : kP.C w R q.l.length q.l) :
    Calls Tryd.prog 11 #[.agg (rqC q R c)] w (RD w (findS q)) := by
  have HQ := As.mk hq
  have HS : As (GS q R c w (w.alloc (.cells (rqC q R c) 32))) := ⟨⟨heap_alloc_new w _, Kd.C_below hr (below_alloc (Below.refl _ _) _), below_alloc (Below.refl _ _) _⟩⟩
  clear hr hq
  unfold rqC at *
  go_enter Tryd.func11, Tryd.ntmps11
  go_wp2_with fail
  generalize w.alloc (.cells #[.string q.m, .string q.t, .int .i64 q.k, .slice R q.l.length c, .string q.b, .bool q.cl] 32) = w0 at *
  refine (refForm_c2 q R c w0 HQ.out HS.out.row).mono ?_
  rintro e w1 ⟨rfl, hb1⟩
  have HS1 := As.mk (HS.out.next hb1)
  have HFS : As (formS q = if hasForm q then pairsS (bs q.b) else some []) := ⟨rfl⟩
  have HFN : As (findS q = match formS q with | none => (2, ⟨#[]⟩) | some body => match queryS q with | none => (2, ⟨#[]⟩) | some query => tailS q (body.map prOf) (query.map prOf)) := ⟨rfl⟩
  clear hb1 HS
  generalize hasForm q = hf at *
  go_upto_if 23 with (fail)
  go_cut [4, 5] (fun s4 s5 wx => ∃ B : List Pr, As (findS q = match queryS q with | none => (2, ⟨#[]⟩) | some query => tailS q B (query.map prOf)) ∧ As (PB B) ∧ s4 = .string (getV atB B) ∧ s5 = .int .i64 (getN atB B) ∧ As (GS q R c w wx))
  case first =>
    cases hf with
    | false =>
      have HN : As (formS q = some []) := ⟨by rw [HFS.out]; rfl⟩
      go_wp2
      go_meet
      exact ⟨[], ⟨by rw [HFN.out, HN.out]; rfl⟩, ⟨PB.nil⟩, rfl, rfl, HS1⟩
    | true =>
      have HN : As (formS q = pairsS (bs q.b)) := ⟨by rw [HFS.out, if_pos rfl]⟩
      have d4 := HS1.out.cell 4
      simp only [List.getElem?_toArray, List.getElem?_cons_succ, List.getElem?_cons_zero] at d4
      go_wp2_with fail
      clear d4
      refine (byText_c q.b w1 HQ.out.b).mono ?_
      rintro e w2 ⟨hy, hn, hb2⟩
      have HS2 := As.mk (HS1.out.next hb2)
      cases hp : pairsS (bs q.b) with
      | none =>
        have HR : As (findS q = (2, ⟨#[]⟩)) := ⟨by rw [HFN.out, HN.out, hp]⟩
        rw [hn hp]
        clear hy hn hp hb2
        go_wp2
        go_ret2
        exact ⟨by rw [HR.out]; rfl, HS2.out.fr⟩
      | some ps =>
        have HPB : As (PB (ps.map prOf)) := ⟨PB.of hp (by rw [bs_size]; exact HQ.out.b)⟩
        have HR : As (findS q = match queryS q with | none => (2, ⟨#[]⟩) | some query => tailS q (ps.map prOf) (query.map prOf)) := ⟨by rw [HFN.out, HN.out, hp]⟩
        rw [hy ps hp]
        clear hy hn hp hb2
        generalize ps.map prOf = B at *
        have hgn := Nat.le_trans (getN_le atB B) HPB.out.len
        have hgv := getV_size HPB.out
        generalize hgv' : getV atB B = gv at *
        generalize hgn' : getN atB B = gn at *
        have HGV := hid_ hgv'
        have HGN := hid_ hgn'
        clear hgv' hgn'
        go_wp2
        go_meet
        exact ⟨B, HR, HPB, by rw [HGV.out]; first | rfl | exact congrArg Value.string (ba_nil gv), by rw [HGN.out]; first | rfl | skip, HS2⟩
  case rest =>
    obtain ⟨B, HN, HPB, rfl, rfl, HSx⟩ := hcut
    clear HFS HFN HS1
    have hgn := Nat.le_trans (getN_le atB B) HPB.out.len
    have hgv := getV_size HPB.out
    have d1 := HSx.out.cell 1
    simp only [List.getElem?_toArray, List.getElem?_cons_succ, List.getElem?_cons_zero] at d1
    go_wp2_with fail
    clear d1
    refine (refSplit_c q.t _ (by have := HQ.out.t; omega)).mono ?_
    rintro e w2 ⟨rfl, hb2⟩
    have HS2 := As.mk (HSx.out.next hb2)
    have HTA : As ((sb (cutB 63 (bs q.t))).size ≤ 1048576 ∧ bs (sb (cutB 63 (bs q.t))) = cutB 63 (bs q.t)) := ⟨by
      rw [size_sb, bs_sb]
      have := cutB_le 63 (bs q.t)
      rw [bs_size] at this
      exact ⟨Nat.le_trans this HQ.out.t, rfl⟩⟩
    clear hb2 HSx
    generalize sb (cutB 63 (bs q.t)) = tb at *
    generalize sb (cutA 63 (bs q.t)) = ta at *
    obtain ⟨hb, hhb⟩ : ∃ hb, hb = (bs q.t).contains 63 := ⟨_, rfl⟩
    rw [← hhb]
    have HQS : As (queryS q = if hb then pairsS (bs tb) else some []) := ⟨by unfold queryS; rw [← hhb, HTA.out.2]⟩
    clear hhb
    go_upto_if 47 with (fail)
    go_cut [4, 5] (fun s4 s5 wx => ∃ Q : List Pr, As (findS q = tailS q B Q) ∧ As (PB Q) ∧ s4 = .string (getV atB B ++ getV atB Q) ∧ s5 = .int .i64 (getN atB B + getN atB Q : Nat) ∧ As (GS q R c w wx))
    case first =>
      cases hb with
      | false =>
        generalize getV atB B = gvb at *
        generalize getN atB B = gnb at *
        go_wp2
        go_meet
        exact ⟨[], ⟨by rw [HN.out, HQS.out]; rfl⟩, ⟨PB.nil⟩, congrArg Value.string (ba_nil' gvb).symm, rfl, HS2⟩
      | true =>
        have HQT : As (queryS q = pairsS (bs tb)) := ⟨by rw [HQS.out, if_pos rfl]⟩
        go_wp2_with fail
        refine (byText_c tb w2 HTA.out.1).mono ?_
        rintro e w3 ⟨hy, hn, hb3⟩
        have HS3 := As.mk (HS2.out.next hb3)
        cases hp : pairsS (bs tb) with
        | none =>
          have HR : As (findS q = (2, ⟨#[]⟩)) := ⟨by rw [HN.out, HQT.out, hp]⟩
          rw [hn hp]
          clear hy hn hp hb3
          generalize getV atB B = gvb at *
          generalize getN atB B = gnb at *
          go_wp2
          go_ret2
          exact ⟨by rw [HR.out]; rfl, HS3.out.fr⟩
        | some ps =>
          have HPQ : As (PB (ps.map prOf)) := ⟨PB.of hp (by rw [bs_size]; exact HTA.out.1)⟩
          have HR : As (findS q = tailS q B (ps.map prOf)) := ⟨by rw [HN.out, HQT.out, hp]⟩
          rw [hy ps hp]
          clear hy hn hp hb3
          generalize ps.map prOf = Q at *
          have hgn2 := Nat.le_trans (getN_le atB Q) HPQ.out.len
          have hgv2 := getV_size HPQ.out
          have hsz : (getV atB B ++ getV atB Q).size ≤ 2097152 := by rw [ByteArray.size_append]; omega
          generalize hb1 : getV atB B = gvb at *
          generalize hb2 : getN atB B = gnb at *
          generalize hb3 : getV atB Q = gvq at *
          generalize hb4 : getN atB Q = gnq at *
          have H1 := hid_ hb1
          have H2 := hid_ hb2
          have H3 := hid_ hb3
          have H4 := hid_ hb4
          clear hb1 hb2 hb3 hb4
          have hadd : gvb.size + gvq.size ≤ 2097152 := by omega
          go_wp2
          go_meet
          exact ⟨Q, HR, HPQ, by rw [H3.out], by rw [H4.out, Int.natCast_add], HS3⟩
    case rest =>
      obtain ⟨Q, HR, HPQ, rfl, rfl, HSx⟩ := hcut
      clear HN HQS HTA HS2
      have hgn2 := Nat.le_trans (getN_le atB Q) HPQ.out.len
      have hgv2 := getV_size HPQ.out
      have HRE : As (findS q = _) := ⟨HR.out.trans (ref_end q B Q)⟩
      have hsz : (getV atB B ++ getV atB Q).size ≤ 2097152 := by rw [ByteArray.size_append]; omega
      have hsn : getN atB B + getN atB Q ≤ 64 := by omega
      clear HR hgn2 hgv2 hgn hgv HPB HPQ
      generalize getV atB B ++ getV atB Q = gv at *
      generalize getN atB B + getN atB Q = gn at *
      have hau : low (bs ⟨#[65, 117, 116, 104, 111, 114, 105, 122, 97, 116, 105, 111, 110]⟩) = auL := by decide
      have HL : As (Calls Tryd.prog 31 #[.slice R q.l.length c, .string ⟨#[65, 117, 116, 104, 111, 114, 105, 122, 97, 116, 105, 111, 110]⟩] wc fun e w' => e = .returned (.tuple #[.string (lookV auL q.l), .int .i64 (lookN auL q.l)]) ∧ Below wc.heap.size wc w') := ⟨by
        have := refLookup_c R c q.l ⟨#[65, 117, 116, 104, 111, 114, 105, 122, 97, 116, 105, 111, 110]⟩ wc HSx.out.row (by decide) (by have := HQ.out.l; omega) (fun i h => by have := HQ.out.f0 i h; omega)
        rw [hau] at this
        exact this⟩
      clear hau
      have d3 := HSx.out.cell 3
      simp only [List.getElem?_toArray, List.getElem?_cons_succ, List.getElem?_cons_zero] at d3
      go_wp2_with fail
      clear d3
      refine HL.out.mono ?_
      rintro e w4 ⟨rfl, hb4⟩
      have HS4 := As.mk (HSx.out.next hb4)
      have hlv := lookV_size (nm := auL) HQ.out.f1
      have hln := Nat.le_trans (lookN_le auL q.l) HQ.out.l
      have HFA : As (fieldA q = if lookN auL q.l = 1 ∧ (byR (bs (lookV auL q.l))).2 = true then (sb (byR (bs (lookV auL q.l))).1, 1) else (⟨#[]⟩, 0)) := ⟨rfl⟩
      clear hb4 HL HSx
      generalize lookN auL q.l = ln at *
      generalize lookV auL q.l = lv at *
      go_wp2_with fail
      refine (refByField_c lv w4 hlv).mono ?_
      rintro e w5 ⟨rfl, hb5⟩
      have HS5 := As.mk (HS4.out.next hb5)
      clear hb5 HS4
      have htk : (sb (byR (bs lv)).1).size ≤ 1048576 := by
        rw [size_sb]
        have := (byF_len (bs lv)).1
        rw [bs_size] at this
        exact Nat.le_trans this hlv
      generalize sb (byR (bs lv)).1 = tk at *
      generalize (byR (bs lv)).2 = ok at *
      rcases Nat.lt_or_ge 1 ln with h1 | h1
      · have q1 : ((ln : Int) == 1) = false := by rw [beq_eq_false_iff_ne]; omega
        have HF : As (findS q = (4, ⟨#[]⟩)) := ⟨by rw [HRE.out, if_pos (.inl h1)]⟩
        clear HRE HFA
        go_wp2
        go_ret2
        exact ⟨by rw [HF.out]; rfl, HS5.out.fr⟩
      · rcases Nat.lt_or_ge ln 1 with h | h
        · have q1 : ((ln : Int) == 1) = false := by rw [beq_eq_false_iff_ne]; omega
          have HF0 : As (fieldA q = ((⟨#[]⟩ : ByteArray), 0)) := ⟨by rw [HFA.out, if_neg (by omega)]⟩
          have HRN : As (findS q = if 1 < ln ∨ 1 < gn then (4, ⟨#[]⟩) else if gn = 0 then (12, ⟨#[]⟩) else if textS (bs gv) then (0, gv) else (2, ⟨#[]⟩)) := ⟨by rw [HRE.out, HF0.out]; simp only [ba_nil', Nat.add_zero]⟩
          clear HFA h HF0 HRE
          rcases Nat.lt_or_ge 1 gn with h2 | h2
          · have HF : As (findS q = (4, ⟨#[]⟩)) := ⟨by rw [HRN.out, if_pos (.inr h2)]⟩
            clear HRN
            go_wp2
            go_ret2
            exact ⟨by rw [HF.out]; rfl, HS5.out.fr⟩
          · rcases Nat.lt_or_ge 0 gn with h3 | h3
            · have q0 : ((gn : Int) == 0) = false := by rw [beq_eq_false_iff_ne]; omega
              cases htx : textS (bs gv) with
              | false =>
                have HF : As (findS q = (2, ⟨#[]⟩)) := ⟨by rw [HRN.out, if_neg (by omega), if_neg (by omega), htx]; rfl⟩
                have HTX := hid_ htx
                clear HRN htx
                go_wp2_with fail
                refine (refText_c gv _ (by omega)).mono ?_
                rintro e w' ⟨rfl, rfl⟩
                rw [HTX.out]
                go_wp2
                go_ret2
                exact ⟨by rw [HF.out]; rfl, HS5.out.fr⟩
              | true =>
                have HF : As (findS q = (0, gv)) := ⟨by rw [HRN.out, if_neg (by omega), if_neg (by omega), htx]; rfl⟩
                have HTX := hid_ htx
                clear HRN htx
                go_wp2_with fail
                refine (refText_c gv _ (by omega)).mono ?_
                rintro e w' ⟨rfl, rfl⟩
                rw [HTX.out]
                go_wp2
                go_ret2
                exact ⟨by rw [HF.out]; rfl, HS5.out.fr⟩
            · obtain rfl : gn = 0 := by omega
              have HF : As (findS q = (12, ⟨#[]⟩)) := ⟨by rw [HRN.out, if_neg (by omega), if_pos rfl]⟩
              clear HRN
              go_wp2
              go_ret2
              exact ⟨by rw [HF.out]; rfl, HS5.out.fr⟩
        · have q1 : ((ln : Int) == 1) = true := by rw [beq_iff_eq]; omega
          cases ok with
          | false =>
            have HF0 : As (fieldA q = ((⟨#[]⟩ : ByteArray), 0)) := ⟨by rw [HFA.out, if_neg (by simp)]⟩
            have HRN : As (findS q = if 1 < ln ∨ 1 < gn then (4, ⟨#[]⟩) else if gn = 0 then (12, ⟨#[]⟩) else if textS (bs gv) then (0, gv) else (2, ⟨#[]⟩)) := ⟨by rw [HRE.out, HF0.out]; simp only [ba_nil', Nat.add_zero]⟩
            clear HFA h HF0 HRE
            rcases Nat.lt_or_ge 1 gn with h2 | h2
            · have HF : As (findS q = (4, ⟨#[]⟩)) := ⟨by rw [HRN.out, if_pos (.inr h2)]⟩
              clear HRN
              go_wp2
              go_ret2
              exact ⟨by rw [HF.out]; rfl, HS5.out.fr⟩
            · rcases Nat.lt_or_ge 0 gn with h3 | h3
              · have q0 : ((gn : Int) == 0) = false := by rw [beq_eq_false_iff_ne]; omega
                cases htx : textS (bs gv) with
                | false =>
                  have HF : As (findS q = (2, ⟨#[]⟩)) := ⟨by rw [HRN.out, if_neg (by omega), if_neg (by omega), htx]; rfl⟩
                  have HTX := hid_ htx
                  clear HRN htx
                  go_wp2_with fail
                  refine (refText_c gv _ (by omega)).mono ?_
                  rintro e w' ⟨rfl, rfl⟩
                  rw [HTX.out]
                  go_wp2
                  go_ret2
                  exact ⟨by rw [HF.out]; rfl, HS5.out.fr⟩
                | true =>
                  have HF : As (findS q = (0, gv)) := ⟨by rw [HRN.out, if_neg (by omega), if_neg (by omega), htx]; rfl⟩
                  have HTX := hid_ htx
                  clear HRN htx
                  go_wp2_with fail
                  refine (refText_c gv _ (by omega)).mono ?_
                  rintro e w' ⟨rfl, rfl⟩
                  rw [HTX.out]
                  go_wp2
                  go_ret2
                  exact ⟨by rw [HF.out]; rfl, HS5.out.fr⟩
              · obtain rfl : gn = 0 := by omega
                have HF : As (findS q = (12, ⟨#[]⟩)) := ⟨by rw [HRN.out, if_neg (by omega), if_pos rfl]⟩
                clear HRN
                go_wp2
                go_ret2
                exact ⟨by rw [HF.out]; rfl, HS5.out.fr⟩
          | true =>
            have HF0 : As (fieldA q = (tk, 1)) := ⟨by rw [HFA.out, if_pos ⟨by omega, rfl⟩]⟩
            have HRN : As (findS q = if 1 < ln ∨ 1 < gn + 1 then (4, ⟨#[]⟩) else if gn + 1 = 0 then (12, ⟨#[]⟩) else if textS (bs (gv ++ tk)) then (0, gv ++ tk) else (2, ⟨#[]⟩)) := ⟨by rw [HRE.out, HF0.out]⟩
            have hadd : gv.size + tk.size ≤ 4194304 := by omega
            clear HFA h HF0 HRE
            rcases Nat.lt_or_ge 0 gn with h2 | h2
            · have q2 : (1 : Int) < (gn : Int) + 1 := by omega
              have HF : As (findS q = (4, ⟨#[]⟩)) := ⟨by rw [HRN.out, if_pos (.inr (by omega))]⟩
              clear HRN
              go_wp2
              go_ret2
              exact ⟨by rw [HF.out]; rfl, HS5.out.fr⟩
            · obtain rfl : gn = 0 := by omega
              have hgt : (gv ++ tk).size ≤ 4194304 := by rw [ByteArray.size_append]; exact hadd
              cases htx : textS (bs (gv ++ tk)) with
              | false =>
                have HF : As (findS q = (2, ⟨#[]⟩)) := ⟨by rw [HRN.out, if_neg (by omega), if_neg (by omega), htx]; rfl⟩
                have HTX := hid_ htx
                clear HRN htx
                go_wp2_with fail
                refine (refText_c (gv ++ tk) _ (by omega)).mono ?_
                rintro e w' ⟨rfl, rfl⟩
                rw [HTX.out]
                go_wp2
                go_ret2
                exact ⟨by rw [HF.out]; rfl, HS5.out.fr⟩
              | true =>
                have HF : As (findS q = (0, gv ++ tk)) := ⟨by rw [HRN.out, if_neg (by omega), if_neg (by omega), htx]; rfl⟩
                have HTX := hid_ htx
                clear HRN htx
                go_wp2_with fail
                refine (refText_c (gv ++ tk) _ (by omega)).mono ?_
                rintro e w' ⟨rfl, rfl⟩
                rw [HTX.out]
                go_wp2
                go_ret2
                exact ⟨by rw [HF.out]; rfl, HS5.out.fr⟩
end Go.Proofs.YtegeijlookpgaaaDoor
