/- What pct.Pairs computes. -/
import Derived.Test.YtegeijlookpgaaaDoorN8
import Derived.Test.YtegeijlookpgaaaDoorM2
import Derived.Test.YtegeijlookpgaaaDoorL1
import Derived.WideLaws
set_option linter.unusedVariables false
set_option linter.unusedSimpArgs false
namespace Go.Proofs.YtegeijlookpgaaaDoor
open Go.RowKit Go.Proofs.YtegeijlookpgaaaDoorW.PrintWords

section
variable {ops : Array Oper} {rest : List Oper} {o : Oper} {a : Act} {Q : Exit → Act → World → Prop}
/-- append(v, a pair): behind 'at_builtin'. -/
theorem pair_app {W : World} (B : Nat) (hgd : o.guard = none) (s x : Operand) (ho : o.op = .call { callee := .builtin .append, args := #[s, x], argTypes := #[22, 22] })
    (v : Value) (l : List Pr) (p : Pr) (hs : a.eval s = v) (hx : a.eval x = .slice (some ⟨W.heap.size, 0, none⟩) 1 1) (cs : Array Value) (hcs : cs = #[.string p.f0, .string p.f1])
    (HO : PR B v l W) (hB : B ≤ W.heap.size) (hl : (l.length + 1) * 32 ≤ 140737488355328)
    (h : ∀ v1 w1, PR B v1 (l ++ [p]) w1 → W.grownBy w1 v.ownBlock → wpList Tryd.prog ops Q rest (a.put o.dst v1) w1) :
    wpList Tryd.prog ops Q (o :: rest) a (W.alloc (.cells cs 29)) := by
  subst hcs
  refine print_append_cells (w0 := W) B hgd s x 22 29 (.agg #[(.string ⟨#[]⟩), (.string ⟨#[]⟩)]) 2 32 ho Tryd.underlying22 iP rfl (by decide) (by decide) v l.length (pcs l) [.string p.f0, .string p.f1] hs hx rfl (by intro u hu; simp at hu; rcases hu with rfl | rfl <;> rfl) HO ((Below.refl _ _).mono hB) hB hl ?_
  intro v1 w1 hown _ hg _
  refine h v1 w1 ?_ hg
  unfold PR
  rw [pcs_append, List.length_append]
  exact hown
/-- make([]Pair, 0, n) -/
theorem make_pairs {w : World} (hgd : o.guard = none) (x y : Operand) (ho : o.op = .makeSlice 22 x y) (n : Nat) (hx : a.eval x = .int .i64 0) (hy : a.eval y = .int .i64 n) (hn : n ≤ 1048576)
    (h : ∀ v w1, PR w.heap.size v [] w1 → Below w.heap.size w w1 → wpList Tryd.prog ops Q rest (a.put o.dst v) w1) : wpList Tryd.prog ops Q (o :: rest) a w := by
  obtain ⟨i0, hi, hzz⟩ := Option.map_eq_some_iff.1 iP
  simp only [Prod.mk.injEq] at hzz
  obtain ⟨hz0, hz1, hz2⟩ := hzz
  have hr := run_make_rowN (P := Tryd.prog) 22 29 i0 (.agg #[(.string ⟨#[]⟩), (.string ⟨#[]⟩)]) Tryd.underlying22 hi hz0 .i64 .i64 0 n (Nat.zero_le _) (by rw [hz2]; omega) (by omega) w
  refine wpList_value hgd (v := .slice (some ⟨w.heap.size, 0, none⟩) 0 n) (w1 := w.alloc (.cells (madeCells (Value.agg #[(.string ⟨#[]⟩), (.string ⟨#[]⟩)]).cells (n * i0.size)) 29)) ?_ (h _ _ ⟨rfl, .inr ⟨w.heap.size, n, _, rfl, Nat.le_refl _, heap_alloc_new w _, Nat.zero_le _, by simp only [maxLen]; omega, ?_, by simp [pcs]⟩⟩ (below_alloc (Below.refl _ _) _))
  · unfold execOp
    simp only [ho, hx, hy, Sem.run_bind]
    have e0 : (Value.int .i64 0) = .int .i64 ((0 : Nat) : Int) := rfl
    rw [e0, hr]
    simp only [Result.andThen_ok, Sem.run_pure]
  · simp [madeCells, hz1]
end

theorem cut_c (s : ByteArray) (c : UInt8) (m : Int) (w : World) (hs : s.size ≤ 1048576) (hm : w.cell? ⟨19, 0, none⟩ = some (.int .i64 m)) :
    Calls Tryd.prog 48 #[.string s, .string ⟨#[c]⟩] w fun e w' => e = .returned (.tuple #[.string (sb (cutA c (bs s))), .string (sb (cutB c (bs s))), .bool ((bs s).contains c)]) ∧ ∃ n, w' = w.drewN n := by
  have h := Tryd.strings_Cut s ⟨#[c]⟩ m w (by omega) hm
  have e := lib_cut c (bs s)
  have e2 : Lib.cut s.data.toList (ByteArray.mk #[c]).data.toList = (cutA c (bs s), cutB c (bs s), (bs s).contains c) := e
  rw [e2] at h
  exact h

def prOf (x : List UInt8 × List UInt8) : Pr := ⟨sb x.1, sb x.2⟩
/-- pairs, or an error -/
structure FQ (A : Nat → Addr) (w : World) (o : Option (List (List UInt8 × List UInt8))) (e : Ending) (w' : World) : Prop where
  yes : ∀ ps, o = some ps → ∃ v, e = .returned (.tuple #[v, .nilIface]) ∧ PR w.heap.size v (ps.map prOf) w'
  no : o = none → ∃ g ∈ errG, e = .returned (.tuple #[.slice none 0 0, ev (A g)])
  fr : Below w.heap.size w w'

theorem filt_snoc (ps : List ByteArray) (i : Nat) (h : i < ps.length) : ((ps.take (i + 1)).filter (fun t => !(bs t).isEmpty)).length = ((ps.take i).filter (fun t => !(bs t).isEmpty)).length + (if (bs ps[i]).isEmpty then 0 else 1) := by
  rw [List.take_add_one, List.getElem?_eq_getElem h, List.filter_append, List.length_append]
  congr 1
  show (List.filter (fun t => !(bs t).isEmpty) [ps[i]]).length = _
  rw [List.filter_cons]
  cases (bs ps[i]).isEmpty <;> rfl
def neP (ps : List ByteArray) : List (List UInt8) := (ps.map bs).filter (fun p => !p.isEmpty)
theorem neP_skip (ps : List ByteArray) (i : Nat) (h : i < ps.length) (he : bs ps[i] = []) : neP (ps.drop i) = neP (ps.drop (i + 1)) := by
  unfold neP
  rw [List.drop_eq_getElem_cons h, List.map_cons, List.filter_cons, he]; rfl
theorem neP_take (ps : List ByteArray) (i : Nat) (h : i < ps.length) (he : bs ps[i] ≠ []) : neP (ps.drop i) = bs ps[i] :: neP (ps.drop (i + 1)) := by
  unfold neP
  have : (bs ps[i]).isEmpty = false := by simpa using he
  rw [List.drop_eq_getElem_cons h, List.map_cons, List.filter_cons, this]; rfl

set_option maxHeartbeats 2000000 in
set_option maxRecDepth 100000 in
theorem Pairs_c (A : Nat → Addr) (s : ByteArray) (m : Int) (w : World) (hE : EW A w) (hm : w.cell? ⟨19, 0, none⟩ = some (.int .i64 m)) (hs : s.size ≤ 1048576) :
    Calls Tryd.prog 23 #[.string s] w (FQ A w (pairsS (bs s))) := by
  have HE := As.mk hE
  have HM := As.mk hm
  clear hE hm
  obtain ⟨ps, hps⟩ : ∃ ps, ps = Lib.splitB ⟨#[38]⟩ 0 (Lib.countB s ⟨#[38]⟩) s := ⟨_, rfl⟩
  have HSP : As (∀ w : World, w.cell? ⟨19, 0, none⟩ = some (.int .i64 m) → Calls Tryd.prog 49 #[.string s, .string ⟨#[38]⟩] w fun e w' => e = .returned (.slice (some ⟨w.heap.size, 0, none⟩) ps.length ps.length) ∧ w' = w.alloc (.cells (ps.map Value.string).toArray 9)) := ⟨fun w hm => by
    have := Tryd.strings_Split s ⟨#[38]⟩ m w (by omega) hm (Nat.le_refl 1)
    rw [hps, splitB_len]
    exact this⟩
  have HPS : As (ps.map bs = spl 38 [] (bs s)) := ⟨by rw [hps]; exact splitB_spl 38 s⟩
  have hpl : ps.length ≤ 1048577 ∧ ∀ i (h : i < ps.length), ps[i].size ≤ 1048576 := by
    have h1 := spl_len 38 (bs s) []
    rw [← HPS.out, bs_size, List.length_nil, List.length_map] at h1
    refine ⟨by omega, fun i h => ?_⟩
    have h2 := mem_len (ls := ps.map bs) (x := bs ps[i]) (List.mem_map_of_mem (List.getElem_mem h))
    rw [bs_size] at h2
    omega
  have HPL := hid_ hpl.2
  have hpn := hpl.1
  clear hps hpl
  go_enter Tryd.func23, Tryd.ntmps23
  go_wp2_with fail
  refine (HSP.out w HM.out).mono ?_
  rintro e w1 ⟨rfl, hw1⟩
  have HG : As (w1.heap[w.heap.size]? = some (.cells (ps.map Value.string).toArray 9 (0, 0))) := ⟨by rw [hw1]; exact heap_alloc_new w _⟩
  have HB : As (Below w.heap.size w w1) := ⟨by rw [hw1]; exact below_alloc (Below.refl _ _) _⟩
  have hlg : w.heap.size < w1.heap.size := by rw [hw1, alloc_size]; omega
  have HCELL : As (∀ W, Below w1.heap.size w1 W → ∀ i (h : i < ps.length), W.cell? ⟨w.heap.size, i, none⟩ = some (.string ps[i])) := ⟨fun W hW i h => by
    have h1 : w1.cell? ⟨w.heap.size, i, none⟩ = some (.string ps[i]) := by
      rw [Lib.cell_of_heap HG.out]; simp [h]
    exact pw_cell_below hW h1⟩
  clear hw1 HSP HG
  go_wp2_with fail
  go_loopw [5, 21] (fun c5 c21 wr => ∃ i : Nat, c21 = .int .i64 i ∧ i ≤ ps.length ∧ c5 = .int .i64 ((ps.take i).filter (fun t => !(bs t).isEmpty)).length ∧ As (Below w1.heap.size w1 wr)) (fun _ v _ => ps.length - (intOf v).toNat)
  case atStart => exact ⟨0, rfl, Nat.zero_le _, rfl, ⟨Below.refl _ _⟩⟩
  case round =>
    obtain ⟨i, rfl, hi, rfl, HW⟩ := hrel
    have hfl : ((ps.take i).filter (fun t => !(bs t).isEmpty)).length ≤ i := Nat.le_trans (List.length_filter_le _ _) (List.length_take_le _ _)
    by_cases hlt : i < ps.length
    · have hc := HCELL.out wr HW.out i hlt
      have HF := hid_ (filt_snoc ps i hlt)
      generalize hfq : ((ps.take i).filter (fun t => !(bs t).isEmpty)).length = k at *
      by_cases he : bs ps[i] = []
      · obtain ⟨g1, g2, g3⟩ := str_nil _ he
        have HF2 : Hid (((ps.take (i + 1)).filter (fun t => !(bs t).isEmpty)).length = k) := hid_ (by rw [HF.out, he]; rfl)
        clear he hfq
        go_wp2
        go_roundw
        case rel => exact ⟨i + 1, by go_num, by omega, by rw [HF2.out], HW⟩
        case measure => simp [intOf]; omega
      · obtain ⟨g1, g2, g3⟩ := str_some _ he
        have HF2 : Hid (((ps.take (i + 1)).filter (fun t => !(bs t).isEmpty)).length = k + 1) := hid_ (by
          have : (bs ps[i]).isEmpty = false := by simpa using he
          rw [HF.out, this]; rfl)
        clear he hfq
        go_wp2
        go_roundw
        case rel => exact ⟨i + 1, by go_num, by omega, by rw [HF2.out]; go_num, HW⟩
        case measure => simp [intOf]; omega
    · have HN : As (((ps.take i).filter (fun t => !(bs t).isEmpty)).length = (piecesS (bs s)).length) := ⟨by
        rw [List.take_of_length_le (by omega)]
        unfold piecesS
        rw [← HPS.out, List.filter_map, List.length_map]; rfl⟩
      generalize hfq : ((ps.take i).filter (fun t => !(bs t).isEmpty)).length = k at *
      clear hfq
      have hE4 := (HE.out.below (below_nx HB.out HW.out)).cell 4 (by simp [errG])
      by_cases hk : 32 < k
      · have HP : As (pairsS (bs s) = none) := ⟨by unfold pairsS; rw [if_pos (by rw [← HN.out]; exact hk)]⟩
        go_wp2
        go_quiet (fail)
        go_wp2
        go_ret2
        exact ⟨fun q hq => absurd (HP.out.symm.trans hq) (by simp), fun _ => ⟨4, by simp [errG], rfl⟩, pw_below_drewN (below_nx HB.out HW.out) _⟩
      · have HP : As (pairsS (bs s) = piecesM (neP ps)) := ⟨by
          unfold pairsS neP
          rw [if_neg (by rw [← HN.out]; exact hk), HPS.out]; rfl⟩
        clear hE4
        go_wp2_with (refine make_pairs rfl _ _ rfl k rfl rfl (by omega) ?_; intro v w2 hpr hb2; have HO := As.mk hpr; have HB2 := As.mk (below_nx HW.out hb2); clear hpr hb2)
        have HO1 : As (PR w1.heap.size v [] w2) := ⟨by
          refine ⟨HO.out.1, ?_⟩
          rcases HO.out.2 with h0 | ⟨g, cap, cur, e1, e2, e3⟩
          · exact .inl h0
          · exact .inr ⟨g, cap, cur, e1, Nat.le_trans HW.out.size e2, e3⟩⟩
        clear HO HW
        go_loopw [8, 37] (fun c8 c37 wr => ∃ (i : Nat) (acc : List (List UInt8 × List UInt8)), c37 = .int .i64 i ∧ i ≤ ps.length ∧ acc.length ≤ i ∧ As (PR w1.heap.size c8 (acc.map prOf) wr) ∧ As ((piecesM (neP (ps.drop i))).map (acc ++ ·) = pairsS (bs s)) ∧ As (Below w1.heap.size w1 wr)) (fun _ v _ => ps.length - (intOf v).toNat)
        case atStart => exact ⟨0, [], rfl, Nat.zero_le _, Nat.le_refl _, HO1, ⟨by rw [HP.out]; simp⟩, HB2⟩
        case round =>
          clear HO1 HB2 HP HN
          obtain ⟨i, acc, rfl, hi, hacc, HO, HU, HW⟩ := hrel
          by_cases hlt : i < ps.length
          · have hc := HCELL.out wr HW.out i hlt
            have hsz := HPL.out i hlt
            by_cases he : bs ps[i] = []
            · obtain ⟨g1, g2, g3⟩ := str_nil _ he
              have HU2 : As ((piecesM (neP (ps.drop (i + 1)))).map (acc ++ ·) = pairsS (bs s)) := ⟨by rw [← HU.out, neP_skip ps i hlt he]⟩
              clear he
              go_wp2
              go_roundw
              case rel => exact ⟨i + 1, acc, by go_num, by omega, by omega, HO, HU2, HW⟩
              case measure => simp [intOf]; omega
            · obtain ⟨g1, g2, g3⟩ := str_some _ he
              have HU2 : As ((piecesM (bs ps[i] :: neP (ps.drop (i + 1)))).map (acc ++ ·) = pairsS (bs s)) := ⟨by rw [← HU.out, neP_take ps i hlt he]⟩
              have HMr := pw_cell_below (below_nx HB.out HW.out) HM.out
              have HMM := hid_ HMr
              clear he HU HMr
              go_wp2_with fail
              refine (cut_c ps[i] 61 m _ hsz HMM.out).mono ?_
              rintro e w3 ⟨rfl, n3, rfl⟩
              have hsa : (sb (cutA 61 (bs ps[i]))).size ≤ 1048576 := by rw [size_sb]; have := cutA_le 61 (bs ps[i]); rw [bs_size] at this; omega
              have hsb : (sb (cutB 61 (bs ps[i]))).size ≤ 1048576 := by rw [size_sb]; have := cutB_le 61 (bs ps[i]); rw [bs_size] at this; omega
              have hba := bs_sb (cutA 61 (bs ps[i]))
              have hbb := bs_sb (cutB 61 (bs ps[i]))
              generalize sb (cutA 61 (bs ps[i])) = ta at *
              generalize sb (cutB 61 (bs ps[i])) = tb at *
              have HBA := hid_ hba
              have HBB := hid_ hbb
              clear hba hbb
              have HW3 : As (Below w1.heap.size w1 (wr.drewN n3)) := ⟨pw_below_drewN HW.out n3⟩
              have HO3 : As (PR w1.heap.size u8 (acc.map prOf) (wr.drewN n3)) := ⟨HO.out.below (pw_below_drewN (Below.refl _ _) n3)⟩
              generalize wr.drewN n3 = w3 at *
              clear HW HO hc HMM
              go_wp2_with fail
              refine (Unescape_c A ta true w3 (HE.out.below (below_nx HB.out HW3.out)) (by omega)).mono ?_
              rintro e w4 ⟨hy4, hn4, hb4⟩
              have HW4 := As.mk (below_nx HW3.out hb4)
              have HO4 := As.mk (HO3.out.below hb4)
              have HUA : As (unesc true (bs ta) = unesc true (cutA 61 (bs ps[i]))) := ⟨by rw [HBA.out]⟩
              have HUB : As (unesc true (bs tb) = unesc true (cutB 61 (bs ps[i]))) := ⟨by rw [HBB.out]⟩
              clear hb4 HW3 HO3
              cases hua : unesc true (bs ta) with
              | none =>
                have HN : As (pairsS (bs s) = none) := ⟨by
                  have : pieceS (bs ps[i]) = none := by unfold pieceS; rw [← HUA.out, hua]
                  rw [← HU2.out]; simp only [piecesM, this]; rfl⟩
                rw [hn4 hua]
                clear hy4 hn4 hua
                go_wp2
                go_ret2
                exact ⟨fun q hq => absurd (HN.out.symm.trans hq) (by simp), fun _ => ⟨0, by simp [errG], rfl⟩, below_nx HB.out HW4.out⟩
              | some la =>
                have hla : (sb la).size ≤ 1048576 := by
                  have := unesc_len true _ _ hua
                  rw [bs_size] at this
                  rw [size_sb]; omega
                rw [hy4 la hua]
                clear hy4 hn4
                have HUA2 := hid_ (HUA.out.symm.trans hua)
                clear hua
                obtain ⟨tx, htx⟩ : ∃ tx, tx = sb la := ⟨_, rfl⟩
                rw [← htx] at hla ⊢
                have HTX := hid_ htx
                clear htx
                go_wp2_with fail
                refine (Unescape_c A tb true w4 (HE.out.below (below_nx HB.out HW4.out)) (by omega)).mono ?_
                rintro e w5 ⟨hy5, hn5, hb5⟩
                have HW5 := As.mk (below_nx HW4.out hb5)
                have HO5 := As.mk (HO4.out.below hb5)
                clear hb5 HW4 HO4
                cases hub : unesc true (bs tb) with
                | none =>
                  have HN : As (pairsS (bs s) = none) := ⟨by
                    have : pieceS (bs ps[i]) = none := by unfold pieceS; rw [HUA2.out, ← HUB.out, hub]
                    rw [← HU2.out]; simp only [piecesM, this]; rfl⟩
                  rw [hn5 hub]
                  clear hy5 hn5 hub
                  go_wp2
                  go_ret2
                  exact ⟨fun q hq => absurd (HN.out.symm.trans hq) (by simp), fun _ => ⟨0, by simp [errG], rfl⟩, below_nx HB.out HW5.out⟩
                | some lb =>
                  have hlb : (sb lb).size ≤ 1048576 := by
                    have := unesc_len true _ _ hub
                    rw [bs_size] at this
                    rw [size_sb]; omega
                  have HN : As ((piecesM (neP (ps.drop (i + 1)))).map ((acc ++ [(la, lb)]) ++ ·) = pairsS (bs s)) := ⟨by
                    have : pieceS (bs ps[i]) = some (la, lb) := by unfold pieceS; rw [HUA2.out, ← HUB.out, hub]
                    rw [← HU2.out, piecesM_app _ _ _ _ this]⟩
                  rw [hy5 lb hub]
                  clear hy5 hn5 hub
                  obtain ⟨ty, hty⟩ : ∃ ty, ty = sb lb := ⟨_, rfl⟩
                  rw [← hty] at hlb ⊢
                  have HTY := hid_ hty
                  clear hty
                  have HLL : As (((acc.map prOf).length + 1) * 32 ≤ 140737488355328 ∧ w1.heap.size ≤ w5.heap.size) := ⟨by rw [List.length_map]; omega, HW5.out.size⟩
                  go_wp2_with (at_builtin; refine pair_app (W := w5) w1.heap.size rfl _ _ rfl u8 (acc.map prOf) ⟨tx, ty⟩ rfl rfl _ rfl HO5.out HLL.out.2 HLL.out.1 ?_; intro v1 w6 hpr hg; have HO6 := As.mk hpr; have HW6 : As (Below w1.heap.size w1 w6) := ⟨HO5.out.grown hg HW5.out (Nat.le_refl _)⟩; clear hpr hg HO5 HW5)
                  have HO7 : As (PR w1.heap.size v1 ((acc ++ [(la, lb)]).map prOf) w6) := ⟨by
                    rw [List.map_append]
                    have : prOf (la, lb) = ⟨tx, ty⟩ := by unfold prOf; rw [HTX.out, HTY.out]
                    rw [List.map_cons, List.map_nil, this]
                    exact HO6.out⟩
                  exact ⟨⟨i + 1, acc ++ [(la, lb)], by go_num, by omega, by simp only [List.length_append, List.length_cons, List.length_nil]; omega, HO7, HN, HW6⟩, by simp [intOf]; omega⟩
          · have HN : As (pairsS (bs s) = some acc) := ⟨by
              rw [← HU.out, List.drop_of_length_le (by omega)]
              simp [neP, piecesM]⟩
            go_wp2
            go_ret2
            refine ⟨fun q hq => ⟨_, rfl, ?_⟩, fun hq => absurd (HN.out.symm.trans hq) (by simp), below_nx HB.out HW.out⟩
            obtain rfl : acc = q := Option.some.inj (HN.out.symm.trans hq)
            refine ⟨HO.out.1, ?_⟩
            rcases HO.out.2 with h0 | ⟨g, cap, cur, e1, e2, e3⟩
            · exact .inl h0
            · exact .inr ⟨g, cap, cur, e1, Nat.le_trans HB.out.size e2, e3⟩
end Go.Proofs.YtegeijlookpgaaaDoor
