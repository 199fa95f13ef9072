/- What the reference's piece and Pairs compute. -/
import Derived.Test.YtegeijlookpgaaaDoorG6
set_option linter.unusedVariables false
set_option linter.unusedSimpArgs false
namespace Go.Proofs.YtegeijlookpgaaaDoor
open Go.RowKit Go.Proofs.YtegeijlookpgaaaDoorW.PrintWords

/-- a pair, or the number 2 -/
structure XQ (w : World) (o : Option (List UInt8 × List UInt8)) (e : Ending) (w' : World) : Prop where
  yes : ∀ x, o = some x → e = .returned (.tuple #[.agg #[.string (sb x.1), .string (sb x.2)], .int .i64 0])
  no : o = none → e = .returned (.tuple #[.agg #[.string ⟨#[]⟩, .string ⟨#[]⟩], .int .i64 2])
  fr : Below w.heap.size w w'
theorem XQ.none_ {w w' : World} {o : Option (List UInt8 × List UInt8)} {e : Ending} (h : o = none) (he : e = .returned (.tuple #[.agg #[.string ⟨#[]⟩, .string ⟨#[]⟩], .int .i64 2])) (hb : Below w.heap.size w w') : XQ w o e w' :=
  ⟨fun r h' => absurd (h.symm.trans h') (by simp), fun _ => he, hb⟩
theorem XQ.some_ {w w' : World} {o : Option (List UInt8 × List UInt8)} {e : Ending} {x : List UInt8 × List UInt8} (h : o = some x) (he : e = .returned (.tuple #[.agg #[.string (sb x.1), .string (sb x.2)], .int .i64 0])) (hb : Below w.heap.size w w') : XQ w o e w' :=
  ⟨fun r h' => by obtain rfl : x = r := Option.some.inj (h.symm.trans h'); exact he, fun hn => absurd (h.symm.trans hn) (by simp), hb⟩

set_option maxHeartbeats 2000000 in
set_option maxRecDepth 100000 in
theorem refPiece_c (s : ByteArray) (w : World) (hs : s.size ≤ 1048576) :
    Calls Tryd.prog 92 #[.string s] w (XQ w (pieceS (bs s))) := by
  have HB : As (Below w.heap.size w (w.alloc (.cells #[.string ⟨#[]⟩, .string ⟨#[]⟩] 29))) := ⟨below_alloc (Below.refl _ _) _⟩
  have HX : As ((w.alloc (.cells #[.string ⟨#[]⟩, .string ⟨#[]⟩] 29)).heap[w.heap.size]? = some (.cells #[.string ⟨#[]⟩, .string ⟨#[]⟩] 29 (0, 0))) := ⟨heap_alloc_new w _⟩
  go_enter Tryd.func92, Tryd.ntmps92
  go_wp2_with fail
  generalize w.alloc (.cells #[.string ⟨#[]⟩, .string ⟨#[]⟩] 29) = w0 at *
  refine (find_c s 61 _ rfl _ (by omega)).mono ?_
  rintro e w' ⟨⟨j, rfl, hfp⟩, rfl⟩
  have HFP := As.mk hfp
  have hj := hfp.le
  have hsz : (s.extract 0 j).size ≤ 1099511627776 := by rw [ext_size s 0 j hj]; omega
  have HA : As (bs (s.extract 0 j) = cutA 61 (bs s)) := ⟨by rw [slice_to s j hj, bs_sb, hfp.a]⟩
  clear hfp
  go_wp2_with fail
  refine (refUnescape_c (s.extract 0 j) true _ hsz).mono ?_
  rintro e w1 ⟨hy, hn, hb1⟩
  rw [HA.out] at hy hn
  have HB1 := As.mk (below_nx HB.out hb1)
  have HX1 : As (w1.heap[w.heap.size]? = some (.cells #[.string ⟨#[]⟩, .string ⟨#[]⟩] 29 (0, 0))) := ⟨(hb1.block _ (Array.getElem?_eq_some_iff.1 HX.out).1).trans HX.out⟩
  clear hb1 HB HX
  have c0 : w1.cell? ⟨w.heap.size, 0, none⟩ = some (.string ⟨#[]⟩) := by rw [Lib.cell_of_heap HX1.out]; rfl
  have c1 : w1.cell? ⟨w.heap.size, 1, none⟩ = some (.string ⟨#[]⟩) := by rw [Lib.cell_of_heap HX1.out]; rfl
  have f0 : w1.frozen? ⟨w.heap.size, 0, none⟩ = false := Lib.frozen_of_heap HX1.out 0
  have f1 : w1.frozen? ⟨w.heap.size, 1, none⟩ = false := Lib.frozen_of_heap HX1.out 1
  cases ha : unesc true (cutA 61 (bs s)) with
  | none =>
    have HN : As (pieceS (bs s) = none) := ⟨by unfold pieceS; rw [ha]⟩
    rw [hn ha]
    clear hy hn ha
    go_wp2
    refine bodyPost_ret (v := .tuple #[.agg #[.string ⟨#[]⟩, .string ⟨#[]⟩], .int .i64 2]) (by simp [results, Tryd.results92, go_sem, c0, c1, f0, f1]) rfl ?_
    exact XQ.none_ HN.out rfl ((HB1.out.setCell (Nat.le_refl _) _).setCell (Nat.le_refl _) _)
  | some la =>
    have HUA := hid_ ha
    rw [hy la ha]
    obtain ⟨tx, htx⟩ : ∃ tx, tx = sb la := ⟨_, rfl⟩
    rw [← htx]
    have HTX := hid_ htx
    clear hy hn ha htx
    rcases Nat.lt_or_ge j s.size with hlt | hge
    · have q0 : ((j : Int) == (s.size : Int)) = false := by rw [beq_eq_false_iff_ne]; omega
      have HB2 : As (bs (s.extract (j + 1) s.size) = cutB 61 (bs s)) := ⟨by rw [slice_from s (j + 1) hlt, bs_sb, (HFP.out.b hlt).1]⟩
      have hsz2 : (s.extract (j + 1) s.size).size ≤ 1099511627776 := by rw [ext_size s (j + 1) s.size (Nat.le_refl _)]; omega
      have k1 : (0 : Int) ≤ (j : Int) + 1 := by omega
      have k2 : (j : Int) + 1 ≤ (s.size : Int) := by omega
      have k3 : ((j : Int) + 1).toNat = j + 1 := by omega
      go_wp2_with fail
      refine (refUnescape_c (s.extract (j + 1) s.size) true _ hsz2).mono ?_
      rintro e w2 ⟨hy, hn, hb2⟩
      rw [HB2.out] at hy hn
      have HB3 := As.mk (below_nx HB1.out hb2)
      have HX2 : As (w2.heap[w.heap.size]? = some (.cells #[.string ⟨#[]⟩, .string ⟨#[]⟩] 29 (0, 0))) := ⟨(hb2.block _ (Array.getElem?_eq_some_iff.1 HX1.out).1).trans HX1.out⟩
      clear hb2 c0 c1 f0 f1
      have c0 : w2.cell? ⟨w.heap.size, 0, none⟩ = some (.string ⟨#[]⟩) := by rw [Lib.cell_of_heap HX2.out]; rfl
      have c1 : w2.cell? ⟨w.heap.size, 1, none⟩ = some (.string ⟨#[]⟩) := by rw [Lib.cell_of_heap HX2.out]; rfl
      have f0 : w2.frozen? ⟨w.heap.size, 0, none⟩ = false := Lib.frozen_of_heap HX2.out 0
      have f1 : w2.frozen? ⟨w.heap.size, 1, none⟩ = false := Lib.frozen_of_heap HX2.out 1
      cases hb : unesc true (cutB 61 (bs s)) with
      | none =>
        have HN : As (pieceS (bs s) = none) := ⟨by unfold pieceS; rw [HUA.out, hb]⟩
        rw [hn hb]
        clear hy hn hb
        go_wp2
        refine bodyPost_ret (v := .tuple #[.agg #[.string ⟨#[]⟩, .string ⟨#[]⟩], .int .i64 2]) (by simp [results, Tryd.results92, go_sem, c0, c1, f0, f1]) rfl ?_
        exact XQ.none_ HN.out rfl ((HB3.out.setCell (Nat.le_refl _) _).setCell (Nat.le_refl _) _)
      | some lb =>
        have HN : As (pieceS (bs s) = some (la, lb)) := ⟨by unfold pieceS; rw [HUA.out, hb]⟩
        rw [hy lb hb]
        obtain ⟨ty, hty⟩ : ∃ ty, ty = sb lb := ⟨_, rfl⟩
        rw [← hty]
        have HTY := hid_ hty
        clear hy hn hb hty
        go_wp2
        refine bodyPost_ret (v := .tuple #[.agg #[.string tx, .string ty], .int .i64 0]) (by simp [results, Tryd.results92, go_sem, c0, c1, f0, f1]) rfl ?_
        refine XQ.some_ HN.out ?_ ((HB3.out.setCell (Nat.le_refl _) _).setCell (Nat.le_refl _) _)
        rw [HTX.out, HTY.out]
    · have hje : j = s.size := by omega
      have q0 : ((j : Int) == (s.size : Int)) = true := by rw [beq_iff_eq]; omega
      have HN : As (pieceS (bs s) = some (la, [])) := ⟨by unfold pieceS; rw [HUA.out, (HFP.out.n hje).1, unesc_nil]⟩
      clear hje
      go_wp2
      refine bodyPost_ret (v := .tuple #[.agg #[.string tx, .string ⟨#[]⟩], .int .i64 0]) (by simp [results, Tryd.results92, go_sem, c0, c1, f0, f1]) rfl ?_
      refine XQ.some_ HN.out ?_ ((HB1.out.setCell (Nat.le_refl _) _).setCell (Nat.le_refl _) _)
      rw [HTX.out]

/-- pairs, or a number above 0 -/
structure GQ (w : World) (o : Option (List (List UInt8 × List UInt8))) (e : Ending) (w' : World) : Prop where
  yes : ∀ ps, o = some ps → ∃ v, e = .returned (.tuple #[v, .int .i64 0]) ∧ PR w.heap.size v (ps.map prOf) w'
  no : o = none → e = .returned (.tuple #[.slice none 0 0, .int .i64 2]) ∨ e = .returned (.tuple #[.slice none 0 0, .int .i64 3])
  fr : Below w.heap.size w w'
theorem piecesS_len (l : List UInt8) : (piecesS l).length ≤ l.length + 1 ∧ ∀ p ∈ piecesS l, p.length ≤ l.length := by
  have h2 := spl_len 38 l []
  simp only [List.length_nil] at h2
  refine ⟨?_, fun p hp => ?_⟩
  · unfold piecesS
    exact Nat.le_trans (List.length_filter_le _ _) (by omega)
  · unfold piecesS at hp
    have h1 := mem_len (List.mem_filter.1 hp).1
    have h3 : 1 ≤ (spl 38 [] l).length := List.length_pos_of_mem (List.mem_filter.1 hp).1
    omega

set_option maxHeartbeats 2000000 in
set_option maxRecDepth 100000 in
theorem refPairs_c (s : ByteArray) (w : World) (hs : s.size ≤ 1048576) :
    Calls Tryd.prog 58 #[.string s] w (GQ w (pairsS (bs s))) := by
  have hpc := piecesS_len (bs s)
  rw [bs_size] at hpc
  have HPC := hid_ hpc.2
  have hpn := hpc.1
  have HPS : As (pairsS (bs s) = if (piecesS (bs s)).length > 32 then none else piecesM (piecesS (bs s))) := ⟨rfl⟩
  clear hpc
  go_enter Tryd.func58, Tryd.ntmps58
  go_wp2_with fail
  refine (refPieces_c s _ hs).mono ?_
  rintro e w1 ⟨⟨v, rfl, hsr⟩, hb1⟩
  have HB1 := As.mk hb1
  have HSR := As.mk hsr
  clear hsr hb1
  generalize piecesS (bs s) = ps at *
  obtain ⟨A, c, rfl, hre⟩ := HSR.out.reads
  have HCELL : As (∀ W, Below w1.heap.size w1 W → ∀ i (h : i < ps.length), ∃ ad, A = some ad ∧ W.cell? (ad.add i) = some (.string (sb ps[i]))) := ⟨fun W hW i h => by
    obtain ⟨ad, e, hc⟩ := hre i h
    exact ⟨ad, e, pw_cell_below hW hc⟩⟩
  clear hre HSR
  by_cases hk : 32 < ps.length
  · have HN : As (pairsS (bs s) = none) := ⟨by rw [HPS.out, if_pos hk]⟩
    go_wp2
    go_ret2
    exact ⟨fun q hq => absurd (HN.out.symm.trans hq) (by simp), fun _ => .inr rfl, HB1.out⟩
  · have HN : As (pairsS (bs s) = piecesM ps) := ⟨by rw [HPS.out, if_neg hk]⟩
    clear HPS
    go_wp2
    go_loopw [5, 6] (fun c5 c6 wr => ∃ (i : Nat) (acc : List (List UInt8 × List UInt8)), c6 = .int .i64 i ∧ i ≤ ps.length ∧ acc.length ≤ i ∧ As (PR w1.heap.size c5 (acc.map prOf) wr) ∧ As ((piecesM (ps.drop i)).map (acc ++ ·) = pairsS (bs s)) ∧ As (Below w1.heap.size w1 wr)) (fun _ v _ => ps.length - (intOf v).toNat)
    case atStart => exact ⟨0, [], rfl, Nat.zero_le _, Nat.le_refl _, ⟨PR.nil _ _⟩, ⟨by rw [HN.out]; simp⟩, ⟨Below.refl _ _⟩⟩
    case round =>
      clear HN
      obtain ⟨i, acc, rfl, hi, hacc, HO, HU, HW⟩ := hrel
      by_cases hlt : i < ps.length
      · obtain ⟨ad, rfl, hc⟩ := HCELL.out wr HW.out i hlt
        have hsz : (sb ps[i]).size ≤ 1048576 := by
          rw [size_sb]
          have := HPC.out _ (List.getElem_mem hlt)
          omega
        have HU2 : As ((piecesM (bs (sb ps[i]) :: ps.drop (i + 1))).map (acc ++ ·) = pairsS (bs s)) := ⟨by rw [← HU.out, bs_sb, ← List.drop_eq_getElem_cons hlt]⟩
        generalize sb ps[i] = t at *
        go_wp2_with fail
        clear hc
        refine (refPiece_c t _ hsz).mono ?_
        rintro e w3 ⟨hy, hn, hb3⟩
        have HW3 := As.mk (below_nx HW.out hb3)
        have HO3 := As.mk (HO.out.below hb3)
        clear hb3 HW HO HU
        cases hp : pieceS (bs t) with
        | none =>
          have HN : As (pairsS (bs s) = none) := ⟨by rw [← HU2.out]; simp only [piecesM, hp]; rfl⟩
          rw [hn hp]
          clear hy hn hp
          go_wp2
          go_ret2
          exact ⟨fun q hq => absurd (HN.out.symm.trans hq) (by simp), fun _ => .inl rfl, below_nx HB1.out (below_alloc HW3.out _)⟩
        | some x =>
          have HN : As ((piecesM (ps.drop (i + 1))).map ((acc ++ [x]) ++ ·) = pairsS (bs s)) := ⟨by rw [← HU2.out, piecesM_app _ _ _ _ hp]⟩
          rw [hy x hp]
          have hx : prOf x = ⟨sb x.1, sb x.2⟩ := rfl
          obtain ⟨tx, htx⟩ : ∃ tx, tx = sb x.1 := ⟨_, rfl⟩
          obtain ⟨ty, hty⟩ : ∃ ty, ty = sb x.2 := ⟨_, rfl⟩
          rw [← htx, ← hty] at hx ⊢
          have HXX := hid_ hx
          clear hy hn hp hx htx hty HU2
          have HO4 : As (PR w1.heap.size u5 (acc.map prOf) (w3.alloc (.cells #[.string tx, .string ty] 29))) := ⟨HO3.out.below (below_alloc (Below.refl _ _) _)⟩
          have HW4 : As (Below w1.heap.size w1 (w3.alloc (.cells #[.string tx, .string ty] 29))) := ⟨below_alloc HW3.out _⟩
          have HLL : As (((acc.map prOf).length + 1) * 32 ≤ 140737488355328 ∧ w1.heap.size ≤ (w3.alloc (.cells #[.string tx, .string ty] 29)).heap.size) := ⟨by rw [List.length_map]; omega, HW4.out.size⟩
          clear HO3 HW3
          go_wp2_with (at_builtin; refine pair_app (W := w3.alloc (.cells #[.string tx, .string ty] 29)) w1.heap.size rfl _ _ rfl u5 (acc.map prOf) ⟨tx, ty⟩ rfl (by rw [alloc_size]; rfl) _ rfl HO4.out HLL.out.2 HLL.out.1 ?_; intro v1 w6 hpr hg; have HO6 := As.mk hpr; have HW6 : As (Below w1.heap.size w1 w6) := ⟨HO4.out.grown hg HW4.out (Nat.le_refl _)⟩; clear hpr hg HO4 HW4)
          have HO7 : As (PR w1.heap.size v1 ((acc ++ [x]).map prOf) w6) := ⟨by
            rw [List.map_append, List.map_cons, List.map_nil, HXX.out]
            exact HO6.out⟩
          exact ⟨⟨i + 1, acc ++ [x], by go_num, by omega, by simp only [List.length_append, List.length_cons, List.length_nil]; omega, HO7, HN, HW6⟩, by simp [intOf]; omega⟩
      · have HN : As (pairsS (bs s) = some acc) := ⟨by
          rw [← HU.out, List.drop_of_length_le (by omega)]
          simp [piecesM]⟩
        go_wp2
        go_ret2
        refine ⟨fun q hq => ⟨_, rfl, ?_⟩, fun hq => absurd (HN.out.symm.trans hq) (by simp), below_nx HB1.out HW.out⟩
        obtain rfl : acc = q := Option.some.inj (HN.out.symm.trans hq)
        refine ⟨HO.out.1, ?_⟩
        rcases HO.out.2 with h0 | ⟨g, cap, cur, e1, e2, e3⟩
        · exact .inl h0
        · exact .inr ⟨g, cap, cur, e1, Nat.le_trans HB1.out.size e2, e3⟩
end Go.Proofs.YtegeijlookpgaaaDoor
