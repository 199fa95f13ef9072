/- What the law's pairs and request, and SameRequest, compute. -/
import Derived.Test.YtegeijlookpgaaaDoorM5
import Derived.Deep.QuietTactic
set_option linter.unusedVariables false
set_option linter.unusedSimpArgs false
namespace Go.Proofs.YtegeijlookpgaaaDoor
open Go.RowKit Go.Proofs.YtegeijlookpgaaaDoorW.PrintWords

set_option maxHeartbeats 4000000 in
set_option maxRecDepth 100000 in
theorem pairs22_c (A : Option Addr) (c : Nat) (l : List Pr) (w : World) (hr : kP.C w A l.length l) (hl : l.length ≤ 1099511627776) :
    Calls Tryd.prog 20 #[.slice A l.length c] w fun e w' => (∃ v, e = .returned v ∧ PR w.heap.size v l w') ∧ Below w.heap.size w w' := by
  have HR := As.mk hr
  clear hr
  go_enter Tryd.func20, Tryd.ntmps20
  go_wp2
  go_loopw [3, 4] (fun c3 c4 wr => ∃ i : Nat, c4 = .int .i64 i ∧ i ≤ l.length ∧ As (PR w.heap.size c3 (l.take i) wr) ∧ As (Below w.heap.size w wr)) (fun _ v _ => l.length - (intOf v).toNat)
  case atStart => exact ⟨0, rfl, Nat.zero_le _, ⟨PR.nil _ _⟩, ⟨Below.refl _ _⟩⟩
  case round =>
    obtain ⟨i, rfl, hi, HO, HW⟩ := hrel
    by_cases hlt : i < l.length
    · obtain ⟨ad, rfl, h0, h1⟩ := kP_at HR.out i hlt
      have d0 := pw_cell_below HW.out h0
      have d1 := pw_cell_below HW.out h1
      have HS : As (l.take (i + 1) = l.take i ++ [l[i]]) := ⟨by rw [List.take_add_one, List.getElem?_eq_getElem hlt]; rfl⟩
      have HLL : As (((l.take i).length + 1) * 32 ≤ 140737488355328 ∧ w.heap.size ≤ wr.heap.size) := ⟨by
        have := List.length_take_le i l
        omega, HW.out.size⟩
      clear h0 h1
      go_wp2_with (at_builtin; refine print_append_cells (w0 := wr) w.heap.size rfl _ _ 22 29 (.agg #[(.string ⟨#[]⟩), (.string ⟨#[]⟩)]) 2 32 rfl Tryd.underlying22 iP rfl (by decide) (by decide) u3 (l.take i).length (pcs (l.take i)) [.string l[i].f0, .string l[i].f1] rfl rfl rfl (by intro u hu; simp at hu; rcases hu with rfl | rfl <;> rfl) HO.out ((Below.refl _ _).mono HLL.out.2) HLL.out.2 HLL.out.1 ?_)
      intro v1 w5 hown _ hg _
      have HO5 : As (PR w.heap.size v1 (l.take (i + 1)) w5) := ⟨by
        unfold PR
        rw [HS.out, pcs_append, List.length_append, List.length_take, Nat.min_eq_left hi]
        exact hown⟩
      have HW5 : As (Below w.heap.size w w5) := ⟨HO.out.grown hg HW.out (Nat.le_refl _)⟩
      clear hown hg HO HW HLL d0 d1
      go_wp2
      first
        | exact ⟨⟨i + 1, by go_num, by omega, HO5, HW5⟩, by simp [intOf]; omega⟩
        | (go_roundw
           case rel => exact ⟨i + 1, by go_num, by omega, HO5, HW5⟩
           case measure => simp [intOf]; omega)
    · have HE : As (l.take i = l) := ⟨List.take_of_length_le (by omega)⟩
      go_wp2
      go_ret
      exact ⟨⟨_, rfl, by rw [← HE.out]; exact HO.out⟩, HW.out⟩


/-- a request of the call's own list -/
structure RqQ (q : Rq) (w : World) (e : Ending) (w' : World) : Prop where
  ret : ∃ A c, e = .returned (.agg (rqC q A c)) ∧ q.l.length ≤ c ∧ PR w.heap.size (.slice A q.l.length c) q.l w'
  fr : Below w.heap.size w w'
theorem size_al (w : World) (o : Obj) : (w.alloc o).heap.size = w.heap.size + 1 := Array.size_push ..
set_option maxHeartbeats 4000000 in
set_option maxRecDepth 100000 in
theorem request_c (q : Rq) (R : Option Addr) (c : Nat) (w : World) (hr : kP.C w R q.l.length q.l) (hl : q.l.length ≤ 1048576) :
    Calls Tryd.prog 9 #[.agg (rqC q R c)] w (RqQ q w) := by
  have HR := As.mk hr
  clear hr
  unfold rqC at *
  go_enter Tryd.func9, Tryd.ntmps9
  go_wp2_with fail
  generalize hw1 : (w.alloc (Obj.cells #[Value.string q.m, Value.string q.t, Value.int IntKind.i64 q.k, Value.slice R q.l.length c, Value.string q.b, Value.bool q.cl] 32)).alloc (Obj.cells #[Value.string { data := #[] }, Value.string { data := #[] }, Value.int IntKind.i64 0, Value.slice none 0 0, Value.string { data := #[] }, Value.bool false] 32) = w1 at *
  have hs1 : w1.heap.size = w.heap.size + 2 := by rw [← hw1, size_al, size_al]
  have hb1 : Below w.heap.size w w1 := by rw [← hw1]; exact below_alloc (below_alloc (Below.refl _ _) _) _
  have hx0 : w1.heap[w.heap.size]? = some (.cells #[.string q.m, .string q.t, .int .i64 q.k, .slice R q.l.length c, .string q.b, .bool q.cl] 32 (0, 0)) := by
    rw [← hw1]
    exact ((below_alloc (Below.refl _ _) _).block _ (by rw [size_al]; exact Nat.lt_succ_self _)).trans (heap_alloc_new w _)
  have hx1 : w1.heap[w.heap.size + 1]? = some (.cells #[Value.string { data := #[] }, Value.string { data := #[] }, Value.int IntKind.i64 0, Value.slice none 0 0, Value.string { data := #[] }, Value.bool false] 32 (0, 0)) := by
    rw [← hw1]
    have := heap_alloc_new (w.alloc (Obj.cells #[Value.string q.m, Value.string q.t, Value.int IntKind.i64 q.k, Value.slice R q.l.length c, Value.string q.b, Value.bool q.cl] 32)) (Obj.cells #[Value.string { data := #[] }, Value.string { data := #[] }, Value.int IntKind.i64 0, Value.slice none 0 0, Value.string { data := #[] }, Value.bool false] 32)
    rw [size_al] at this
    exact this
  have HB1 := As.mk hb1
  have HS1 := As.mk hs1
  have HX0 := As.mk hx0
  have HX1 := As.mk hx1
  have HR1 := As.mk (Kd.C_below HR.out hb1)
  clear hw1 hb1 hs1 hx0 hx1 HR
  refine (pairs22_c R c q.l w1 HR1.out (by omega)).mono ?_
  rintro e w2 ⟨⟨v, rfl, hp⟩, hb2⟩
  have hlt : w.heap.size + 1 < w1.heap.size := by rw [HS1.out]; omega
  have hy0 := (hb2.block _ (Nat.lt_of_succ_lt hlt)).trans HX0.out
  have hy1 := (hb2.block _ hlt).trans HX1.out
  have HP := As.mk hp
  have HB2 := As.mk (below_nx HB1.out hb2)
  have HB12 := As.mk hb2
  clear hb2 hlt
  obtain ⟨A', c', rfl, hc', hr'⟩ := hp.reads
  have d0 : w2.cell? ⟨w.heap.size, 0, none⟩ = some (.string q.m) := by rw [Lib.cell_of_heap hy0]; rfl
  have d1 : w2.cell? ⟨w.heap.size, 1, none⟩ = some (.string q.t) := by rw [Lib.cell_of_heap hy0]; rfl
  have d2 : w2.cell? ⟨w.heap.size, 2, none⟩ = some (.int .i64 q.k) := by rw [Lib.cell_of_heap hy0]; rfl
  have d3 : w2.cell? ⟨w.heap.size, 3, none⟩ = some (.slice R q.l.length c) := by rw [Lib.cell_of_heap hy0]; rfl
  have d4 : w2.cell? ⟨w.heap.size, 4, none⟩ = some (.string q.b) := by rw [Lib.cell_of_heap hy0]; rfl
  have d5 : w2.cell? ⟨w.heap.size, 5, none⟩ = some (.bool q.cl) := by rw [Lib.cell_of_heap hy0]; rfl
  have f3 : w2.frozen? ⟨w.heap.size, 3, none⟩ = false := Lib.frozen_of_heap hy0 _
  have e0 : w2.cell? ⟨w.heap.size + 1, 0, none⟩ = some (.string ⟨#[]⟩) := by rw [Lib.cell_of_heap hy1]; rfl
  have e1 : w2.cell? ⟨w.heap.size + 1, 1, none⟩ = some (.string ⟨#[]⟩) := by rw [Lib.cell_of_heap hy1]; rfl
  have e2 : w2.cell? ⟨w.heap.size + 1, 2, none⟩ = some (.int .i64 0) := by rw [Lib.cell_of_heap hy1]; rfl
  have e3 : w2.cell? ⟨w.heap.size + 1, 3, none⟩ = some (.slice none 0 0) := by rw [Lib.cell_of_heap hy1]; rfl
  have e4 : w2.cell? ⟨w.heap.size + 1, 4, none⟩ = some (.string ⟨#[]⟩) := by rw [Lib.cell_of_heap hy1]; rfl
  have e5 : w2.cell? ⟨w.heap.size + 1, 5, none⟩ = some (.bool false) := by rw [Lib.cell_of_heap hy1]; rfl
  have g0 : w2.frozen? ⟨w.heap.size + 1, 0, none⟩ = false := Lib.frozen_of_heap hy1 _
  have g1 : w2.frozen? ⟨w.heap.size + 1, 1, none⟩ = false := Lib.frozen_of_heap hy1 _
  have g2 : w2.frozen? ⟨w.heap.size + 1, 2, none⟩ = false := Lib.frozen_of_heap hy1 _
  have g3 : w2.frozen? ⟨w.heap.size + 1, 3, none⟩ = false := Lib.frozen_of_heap hy1 _
  have g4 : w2.frozen? ⟨w.heap.size + 1, 4, none⟩ = false := Lib.frozen_of_heap hy1 _
  have g5 : w2.frozen? ⟨w.heap.size + 1, 5, none⟩ = false := Lib.frozen_of_heap hy1 _
  clear hp hr' hy0 hy1
  go_wp2
  have HP2 := HP.out
  have hs1 := HS1.out
  refine bodyPost_ret (v := .agg #[.string q.m, .string q.t, .int .i64 q.k, .slice A' q.l.length c', .string q.b, .bool q.cl]) (by simp [results, Tryd.results9, go_sem, d0, d1, d2, d3, d4, d5, e0, e1, e2, e3, e4, e5]) rfl ⟨⟨A', c', rfl, hc', ?_⟩, ?_⟩
  · refine PR.lower (B := w1.heap.size) ?_ (by omega)
    unfold PR at HP2 ⊢
    refine ownsRow_setCell_below (ownsRow_setCell_below (ownsRow_setCell_below (ownsRow_setCell_below (ownsRow_setCell_below (ownsRow_setCell_below (ownsRow_setCell_below HP2 ?_ _) ?_ _) ?_ _) ?_ _) ?_ _) ?_ _) ?_ _ <;> (simp only []; omega)
  · refine Below.setCell (Below.setCell (Below.setCell (Below.setCell (Below.setCell (Below.setCell (Below.setCell HB2.out ?_ _) ?_ _) ?_ _) ?_ _) ?_ _) ?_ _) ?_ _ <;> (simp only []; omega)
set_option maxHeartbeats 4000000 in
set_option maxRecDepth 100000 in
theorem SameRequest_c (q : Rq) (A A' : Option Addr) (c c' : Nat) (w : World) (hr : kP.C w A q.l.length q.l) (hr' : kP.C w A' q.l.length q.l) (hc : q.l.length ≤ c) (hc' : q.l.length ≤ c') :
    Calls Tryd.prog 13 #[.agg (rqC q A c), .agg (rqC q A' c')] w fun e w' => e = .returned (.bool true) ∧ Below w.heap.size w w' := by
  have HR := As.mk hr
  have HR' := As.mk hr'
  clear hr hr'
  unfold rqC at *
  go_enter Tryd.func13, Tryd.ntmps13
  go_wp2_with fail
  generalize hw1 : (w.alloc (Obj.cells #[Value.string q.m, Value.string q.t, Value.int IntKind.i64 q.k, Value.slice A q.l.length c, Value.string q.b, Value.bool q.cl] 32)).alloc (Obj.cells #[Value.string q.m, Value.string q.t, Value.int IntKind.i64 q.k, Value.slice A' q.l.length c', Value.string q.b, Value.bool q.cl] 32) = w1 at *
  have hs1 : w1.heap.size = w.heap.size + 2 := by rw [← hw1, size_al, size_al]
  have hb1 : Below w.heap.size w w1 := by rw [← hw1]; exact below_alloc (below_alloc (Below.refl _ _) _) _
  have hx0 : w1.heap[w.heap.size]? = some (.cells #[.string q.m, .string q.t, .int .i64 q.k, .slice A q.l.length c, .string q.b, .bool q.cl] 32 (0, 0)) := by
    rw [← hw1]
    exact ((below_alloc (Below.refl _ _) _).block _ (by rw [size_al]; exact Nat.lt_succ_self _)).trans (heap_alloc_new w _)
  have hx1 : w1.heap[w.heap.size + 1]? = some (.cells #[.string q.m, .string q.t, .int .i64 q.k, .slice A' q.l.length c', .string q.b, .bool q.cl] 32 (0, 0)) := by
    rw [← hw1]
    have := heap_alloc_new (w.alloc (Obj.cells #[Value.string q.m, Value.string q.t, Value.int IntKind.i64 q.k, Value.slice A q.l.length c, Value.string q.b, Value.bool q.cl] 32)) (Obj.cells #[Value.string q.m, Value.string q.t, Value.int IntKind.i64 q.k, Value.slice A' q.l.length c', Value.string q.b, Value.bool q.cl] 32)
    rw [size_al] at this
    exact this
  have HB1 := As.mk hb1
  have HS1 := As.mk hs1
  have HX0 := As.mk hx0
  have HX1 := As.mk hx1
  have HR1 := As.mk (Kd.C_below HR.out hb1)
  have HR1' := As.mk (Kd.C_below HR'.out hb1)
  clear hw1 hb1 hs1 hx0 hx1 HR HR'
  refine (SamePairs_c A A' c c' q.l w1 HR1.out HR1'.out hc hc').mono ?_
  rintro e w2 ⟨rfl, hb2⟩
  have hlt : w.heap.size + 1 < w1.heap.size := by rw [HS1.out]; omega
  have hy0 := (hb2.block _ (Nat.lt_of_succ_lt hlt)).trans HX0.out
  have hy1 := (hb2.block _ hlt).trans HX1.out
  have HB2 := As.mk (below_nx HB1.out hb2)
  clear hb2 hlt
  have d0 : w2.cell? ⟨w.heap.size, 0, none⟩ = some (.string q.m) := by rw [Lib.cell_of_heap hy0]; rfl
  have e0 : w2.cell? ⟨w.heap.size + 1, 0, none⟩ = some (.string q.m) := by rw [Lib.cell_of_heap hy1]; rfl
  have d1 : w2.cell? ⟨w.heap.size, 1, none⟩ = some (.string q.t) := by rw [Lib.cell_of_heap hy0]; rfl
  have e1 : w2.cell? ⟨w.heap.size + 1, 1, none⟩ = some (.string q.t) := by rw [Lib.cell_of_heap hy1]; rfl
  have d2 : w2.cell? ⟨w.heap.size, 2, none⟩ = some (.int .i64 q.k) := by rw [Lib.cell_of_heap hy0]; rfl
  have e2 : w2.cell? ⟨w.heap.size + 1, 2, none⟩ = some (.int .i64 q.k) := by rw [Lib.cell_of_heap hy1]; rfl
  have d4 : w2.cell? ⟨w.heap.size, 4, none⟩ = some (.string q.b) := by rw [Lib.cell_of_heap hy0]; rfl
  have e4 : w2.cell? ⟨w.heap.size + 1, 4, none⟩ = some (.string q.b) := by rw [Lib.cell_of_heap hy1]; rfl
  have d5 : w2.cell? ⟨w.heap.size, 5, none⟩ = some (.bool q.cl) := by rw [Lib.cell_of_heap hy0]; rfl
  have e5 : w2.cell? ⟨w.heap.size + 1, 5, none⟩ = some (.bool q.cl) := by rw [Lib.cell_of_heap hy1]; rfl
  clear hy0 hy1
  go_wp2
  go_ret
  exact ⟨rfl, HB2.out⟩
end Go.Proofs.YtegeijlookpgaaaDoor
