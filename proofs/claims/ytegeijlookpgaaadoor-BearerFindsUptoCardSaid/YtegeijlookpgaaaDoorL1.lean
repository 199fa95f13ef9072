/- What pairs and SamePairs compute. -/
import Derived.Test.YtegeijlookpgaaaDoorU
import Derived.Test.YtegeijlookpgaaaDoorK
import Derived.Test.YtegeijlookpgaaaDoorWLast
import Derived.StillTailTactics
import Derived.Deep.QuietTactic
import Derived.BigQuiet
set_option linter.unusedVariables false
set_option linter.unusedSimpArgs false
namespace Go.Proofs.YtegeijlookpgaaaDoor
open Go.RowKit Go.Proofs.YtegeijlookpgaaaDoorW.PrintWords

/-- the cells of a row of pairs -/
def pcs (l : List Pr) : List Value := l.flatMap fun p => [.string p.f0, .string p.f1]
theorem pcs_len (l : List Pr) : (pcs l).length = 2 * l.length := by
  induction l with
  | nil => rfl
  | cons p r ih => simp only [pcs, List.flatMap_cons, List.length_append, List.length_cons, List.length_nil] at ih ⊢; omega
theorem pcs_append (l m : List Pr) : pcs (l ++ m) = pcs l ++ pcs m := by simp [pcs]
theorem pcs_cons (p : Pr) (r : List Pr) : pcs (p :: r) = .string p.f0 :: .string p.f1 :: pcs r := rfl
theorem pcs_get : ∀ (l : List Pr) (i : Nat) (p : Pr), l[i]? = some p → (pcs l)[2 * i]? = some (.string p.f0) ∧ (pcs l)[2 * i + 1]? = some (.string p.f1)
  | [], i, p, h => by simp at h
  | q :: r, 0, p, h => by
    obtain rfl : q = p := by simpa using h
    exact ⟨rfl, rfl⟩
  | q :: r, i + 1, p, h => by
    have := pcs_get r i p (by simpa using h)
    rw [pcs_cons, show 2 * (i + 1) = 2 * i + 1 + 1 by omega, show 2 * i + 1 + 1 + 1 = (2 * i + 1) + 1 + 1 by omega]
    simpa using this
/-- v is a row of pairs of the call's own -/
def PR (B : Nat) (v : Value) (l : List Pr) (w : World) : Prop := w.ownsRow B 29 2 v l.length (pcs l)
theorem PR.nil (B : Nat) (w : World) : PR B (.slice none 0 0) [] w := ⟨rfl, .inl ⟨rfl, rfl⟩⟩
theorem PR.form {B : Nat} {v : Value} {l : List Pr} {w : World} (h : PR B v l w) : (v = .slice none 0 0 ∧ l = []) ∨ ∃ g cap cur, v = .slice (some ⟨g, 0, none⟩) l.length cap ∧ B ≤ g ∧ w.heap[g]? = some (.cells cur 29 (0, 0)) ∧ l.length ≤ cap ∧ cap ≤ maxLen ∧ cur.size = cap * 2 ∧ cur.toList.take (2 * l.length) = pcs l := by
  rcases h.2 with ⟨h1, h2⟩ | ⟨g, cap, cur, h1, h2, h3, h4, h5, h6, h7⟩
  · exact .inl ⟨h1, List.eq_nil_of_length_eq_zero h2⟩
  · exact .inr ⟨g, cap, cur, h1, h2, h3, h4, h5, h6, by rw [Nat.mul_comm]; exact h7⟩
theorem PR.below {B : Nat} {v : Value} {l : List Pr} {w w' : World} (h : PR B v l w) (hb : Below w.heap.size w w') : PR B v l w' := by
  refine ⟨h.1, ?_⟩
  rcases h.2 with h0 | ⟨g, cap, cur, h1, h2, h3, h4⟩
  · exact .inl h0
  · exact .inr ⟨g, cap, cur, h1, h2, by rw [hb.block g (Array.getElem?_eq_some_iff.1 h3).1]; exact h3, h4⟩
theorem PR.reads {B : Nat} {v : Value} {l : List Pr} {w : World} (h : PR B v l w) : ∃ A c, v = .slice A l.length c ∧ l.length ≤ c ∧ kP.C w A l.length l := by
  rcases h.form with ⟨rfl, rfl⟩ | ⟨g, cap, cur, rfl, _, h3, h4, h5, h6, h7⟩
  · exact ⟨none, 0, rfl, Nat.le_refl _, ⟨rfl, by decide, fun hn => absurd hn (by simp)⟩⟩
  · refine ⟨_, _, rfl, h4, ⟨rfl, Nat.le_trans h4 (by simpa [maxLen] using h5), fun _ => ⟨_, rfl, fun j p hj => ⟨_, rfl, kP_mk w p, fun i u hu => ?_⟩⟩⟩⟩
    have hp := pcs_get l j p hj
    have hjl : j < l.length := (List.getElem?_eq_some_iff.1 hj).1
    have hadd : (⟨g, 0, none⟩ : Addr).add (j * kP.sz + i) = ⟨g, j * 2 + i, none⟩ := by
      show (⟨g, 0, none⟩ : Addr).add (j * 2 + i) = _
      unfold Addr.add; split <;> simp_all
    have hget : ∀ k, k < 2 * l.length → cur[k]? = (pcs l)[k]? := fun k hk => by rw [← h7, List.getElem?_take, if_pos hk, Array.getElem?_toList]
    rw [hadd, Lib.cell_of_heap h3]
    match i, hu with
    | 0, hu => rw [hget _ (by omega), show j * 2 + 0 = 2 * j by omega, hp.1]; exact hu
    | 1, hu => rw [hget _ (by omega), show j * 2 + 1 = 2 * j + 1 by omega, hp.2]; exact hu
theorem PR.grown {B : Nat} {v : Value} {l : List Pr} {w0 w w' : World} (h : PR B v l w) (hg : w.grownBy w' v.ownBlock) (hb : Below w0.heap.size w0 w) (hB : w0.heap.size ≤ B) : Below w0.heap.size w0 w' :=
  ⟨hg.os.trans hb.os, hg.tape.trans hb.tape, hg.output.trans hb.output, Nat.le_trans hb.size hg.size, fun i hi => (hg.block i (Nat.lt_of_lt_of_le hi hb.size) (fun e => by have := own_base h i e.symm; omega)).trans (hb.block i hi)⟩

set_option maxHeartbeats 4000000 in
set_option maxRecDepth 100000 in
theorem pairs_c (A : Option Addr) (c : Nat) (l : List Pr) (w : World) (hr : kP.C w A l.length l) (hl : l.length ≤ 1099511627776) :
    Calls Tryd.prog 5 #[.slice A l.length c] w fun e w' => (∃ v, e = .returned v ∧ PR w.heap.size v l w') ∧ Below w.heap.size w w' := by
  have HR := As.mk hr
  clear hr
  go_enter Tryd.func5, Tryd.ntmps5
  go_wp2
  go_loopw [3, 4] (fun c3 c4 wr => ∃ i : Nat, c4 = .int .i64 i ∧ i ≤ l.length ∧ As (PR w.heap.size c3 (l.take i) wr) ∧ As (Below w.heap.size w wr)) (fun _ v _ => l.length - (intOf v).toNat)
  case atStart => exact ⟨0, rfl, Nat.zero_le _, ⟨PR.nil _ _⟩, ⟨Below.refl _ _⟩⟩
  case round =>
    obtain ⟨i, rfl, hi, HO, HW⟩ := hrel
    by_cases hlt : i < l.length
    · obtain ⟨ad, rfl, h0, h1⟩ := kP_at HR.out i hlt
      have d0 := pw_cell_below HW.out h0
      have d1 := pw_cell_below HW.out h1
      have HS : As (l.take (i + 1) = l.take i ++ [l[i]]) := ⟨by rw [List.take_add_one, List.getElem?_eq_getElem hlt]; rfl⟩
      have HLL : As (((l.take i).length + 1) * 32 ≤ 140737488355328 ∧ w.heap.size ≤ wr.heap.size) := ⟨by
        have := List.length_take_le i l
        omega, HW.out.size⟩
      clear h0 h1
      go_wp2_with (at_builtin; refine print_append_cells (w0 := wr) w.heap.size rfl _ _ 22 29 (.agg #[(.string ⟨#[]⟩), (.string ⟨#[]⟩)]) 2 32 rfl Tryd.underlying22 iP rfl (by decide) (by decide) u3 (l.take i).length (pcs (l.take i)) [.string l[i].f0, .string l[i].f1] rfl rfl rfl (by intro u hu; simp at hu; rcases hu with rfl | rfl <;> rfl) HO.out ((Below.refl _ _).mono HLL.out.2) HLL.out.2 HLL.out.1 ?_)
      intro v1 w5 hown _ hg _
      have HO5 : As (PR w.heap.size v1 (l.take (i + 1)) w5) := ⟨by
        unfold PR
        rw [HS.out, pcs_append, List.length_append, List.length_take, Nat.min_eq_left hi]
        exact hown⟩
      have HW5 : As (Below w.heap.size w w5) := ⟨HO.out.grown hg HW.out (Nat.le_refl _)⟩
      clear hown hg HO HW HLL d0 d1
      go_wp2
      first
        | exact ⟨⟨i + 1, by go_num, by omega, HO5, HW5⟩, by simp [intOf]; omega⟩
        | (go_roundw
           case rel => exact ⟨i + 1, by go_num, by omega, HO5, HW5⟩
           case measure => simp [intOf]; omega)
    · have HE : As (l.take i = l) := ⟨List.take_of_length_le (by omega)⟩
      go_wp2
      go_ret
      exact ⟨⟨_, rfl, by rw [← HE.out]; exact HO.out⟩, HW.out⟩

set_option maxHeartbeats 4000000 in
set_option maxRecDepth 100000 in
theorem SamePairs_c (A A' : Option Addr) (c c' : Nat) (l : List Pr) (w : World) (hr : kP.C w A l.length l) (hr' : kP.C w A' l.length l) (hc : l.length ≤ c) (hc' : l.length ≤ c') :
    Calls Tryd.prog 7 #[.slice A l.length c, .slice A' l.length c'] w fun e w' => e = .returned (.bool true) ∧ Below w.heap.size w w' := by
  have HR := As.mk hr
  have HR' := As.mk hr'
  have hlen : l.length ≤ 9223372036854775807 := hr.2.1
  clear hr hr'
  have hu29 := Tryd.underlying29
  go_enter Tryd.func7, Tryd.ntmps7
  go_wp2
  repeat (go_quiet (fail); try go_wp2)
  go_loopw [5] (fun c5 wr => ∃ i : Nat, c5 = .int .i64 i ∧ i ≤ l.length ∧ As (Below w.heap.size w wr)) (fun v _ => l.length - (intOf v).toNat)
  case atStart => exact ⟨0, rfl, Nat.zero_le _, ⟨by first | exact Below.refl _ _ | exact pw_below_drewN (Below.refl _ _) _⟩⟩
  case round =>
    obtain ⟨i, rfl, hi, HW⟩ := hrel
    by_cases hlt : i < l.length
    · obtain ⟨ad, rfl, h0, h1⟩ := kP_at HR.out i hlt
      obtain ⟨ad', rfl, h0', h1'⟩ := kP_at HR'.out i hlt
      have d0 := pw_cell_below HW.out h0
      have d1 := pw_cell_below HW.out h1
      have d0' := pw_cell_below HW.out h0'
      have d1' := pw_cell_below HW.out h1'
      have c0 : (0 : Int) ≤ (i : Int) := by omega
      have c1 : (i : Int) < (l.length : Int) := by omega
      clear h0 h1 h0' h1'
      go_wp2
      go_quiet (fail)
      have HW2 : As (Below w.heap.size w (wr.drewN nq)) := ⟨pw_below_drewN HW.out nq⟩
      generalize wr.drewN nq = w2 at *
      clear HW d0 d1 d0' d1'
      go_wp2
      first
        | exact ⟨⟨i + 1, by go_num, by omega, HW2⟩, by simp [intOf]; omega⟩
        | (go_roundw
           case rel => exact ⟨i + 1, by go_num, by omega, HW2⟩
           case measure => simp [intOf]; omega)
    · go_wp2
      go_ret
      exact ⟨rfl, HW.out⟩
end Go.Proofs.YtegeijlookpgaaaDoor
