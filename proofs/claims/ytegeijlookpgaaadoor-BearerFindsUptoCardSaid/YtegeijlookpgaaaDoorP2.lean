/- The argument of BearerFinds opened, and what its bulk bounds. -/
import Derived.Test.YtegeijlookpgaaaDoorH3
import Derived.Test.YtegeijlookpgaaaDoorBulk
import Derived.Deep.SlicePairs
import Derived.ChangeSame
import Derived.Carry
import Derived.WideKeyArgs
set_option linter.unusedVariables false
set_option linter.unusedSimpArgs false
namespace Go.Proofs.YtegeijlookpgaaaDoor
open Go.ChangeShapes Go.WideShapes Go.RowKit Go.Deep Go.Proofs.YtegeijlookpgaaaDoorW.PrintWords

theorem cells32 : Tryd.prog.cellsOf 32 = 6 := by kernel_rfl
theorem cells29 : Tryd.prog.cellsOf 29 = 2 := by kernel_rfl
theorem cells9 : Tryd.prog.cellsOf 9 = 1 := by kernel_rfl
theorem cells22 : Tryd.prog.cellsOf 22 = 1 := by kernel_rfl
theorem cells3 : Tryd.prog.cellsOf 3 = 1 := by kernel_rfl
theorem cells4 : Tryd.prog.cellsOf 4 = 1 := by kernel_rfl

theorem trod_struct6 {H : Type} {enc : TypeId × Value → H} {P : Program} {w : World} {base : Nat} {spare : Nat → Bool} {held : Bool} {t : TypeId} {f0 f1 f2 f3 f4 f5 : Field} {fuel : Nat} {cs : List Value} {x : DataW H × List MemPlace} (ht : P.underlying t = some (.struct #[f0, f1, f2, f3, f4, f5])) (h : DataW.trod enc P w base spare held fuel t cs = some x) :
    ∃ y0 y1 y2 y3 y4 y5 n, x = (.agg [y0.1, y1.1, y2.1, y3.1, y4.1, y5.1], y0.2 ++ (y1.2 ++ (y2.2 ++ (y3.2 ++ (y4.2 ++ y5.2))))) ∧ cs.length = P.cellsOf t ∧ DataW.trod enc P w base spare held n f0.type ((cs.drop f0.offset).take (P.cellsOf f0.type)) = some y0 ∧
      DataW.trod enc P w base spare held n f1.type ((cs.drop f1.offset).take (P.cellsOf f1.type)) = some y1 ∧ DataW.trod enc P w base spare held n f2.type ((cs.drop f2.offset).take (P.cellsOf f2.type)) = some y2 ∧
      DataW.trod enc P w base spare held n f3.type ((cs.drop f3.offset).take (P.cellsOf f3.type)) = some y3 ∧ DataW.trod enc P w base spare held n f4.type ((cs.drop f4.offset).take (P.cellsOf f4.type)) = some y4 ∧ DataW.trod enc P w base spare held n f5.type ((cs.drop f5.offset).take (P.cellsOf f5.type)) = some y5 := by
  obtain ⟨xs, n, _, rfl, hl, hlen, hf⟩ := DataW.trod_struct ht h
  match xs, hlen with
  | [y0, y1, y2, y3, y4, y5], _ => exact ⟨y0, y1, y2, y3, y4, y5, n, by simp, hl, by simpa using hf 0 f0 rfl, by simpa using hf 1 f1 rfl, by simpa using hf 2 f2 rfl, by simpa using hf 3 f3 rfl, by simpa using hf 4 f4 rfl, by simpa using hf 5 f5 rfl⟩

/-- how much a list of pairs weighs -/
def tot (l : List Pr) : Nat := (l.map fun p => p.f0.size + p.f1.size + 2).sum
theorem tot_len (l : List Pr) : 2 * l.length ≤ tot l := by
  induction l with
  | nil => simp [tot]
  | cons p r ih =>
    have h2 : tot (p :: r) = (p.f0.size + p.f1.size + 2) + tot r := by simp [tot]
    rw [h2, List.length_cons]; omega
theorem tot_get (l : List Pr) (i : Nat) (h : i < l.length) : l[i].f0.size + l[i].f1.size + 2 ≤ tot l := by
  induction l generalizing i with
  | nil => simp at h
  | cons p r ih =>
    have h2 : tot (p :: r) = (p.f0.size + p.f1.size + 2) + tot r := by simp [tot]
    match i, h with
    | 0, h => rw [h2]; simp
    | i + 1, h => have := ih i (by simpa using h); rw [h2]; simp; omega
/-- the bounds of a request whose bulk is bounded -/
theorem rb_of (q : Rq) (h : q.m.size + q.t.size + q.b.size + tot q.l ≤ 1048576) : RB q ∧ RB (zq q) := by
  have hl := tot_len q.l
  refine ⟨⟨by omega, by omega, by omega, by omega, fun i hi => by have := tot_get q.l i hi; omega, fun i hi => by have := tot_get q.l i hi; omega⟩, ⟨?_, ?_, ?_, ?_, ?_, ?_⟩⟩
  · show q.m.size ≤ _; omega
  · show q.t.size ≤ _; omega
  · show q.b.size ≤ _; omega
  · show (q.l.map addZ).length ≤ _; rw [List.length_map]; omega
  · intro i hi
    have hi' : i < q.l.length := by have : i < (q.l.map addZ).length := hi; rwa [List.length_map] at this
    have := tot_get q.l i hi'
    have e : (zq q).l[i] = addZ q.l[i] := List.getElem_map ..
    rw [e]
    show (q.l[i].f0).size ≤ _; omega
  · intro i hi
    have hi' : i < q.l.length := by have : i < (q.l.map addZ).length := hi; rwa [List.length_map] at this
    have := tot_get q.l i hi'
    have e : (zq q).l[i] = addZ q.l[i] := List.getElem_map ..
    rw [e]
    show (q.l[i].f1 ++ ⟨#[122]⟩).size ≤ _
    rw [ByteArray.size_append]
    have : (⟨#[122]⟩ : ByteArray).size = 1 := rfl
    omega

set_option maxRecDepth 100000 in
/-- a slice of pairs opened -/
theorem open_pairs {H : Type} {enc : TypeId × Value → H} {W : World} {n : Nat} {c : Value} {y : DataW H × List MemPlace}
    (h : DataW.trod enc Tryd.prog W 0 (fun _ => true) true n 22 [c] = some y) :
    ∃ (A : Option Addr) (cap : Nat) (l : List Pr), c = .slice A l.length cap ∧ l.length ≤ cap ∧ kP.C W A l.length l ∧ tot l ≤ Rows.uptoBulk y.1 := by
  rcases open_slice_pairs Tryd.underlying22 Tryd.underlying29 cells29 rfl rfl cells9 cells9 h with ⟨hc, hx⟩ | ⟨a, len, cap, m, k, V0, V1, D0, D1, P0, P1, hc, _, hl, hm, hmm, hx, hall⟩
  · simp only [List.cons.injEq, and_true] at hc
    subst hc
    subst hx
    refine ⟨none, 0, [], rfl, Nat.le_refl _, ⟨rfl, by decide, fun hn => absurd hn (by simp)⟩, ?_⟩
    exact Nat.zero_le _
  · simp only [List.cons.injEq, and_true] at hc
    subst hc
    simp only [if_true] at hmm
    subst hmm
    have hs : ∀ i, i < m → ∃ s0 s1 : ByteArray, V0 i = .string s0 ∧ V1 i = .string s1 ∧ D0 i = .lit (.string s0.data.toList) ∧ D1 i = .lit (.string s1.data.toList) := fun i hi => by
      obtain ⟨s0, h1, h2, _⟩ := DataW.trod_string Tryd.underlying9 (hall i hi).2.2.1
      obtain ⟨s1, h3, h4, _⟩ := DataW.trod_string Tryd.underlying9 (hall i hi).2.2.2
      simp only [List.cons.injEq, and_true] at h1 h3
      simp only [Prod.mk.injEq] at h2 h4
      exact ⟨s0, s1, h1, h3, h2.1, h4.1⟩
    obtain ⟨q, hq⟩ := choose_lt (fun i hi => (hs i hi).elim fun s0 h => h.elim fun s1 h => (⟨(⟨s0, s1⟩ : Pr), h⟩ : ∃ p : Pr, V0 i = .string p.f0 ∧ V1 i = .string p.f1 ∧ D0 i = .lit (.string p.f0.data.toList) ∧ D1 i = .lit (.string p.f1.data.toList)))
    have hlen : ((List.range len).map q).length = len := by simp
    refine ⟨some a, m, (List.range len).map q, by rw [hlen], by rw [hlen]; exact hl, ?_, ?_⟩
    · rw [hlen]
      refine ⟨hlen, Nat.le_trans hl (by simpa [maxLen] using hm), fun _ => ⟨a, rfl, fun j p hj => ⟨_, rfl, kP_mk W p, fun i u hu => ?_⟩⟩⟩
      have hjl : j < len := by
        have := (List.getElem?_eq_some_iff.1 hj).1
        simpa using this
      have hp : q j = p := by simpa [hjl] using hj
      have hcell := hall j (by omega)
      have hv := hq j (by omega)
      rw [hp] at hv
      show W.cell? (a.add (j * 2 + i)) = some u
      match i, hu with
      | 0, hu => rw [Nat.add_zero, hcell.1, hv.1]; exact hu
      | 1, hu => rw [hcell.2.1, hv.2.1]; exact hu
    · subst hx
      have hmap : (List.range len).map (fun i => DataW.agg [D0 i, D1 i]) = ((List.range len).map q).map (fun p => (DataW.agg [.lit (.string p.f0.data.toList), .lit (.string p.f1.data.toList)] : DataW H)) := by
        rw [List.map_map]
        refine List.map_congr_left (fun i hi => ?_)
        have hv := hq i (by have := List.mem_range.1 hi; omega)
        show _ = DataW.agg [_, _]
        rw [hv.2.2.1, hv.2.2.2]
      have hb : ∀ l : List Pr, Rows.uptoBulkAll (l.map (fun p => (DataW.agg [.lit (.string p.f0.data.toList), .lit (.string p.f1.data.toList)] : DataW H))) = tot l + l.length := by
        intro l
        induction l with
        | nil => rfl
        | cons p r ih =>
          have h2 : tot (p :: r) = (p.f0.size + p.f1.size + 2) + tot r := by simp [tot]
          have e0 : p.f0.data.toList.length = p.f0.size := Array.length_toList
          have e1 : p.f1.data.toList.length = p.f1.size := Array.length_toList
          simp only [List.map_cons, Rows.uptoBulkAll, Rows.uptoBulk, ih, h2, e0, e1, List.length_cons]
          omega
      simp only [Rows.uptoBulk, Rows.uptoBulkAll, hmap, hb]
      omega

set_option maxRecDepth 100000 in
/-- the argument opened -/
theorem open_request {H : Type} {enc : TypeId × Value → H} {W : World} {b0 : Nat} {v : Value} {d : DataW H} {ps : List MemPlace}
    (hval : Value.okWide Tryd.prog W .any b0 32 v) (h : DataW.Trod enc Tryd.prog W 0 (fun _ => true) true 32 v d ps) :
    ∃ (q : Rq) (A : Option Addr) (c : Nat), v = .agg (rqC q A c) ∧ q.l.length ≤ c ∧ kP.C W A q.l.length q.l ∧ q.m.size + q.t.size + q.b.size + tot q.l ≤ Rows.uptoBulk d := by
  obtain ⟨cs, rfl, hsz⟩ := okWide_struct Tryd.underlying32 hval
  rw [cells32] at hsz
  obtain ⟨fuel, h⟩ := h
  obtain ⟨cl⟩ := cs
  match cl, hsz with
  | [c0, c1, c2, c3, c4, c5], _ =>
    have h' : DataW.trod enc Tryd.prog W 0 (fun _ => true) true fuel 32 [c0, c1, c2, c3, c4, c5] = some (d, ps) := h
    obtain ⟨y0, y1, y2, y3, y4, y5, n, hx, _, t0, t1, t2, t3, t4, t5⟩ := trod_struct6 Tryd.underlying32 h'
    simp only [cells9, cells22, cells3, cells4, List.drop, List.take] at t0 t1 t2 t3 t4 t5
    obtain ⟨s0, e0, rfl, _⟩ := DataW.trod_string Tryd.underlying9 t0
    obtain ⟨s1, e1, rfl, _⟩ := DataW.trod_string Tryd.underlying9 t1
    obtain ⟨k2, e2, rfl, _⟩ := DataW.trod_int Tryd.underlying3 t2
    obtain ⟨s4, e4, rfl, _⟩ := DataW.trod_string Tryd.underlying9 t4
    obtain ⟨b5, e5, rfl⟩ := DataW.trod_bool Tryd.underlying4 t5
    obtain ⟨A, cap, l, rfl, hc, hr, hb⟩ := open_pairs t3
    simp only [List.cons.injEq, and_true] at e0 e1 e2 e4 e5
    subst e0; subst e1; subst e2; subst e4; subst e5
    simp only [Prod.mk.injEq] at hx
    obtain ⟨rfl, rfl⟩ := hx
    refine ⟨⟨s0, s1, k2, l, s4, b5⟩, A, cap, rfl, hc, hr, ?_⟩
    have z0 : s0.data.toList.length = s0.size := Array.length_toList
    have z1 : s1.data.toList.length = s1.size := Array.length_toList
    have z4 : s4.data.toList.length = s4.size := Array.length_toList
    simp only [Rows.uptoBulk, Rows.uptoBulkAll, z0, z1, z4]
    omega
end Go.Proofs.YtegeijlookpgaaaDoor
