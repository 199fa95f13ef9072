/- The argument of GrantTicket opened, and what its bulk bounds. -/
import Derived.Test.YtegeijlookpgaaaDoorL2
import Derived.Test.YtegeijlookpgaaaDoorBulk
import Derived.Deep.SlicePairs
import Derived.ChangeSame
import Derived.Carry
import Derived.WideKeyArgs
set_option linter.unusedVariables false
set_option linter.unusedSimpArgs false
namespace Go.Proofs.YtegeijlookpgaaaDoor
open Go.ChangeShapes Go.WideShapes Go.RowKit Go.Deep Go.Proofs.YtegeijlookpgaaaDoorW.PrintWords

theorem cells24 : Tryd.prog.cellsOf 24 = 2 := by kernel_rfl
theorem cells29 : Tryd.prog.cellsOf 29 = 2 := by kernel_rfl
theorem cells9 : Tryd.prog.cellsOf 9 = 1 := by kernel_rfl
theorem cells22 : Tryd.prog.cellsOf 22 = 1 := by kernel_rfl

/-- how much a list of pairs weighs -/
def tot (l : List Pr) : Nat := (l.map fun p => p.f0.size + p.f1.size + 2).sum
theorem formP_le (p : Pr) : (formP p).length ≤ 3 * (p.f0.size + p.f1.size + 1) := by
  have h0 := esc_le true (bs p.f0)
  have h1 := esc_le true (bs p.f1)
  rw [bs_size] at h0 h1
  simp only [formP, List.length_append, List.length_cons, List.length_nil]
  omega
theorem formG_le : ∀ (l : List Pr) (b : Bool), (formG b l).length ≤ 3 * tot l
  | [], b => by simp [formG]
  | p :: r, b => by
    have h0 := formP_le p
    have h1 := formG_le r false
    have h2 : tot (p :: r) = (p.f0.size + p.f1.size + 2) + tot r := by simp [tot]
    have h3 : (if b then ([] : List UInt8) else [38]).length ≤ 1 := by cases b <;> simp
    simp only [formG, List.length_append]
    rw [h2]; omega
theorem form_le (l : List Pr) : (form l).length ≤ 3 * tot l := formG_le l true
theorem tot_addX (l : List Pr) : tot (l.map addX) = tot l + l.length := by
  induction l with
  | nil => rfl
  | cons p r ih =>
    have h2 (q : Pr) (r : List Pr) : tot (q :: r) = (q.f0.size + q.f1.size + 2) + tot r := by simp [tot]
    have hx : (addX p).f1.size = p.f1.size + 1 := by simp [addX, ByteArray.size_append]; rfl
    have hx0 : (addX p).f0 = p.f0 := rfl
    rw [List.map_cons, h2, h2, ih, hx, hx0, List.length_cons]; omega
theorem tot_len (l : List Pr) : 2 * l.length ≤ tot l := by
  induction l with
  | nil => simp [tot]
  | cons p r ih =>
    have h2 : tot (p :: r) = (p.f0.size + p.f1.size + 2) + tot r := by simp [tot]
    rw [h2, List.length_cons]; omega
theorem tot_get (l : List Pr) (i : Nat) (h : i < l.length) : l[i].f1.size ≤ tot l := by
  induction l generalizing i with
  | nil => simp at h
  | cons p r ih =>
    have h2 : tot (p :: r) = (p.f0.size + p.f1.size + 2) + tot r := by simp [tot]
    match i, h with
    | 0, h => rw [h2]; simp; omega
    | i + 1, h => have := ih i (by simpa using h); rw [h2]; simp; omega

set_option maxRecDepth 100000 in
/-- the argument opened -/
theorem open_signed {H : Type} {enc : TypeId × Value → H} {W : World} {b0 : Nat} {v : Value} {d : DataW H} {ps : List MemPlace}
    (hval : Value.okWide Tryd.prog W .any b0 24 v) (h : DataW.Trod enc Tryd.prog W 0 (fun _ => true) true 24 v d ps) :
    ∃ (sid : ByteArray) (A : Option Addr) (c : Nat) (l : List Pr), v = .agg #[.string sid, .slice A l.length c] ∧ l.length ≤ c ∧ kP.C W A l.length l ∧ sid.size + tot l ≤ Rows.uptoBulk d := by
  obtain ⟨cs, rfl, hsz⟩ := okWide_struct Tryd.underlying24 hval
  rw [cells24] at hsz
  obtain ⟨fuel, h⟩ := h
  obtain ⟨cl⟩ := cs
  match cl, hsz with
  | [c0, c1], _ =>
    have h' : DataW.trod enc Tryd.prog W 0 (fun _ => true) true fuel 24 [c0, c1] = some (d, ps) := h
    obtain ⟨y0, y1, n, hx, _, t0, t1⟩ := trod_struct2 Tryd.underlying24 h'
    simp only [cells9, cells22, List.drop, List.take] at t0 t1
    obtain ⟨sid, e0, rfl, _⟩ := DataW.trod_string Tryd.underlying9 t0
    simp only [List.cons.injEq, and_true] at e0
    subst e0
    simp only [Prod.mk.injEq] at hx
    obtain ⟨rfl, rfl⟩ := hx
    rcases open_slice_pairs Tryd.underlying22 Tryd.underlying29 cells29 rfl rfl cells9 cells9 t1 with ⟨hc, hx⟩ | ⟨a, len, cap, m, k, V0, V1, D0, D1, P0, P1, hc, _, hl, hm, hmm, hx, hall⟩
    · simp only [List.cons.injEq, and_true] at hc
      subst hc
      subst hx
      refine ⟨sid, none, 0, [], rfl, Nat.le_refl _, ⟨rfl, by decide, fun hn => absurd hn (by simp)⟩, ?_⟩
      have e2 : sid.data.toList.length = sid.size := Array.length_toList
      have e3 : tot [] = 0 := rfl
      simp only [Rows.uptoBulk, Rows.uptoBulkAll, e2, e3]
      omega
    · simp only [List.cons.injEq, and_true] at hc
      subst hc
      simp only [if_true] at hmm
      subst hmm
      have hs : ∀ i, i < m → ∃ s0 s1 : ByteArray, V0 i = .string s0 ∧ V1 i = .string s1 ∧ D0 i = .lit (.string s0.data.toList) ∧ D1 i = .lit (.string s1.data.toList) := fun i hi => by
        obtain ⟨s0, h1, h2, _⟩ := DataW.trod_string Tryd.underlying9 (hall i hi).2.2.1
        obtain ⟨s1, h3, h4, _⟩ := DataW.trod_string Tryd.underlying9 (hall i hi).2.2.2
        simp only [List.cons.injEq, and_true] at h1 h3
        simp only [Prod.mk.injEq] at h2 h4
        exact ⟨s0, s1, h1, h3, h2.1, h4.1⟩
      obtain ⟨q, hq⟩ := choose_lt (fun i hi => (hs i hi).elim fun s0 h => h.elim fun s1 h => (⟨(⟨s0, s1⟩ : Pr), h⟩ : ∃ p : Pr, V0 i = .string p.f0 ∧ V1 i = .string p.f1 ∧ D0 i = .lit (.string p.f0.data.toList) ∧ D1 i = .lit (.string p.f1.data.toList)))
      have hlen : ((List.range len).map q).length = len := by simp
      refine ⟨sid, some a, m, (List.range len).map q, by rw [hlen], by rw [hlen]; exact hl, ?_, ?_⟩
      · rw [hlen]
        refine ⟨hlen, Nat.le_trans hl (by simpa [maxLen] using hm), fun _ => ⟨a, rfl, fun j p hj => ⟨_, rfl, kP_mk W p, fun i u hu => ?_⟩⟩⟩
        have hjl : j < len := by
          have := (List.getElem?_eq_some_iff.1 hj).1
          simpa using this
        have hp : q j = p := by simpa [hjl] using hj
        have hcell := hall j (by omega)
        have hv := hq j (by omega)
        rw [hp] at hv
        show W.cell? (a.add (j * 2 + i)) = some u
        match i, hu with
        | 0, hu => rw [Nat.add_zero, hcell.1, hv.1]; exact hu
        | 1, hu => rw [hcell.2.1, hv.2.1]; exact hu
      · subst hx
        have hmap : (List.range len).map (fun i => DataW.agg [D0 i, D1 i]) = ((List.range len).map q).map (fun p => (DataW.agg [.lit (.string p.f0.data.toList), .lit (.string p.f1.data.toList)] : DataW H)) := by
          rw [List.map_map]
          refine List.map_congr_left (fun i hi => ?_)
          have hv := hq i (by have := List.mem_range.1 hi; omega)
          show _ = DataW.agg [_, _]
          rw [hv.2.2.1, hv.2.2.2]
        have hb : ∀ l : List Pr, Rows.uptoBulkAll (l.map (fun p => (DataW.agg [.lit (.string p.f0.data.toList), .lit (.string p.f1.data.toList)] : DataW H))) = tot l + l.length := by
          intro l
          induction l with
          | nil => rfl
          | cons p r ih =>
            have h2 : tot (p :: r) = (p.f0.size + p.f1.size + 2) + tot r := by simp [tot]
            have e0 : p.f0.data.toList.length = p.f0.size := Array.length_toList
            have e1 : p.f1.data.toList.length = p.f1.size := Array.length_toList
            simp only [List.map_cons, Rows.uptoBulkAll, Rows.uptoBulk, ih, h2, e0, e1, List.length_cons]
            omega
        have e2 : sid.data.toList.length = sid.size := Array.length_toList
        simp only [Rows.uptoBulk, Rows.uptoBulkAll, hmap, hb, e2]
        omega
end Go.Proofs.YtegeijlookpgaaaDoor
