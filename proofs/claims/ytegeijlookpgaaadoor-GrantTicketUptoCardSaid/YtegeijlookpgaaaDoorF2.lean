/- What the reference's Form computes. -/
import Derived.Test.YtegeijlookpgaaaDoorF1
set_option linter.unusedVariables false
set_option linter.unusedSimpArgs false
namespace Go.Proofs.YtegeijlookpgaaaDoor
open Go.RowKit Go.Proofs.YtegeijlookpgaaaDoorW.PrintWords

theorem below_nx {w w1 w2 : World} (h : Below w.heap.size w w1) (k : Below w1.heap.size w1 w2) : Below w.heap.size w w2 :=
  h.trans ⟨k.os, k.tape, k.output, k.size, fun i hi => k.block i (Nat.lt_of_lt_of_le hi h.size)⟩
theorem BR.zero {B : Nat} {v : Value} {l : List UInt8} {w : World} (h : BR B v l w) : w.ownsRow 0 5 1 v l.length (cells8 l) := by
  refine ⟨h.1, ?_⟩
  rcases h.2 with h0 | ⟨g, cap, cur, h1, h2, h3, h4⟩
  · exact .inl h0
  · exact .inr ⟨g, cap, cur, h1, Nat.zero_le _, h3, h4⟩
/-- append(v, text...): behind 'at_builtin'. -/
theorem byte_app_str {ops : Array Oper} {rest : List Oper} {o : Oper} {a : Act} {Q : Exit → Act → World → Prop} {W : World} (B : Nat) (hgd : o.guard = none) (s x : Operand) (ho : o.op = .call { callee := .builtin .append, args := #[s, x], argTypes := #[69, 9] })
    (v : Value) (l : List UInt8) (y : ByteArray) (hs : a.eval s = v) (hx : a.eval x = .string y) (HO : BR B v l W) (hB : B ≤ W.heap.size) (hl : l.length + y.size ≤ 140737488355328)
    (h : ∀ v1 w1, BR B v1 (l ++ bs y) w1 → W.grownBy w1 v.ownBlock → wpList Tryd.prog ops Q rest (a.put o.dst v1) w1) :
    wpList Tryd.prog ops Q (o :: rest) a W := by
  refine append_str hgd s x 69 9 5 ho Tryd.underlying69 Tryd.underlying9 (by kernel_rfl) v l.length (cells8 l) y hs hx HO.zero hl ?_
  intro v1 w1 hown hg hat
  refine h v1 w1 ?_ hg
  have hown' : w1.ownsRow 0 5 1 v1 (l ++ bs y).length (cells8 (l ++ bs y)) := by
    rw [List.length_append, bs_size, cells8_append]; exact hown
  refine ⟨hown'.1, ?_⟩
  rcases hown'.2 with h0 | ⟨g, cap, cur, h1, h2, h3, h4⟩
  · exact .inl h0
  · refine .inr ⟨g, cap, cur, h1, ?_, h3, h4⟩
    subst h1
    rcases hat with e | ⟨b, e, hb⟩
    · exact HO.own e.symm
    · have : g = b := by simpa [Value.ownBlock] using e
      omega

set_option maxHeartbeats 4000000 in
set_option maxRecDepth 100000 in
theorem refForm_c (A : Option Addr) (c : Nat) (l : List Pr) (w : World) (hr : kP.C w A l.length l) (hl : (form l).length ≤ 268435456) :
    Calls Tryd.prog 17 #[.slice A l.length c] w fun e w' => e = .returned (.string (sb (form l))) ∧ Below w.heap.size w w' := by
  have HR := As.mk hr
  have hlen : l.length ≤ 9223372036854775807 := hr.2.1
  clear hr
  go_enter Tryd.func17, Tryd.ntmps17
  go_wp2
  go_loopw [3, 4] (fun c3 c4 wr => ∃ (i : Nat) (acc : List UInt8), c4 = .int .i64 i ∧ i ≤ l.length ∧ As (acc ++ formG (i == 0) (l.drop i) = form l) ∧ As (BR w.heap.size c3 acc wr) ∧ As (Below w.heap.size w wr)) (fun _ v _ => l.length - (intOf v).toNat)
  case atStart => exact ⟨0, [], rfl, Nat.zero_le _, ⟨rfl⟩, ⟨BR.nil _ _⟩, ⟨Below.refl _ _⟩⟩
  case round =>
    obtain ⟨i, acc, rfl, hi, HE, HO, HW⟩ := hrel
    by_cases hlt : i < l.length
    · obtain ⟨ad, rfl, h0, h1⟩ := kP_at HR.out i hlt
      have H0 := As.mk h0
      have H1 := As.mk h1
      clear h0 h1
      have hstep : formG (i == 0) (l.drop i) = (if i == 0 then [] else [38]) ++ (formP l[i] ++ formG (i + 1 == 0) (l.drop (i + 1))) := by
        rw [List.drop_eq_getElem_cons hlt]; simp [formG]
      have HST := As.mk hstep
      clear hstep
      obtain ⟨acc', HA, hi0⟩ : ∃ acc', As (acc' ++ (formP l[i] ++ formG (i + 1 == 0) (l.drop (i + 1))) = form l) ∧ ((i = 0 ∧ acc' = acc) ∨ (0 < i ∧ acc' = acc ++ [38])) := by
        by_cases h : i = 0
        · exact ⟨acc, ⟨by rw [← HE.out, HST.out, if_pos (by simpa using h)]; rfl⟩, .inl ⟨h, rfl⟩⟩
        · exact ⟨acc ++ [38], ⟨by rw [← HE.out, HST.out, if_neg (by simpa using h)]; simp⟩, .inr ⟨by omega, rfl⟩⟩
      clear HST HE
      have hl' : acc'.length + (esc true (bs l[i].f0)).length + (esc true (bs l[i].f1)).length + 1 ≤ 268435456 := by
        have := congrArg List.length HA.out
        simp only [formP, List.length_append, List.length_singleton] at this
        omega
      have hs0 : l[i].f0.size ≤ 268435456 := by have := le_esc true (bs l[i].f0); rw [bs_size] at this; omega
      have hs1 : l[i].f1.size ≤ 268435456 := by have := le_esc true (bs l[i].f1); rw [bs_size] at this; omega
      rcases hi0 with ⟨hi0, rfl⟩ | ⟨hi0, rfl⟩
      · have hi0' : ¬ 0 < i := by omega
        clear hi0
        have d0 := pw_cell_below HW.out H0.out
        go_wp2_with fail
        refine (refEscape_c _ true _ hs0).mono ?_
        rintro _ w2 ⟨rfl, hb2⟩
        have HO2 := As.mk (HO.out.below hb2)
        have HW2 := As.mk (below_nx HW.out hb2)
        clear hb2 HO HW d0
        have d1 := pw_cell_below HW2.out H1.out
        go_wp2_with fail
        refine (refEscape_c _ true _ hs1).mono ?_
        rintro _ w3 ⟨rfl, hb3⟩
        have HO3 := As.mk (HO2.out.below hb3)
        have HW3 := As.mk (below_nx HW2.out hb3)
        clear hb3 HO2 HW2 d1 H0 H1 HR
        have HE2 : As (acc' ++ bs (sb (esc true (bs l[i].f0))) ++ [61] ++ bs (sb (esc true (bs l[i].f1))) ++ formG (i + 1 == 0) (l.drop (i + 1)) = form l) := ⟨by
          rw [← HA.out]; simp only [bs_sb, formP, List.append_assoc]⟩
        have hz0 : (sb (esc true (bs l[i].f0))).size = (esc true (bs l[i].f0)).length := size_sb _
        have hz1 : (sb (esc true (bs l[i].f1))).size = (esc true (bs l[i].f1)).length := size_sb _
        have HLL : As ((acc').length + (sb (esc true (bs l[i].f0))).size + (sb (esc true (bs l[i].f1))).size + 1 ≤ 268435456) := ⟨by rw [hz0, hz1]; exact hl'⟩
        clear hz0 hz1 hl' hs0 hs1 HA
        generalize sb (esc true (bs l[i].f0)) = y0 at *
        generalize sb (esc true (bs l[i].f1)) = y1 at *
        go_wp2_with (first
          | (at_builtin; refine byte_app_str w.heap.size rfl _ _ rfl u3 (acc') y0 rfl rfl HO3.out HW3.out.size (by have := HLL.out; omega) ?_; intro v4 w4 hbr hg; have HO4 := As.mk hbr; have HW4 : As (Below w.heap.size w w4) := ⟨grown_below HO3.out hg HW3.out (Nat.le_refl _)⟩; clear hbr hg HO3 HW3)
          | (at_builtin; refine byte_app (W := w4) w.heap.size rfl _ _ rfl v4 (acc' ++ bs y0) [61] 1 rfl rfl rfl _ rfl HO4.out HW4.out.size (by have := HLL.out; simp only [List.length_append, List.length_cons, List.length_nil, bs_size] at *; omega) ?_; intro v5 w5 hbr hg; have HO5 := As.mk hbr; have HW5 : As (Below w.heap.size w w5) := ⟨grown_below HO4.out hg HW4.out (Nat.le_refl _)⟩; clear hbr hg HO4 HW4)
          | (at_builtin; refine byte_app_str w.heap.size rfl _ _ rfl v5 (acc' ++ bs y0 ++ [61]) y1 rfl rfl HO5.out HW5.out.size (by have := HLL.out; simp only [List.length_append, List.length_cons, List.length_nil, bs_size] at *; omega) ?_; intro v6 w6 hbr hg; have HO6 := As.mk hbr; have HW6 : As (Below w.heap.size w w6) := ⟨grown_below HO5.out hg HW5.out (Nat.le_refl _)⟩; clear hbr hg HO5 HW5))
        first
          | exact ⟨⟨i + 1, _, by go_num, by omega, HE2, HO6, HW6⟩, by simp [intOf]; omega⟩
          | (go_roundw
             case rel => exact ⟨i + 1, _, by go_num, by omega, HE2, HO6, HW6⟩
             case measure => simp [intOf]; omega)
      · go_wp2_with (first
          | (at_builtin; refine byte_app (W := wr) w.heap.size rfl _ _ rfl u3 acc [38] 1 rfl rfl rfl _ rfl HO.out HW.out.size (by simp only [List.length_append, List.length_cons, List.length_nil] at hl'; omega) ?_; intro v1 w1 hbr hg; have HO1 := As.mk hbr; have HW1 : As (Below w.heap.size w w1) := ⟨grown_below HO.out hg HW.out (Nat.le_refl _)⟩; clear hbr hg HO HW; have d0 := pw_cell_below HW1.out H0.out)
          | fail)
        have HO := HO1
        have HW := HW1
        clear HO1 HW1
        refine (refEscape_c _ true _ hs0).mono ?_
        rintro _ w2 ⟨rfl, hb2⟩
        have HO2 := As.mk (HO.out.below hb2)
        have HW2 := As.mk (below_nx HW.out hb2)
        clear hb2 HO HW d0
        have d1 := pw_cell_below HW2.out H1.out
        go_wp2_with fail
        refine (refEscape_c _ true _ hs1).mono ?_
        rintro _ w3 ⟨rfl, hb3⟩
        have HO3 := As.mk (HO2.out.below hb3)
        have HW3 := As.mk (below_nx HW2.out hb3)
        clear hb3 HO2 HW2 d1 H0 H1 HR
        have HE2 : As (acc ++ [38] ++ bs (sb (esc true (bs l[i].f0))) ++ [61] ++ bs (sb (esc true (bs l[i].f1))) ++ formG (i + 1 == 0) (l.drop (i + 1)) = form l) := ⟨by
          rw [← HA.out]; simp only [bs_sb, formP, List.append_assoc]⟩
        have hz0 : (sb (esc true (bs l[i].f0))).size = (esc true (bs l[i].f0)).length := size_sb _
        have hz1 : (sb (esc true (bs l[i].f1))).size = (esc true (bs l[i].f1)).length := size_sb _
        have HLL : As ((acc ++ [38]).length + (sb (esc true (bs l[i].f0))).size + (sb (esc true (bs l[i].f1))).size + 1 ≤ 268435456) := ⟨by rw [hz0, hz1]; exact hl'⟩
        clear hz0 hz1 hl' hs0 hs1 HA
        generalize sb (esc true (bs l[i].f0)) = y0 at *
        generalize sb (esc true (bs l[i].f1)) = y1 at *
        go_wp2_with (first
          | (at_builtin; refine byte_app_str w.heap.size rfl _ _ rfl v1 (acc ++ [38]) y0 rfl rfl HO3.out HW3.out.size (by have := HLL.out; omega) ?_; intro v4 w4 hbr hg; have HO4 := As.mk hbr; have HW4 : As (Below w.heap.size w w4) := ⟨grown_below HO3.out hg HW3.out (Nat.le_refl _)⟩; clear hbr hg HO3 HW3)
          | (at_builtin; refine byte_app (W := w4) w.heap.size rfl _ _ rfl v4 (acc ++ [38] ++ bs y0) [61] 1 rfl rfl rfl _ rfl HO4.out HW4.out.size (by have := HLL.out; simp only [List.length_append, List.length_cons, List.length_nil, bs_size] at *; omega) ?_; intro v5 w5 hbr hg; have HO5 := As.mk hbr; have HW5 : As (Below w.heap.size w w5) := ⟨grown_below HO4.out hg HW4.out (Nat.le_refl _)⟩; clear hbr hg HO4 HW4)
          | (at_builtin; refine byte_app_str w.heap.size rfl _ _ rfl v5 (acc ++ [38] ++ bs y0 ++ [61]) y1 rfl rfl HO5.out HW5.out.size (by have := HLL.out; simp only [List.length_append, List.length_cons, List.length_nil, bs_size] at *; omega) ?_; intro v6 w6 hbr hg; have HO6 := As.mk hbr; have HW6 : As (Below w.heap.size w w6) := ⟨grown_below HO5.out hg HW5.out (Nat.le_refl _)⟩; clear hbr hg HO5 HW5))
        first
          | exact ⟨⟨i + 1, _, by go_num, by omega, HE2, HO6, HW6⟩, by simp [intOf]; omega⟩
          | (go_roundw
             case rel => exact ⟨i + 1, _, by go_num, by omega, HE2, HO6, HW6⟩
             case measure => simp [intOf]; omega)
    · have hnil : acc = form l := by
        have := HE.out
        rw [List.drop_of_length_le (by omega)] at this
        simpa [formG] using this
      have HN := hid_ hnil
      clear hnil
      go_wp2_with (refine byte_str w.heap.size rfl _ rfl u3 acc rfl HO.out ?_)
      go_ret
      exact ⟨ret_str (by rw [HN.out]), HW.out⟩
end Go.Proofs.YtegeijlookpgaaaDoor
