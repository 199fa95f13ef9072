/- A row of bytes of a call's own: append and string. -/
import Derived.Test.YtegeijlookpgaaaDoorU
import Derived.Test.YtegeijlookpgaaaDoorWWords
import Derived.Laws.BytesArg
set_option linter.unusedVariables false
set_option linter.unusedSimpArgs false
namespace Go.Proofs.YtegeijlookpgaaaDoor
open Go.RowKit Go.Proofs.YtegeijlookpgaaaDoorW.PrintWords

/-- v is a row of bytes of the call's own (its block lies at B or behind), which says l -/
def BR (B : Nat) (v : Value) (l : List UInt8) (w : World) : Prop := w.ownsRow B 5 1 v l.length (cells8 l)
theorem BR.nil (B : Nat) (w : World) : BR B (.slice none 0 0) [] w := ⟨rfl, .inl ⟨rfl, rfl⟩⟩
theorem BR.form {B : Nat} {v : Value} {l : List UInt8} {w : World} (h : BR B v l w) : (v = .slice none 0 0 ∧ l = []) ∨ ∃ g cap cur, v = .slice (some ⟨g, 0, none⟩) l.length cap ∧ B ≤ g ∧ w.heap[g]? = some (.cells cur 5 (0, 0)) ∧ cur.toList.take l.length = cells8 l := by
  rcases h.2 with ⟨h1, h2⟩ | ⟨g, cap, cur, h1, h2, h3, _, _, _, h7⟩
  · exact .inl ⟨h1, List.eq_nil_of_length_eq_zero h2⟩
  · exact .inr ⟨g, cap, cur, h1, h2, h3, by simpa using h7⟩
theorem BR.of_heap {B : Nat} {v : Value} {l : List UInt8} {w w' : World} (h : BR B v l w) (hk : ∀ g, B ≤ g → g < w.heap.size → w'.heap[g]? = w.heap[g]?) : BR B v l w' := by
  refine ⟨h.1, ?_⟩
  rcases h.2 with h0 | ⟨g, cap, cur, h1, h2, h3, h4⟩
  · exact .inl h0
  · exact .inr ⟨g, cap, cur, h1, h2, by rw [hk g h2 (Array.getElem?_eq_some_iff.1 h3).1]; exact h3, h4⟩
theorem BR.below {B : Nat} {v : Value} {l : List UInt8} {w w' : World} (h : BR B v l w) (hb : Below w.heap.size w w') : BR B v l w' := h.of_heap (fun g _ hg => hb.block g hg)
theorem BR.own {B : Nat} {v : Value} {l : List UInt8} {w : World} (h : BR B v l w) {b : Nat} (hb : v.ownBlock = some b) : B ≤ b := own_base h b hb
/-- what stays where only the row's block turns -/
theorem grown_keep {B : Nat} {v : Value} {l : List UInt8} {w w' : World} (h : BR B v l w) (hg : w.grownBy w' v.ownBlock) {i : Nat} (hi : i < B) (hs : i < w.heap.size) : w'.heap[i]? = w.heap[i]? :=
  hg.block i hs (fun e => by have := h.own e.symm; omega)
theorem grown_below {B : Nat} {v : Value} {l : List UInt8} {w0 w w' : World} (h : BR B v l w) (hg : w.grownBy w' v.ownBlock) (hb : Below w0.heap.size w0 w) (hB : w0.heap.size ≤ B) : Below w0.heap.size w0 w' :=
  ⟨hg.os.trans hb.os, hg.tape.trans hb.tape, hg.output.trans hb.output, Nat.le_trans hb.size hg.size, fun i hi => (grown_keep h hg (by omega) (Nat.lt_of_lt_of_le hi hb.size)).trans (hb.block i hi)⟩

section
variable {ops : Array Oper} {rest : List Oper} {o : Oper} {a : Act} {Q : Exit → Act → World → Prop}
/-- append(v, bytes): behind 'at_builtin'. -/
theorem byte_app {W : World} (B : Nat) (hgd : o.guard = none) (s x : Operand) (ho : o.op = .call { callee := .builtin .append, args := #[s, x], argTypes := #[69, 69] })
    (v : Value) (l ys : List UInt8) (n : Nat) (hn : ys.length = n) (hs : a.eval s = v) (hx : a.eval x = .slice (some ⟨W.heap.size, 0, none⟩) n n) (cs : Array Value) (hcs : cs = (cells8 ys).toArray)
    (HO : BR B v l W) (hB : B ≤ W.heap.size) (hl : l.length + n ≤ 140737488355328)
    (h : ∀ v1 w1, BR B v1 (l ++ ys) w1 → W.grownBy w1 v.ownBlock → wpList Tryd.prog ops Q rest (a.put o.dst v1) w1) :
    wpList Tryd.prog ops Q (o :: rest) a (W.alloc (.cells cs 5)) := by
  subst hcs
  subst hn
  have hinfo : (Tryd.prog.info? 5).map (fun i => (i.zero, i.size, i.bytes)) = some (some (.int .u8 0), 1, 1) := by kernel_rfl
  obtain ⟨i0, hi, hzz⟩ := Option.map_eq_some_iff.1 hinfo
  simp only [Prod.mk.injEq] at hzz
  obtain ⟨hz0, hz1, hz2⟩ := hzz
  refine wpList_append_own_at (W.alloc (.cells (cells8 ys).toArray 5)) hgd s x 69 ho B 5 i0 (.int .u8 0) 1 1 Tryd.underlying69 hi hz0 hz1 hz2 rfl (by omega) v l.length (cells8 l) hs (World.ownsRow.alloc HO _) ⟨W.heap.size, 0, none⟩ ys.length ys.length (cells8 ys) hx (by simp [cells8])
    (World.news_of_block (cs := (cells8 ys).toArray) (t := 5) (fr := (0, 0)) (heap_alloc_new W _)) (by intro u hu; simp only [cells8, List.mem_map] at hu; obtain ⟨b, _, rfl⟩ := hu; rfl) (by simp only [maxLen]; omega) (by omega) (by simp; omega) ?_
  intro v1 w1 hown hg _ hat
  refine h v1 w1 ?_ (World.grownBy.trans (World.grownBy_alloc W _ _) hg)
  unfold BR
  rw [cells8_append, List.length_append]
  simpa using hown
/-- string(v) -/
theorem byte_str {w : World} (B : Nat) (hgd : o.guard = none) (x : Operand) (ho : o.op = .convert 69 9 x) (v : Value) (l : List UInt8) (hx : a.eval x = v) (HO : BR B v l w)
    (h : wpList Tryd.prog ops Q rest (a.put o.dst (.string (sb l))) w) : wpList Tryd.prog ops Q (o :: rest) a w := by
  refine wpList_value hgd (v := .string (sb l)) (w1 := w) ?_ h
  unfold execOp
  rcases HO.form with ⟨rfl, rfl⟩ | ⟨g, cap, cur, rfl, _, hg, ht⟩
  · have hr := run_convert_bytes_nil (P := Tryd.prog) w 69 5 Tryd.underlying69 Tryd.underlying5 0 0 9 Tryd.underlying9
    simp only [ho, hx, Sem.run_bind, hr, Result.andThen_ok, Sem.run_pure]
    rfl
  · have hr := run_convert_bytes_arg (P := Tryd.prog) w 69 5 Tryd.underlying69 Tryd.underlying5 g 0 l.length cap (l.map fun b => (b.toNat : Int)) (by simp) (fun i hi => by
      rw [Nat.zero_add, Lib.cell_of_heap hg]
      have h1 : (cur.toList.take l.length)[i]? = cur[i]? := by rw [List.getElem?_take, if_pos hi, Array.getElem?_toList]
      rw [← h1, ht]
      simp only [cells8, List.getD_eq_getElem?_getD, List.getElem?_map, List.getElem?_eq_getElem hi]
      rfl) 9 Tryd.underlying9
    have hb : strOfNums (l.map fun b => (b.toNat : Int)) = sb l := by simp [strOfNums, sb, Function.comp_def]
    rw [hb] at hr
    simp only [ho, hx, Sem.run_bind, hr, Result.andThen_ok, Sem.run_pure]
end
end Go.Proofs.YtegeijlookpgaaaDoor
