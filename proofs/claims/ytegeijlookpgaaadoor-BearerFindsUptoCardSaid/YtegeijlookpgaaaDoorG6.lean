/- What the reference's pieces, piece and Pairs compute. -/
import Derived.Test.YtegeijlookpgaaaDoorG5
import Derived.Test.YtegeijlookpgaaaDoorM3
set_option linter.unusedVariables false
set_option linter.unusedSimpArgs false
namespace Go.Proofs.YtegeijlookpgaaaDoor
open Go.RowKit Go.Proofs.YtegeijlookpgaaaDoorW.PrintWords

theorem iS : (Tryd.prog.info? 9).map (fun i => (i.zero, i.size, i.bytes)) = some (some (.string ⟨#[]⟩), 1, 16) := by kernel_rfl
/-- v is a row of texts of the call's own -/
def SR (B : Nat) (v : Value) (l : List (List UInt8)) (w : World) : Prop := w.ownsRow B 9 1 v l.length (l.map fun t => Value.string (sb t))
theorem SR.nil (B : Nat) (w : World) : SR B (.slice none 0 0) [] w := ⟨rfl, .inl ⟨rfl, rfl⟩⟩
theorem SR.below {B : Nat} {v : Value} {l : List (List UInt8)} {w w' : World} (h : SR B v l w) (hb : Below w.heap.size w w') : SR B v l w' := by
  refine ⟨h.1, ?_⟩
  rcases h.2 with h0 | ⟨g, cap, cur, h1, h2, h3, h4⟩
  · exact .inl h0
  · exact .inr ⟨g, cap, cur, h1, h2, by rw [hb.block g (Array.getElem?_eq_some_iff.1 h3).1]; exact h3, h4⟩
theorem SR.grown {B : Nat} {v : Value} {l : List (List UInt8)} {w0 w w' : World} (h : SR B v l w) (hg : w.grownBy w' v.ownBlock) (hb : Below w0.heap.size w0 w) (hB : w0.heap.size ≤ B) : Below w0.heap.size w0 w' :=
  ⟨hg.os.trans hb.os, hg.tape.trans hb.tape, hg.output.trans hb.output, Nat.le_trans hb.size hg.size, fun i hi => (hg.block i (Nat.lt_of_lt_of_le hi hb.size) (fun e => by have := own_base h i e.symm; omega)).trans (hb.block i hi)⟩
/-- the slice as the walk reads it -/
theorem SR.reads {B : Nat} {v : Value} {l : List (List UInt8)} {w : World} (h : SR B v l w) : ∃ A c, v = .slice A l.length c ∧ ∀ i (hi : i < l.length), ∃ ad, A = some ad ∧ w.cell? (ad.add i) = some (.string (sb l[i])) := by
  rcases h.2 with ⟨h1, h2⟩ | ⟨g, cap, cur, h1, h2, h3, _, _, _, h7⟩
  · have hl : l = [] := List.eq_nil_of_length_eq_zero h2
    subst hl
    exact ⟨none, 0, h1, fun i hi => by simp at hi⟩
  · refine ⟨_, _, h1, fun i hi => ⟨_, rfl, ?_⟩⟩
    have hadd : (⟨g, 0, none⟩ : Addr).add i = ⟨g, i, none⟩ := by unfold Addr.add; split <;> simp_all
    rw [hadd, Lib.cell_of_heap h3]
    have h8 : (cur.toList.take l.length)[i]? = cur[i]? := by rw [List.getElem?_take, if_pos hi, Array.getElem?_toList]
    rw [Nat.mul_one] at h7
    rw [← h8, h7]
    simp [hi]
section
variable {ops : Array Oper} {rest : List Oper} {o : Oper} {a : Act} {Q : Exit → Act → World → Prop}
/-- append(v, a text): behind 'at_builtin'. -/
theorem text_app {W : World} (B : Nat) (hgd : o.guard = none) (s x : Operand) (ho : o.op = .call { callee := .builtin .append, args := #[s, x], argTypes := #[83, 83] })
    (v : Value) (l : List (List UInt8)) (p : ByteArray) (hs : a.eval s = v) (hx : a.eval x = .slice (some ⟨W.heap.size, 0, none⟩) 1 1) (cs : Array Value) (hcs : cs = #[.string p])
    (HO : SR B v l W) (hB : B ≤ W.heap.size) (hl : (l.length + 1) * 16 ≤ 140737488355328)
    (h : ∀ v1 w1, SR B v1 (l ++ [bs p]) w1 → W.grownBy w1 v.ownBlock → wpList Tryd.prog ops Q rest (a.put o.dst v1) w1) :
    wpList Tryd.prog ops Q (o :: rest) a (W.alloc (.cells cs 9)) := by
  subst hcs
  refine print_append_cells (w0 := W) B hgd s x 83 9 (.string ⟨#[]⟩) 1 16 ho Tryd.underlying83 iS rfl (by decide) (by decide) v l.length (l.map fun t => Value.string (sb t)) [.string p] hs hx rfl (by intro u hu; simp at hu; rcases hu with rfl; rfl) HO ((Below.refl _ _).mono hB) hB hl ?_
  intro v1 w1 hown _ hg _
  refine h v1 w1 ?_ hg
  unfold SR
  rw [List.map_append, List.length_append, List.map_cons, List.map_nil, sb_bs]
  exact hown
end

def neL (l : List (List UInt8)) : List (List UInt8) := l.filter fun p => !p.isEmpty
theorem neL_cons (p : List UInt8) (r : List (List UInt8)) : neL (p :: r) = (if p.isEmpty then [] else [p]) ++ neL r := by
  unfold neL; rw [List.filter_cons]; cases p.isEmpty <;> rfl
/-- where pieces stands: what was found, what is being read -/
def PcR (s : ByteArray) (i fr : Nat) (acc : List (List UInt8)) : Prop :=
  (i ≤ s.size ∧ fr ≤ i ∧ acc ++ neL (spl 38 (((bs s).take i).drop fr) ((bs s).drop i)) = piecesS (bs s)) ∨ (i = s.size + 1 ∧ acc = piecesS (bs s))
theorem cur_empty (s : ByteArray) (i fr : Nat) (hi : i ≤ s.size) : (((bs s).take i).drop fr).isEmpty = decide (i ≤ fr) := by
  rw [Bool.eq_iff_iff, decide_eq_true_eq, List.isEmpty_iff]
  constructor
  · intro h
    have := congrArg List.length h
    rw [List.length_drop, List.length_take, bs_size, List.length_nil] at this
    omega
  · intro h
    exact List.drop_of_length_le (by rw [List.length_take, bs_size]; omega)
theorem PcR.start (s : ByteArray) : PcR s 0 0 [] := .inl ⟨Nat.zero_le _, Nat.le_refl _, by simp [piecesS, neL]⟩
theorem PcR.amp {s : ByteArray} {i fr : Nat} {acc : List (List UInt8)} (h : PcR s i fr acc) (hi : i < s.size) (hc : s[i] = 38) : PcR s (i + 1) (i + 1) (acc ++ (if i ≤ fr then [] else [((bs s).take i).drop fr])) := by
  rcases h with ⟨h1, h2, h3⟩ | ⟨h1, _⟩
  · refine .inl ⟨hi, Nat.le_refl _, ?_⟩
    rw [← h3, drop_bs s i hi, hc, spl, if_pos rfl, neL_cons, cur_empty s i fr h1]
    have hd : ((bs s).take (i + 1)).drop (i + 1) = [] := List.drop_of_length_le (by rw [List.length_take, bs_size]; omega)
    rw [hd, List.append_assoc]
    by_cases hif : i ≤ fr <;> simp [hif]
  · omega
theorem PcR.char {s : ByteArray} {i fr : Nat} {acc : List (List UInt8)} (h : PcR s i fr acc) (hi : i < s.size) (hc : s[i] ≠ 38) : PcR s (i + 1) fr acc := by
  rcases h with ⟨h1, h2, h3⟩ | ⟨h1, _⟩
  · refine .inl ⟨hi, by omega, ?_⟩
    rw [← h3, drop_bs s i hi, spl, if_neg hc]
    have hd : ((bs s).take (i + 1)).drop fr = ((bs s).take i).drop fr ++ [s[i]] := by
      rw [take_snoc s i hi, List.drop_append_of_le_length (by rw [List.length_take, bs_size]; omega)]
    rw [hd]
  · omega
theorem PcR.last {s : ByteArray} {i fr : Nat} {acc : List (List UInt8)} (h : PcR s i fr acc) (hi : i = s.size) : PcR s (i + 1) (i + 1) (acc ++ (if i ≤ fr then [] else [((bs s).take i).drop fr])) := by
  rcases h with ⟨h1, h2, h3⟩ | ⟨h1, _⟩
  · refine .inr ⟨by omega, ?_⟩
    rw [← h3, List.drop_of_length_le (l := bs s) (by rw [bs_size]; omega), spl, neL_cons, cur_empty s i fr h1]
    have : neL [] = [] := rfl
    rw [this, List.append_nil]
    by_cases hif : i ≤ fr <;> simp [hif]
  · omega

set_option maxHeartbeats 2000000 in
set_option maxRecDepth 100000 in
theorem refPieces_c (s : ByteArray) (w : World) (hs : s.size ≤ 1048576) :
    Calls Tryd.prog 91 #[.string s] w fun e w' => (∃ v, e = .returned v ∧ SR w.heap.size v (piecesS (bs s)) w') ∧ Below w.heap.size w w' := by
  go_enter Tryd.func91, Tryd.ntmps91
  go_wp2
  go_loopw [3, 4, 5] (fun c3 c4 c5 wr => ∃ (i fr : Nat) (acc : List (List UInt8)), c5 = .int .i64 i ∧ c4 = .int .i64 fr ∧ i ≤ s.size + 1 ∧ fr ≤ i ∧ acc.length ≤ i ∧ As (SR w.heap.size c3 acc wr) ∧ As (PcR s i fr acc) ∧ As (Below w.heap.size w wr)) (fun _ _ v _ => s.size + 1 - (intOf v).toNat)
  case atStart => exact ⟨0, 0, [], rfl, rfl, Nat.zero_le _, Nat.le_refl _, Nat.zero_le _, ⟨SR.nil _ _⟩, ⟨PcR.start s⟩, ⟨Below.refl _ _⟩⟩
  case round =>
    obtain ⟨i, fr, acc, rfl, rfl, hi, hfr, hacc, HO, HP, HW⟩ := hrel
    have HLL : As ((acc.length + 1) * 16 ≤ 140737488355328 ∧ w.heap.size ≤ wr.heap.size) := ⟨by omega, HW.out.size⟩
    by_cases hle : i ≤ s.size
    · have hz : s.extract fr i = sb (((bs s).take i).drop fr) := by rw [extract_sb, List.drop_take]
      have HZ : As (bs (s.extract fr i) = ((bs s).take i).drop fr) := ⟨by rw [hz, bs_sb]⟩
      clear hz
      by_cases heq : i = s.size
      · have HN := As.mk (HP.out.last heq)
        have q1 : ((i : Int) == (s.size : Int)) = true := by rw [beq_iff_eq]; omega
        clear heq HP
        by_cases hif : i ≤ fr
        · rw [if_pos hif, List.append_nil] at HN
          have hif' : ¬ fr < i := by omega
          go_wp2
          exact ⟨⟨i + 1, i + 1, acc, by go_num, by go_num, by omega, by omega, by omega, HO, HN, HW⟩, by simp [intOf]; omega⟩
        · rw [if_neg hif, ← HZ.out] at HN
          have hif' : fr < i := by omega
          go_wp2_with (at_builtin; refine text_app w.heap.size rfl _ _ rfl u3 acc (s.extract fr i) rfl rfl _ rfl HO.out HLL.out.2 HLL.out.1 ?_; intro v1 w5 hsr hg; have HO5 := As.mk hsr; have HW5 : As (Below w.heap.size w w5) := ⟨HO.out.grown hg HW.out (Nat.le_refl _)⟩; clear hsr hg HO HW)
          exact ⟨⟨i + 1, i + 1, _, by go_num, by go_num, by omega, by omega, by simp only [List.length_append, List.length_cons, List.length_nil]; omega, HO5, HN, HW5⟩, by simp [intOf]; omega⟩
      · have hlt : i < s.size := by omega
        have q1 : ((i : Int) == (s.size : Int)) = false := by rw [beq_eq_false_iff_ne]; omega
        by_cases hc : s[i] = 38
        · have HN := As.mk (HP.out.amp hlt hc)
          have q2 : ((s[i].toNat : Int) == 38) = true := by rw [hc]; rfl
          clear heq HP hc
          by_cases hif : i ≤ fr
          · rw [if_pos hif, List.append_nil] at HN
            have hif' : ¬ fr < i := by omega
            go_wp2
            exact ⟨⟨i + 1, i + 1, acc, by go_num, by go_num, by omega, by omega, by omega, HO, HN, HW⟩, by simp [intOf]; omega⟩
          · rw [if_neg hif, ← HZ.out] at HN
            have hif' : fr < i := by omega
            go_wp2_with (at_builtin; refine text_app w.heap.size rfl _ _ rfl u3 acc (s.extract fr i) rfl rfl _ rfl HO.out HLL.out.2 HLL.out.1 ?_; intro v1 w5 hsr hg; have HO5 := As.mk hsr; have HW5 : As (Below w.heap.size w w5) := ⟨HO.out.grown hg HW.out (Nat.le_refl _)⟩; clear hsr hg HO HW)
            exact ⟨⟨i + 1, i + 1, _, by go_num, by go_num, by omega, by omega, by simp only [List.length_append, List.length_cons, List.length_nil]; omega, HO5, HN, HW5⟩, by simp [intOf]; omega⟩
        · have HN := As.mk (HP.out.char hlt hc)
          have q2 : ((s[i].toNat : Int) == 38) = false := by
            rw [beq_eq_false_iff_ne]; intro e; exact hc (UInt8.toNat_inj.1 (by show s[i].toNat = 38; omega))
          clear heq HP hc
          go_wp2
          exact ⟨⟨i + 1, fr, acc, by go_num, rfl, by omega, by omega, by omega, HO, HN, HW⟩, by simp [intOf]; omega⟩
    · have HN : As (acc = piecesS (bs s)) := ⟨by
        rcases HP.out with ⟨h1, _⟩ | ⟨_, h2⟩
        · omega
        · exact h2⟩
      go_wp2
      go_ret
      exact ⟨⟨_, rfl, by rw [← HN.out]; exact HO.out⟩, HW.out⟩
end Go.Proofs.YtegeijlookpgaaaDoor
