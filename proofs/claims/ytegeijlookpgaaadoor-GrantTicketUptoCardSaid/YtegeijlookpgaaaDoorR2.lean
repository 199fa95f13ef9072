/- What the reference's bits computes. -/
import Derived.Test.YtegeijlookpgaaaDoorSC
set_option linter.unusedVariables false
set_option linter.unusedSimpArgs false
namespace Go.Proofs.YtegeijlookpgaaaDoor
open Go.RowKit Go.Proofs.YtegeijlookpgaaaDoorW.PrintWords Go.Proofs.YtegeijlookpgaaaDoorW.PrintLast

/-- a row of ints of the call's own -/
def IR (B : Nat) (v : Value) (l : List Nat) (w : World) : Prop := w.ownsRow B 3 1 v l.length (nums .i64 (l.map fun (n : Nat) => (n : Int)))
theorem IR.nil (B : Nat) (w : World) : IR B (.slice none 0 0) [] w := ⟨rfl, .inl ⟨rfl, rfl⟩⟩
theorem IR.own {B : Nat} {v : Value} {l : List Nat} {w : World} (h : IR B v l w) {b : Nat} (hb : v.ownBlock = some b) : B ≤ b := own_base h b hb
theorem IR.below {B : Nat} {v : Value} {l : List Nat} {w w' : World} (h : IR B v l w) (hb : Below w.heap.size w w') : IR B v l w' := by
  refine ⟨h.1, ?_⟩
  rcases h.2 with h0 | ⟨g, cap, cur, h1, h2, h3, h4⟩
  · exact .inl h0
  · exact .inr ⟨g, cap, cur, h1, h2, by rw [hb.block g (Array.getElem?_eq_some_iff.1 h3).1]; exact h3, h4⟩
theorem IR.grown_below {B : Nat} {v : Value} {l : List Nat} {w0 w w' : World} (h : IR B v l w) (hg : w.grownBy w' v.ownBlock) (hb : Below w0.heap.size w0 w) (hB : w0.heap.size ≤ B) : Below w0.heap.size w0 w' :=
  ⟨hg.os.trans hb.os, hg.tape.trans hb.tape, hg.output.trans hb.output, Nat.le_trans hb.size hg.size, fun i hi => (hg.block i (Nat.lt_of_lt_of_le hi hb.size) (fun e => by have := h.own e.symm; omega)).trans (hb.block i hi)⟩
theorem int_app {ops : Array Oper} {rest : List Oper} {o : Oper} {a : Act} {Q : Exit → Act → World → Prop} {W : World} (B : Nat) (hgd : o.guard = none) (s x : Operand) (ho : o.op = .call { callee := .builtin .append, args := #[s, x], argTypes := #[78, 78] })
    (v : Value) (l : List Nat) (y : Nat) (hs : a.eval s = v) (hx : a.eval x = .slice (some ⟨W.heap.size, 0, none⟩) 1 1) (cs : Array Value) (hcs : cs = #[.int .i64 (y : Int)])
    (HO : IR B v l W) (hB : B ≤ W.heap.size) (hl : (l.length + 1) * 8 ≤ 140737488355328)
    (h : ∀ v1 w1, IR B v1 (l ++ [y]) w1 → W.grownBy w1 v.ownBlock → wpList Tryd.prog ops Q rest (a.put o.dst v1) w1) :
    wpList Tryd.prog ops Q (o :: rest) a (W.alloc (.cells cs 3)) := by
  subst hcs
  have hlen : (l.map fun (n : Nat) => (n : Int)).length = l.length := by simp
  refine print_append_num (w0 := W) B hgd s x 78 3 .i64 8 ho Tryd.underlying78 (by kernel_rfl) (by decide) v (l.map fun (n : Nat) => (n : Int)) y hs hx (by rw [hlen]; exact HO) ((Below.refl _ _).mono hB) hB (by rw [hlen]; exact hl) ?_
  intro v1 w1 hown _ hg _
  refine h v1 w1 ?_ hg
  unfold IR
  simpa using hown

/-- the bits of a text, each byte's highest first -/
def bitsN (v : Nat) : Nat → List Nat
  | 0 => []
  | k + 1 => bitsN v k ++ [v / 2 ^ (7 - k) % 2]
def bits8 (v : UInt8) : List Nat := bitsN v.toNat 8
def bitsL (l : List UInt8) : List Nat := l.flatMap bits8
theorem bitsN_len (v : Nat) : ∀ k, (bitsN v k).length = k
  | 0 => rfl
  | k + 1 => by rw [bitsN, List.length_append, bitsN_len v k]; rfl
theorem bitsL_len (l : List UInt8) : (bitsL l).length = 8 * l.length := by
  induction l with
  | nil => rfl
  | cons c r ih => simp only [bitsL, List.flatMap_cons, List.length_append, List.length_cons] at ih ⊢; rw [ih, bits8, bitsN_len]; omega
theorem bitsL_snoc (l : List UInt8) (c : UInt8) : bitsL (l ++ [c]) = bitsL l ++ bits8 c := by simp [bitsL]

theorem pow7 (k : Nat) (h : k < 8) : 128 / 2 ^ k = 2 ^ (7 - k) := by
  match k, h with
  | 0, _ => rfl | 1, _ => rfl | 2, _ => rfl | 3, _ => rfl | 4, _ => rfl | 5, _ => rfl | 6, _ => rfl | 7, _ => rfl
set_option maxHeartbeats 4000000 in
set_option maxRecDepth 100000 in
theorem bits_c (p : ByteArray) (w : World) (hp : p.size ≤ 1048576) :
    Calls Tryd.prog 45 #[.string p] w fun e w' => (∃ v, e = .returned v ∧ IR w.heap.size v (bitsL (bs p)) w') ∧ Below w.heap.size w w' := by
  go_enter Tryd.func45, Tryd.ntmps45
  go_wp2
  go_loopw [3, 4] (fun c3 c4 wr => ∃ i : Nat, c4 = .int .i64 i ∧ i ≤ p.size ∧ As (IR w.heap.size c3 (bitsL ((bs p).take i)) wr) ∧ As (Below w.heap.size w wr)) (fun _ v _ => p.size - (intOf v).toNat)
  case atStart => exact ⟨0, rfl, Nat.zero_le _, ⟨IR.nil _ _⟩, ⟨Below.refl _ _⟩⟩
  case round =>
    obtain ⟨i, rfl, hi, HO, HW⟩ := hrel
    by_cases hlt : i < p.size
    · have HS := hid_ (take_snoc p i hlt)
      have hx8 := (p[i]).toNat_lt
      go_wp2
      generalize p[i] = x at *
      go_loopw [3, 6] (fun c3 c6 wr => ∃ k : Nat, c6 = .int .i64 ((128 / 2 ^ k : Nat) : Int) ∧ k ≤ 8 ∧ As (IR w.heap.size c3 (bitsL ((bs p).take i) ++ bitsN x.toNat k) wr) ∧ As (Below w.heap.size w wr)) (fun _ v _ => (intOf v).toNat)
      case atStart => exact ⟨0, rfl, by omega, ⟨by simpa [bitsN] using HO.out⟩, HW⟩
      case round =>
        clear HO HW
        obtain ⟨k, rfl, hk, HO, HW⟩ := hrel
        by_cases hk8 : k < 8
        · obtain ⟨c, hc⟩ : ∃ c, c = 128 / 2 ^ k := ⟨_, rfl⟩
          have hc7 : c = 2 ^ (7 - k) := by rw [hc]; exact pow7 k hk8
          have hc2 : c / 2 = 128 / 2 ^ (k + 1) := by rw [hc, Nat.div_div_eq_div_mul, Nat.pow_succ]
          have hc128 : c ≤ 128 := by rw [hc]; exact Nat.div_le_self _ _
          have hc0 : 0 < c := by rw [hc7]; exact Nat.two_pow_pos _
          rw [← hc]
          have HC2 := hid_ hc2
          obtain ⟨q, hq⟩ : ∃ q, q = x.toNat / c := ⟨_, rfl⟩
          have hq8 : q < 256 := by have := Nat.div_le_self x.toNat c; omega
          have HB : As (bitsN x.toNat (k + 1) = bitsN x.toNat k ++ [q % 2]) := ⟨by rw [bitsN, hq, hc7]⟩
          have HLL : As (((bitsL (List.take i (bs p)) ++ bitsN x.toNat k).length + 1) * 8 ≤ 140737488355328 ∧ w.heap.size ≤ wr.heap.size) := ⟨by
            rw [List.length_append, bitsL_len, bitsN_len, List.length_take]; omega, HW.out.size⟩
          clear hc hc7 hc2
          have c0 : (0 : Int) < (c : Int) := by omega
          have c00 : ¬ ((c : Int) = 0) := by omega
          have e1 : Int.tdiv (x.toNat : Int) (c : Int) = (q : Int) := by rw [Int.tdiv_eq_ediv_of_nonneg (by omega), hq]; rfl
          have e2 : Int.tmod (q : Int) 2 = ((q % 2 : Nat) : Int) := by rw [Int.tmod_eq_emod_of_nonneg (by omega)]; rfl
          clear hq
          have e3 : Int.tdiv (c : Int) 2 = ((c / 2 : Nat) : Int) := by rw [Int.tdiv_eq_ediv_of_nonneg (by omega)]; rfl
          go_wp2_with (at_builtin; refine int_app (W := wr) w.heap.size rfl _ _ rfl u3 (bitsL (List.take i (bs p)) ++ bitsN x.toNat k) (q % 2) rfl rfl _ rfl HO.out HLL.out.2 HLL.out.1 ?_)
          intro v1 w5 hbr hg
          have HO5 : As (IR w.heap.size v1 (bitsL (List.take i (bs p)) ++ bitsN x.toNat (k + 1)) w5) := ⟨by rw [HB.out]; simpa only [List.append_assoc] using hbr⟩
          have HW5 : As (Below w.heap.size w w5) := ⟨HO.out.grown_below hg HW.out (Nat.le_refl _)⟩
          clear hbr hg HO HW HLL HB
          go_wp2
          refine ⟨⟨k + 1, by rw [← HC2.out]; rfl, by omega, HO5, HW5⟩, ?_⟩
          simp [intOf]; omega
        · have HE : As (bitsL (List.take i (bs p)) ++ bitsN x.toNat k = bitsL (List.take (i + 1) (bs p))) := ⟨by rw [HS.out, bitsL_snoc, show k = 8 by omega]; rfl⟩
          have hk0 : ((128 / 2 ^ k : Nat) : Int) = 0 := by rw [show k = 8 by omega]; rfl
          generalize 128 / 2 ^ k = c at *
          go_wp2
          go_roundw
          case rel => exact ⟨i + 1, by go_num, by omega, ⟨by rw [← HE.out]; exact HO.out⟩, HW⟩
          case measure => simp [intOf]; omega
    · have HE : As ((bs p).take i = bs p) := ⟨take_all p i (by omega)⟩
      go_wp2
      go_ret
      exact ⟨⟨_, rfl, by rw [← HE.out]; exact HO.out⟩, HW.out⟩
end Go.Proofs.YtegeijlookpgaaaDoor
