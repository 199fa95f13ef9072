/- Laws of frames and of parts of blocks, for the walks of this claim. -/
import Derived.Test.YtegeijlookpgaaaDoorProg
import Derived.Test.YtegeijlookpgaaaDoorWWords
import Derived.Deep.LoopGhost
import Derived.Outline
import Derived.Lib.Builder
import Derived.Lib.UnsafeStr
import Derived.Lib.AppendStr
import Derived.Laws.Externs
set_option linter.unusedVariables false
set_option linter.unusedSimpArgs false
namespace Go.Proofs.YtegeijlookpgaaaDoor
open Go.RowKit Go.Proofs.YtegeijlookpgaaaDoorW.PrintWords

structure As (p : Prop) : Prop where mk :: (out : p)
theorem ret_bool {a b : Bool} (h : a = b) : Ending.returned (.bool a) = .returned (.bool b) := by rw [h]
theorem ret_int {k : IntKind} {a b : Int} (h : a = b) : Ending.returned (.int k a) = .returned (.int k b) := by rw [h]
theorem ret_str {a b : ByteArray} (h : a = b) : Ending.returned (.string a) = .returned (.string b) := by rw [h]
theorem hid_ {p : Prop} (h : p) : Hid p := h
abbrev bs (s : ByteArray) : List UInt8 := s.data.toList
abbrev sb (l : List UInt8) : ByteArray := ⟨l.toArray⟩
theorem bs_sb (l : List UInt8) : bs (sb l) = l := by simp [bs, sb]
theorem bs_size (s : ByteArray) : (bs s).length = s.size := by simp [bs]
def cells8 (l : List UInt8) : List Value := l.map fun b => .int .u8 b.toNat

/-- What may have turned is ok; the rest is as it was. -/
structure Fr (ok : Nat → Prop) (w w' : World) : Prop where
  os : w'.os = w.os
  tape : w'.tape = w.tape
  output : w'.output = w.output
  size : w.heap.size ≤ w'.heap.size
  block : ∀ i, i < w.heap.size → ¬ ok i → w'.heap[i]? = w.heap[i]?
theorem Fr.refl (ok : Nat → Prop) (w : World) : Fr ok w w := ⟨rfl, rfl, rfl, Nat.le_refl _, fun _ _ _ => rfl⟩
theorem Fr.trans {ok : Nat → Prop} {a b c : World} (h : Fr ok a b) (k : Fr ok b c) : Fr ok a c :=
  ⟨k.os.trans h.os, k.tape.trans h.tape, k.output.trans h.output, Nat.le_trans h.size k.size, fun i hi hn => (k.block i (Nat.lt_of_lt_of_le hi h.size) hn).trans (h.block i hi hn)⟩
theorem Fr.below {ok : Nat → Prop} {B : Nat} {w w' : World} (h : Fr ok w w') (hB : B ≤ w.heap.size) (hok : ∀ i, i < B → ¬ ok i) : Below B w w' :=
  ⟨h.os, h.tape, h.output, h.size, fun i hi => h.block i (Nat.lt_of_lt_of_le hi hB) (hok i hi)⟩
theorem Fr.cell {ok : Nat → Prop} {w w' : World} (h : Fr ok w w') {a : Addr} {v : Value} (hc : w.cell? a = some v) (hn : ¬ ok a.block) : w'.cell? a = some v :=
  (World.cell?_of_block (h.block a.block (World.block_lt_of_cell? w a hc) hn)).trans hc

theorem cells8_length (l : List UInt8) : (cells8 l).length = l.length := by simp [cells8]
theorem cells8_append (l m : List UInt8) : cells8 (l ++ m) = cells8 l ++ cells8 m := by simp [cells8]
section
variable {P : Program} {ops : Array Oper} {rest : List Oper} {o : Oper} {a : Act} {Q : Exit → Act → World → Prop}
/-- append(v, s...), s a string; where the new row lies is told. -/
theorem append_str {W : World} (hgd : o.guard = none) (s x : Operand) (t u e : TypeId)
    (ho : o.op = .call { callee := .builtin .append, args := #[s, x], argTypes := #[t, u] })
    (ht : P.underlying t = some (.slice e)) (hu : P.underlying u = some .string) (hinfo : (P.info? e).map (fun i => (i.zero, i.size, i.bytes)) = some (some (.int .u8 0), 1, 1))
    (v : Value) (n : Nat) (xs : List Value) (y : ByteArray) (hs : a.eval s = v) (hx : a.eval x = .string y)
    (HO : W.ownsRow 0 e 1 v n xs) (hl : n + y.size ≤ 140737488355328)
    (h : ∀ v1 w1, w1.ownsRow 0 e 1 v1 (n + y.size) (xs ++ Lib.strCells y) → W.grownBy w1 v.ownBlock → (v1.ownBlock = v.ownBlock ∨ ∃ b, v1.ownBlock = some b ∧ W.heap.size ≤ b) → wpList P ops Q rest (a.put o.dst v1) w1) :
    wpList P ops Q (o :: rest) a W := by
  obtain ⟨i0, hi, hzz⟩ := Option.map_eq_some_iff.1 hinfo
  simp only [Prod.mk.injEq] at hzz
  obtain ⟨hz0, hz1, hz2⟩ := hzz
  have h63 : n + y.size ≤ maxLen := by simp only [maxLen]; omega
  refine wpList_plain hgd fun K hK => ?_
  obtain ⟨v', w', hr, h2, h3, h4⟩ := Lib.run_append_own_string (P := P) W 0 t u o.type e i0 ht hu hi hz0 hz1 hz2 v n xs HO y h63 hl (Nat.zero_le _)
  have hat : v'.ownBlock = v.ownBlock ∨ ∃ b, v'.ownBlock = some b ∧ W.heap.size ≤ b := by
    have hxl : xs.length = n := by simpa using HO.1
    rcases HO.2 with ⟨rfl, rfl⟩ | ⟨g, cap, cur, rfl, hbg, hg, hnc, hcm, hcs, htake⟩
    · obtain ⟨v2, w2, hr2, h22, _⟩ := Lib.run_append_own_string (P := P) W W.heap.size t u o.type e i0 ht hu hi hz0 hz1 hz2 (.slice none 0 0) 0 xs ⟨HO.1, .inl ⟨rfl, rfl⟩⟩ y h63 hl (Nat.le_refl _)
      rw [hr] at hr2
      injection hr2 with hv hw
      subst hv
      cases hb : v'.ownBlock with
      | none => exact .inl rfl
      | some b => exact .inr ⟨b, rfl, own_base h22 b hb⟩
    · by_cases hroom : n + y.size ≤ cap
      · rw [Lib.run_append_room_string (P := P) W t u o.type e i0 ht hu hi hz1 g n cap cur hg y hroom (by omega)] at hr
        injection hr with hv hw
        subst hv
        exact .inl rfl
      · rw [Lib.run_append_grow_string (P := P) W t u o.type e i0 (.int .u8 0) ht hu hi hz0 ⟨g, 0, none⟩ n cap xs (by rw [hz1]; simpa using hxl) (HO.cells (g := g) rfl) y (by omega) (by omega) (by rw [hz2]; exact growslice_fits (by omega) (by omega))] at hr
        injection hr with hv hw
        subst hv
        exact .inr ⟨_, rfl, Nat.le_refl _⟩
  unfold Oper.wp execOp
  simp only [ho, resolve, invoke, builtin, Sem.run_bind, Sem.run_pure, Result.andThen_ok, List.map_toArray, List.map_cons, List.map_nil, hs, hx, hr]
  exact hK _ _ (h v' w' h2 h3 hat)
end

theorem take_snoc (s : ByteArray) (i : Nat) (h : i < s.size) : (bs s).take (i + 1) = (bs s).take i ++ [s[i]] := by
  rw [List.take_succ_eq_append_getElem (by simpa [bs] using h)]; rfl
theorem drop_bs (s : ByteArray) (i : Nat) (h : i < s.size) : (bs s).drop i = s[i] :: (bs s).drop (i+1) := by
  rw [List.drop_eq_getElem_cons (by simpa [bs] using h)]; rfl
theorem take_all (s : ByteArray) (i : Nat) (h : s.size ≤ i) : (bs s).take i = bs s := List.take_of_length_le (by rw [bs_size]; exact h)

theorem alloc4 (w : World) (A B C D : Obj) :
    ((((w.alloc A).alloc B).alloc C).alloc D).heap[w.heap.size]? = some A ∧ ((((w.alloc A).alloc B).alloc C).alloc D).heap[w.heap.size + 1]? = some B ∧
    ((((w.alloc A).alloc B).alloc C).alloc D).heap[w.heap.size + 1 + 1]? = some C ∧ ((((w.alloc A).alloc B).alloc C).alloc D).heap[w.heap.size + 1 + 1 + 1]? = some D := by
  have h : ((((w.alloc A).alloc B).alloc C).alloc D).heap = (((w.heap.push A).push B).push C).push D := rfl
  rw [h]
  simp only [Array.getElem?_push, Array.size_push]
  refine ⟨?_, ?_, ?_, ?_⟩
  · rw [if_neg (by omega), if_neg (by omega), if_neg (by omega), if_pos trivial]
  · rw [if_neg (by omega), if_neg (by omega), if_pos trivial]
  · rw [if_neg (by omega), if_pos trivial]
  · rw [if_pos trivial]

/-! ### an aggregate loaded from, or stored into, a part of a block -/
section
variable {P : Program} {ops : Array Oper} {rest : List Oper} {o : Oper} {a : Act} {Q : Exit → Act → World → Prop} {w : World}
theorem run_loadVar_sub (g off : Nat) (t ty : TypeId) (cs : Array Value) (fr : Nat × Nat) (d : TypeDesc) (vs : List Value) (hg : w.heap[g]? = some (.cells cs t fr))
    (hu : P.underlying ty = some d) (hd : (match d with | .struct _ | .array _ _ => true | _ => false) = true) (hi : (P.info? ty).map (·.size) = some vs.length) (hv : ∀ j u, vs[j]? = some u → cs[off + j]? = some u) :
    (loadVar ty ⟨g, off, none⟩).run P w = .ok (.agg vs.toArray) w := by
  have hl : (loadCells ⟨g, off, none⟩ vs.length).run P w = .ok vs.toArray w :=
    run_loadCells_list (P := P) w ⟨g, off, none⟩ vs (fun j u hj => by
      have hadd : (⟨g, off, none⟩ : Addr).add j = ⟨g, off + j, none⟩ := by unfold Addr.add; split <;> simp_all
      rw [hadd, cell_of_row w g (off + j) cs t fr hg]
      exact hv j u hj)
  cases hq : P.info? ty with
  | none => simp [hq] at hi
  | some i =>
    have hs : i.size = vs.length := by simpa [hq] using hi
    have hagg : (isAgg ty).run P w = .ok true w := by
      unfold isAgg
      rw [Sem.run_bind, run_underlying hu w]
      cases d <;> simp_all
    simp [loadVar, Sem.run_bind, hagg, sizeOf, typeInfo, hq, hs, hl]
theorem exec_load_sub (ty : TypeId) (x : Operand) (ho : o.op = .load ty x) (g off : Nat) (hx : a.eval x = .pointer (some ⟨g, off, none⟩)) (t : TypeId) (cs : Array Value) (fr : Nat × Nat) (d : TypeDesc) (vs : List Value)
    (hg : w.heap[g]? = some (.cells cs t fr)) (hu : P.underlying ty = some d) (hd : (match d with | .struct _ | .array _ _ => true | _ => false) = true) (hi : (P.info? ty).map (·.size) = some vs.length) (hv : ∀ j u, vs[j]? = some u → cs[off + j]? = some u) :
    (execOp a.eval o).run P w = .ok (.value (.agg vs.toArray)) w := by
  unfold execOp
  simp only [ho, hx, Instr.loadAt, Instr.sureAddr, Sem.run_bind, Sem.run_pure, Result.andThen_ok, run_loadVar_sub g off t ty cs fr d vs hg hu hd hi hv]
theorem exec_store_sub (ty : TypeId) (x y : Operand) (ho : o.op = .store ty x y) (g off : Nat) (hx : a.eval x = .pointer (some ⟨g, off, none⟩)) (t : TypeId) (cs : Array Value) (vs : List Value) (hy : a.eval y = .agg vs.toArray)
    (hg : w.heap[g]? = some (.cells cs t (0, 0))) (hi : (P.info? ty).map (·.size) = some vs.length) (hfit : off + vs.length ≤ cs.size) (h1 : ∀ v ∈ vs, v.oneCell' = true) :
    ∃ w1, (execOp a.eval o).run P w = .ok .skip w1 ∧ w1.heap[g]? = some (.cells (cs.toList.take off ++ vs ++ cs.toList.drop (off + vs.length)).toArray t (0, 0)) ∧ Fr (fun k => k = g) w w1 := by
  cases hq : P.info? ty with
  | none => simp [hq] at hi
  | some i =>
    have hs : i.size = vs.length := by simpa [hq] using hi
    have hst := run_storeCells_at P g off t vs 0 cs w hg (by simpa using hfit) h1
    simp only [Nat.add_zero] at hst
    have hc : (Value.agg vs.toArray).cells = vs.toArray := rfl
    refine ⟨_, ?_, setRow_heap w g cs _ t (0, 0) hg, ⟨rfl, rfl, rfl, by simp [World.setRow], fun k _ hk => setRow_other w g k _ hk⟩⟩
    unfold execOp
    simp only [ho, hx, hy, Instr.storeAt, Instr.sureAddr, storeVar, hc, sizeOf, typeInfo, Sem.run_bind, Sem.run_pure, Result.andThen_ok, run_program, hq, hs, List.size_toArray, ne_eq, not_true_eq_false, if_false, hst]
/-- copy(dst, s) into a part of a block, s a string. -/
theorem exec_copy_str (d s : Operand) (dT sT e : TypeId) (ho : o.op = .call { callee := .builtin .copy, args := #[d, s], argTypes := #[dT, sT] }) (hu : P.underlying dT = some (.slice e)) (hsz : (P.info? e).map (·.size) = some 1)
    (g off dLen dCap : Nat) (hd : a.eval d = .slice (some ⟨g, off, none⟩) dLen dCap) (y : ByteArray) (hs : a.eval s = .string y) (t : TypeId) (cs : Array Value) (hg : w.heap[g]? = some (.cells cs t (0, 0))) (n : Nat) (hn : n = Nat.min y.size dLen) (hfit : off + n ≤ cs.size) :
    ∃ w1, (execOp a.eval o).run P w = .ok (.value (.int .i64 n)) w1 ∧ w1.heap[g]? = some (.cells (cs.toList.take off ++ cells8 ((bs y).take n) ++ cs.toList.drop (off + n)).toArray t (0, 0)) ∧ Fr (fun k => k = g) w w1 := by
  cases hq : P.info? e with
  | none => simp [hq] at hsz
  | some i =>
    have hs1 : i.size = 1 := by simpa [hq] using hsz
    have hlen : (cells8 ((bs y).take n)).length = n := by
      rw [cells8_length, List.length_take, bs_size]
      have : n ≤ y.size := by rw [hn]; exact Nat.min_le_left _ _
      omega
    have hst := run_storeCells_at P g off t (cells8 ((bs y).take n)) 0 cs w hg (by rw [hlen]; simpa using hfit) (fun v hv => by
      simp only [cells8, List.mem_map] at hv
      obtain ⟨b, _, rfl⟩ := hv
      rfl)
    simp only [Nat.add_zero, hlen] at hst
    have hx : ((y.extract 0 n).data.map fun b => Value.int .u8 b.toNat) = (cells8 ((bs y).take n)).toArray := by
      apply Array.ext'
      simp [cells8, bs]
    refine ⟨_, ?_, setRow_heap w g cs _ t (0, 0) hg, ⟨rfl, rfl, rfl, by simp [World.setRow], fun k _ hk => setRow_other w g k _ hk⟩⟩
    have hrun : (Builtin.copy_ #[dT, sT] o.type #[.slice (some ⟨g, off, none⟩) dLen dCap, .string y]).run P w = .ok (.int .i64 n) (w.setRow g (cs.toList.take off ++ cells8 ((bs y).take n) ++ cs.toList.drop (off + n)).toArray) := by
      have hfc : (Builtin.firstCells 1 n (.string y)).run P w = .ok (cells8 ((bs y).take n)).toArray w := by simp only [Builtin.firstCells, hx]; rfl
      simp [Builtin.copy_, run_underlying hu, sizeOf, typeInfo, hq, hs1, Builtin.lenOf, ← hn, hfc, hst, goInt]
    unfold execOp
    simp only [ho, resolve, invoke, builtin, Sem.run_bind, Sem.run_pure, Result.andThen_ok, List.map_toArray, List.map_cons, List.map_nil, hd, hs, hrun]
/-- clear(s), s a part of a block. -/
theorem exec_clear_sub (s : Operand) (T e : TypeId) (ho : o.op = .call { callee := .builtin .clear, args := #[s], argTypes := #[T] }) (hu : P.underlying T = some (.slice e)) (z : Value) (hz : (P.info? e).map (·.zero) = some (some z)) (hz1 : z.cells = #[z]) (hz2 : z.oneCell' = true)
    (g off n cap : Nat) (hs : a.eval s = .slice (some ⟨g, off, none⟩) n cap) (t : TypeId) (cs : Array Value) (hg : w.heap[g]? = some (.cells cs t (0, 0))) (hfit : off + n ≤ cs.size) :
    ∃ w1, (execOp a.eval o).run P w = .ok (.value (.tuple #[])) w1 ∧ w1.heap[g]? = some (.cells (cs.toList.take off ++ List.replicate n z ++ cs.toList.drop (off + n)).toArray t (0, 0)) ∧ Fr (fun k => k = g) w w1 := by
  by_cases h0 : n = 0
  · subst h0
    refine ⟨w, ?_, by simpa using hg, Fr.refl _ _⟩
    unfold execOp
    simp [ho, resolve, invoke, builtin, hs, Builtin.clear_, run_underlying hu]
  · cases hq : P.info? e with
    | none => simp [hq] at hz
    | some i =>
      have hzi : i.zero = some z := by simpa [hq] using hz
      have hst := run_storeCells_at P g off t (List.replicate n z) 0 cs w hg (by simpa using hfit) (fun v hv => by rw [List.eq_of_mem_replicate hv]; exact hz2)
      simp only [Nat.add_zero, List.length_replicate] at hst
      have hzc : (Builtin.zeroCells z.cells n).toList = List.replicate n z := by
        apply List.ext_getElem
        · simp [Builtin.zeroCells, hz1]
        · intro i h1 h2
          simp [Builtin.zeroCells, hz1, Nat.mod_one]
      refine ⟨_, ?_, setRow_heap w g cs _ t (0, 0) hg, ⟨rfl, rfl, rfl, by simp [World.setRow], fun k _ hk => setRow_other w g k _ hk⟩⟩
      obtain ⟨m, rfl⟩ : ∃ m, n = m + 1 := ⟨n - 1, by omega⟩
      have hrun : (Builtin.clear_ #[T] o.type #[.slice (some ⟨g, off, none⟩) (m + 1) cap]).run P w = .ok (.tuple #[]) (w.setRow g (cs.toList.take off ++ List.replicate (m + 1) z ++ cs.toList.drop (off + (m + 1))).toArray) := by
        simp [Builtin.clear_, run_underlying hu, zeroValue, typeInfo, hq, hzi, hzc, hst]
      unfold execOp
      simp only [ho, resolve, invoke, builtin, Sem.run_bind, Sem.run_pure, Result.andThen_ok, List.map_toArray, List.map_cons, List.map_nil, hs, hrun]
/-- A step of a plain list of operations, its run known. -/
theorem wpList_value (hgd : o.guard = none) {v : Value} {w1 : World} (hrun : (execOp a.eval o).run P w = .ok (.value v) w1) (h : wpList P ops Q rest (a.put o.dst v) w1) : wpList P ops Q (o :: rest) a w := by
  refine wpList_plain hgd fun K hK => ?_
  unfold Oper.wp
  rw [hrun]
  exact hK _ _ h
theorem wpList_skip (hgd : o.guard = none) {w1 : World} (hrun : (execOp a.eval o).run P w = .ok .skip w1) (h : wpList P ops Q rest (a.put o.dst undef) w1) : wpList P ops Q (o :: rest) a w := by
  refine wpList_plain hgd fun K hK => ?_
  unfold Oper.wp
  rw [hrun]
  exact hK _ _ h
theorem wpList_copy_str (hgd : o.guard = none) (d s : Operand) (dT sT e : TypeId) (ho : o.op = .call { callee := .builtin .copy, args := #[d, s], argTypes := #[dT, sT] }) (hu : P.underlying dT = some (.slice e)) (hsz : (P.info? e).map (·.size) = some 1)
    (g off dLen dCap : Nat) (hd : a.eval d = .slice (some ⟨g, off, none⟩) dLen dCap) (y : ByteArray) (hs : a.eval s = .string y) (t : TypeId) (cs : Array Value) (hg : w.heap[g]? = some (.cells cs t (0, 0))) (n : Nat) (hn : n = Nat.min y.size dLen) (hfit : off + n ≤ cs.size)
    (h : ∀ w1, w1.heap[g]? = some (.cells (cs.toList.take off ++ cells8 ((bs y).take n) ++ cs.toList.drop (off + n)).toArray t (0, 0)) → Fr (fun k => k = g) w w1 → wpList P ops Q rest (a.put o.dst (.int .i64 n)) w1) : wpList P ops Q (o :: rest) a w := by
  obtain ⟨w1, hrun, h1, h2⟩ := exec_copy_str d s dT sT e ho hu hsz g off dLen dCap hd y hs t cs hg n hn hfit
  exact wpList_value hgd hrun (h w1 h1 h2)
theorem wpList_clear_sub (hgd : o.guard = none) (s : Operand) (T e : TypeId) (ho : o.op = .call { callee := .builtin .clear, args := #[s], argTypes := #[T] }) (hu : P.underlying T = some (.slice e)) (z : Value) (hz : (P.info? e).map (·.zero) = some (some z)) (hz1 : z.cells = #[z]) (hz2 : z.oneCell' = true)
    (g off n cap : Nat) (hs : a.eval s = .slice (some ⟨g, off, none⟩) n cap) (t : TypeId) (cs : Array Value) (hg : w.heap[g]? = some (.cells cs t (0, 0))) (hfit : off + n ≤ cs.size)
    (h : ∀ w1, w1.heap[g]? = some (.cells (cs.toList.take off ++ List.replicate n z ++ cs.toList.drop (off + n)).toArray t (0, 0)) → Fr (fun k => k = g) w w1 → wpList P ops Q rest (a.put o.dst (.tuple #[])) w1) : wpList P ops Q (o :: rest) a w := by
  obtain ⟨w1, hrun, h1, h2⟩ := exec_clear_sub s T e ho hu z hz hz1 hz2 g off n cap hs t cs hg hfit
  exact wpList_value hgd hrun (h w1 h1 h2)
theorem wpList_load_sub (hgd : o.guard = none) (ty : TypeId) (x : Operand) (ho : o.op = .load ty x) (g off : Nat) (hx : a.eval x = .pointer (some ⟨g, off, none⟩)) (t : TypeId) (cs : Array Value) (fr : Nat × Nat) (d : TypeDesc) (vs : List Value)
    (hg : w.heap[g]? = some (.cells cs t fr)) (hu : P.underlying ty = some d) (hd : (match d with | .struct _ | .array _ _ => true | _ => false) = true) (hi : (P.info? ty).map (·.size) = some vs.length) (hv : ∀ j u, vs[j]? = some u → cs[off + j]? = some u)
    (h : wpList P ops Q rest (a.put o.dst (.agg vs.toArray)) w) : wpList P ops Q (o :: rest) a w := by
  refine wpList_plain hgd fun K hK => ?_
  unfold Oper.wp execOp
  simp only [ho, hx, Instr.loadAt, Instr.sureAddr, Sem.run_bind, Sem.run_pure, Result.andThen_ok, run_loadVar_sub g off t ty cs fr d vs hg hu hd hi hv]
  exact hK _ _ h
theorem wpList_store_sub (hgd : o.guard = none) (ty : TypeId) (x y : Operand) (ho : o.op = .store ty x y) (g off : Nat) (hx : a.eval x = .pointer (some ⟨g, off, none⟩)) (t : TypeId) (cs : Array Value) (vs : List Value) (hy : a.eval y = .agg vs.toArray)
    (hg : w.heap[g]? = some (.cells cs t (0, 0))) (hi : (P.info? ty).map (·.size) = some vs.length) (hfit : off + vs.length ≤ cs.size) (h1 : ∀ v ∈ vs, v.oneCell' = true)
    (h : ∀ w1, w1.heap[g]? = some (.cells (cs.toList.take off ++ vs ++ cs.toList.drop (off + vs.length)).toArray t (0, 0)) → Fr (fun k => k = g) w w1 → wpList P ops Q rest (a.put o.dst undef) w1) : wpList P ops Q (o :: rest) a w := by
  refine wpList_plain hgd fun K hK => ?_
  cases hq : P.info? ty with
  | none => simp [hq] at hi
  | some i =>
    have hs : i.size = vs.length := by simpa [hq] using hi
    have hst := run_storeCells_at P g off t vs 0 cs w hg (by simpa using hfit) h1
    simp only [Nat.add_zero] at hst
    have hc : (Value.agg vs.toArray).cells = vs.toArray := rfl
    unfold Oper.wp execOp
    simp only [ho, hx, hy, Instr.storeAt, Instr.sureAddr, storeVar, hc, sizeOf, typeInfo, Sem.run_bind, Sem.run_pure, Result.andThen_ok, run_program, hq, hs, List.size_toArray, ne_eq, not_true_eq_false, if_false, hst]
    exact hK _ _ (h _ (setRow_heap w g cs _ t (0, 0) hg) ⟨rfl, rfl, rfl, by simp [World.setRow], fun k _ hk => setRow_other w g k _ hk⟩)
end

end Go.Proofs.YtegeijlookpgaaaDoor
