/- What sums.NewHash and sums.Hash.Sum compute. -/
import Derived.Test.YtegeijlookpgaaaDoorS4
import Derived.Laws.BytesArg
set_option linter.unusedVariables false
set_option linter.unusedSimpArgs false
namespace Go.Proofs.YtegeijlookpgaaaDoor
open Go.RowKit Go.Proofs.YtegeijlookpgaaaDoorW.PrintWords Go.Proofs.YtegeijlookpgaaaDoorW.PrintLast

/-! ### the digest of a text -/
/-- byte number i of what follows a text of n bytes: the mark, zeros, the length in bits -/
def lenB (n j : Nat) : UInt8 := UInt8.ofNat (8 * n / 2 ^ (8 * j))
def whole (n : Nat) : Nat := ((n + 8) / 64 + 1) * 64
def padB (l : List UInt8) (i : Nat) : UInt8 :=
  if i < l.length then l.getD i 0 else if i = l.length then 0x80 else if i < whole l.length - 8 then 0 else lenB l.length (whole l.length - 1 - i)
def stP (p : Nat → UInt8) : Nat → V8
  | 0 => vInit
  | k + 1 => comp (stP p k) (fun i => p (64 * k + i))
def w4b (x : UInt32) : List UInt8 := [(x >>> 24).toUInt8, (x >>> 16).toUInt8, (x >>> 8).toUInt8, x.toUInt8]
def outB (v : V8) : List UInt8 := w4b v.a ++ w4b v.b ++ w4b v.c ++ w4b v.d ++ w4b v.e ++ w4b v.f ++ w4b v.g ++ w4b v.h
def shaL (l : List UInt8) : List UInt8 := outB (stP (padB l) (whole l.length / 64))

theorem stN_stP (l : List UInt8) (p : Nat → UInt8) : ∀ k, (∀ i, i < 64 * k → p i = l.getD i 0) → stN l k = stP p k
  | 0, _ => rfl
  | k + 1, h => by
    rw [stN, stP, stN_stP l p k (fun i hi => h i (by omega))]
    exact comp_congr _ (fun i hi => (h (64 * k + i) (by omega)).symm)

/-! bytes of a block, as a string -/
section
variable {P : Program} {ops : Array Oper} {rest : List Oper} {o : Oper} {a : Act} {Q : Exit → Act → World → Prop} {w : World}
theorem wpList_bytes_str (hgd : o.guard = none) (src dst e : TypeId) (x : Operand) (ho : o.op = .convert src dst x) (hs : P.underlying src = some (.slice e)) (he : P.underlying e = some (.int .u8)) (hd : P.underlying dst = some .string)
    (g n cap : Nat) (hx : a.eval x = .slice (some ⟨g, 0, none⟩) n cap) (l : List UInt8) (hl : l.length = n) (hc : ∀ i, i < n → w.cell? ⟨g, i, none⟩ = some (b8 (l.getD i 0)))
    (h : wpList P ops Q rest (a.put o.dst (.string (sb l))) w) : wpList P ops Q (o :: rest) a w := by
  refine wpList_value hgd (v := .string (sb l)) (w1 := w) ?_ h
  have hr := run_convert_bytes_arg (P := P) w src e hs he g 0 n cap (l.map fun b => (b.toNat : Int)) (by simpa using hl) (fun i hi => by
    rw [Nat.zero_add, hc i hi]
    simp only [b8, List.getD_eq_getElem?_getD, List.getElem?_map, List.getElem?_eq_getElem (show i < l.length by omega)]
    rfl) dst hd
  have hb : strOfNums (l.map fun b => (b.toNat : Int)) = sb l := by
    simp [strOfNums, sb, Function.comp_def]
  rw [hb] at hr
  unfold execOp
  simp only [ho, hx, Sem.run_bind, hr, Result.andThen_ok, Sem.run_pure]
end

def Whole8 (g : Nat) (v : V8) (w : World) : Prop := ∃ t fr, w.heap[g]? = some (.cells (c8 v) t fr)

set_option maxHeartbeats 4000000 in
set_option maxRecDepth 100000 in
theorem NewHash_c (w : World) (hT : Whole8 15 vInit w) :
    Calls Tryd.prog 64 #[] w fun e w' => e = .returned (.pointer (some ⟨w.heap.size, 0, none⟩)) ∧ HC w.heap.size [] 0 w' ∧ Below w.heap.size w w' := by
  obtain ⟨ty, fr, hT⟩ := hT
  have HT := As.mk hT
  clear hT
  go_enter Tryd.func64, Tryd.ntmps64
  go_wp2_with (refine wpList_load_sub rfl 60 _ rfl 15 0 rfl ty _ fr _ (c8 vInit).toList HT.out Tryd.underlying60 rfl (by kernel_rfl) (fun j x hx => by simpa using hx) ?_)
  go_ret
  refine ⟨rfl, ⟨fun _ => 0, ?_, fun i hi => by simp at hi⟩, below_alloc (Below.refl _ _) _⟩
  have e : ((((((((Tryd.zeroCells64.setIfInBounds 0 (w32 vInit.a)).setIfInBounds 1 (w32 vInit.b)).setIfInBounds 2 (w32 vInit.c)).setIfInBounds 3 (w32 vInit.d)).setIfInBounds 4 (w32 vInit.e)).setIfInBounds 5 (w32 vInit.f)).setIfInBounds 6 (w32 vInit.g)).setIfInBounds 7 (w32 vInit.h)) = af 74 (hf vInit (fun _ => 0) 0 0) := by kernel_rfl
  rw [e]
  exact Array.getElem?_push_size


/-! ### the padding -/
def mk (l : List UInt8) (i : Nat) : UInt8 := if i < l.length % 64 then l.getD (64 * (l.length / 64) + i) 0 else if i = l.length % 64 then 0x80 else 0
theorem mk_pad (l : List UInt8) (i : Nat) (hi : i < 64) (hw : 64 * (l.length / 64) + i < whole l.length - 8) : mk l i = padB l (64 * (l.length / 64) + i) := by
  unfold mk padB
  by_cases h1 : i < l.length % 64
  · rw [if_pos h1, if_pos (by omega)]
  · by_cases h2 : i = l.length % 64
    · rw [if_neg h1, if_pos h2, if_neg (by omega), if_pos (by omega)]
    · rw [if_neg h1, if_neg h2, if_neg (by omega), if_neg (by omega), if_pos hw]
theorem pad_zero (l : List UInt8) (j : Nat) (h1 : l.length < j) (hw : j < whole l.length - 8) : padB l j = 0 := by
  unfold padB
  rw [if_neg (by omega), if_neg (by omega), if_pos hw]
theorem pad_len (l : List UInt8) (j : Nat) (h1 : l.length < j) (hw : whole l.length - 8 ≤ j) : padB l j = lenB l.length (whole l.length - 1 - j) := by
  unfold padB
  rw [if_neg (by omega), if_neg (by omega), if_neg (by omega)]
theorem stOf_pad (l : List UInt8) : stOf l = stP (padB l) (l.length / 64) := by
  refine stN_stP l (padB l) _ (fun i hi => ?_)
  unfold padB
  rw [if_pos (by omega)]

/-! ### one cell of a block stored -/
theorem wpList_store_one {P : Program} {ops : Array Oper} {rest : List Oper} {o : Oper} {a : Act} {Q : Exit → Act → World → Prop} {w : World} (hgd : o.guard = none) (ty : TypeId) (x y : Operand) (ho : o.op = .store ty x y) (g off : Nat) (hx : a.eval x = .pointer (some ⟨g, off, none⟩))
    (t n : Nat) (f : Nat → Value) (v : Value) (hy : a.eval y = v) (hc : v.cells = #[v]) (h1 : v.oneCell' = true) (hg : AF g t n f w) (hi : (P.info? ty).map (·.size) = some 1) (hoff : off < n)
    (h : ∀ w1, AF g t n (fun j => if j = off then v else f j) w1 → Fr (fun k => k = g) w w1 → wpList P ops Q rest (a.put o.dst undef) w1) : wpList P ops Q (o :: rest) a w := by
  refine wpList_plain hgd fun K hK => ?_
  cases hq : P.info? ty with
  | none => simp [hq] at hi
  | some i =>
    have hs : i.size = 1 := by simpa [hq] using hi
    have hst := run_storeCells_at P g off t [v] 0 (af n f) w hg (by rw [af_size]; simp; omega) (by simpa using h1)
    have hsp := af_splice n f off [v] (by simp; omega)
    simp only [Nat.add_zero] at hst
    unfold Oper.wp execOp
    simp only [ho, hx, hy, Instr.storeAt, Instr.sureAddr, storeVar, hc, sizeOf, typeInfo, Sem.run_bind, Sem.run_pure, Result.andThen_ok, run_program, hq, hs, List.size_toArray, List.length_cons, List.length_nil, Nat.zero_add, ne_eq, not_true_eq_false, if_false, hst]
    refine hK _ _ (h _ ?_ ⟨rfl, rfl, rfl, by simp [World.setRow], fun k _ hk => setRow_other w g k _ hk⟩)
    have hr := setRow_heap w g (af n f) ((af n f).toList.take off ++ [v] ++ (af n f).toList.drop (off + [v].length)).toArray t (0, 0) hg
    rw [hsp] at hr
    have hf : af n (fun i => if off ≤ i ∧ i < off + [v].length then [v][i - off]?.getD undef else f i) = af n (fun j => if j = off then v else f j) := by
      refine af_congr (fun i hi => ?_)
      by_cases h : i = off
      · subst h; simp
      · rw [if_neg (by simp; omega), if_neg h]
    rw [hf] at hr
    rw [hf] at hsp
    have hsp' : (List.take off (af n f).toList ++ [v] ++ List.drop (off + 1) (af n f).toList).toArray = af n fun j => if j = off then v else f j := hsp
    rw [hsp']
    exact hr


theorem zero64_size : Tryd.zeroCells64.size = 74 := by kernel_rfl
theorem whole_store (zs : Array Value) (n : Nat) (f : Nat → Value) (hz : zs.size = n) : (zs.toList.take 0 ++ (af n f).toList ++ zs.toList.drop (0 + (af n f).toList.length)).toArray = af n f := by
  rw [af_len, List.take_zero, List.nil_append, List.drop_eq_nil_of_le (by simp [hz]), List.append_nil, Array.toArray_toList]
theorem hf_one (v : V8) (rest : Nat → UInt8) (h c : Nat) : ∀ x ∈ (af 74 (hf v rest h c)).toList, x.oneCell' = true := by
  intro x hx
  simp only [af, List.mem_map, List.mem_range] at hx
  obtain ⟨i, hi, rfl⟩ := hx
  unfold hf
  by_cases h8 : i < 8
  · rw [if_pos h8]
    match i, h8 with
    | 0, _ => rfl
    | 1, _ => rfl
    | 2, _ => rfl
    | 3, _ => rfl
    | 4, _ => rfl
    | 5, _ => rfl
    | 6, _ => rfl
    | 7, _ => rfl
  · rw [if_neg h8]
    by_cases h72 : i < 72
    · rw [if_pos h72]; rfl
    · rw [if_neg h72]
      by_cases h7 : i = 72
      · rw [if_pos h7]; rfl
      · rw [if_neg h7]; rfl
theorem AF.rest1 {e : Nat} {v : V8} {rest : Nat → UInt8} {h c i : Nat} {x : UInt8} {w : World} (hi : i < 64) (ha : AF e 64 74 (fun j => if j = 8 + i then b8 x else hf v rest h c j) w) : AF e 64 74 (hf v (fun j => if j = i then x else rest j) h c) w := by
  refine ha.congr (fun j hj => ?_)
  by_cases h1 : j = 8 + i
  · subst h1; rw [if_pos rfl, hf, if_neg (by omega), if_pos (by omega), Nat.add_sub_cancel_left, if_pos rfl]
  · rw [if_neg h1, hf, hf]
    by_cases h8 : j < 8
    · rw [if_pos h8, if_pos h8]
    · rw [if_neg h8, if_neg h8]
      by_cases h72 : j < 72
      · rw [if_pos h72, if_pos h72, if_neg (by omega)]
      · rw [if_neg h72, if_neg h72]
theorem hf_clear (v : V8) (rest : Nat → UInt8) (h c k : Nat) (hk : k ≤ 64) :
    ((af 74 (hf v rest h c)).toList.take (8 + k) ++ List.replicate (64 - k) (b8 0) ++ (af 74 (hf v rest h c)).toList.drop (8 + k + (64 - k))).toArray = af 74 (hf v (fun j => if k ≤ j then 0 else rest j) h c) := by
  have hl : (List.replicate (64 - k) (b8 0)).length = 64 - k := List.length_replicate
  have := af_splice 74 (hf v rest h c) (8 + k) (List.replicate (64 - k) (b8 0)) (by rw [hl]; omega)
  rw [hl] at this
  rw [this]
  refine af_congr (fun i hi => ?_)
  by_cases h1 : 8 + k ≤ i ∧ i < 8 + k + (64 - k)
  · rw [if_pos h1, List.getElem?_replicate, if_pos (by omega), hf, if_neg (by omega), if_pos (by omega), if_pos (by omega)]; rfl
  · rw [if_neg h1, hf, hf]
    by_cases h8 : i < 8
    · rw [if_pos h8, if_pos h8]
    · rw [if_neg h8, if_neg h8]
      by_cases h72 : i < 72
      · rw [if_pos h72, if_pos h72, if_neg (by omega)]
      · rw [if_neg h72, if_neg h72]
theorem hf_set_rest' (v : V8) (rest : Nat → UInt8) (h c : Nat) (p : Nat → UInt8) :
    ((af 74 (hf v rest h c)).toList.take 8 ++ (a64 p).toList ++ (af 74 (hf v rest h c)).toList.drop (8 + (a64 p).toList.length)).toArray = af 74 (hf v p h c) := by
  have hl : (a64 p).toList.length = 64 := af_len _ _
  rw [af_splice 74 (hf v rest h c) 8 (a64 p).toList (by rw [hl]; omega), hl]
  refine af_congr (fun i hi => ?_)
  by_cases h1 : 8 ≤ i ∧ i < 8 + 64
  · rw [if_pos h1, af_toList 64 _ _ (by omega), hf, if_neg (by omega), if_pos (by omega)]; rfl
  · rw [if_neg h1, hf, hf]
    by_cases h8 : i < 8
    · rw [if_pos h8, if_pos h8]
    · have h72 : ¬ i < 72 := by omega
      rw [if_neg h8, if_neg h8, if_neg h72, if_neg h72]
theorem below_fr {w w1 w2 : World} (h : Below w.heap.size w w1) (k : Fr (fun k => k = w.heap.size) w1 w2) : Below w.heap.size w w2 := h.trans (k.below h.size (fun i hi e => by omega))

/-- the rest of the Hash at block e, from number k on -/
def sl (e k : Nat) : Value := .slice (some ⟨e, if k = 64 then 8 else 8 + k, none⟩) (64 - k) (64 - k)
theorem wpList_rest_slice {ops : Array Oper} {rest : List Oper} {o : Oper} {a : Act} {Q : Exit → Act → World → Prop} {w : World} (hgd : o.guard = none) (x y : Operand) (ho : o.op = .slice 61 x (some y) none none) (e k : Nat)
    (hx : a.eval x = .pointer (some ⟨e, 8, none⟩)) (z : Int) (hy : a.eval y = .int .i64 z) (hz : z = (k : Int)) (hk : k ≤ 64) (h : wpList Tryd.prog ops Q rest (a.put o.dst (sl e k)) w) : wpList Tryd.prog ops Q (o :: rest) a w := by
  subst hz
  have hr := run_sliceAt_array_l (P := Tryd.prog) w 61 ⟨e, 8, none⟩ (by kernel_rfl) .i64 (k : Int) (by omega) (by rw [show Tryd.prog.arrayLen 61 = 64 by kernel_rfl]; omega)
  rw [show Tryd.prog.arrayLen 61 = 64 by kernel_rfl] at hr
  have hs : (sizeOf (Tryd.prog.elem 61)).run Tryd.prog w = .ok 1 w := by
    have : Tryd.prog.elem 61 = 5 := by kernel_rfl
    rw [this]
    have hi : (Tryd.prog.info? 5).map (·.size) = some 1 := by kernel_rfl
    cases hq : Tryd.prog.info? 5 with
    | none => simp [hq] at hi
    | some i =>
      have h1 : i.size = 1 := by simpa [hq] using hi
      simp [sizeOf, typeInfo, hq, h1]
  rw [hs, Result.andThen_ok, Int.toNat_natCast] at hr
  have hv : slicedAt ⟨e, 8, none⟩ k 64 64 1 = sl e k := by
    unfold slicedAt sl
    by_cases h6 : k = 64
    · subst h6; rfl
    · rw [if_neg (by omega), if_neg h6, Nat.mul_one]
      have hadd : (⟨e, 8, none⟩ : Addr).add k = ⟨e, 8 + k, none⟩ := by unfold Addr.add; split <;> simp_all
      rw [hadd]
  rw [hv] at hr
  refine wpList_value hgd (v := sl e k) (w1 := w) ?_ h
  unfold execOp
  simp only [ho, hx, hy, Option.map_some, Option.map_none, Sem.run_bind, hr, Result.andThen_ok, Sem.run_pure]
theorem wpList_rest_clear {ops : Array Oper} {rest : List Oper} {o : Oper} {a : Act} {Q : Exit → Act → World → Prop} {w : World} (hgd : o.guard = none) (s : Operand) (ho : o.op = .call { callee := .builtin .clear, args := #[s], argTypes := #[69] }) (e k : Nat) (hs : a.eval s = sl e k) (hk : k ≤ 64)
    (v : V8) (r : Nat → UInt8) (hd c : Nat) (hg : AF e 64 74 (hf v r hd c) w)
    (h : ∀ w1, AF e 64 74 (hf v (fun j => if k ≤ j then 0 else r j) hd c) w1 → Fr (fun k => k = e) w w1 → wpList Tryd.prog ops Q rest (a.put o.dst (.tuple #[])) w1) : wpList Tryd.prog ops Q (o :: rest) a w := by
  by_cases h6 : k = 64
  · subst h6
    refine wpList_clear_sub hgd s 69 5 ho Tryd.underlying69 (b8 0) (by kernel_rfl) rfl rfl e 8 0 0 hs 64 _ hg (by rw [af_size]; omega) (fun w1 h1 hf1 => h w1 ?_ hf1)
    have h2 : ((af 74 (hf v r hd c)).toList.take 8 ++ List.replicate 0 (b8 0) ++ (af 74 (hf v r hd c)).toList.drop (8 + 0)).toArray = af 74 (hf v r hd c) := by simp
    rw [h2] at h1
    refine AF.congr (show AF e 64 74 (hf v r hd c) w1 from h1) (fun i hi => ?_)
    rw [hf, hf]
    by_cases h8 : i < 8
    · rw [if_pos h8, if_pos h8]
    · rw [if_neg h8, if_neg h8]
      by_cases h72 : i < 72
      · rw [if_pos h72, if_pos h72, if_neg (by omega)]
      · rw [if_neg h72, if_neg h72]
  · refine wpList_clear_sub hgd s 69 5 ho Tryd.underlying69 (b8 0) (by kernel_rfl) rfl rfl e (8 + k) (64 - k) (64 - k) (by rw [hs, sl, if_neg h6]) 64 _ hg (by rw [af_size]; omega) (fun w1 h1 hf1 => h w1 ?_ hf1)
    rw [hf_clear _ _ _ _ _ hk] at h1
    exact h1

theorem AF.rest_congr {e : Nat} {v : V8} {r r' : Nat → UInt8} {h c : Nat} {w : World} (ha : AF e 64 74 (hf v r h c) w) (hr : ∀ i, i < 64 → r i = r' i) : AF e 64 74 (hf v r' h c) w := by
  refine ha.congr (fun i hi => ?_)
  rw [hf, hf]
  by_cases h8 : i < 8
  · rw [if_pos h8, if_pos h8]
  · rw [if_neg h8, if_neg h8]
    by_cases h72 : i < 72
    · rw [if_pos h72, if_pos h72, hr _ (by omega)]
    · rw [if_neg h72, if_neg h72]
theorem mk_eq (l : List UInt8) (rest : Nat → UInt8) (hd : Nat) (hhd : hd = l.length % 64) (hr : ∀ i, i < hd → rest i = l.getD (64 * (l.length / 64) + i) 0) :
    ∀ i, i < 64 → (fun j => if hd + 1 ≤ j then (0 : UInt8) else if j = hd then 0x80 else rest j) i = mk l i := by
  intro i _
  unfold mk
  subst hhd
  by_cases h1 : i < l.length % 64
  · rw [if_pos h1, ← hr i h1]; show (if _ then _ else _) = _; rw [if_neg (by omega), if_neg (by omega)]
  · rw [if_neg h1]
    by_cases h2 : i = l.length % 64
    · rw [if_pos h2]; show (if _ then _ else _) = _; rw [if_neg (by omega), if_pos h2]
    · rw [if_neg h2]; show (if _ then _ else _) = _; rw [if_pos (by omega)]
theorem zero61 : ∃ zs : List Value, zs = (a64 fun _ => 0).toList := ⟨_, rfl⟩

theorem lenB_int (n i : Nat) : ((n : Int) * 8 / 2 ^ (8 * i) % 256) = ((lenB n i).toNat : Int) := by
  unfold lenB
  rw [UInt8.toNat_ofNat', Nat.mul_comm 8 n, Int.natCast_emod, Int.natCast_ediv, Int.natCast_mul, Int.natCast_pow]
  rfl
theorem len_step (n : Nat) (r1 : Nat → UInt8) (i : Nat) (hi : i < 8) :
    ∀ j, j < 64 → (fun j => if j = 63 - i then lenB n i else if 64 ≤ j + i then lenB n (63 - j) else r1 j) j = (fun j => if 64 ≤ j + (i + 1) then lenB n (63 - j) else r1 j) j := by
  intro j hj
  show (if _ then _ else if _ then _ else _) = (if _ then _ else _)
  by_cases h : j = 63 - i
  · rw [if_pos h, if_pos (by omega), h, show 63 - (63 - i) = i by omega]
  · rw [if_neg h]
    by_cases h2 : 64 ≤ j + i
    · rw [if_pos h2, if_pos (by omega)]
    · rw [if_neg h2, if_neg (by omega)]

abbrev z32 : Array Value := #[.int .u8 0, .int .u8 0, .int .u8 0, .int .u8 0, .int .u8 0, .int .u8 0, .int .u8 0, .int .u8 0, .int .u8 0, .int .u8 0, .int .u8 0, .int .u8 0, .int .u8 0, .int .u8 0, .int .u8 0, .int .u8 0, .int .u8 0, .int .u8 0, .int .u8 0, .int .u8 0, .int .u8 0, .int .u8 0, .int .u8 0, .int .u8 0, .int .u8 0, .int .u8 0, .int .u8 0, .int .u8 0, .int .u8 0, .int .u8 0, .int .u8 0, .int .u8 0]
theorem z32_eq : z32 = af 32 (fun _ => b8 0) := by kernel_rfl
def V8.at (v : V8) : Nat → UInt32
  | 0 => v.a | 1 => v.b | 2 => v.c | 3 => v.d | 4 => v.e | 5 => v.f | 6 => v.g | _ => v.h
theorem ixs (u : V8) (i : Nat) (hi : i < 8) : ∀ w, (Instr.index 60 (.agg (c8 u)) (.int .i64 (i : Int))).run Tryd.prog w = .ok (w32 (u.at i)) w := by
  intro w
  match i, hi with
  | 0, _ =>
    have h : (Instr.index 60 (.agg (c8 u)) (.int .i64 (0 : Int))).run Tryd.prog w = .ok (w32 u.a) w := by kernel_rfl
    exact h
  | 1, _ =>
    have h : (Instr.index 60 (.agg (c8 u)) (.int .i64 (1 : Int))).run Tryd.prog w = .ok (w32 u.b) w := by kernel_rfl
    exact h
  | 2, _ =>
    have h : (Instr.index 60 (.agg (c8 u)) (.int .i64 (2 : Int))).run Tryd.prog w = .ok (w32 u.c) w := by kernel_rfl
    exact h
  | 3, _ =>
    have h : (Instr.index 60 (.agg (c8 u)) (.int .i64 (3 : Int))).run Tryd.prog w = .ok (w32 u.d) w := by kernel_rfl
    exact h
  | 4, _ =>
    have h : (Instr.index 60 (.agg (c8 u)) (.int .i64 (4 : Int))).run Tryd.prog w = .ok (w32 u.e) w := by kernel_rfl
    exact h
  | 5, _ =>
    have h : (Instr.index 60 (.agg (c8 u)) (.int .i64 (5 : Int))).run Tryd.prog w = .ok (w32 u.f) w := by kernel_rfl
    exact h
  | 6, _ =>
    have h : (Instr.index 60 (.agg (c8 u)) (.int .i64 (6 : Int))).run Tryd.prog w = .ok (w32 u.g) w := by kernel_rfl
    exact h
  | 7, _ =>
    have h : (Instr.index 60 (.agg (c8 u)) (.int .i64 (7 : Int))).run Tryd.prog w = .ok (w32 u.h) w := by kernel_rfl
    exact h
def outAt (v : V8) (j : Nat) : UInt8 := (w4b (v.at (j / 4))).getD (j % 4) 0
def outF (v : V8) (i : Nat) : Nat → Value := fun j => if j < 4 * i then b8 (outAt v j) else b8 0
theorem outB_eq (v : V8) : outB v = (List.range 32).map (outAt v) := by rfl

theorem outF_at (v : V8) (i k : Nat) (hk : k < 4) : outF v (i + 1) (4 * i + k) = b8 ((w4b (v.at i)).getD k 0) := by
  rw [outF, if_pos (by omega), outAt, show (4 * i + k) / 4 = i by omega, show (4 * i + k) % 4 = k by omega]
theorem w4b3 (x : UInt32) : ((x.toNat : Int) % 256) = (((w4b x).getD 3 0).toNat : Int) := by
  show _ = ((x.toUInt8.toNat : Nat) : Int)
  rw [UInt32.toNat_toUInt8]
  omega
theorem w4b2 (x : UInt32) : ((x.toNat : Int) / 2 ^ 8 % 256) = (((w4b x).getD 2 0).toNat : Int) := by
  show _ = (((x >>> 8).toUInt8.toNat : Nat) : Int)
  rw [UInt32.toNat_toUInt8, UInt32.toNat_shiftRight, show (8 : UInt32).toNat % 32 = 8 from rfl, Nat.shiftRight_eq_div_pow]
  omega
theorem w4b1 (x : UInt32) : ((x.toNat : Int) / 2 ^ 16 % 256) = (((w4b x).getD 1 0).toNat : Int) := by
  show _ = (((x >>> 16).toUInt8.toNat : Nat) : Int)
  rw [UInt32.toNat_toUInt8, UInt32.toNat_shiftRight, show (16 : UInt32).toNat % 32 = 16 from rfl, Nat.shiftRight_eq_div_pow]
  omega
theorem w4b0 (x : UInt32) : ((x.toNat : Int) / 2 ^ 24 % 256) = (((w4b x).getD 0 0).toNat : Int) := by
  show _ = (((x >>> 24).toUInt8.toNat : Nat) : Int)
  rw [UInt32.toNat_toUInt8, UInt32.toNat_shiftRight, show (24 : UInt32).toNat % 32 = 24 from rfl, Nat.shiftRight_eq_div_pow]
  omega

set_option maxHeartbeats 8000000 in
set_option maxRecDepth 100000 in
theorem Sum_c (b : Nat) (l : List UInt8) (w : World) (hT : Tab32 17 kTab w) (h : HC b l l.length w) (hl : l.length ≤ 4503599627370496) :
    Calls Tryd.prog 66 #[.pointer (some ⟨b, 0, none⟩)] w fun e w' => e = .returned (.string (sb (shaL l))) ∧ Below w.heap.size w w' := by
  have HT := As.mk hT
  obtain ⟨rest, ha, hr⟩ := h
  obtain ⟨hd, hhd⟩ : ∃ hd, hd = l.length % 64 := ⟨_, rfl⟩
  rw [← hhd] at ha hr
  have HA := As.mk ha
  have HR := As.mk hr
  have HZ : As ((w.alloc (.cells Tryd.zeroCells64 64)).heap[w.heap.size]? = some (.cells Tryd.zeroCells64 64 (0, 0))) := ⟨Array.getElem?_push_size⟩
  have HBL : As (b < w.heap.size) := ⟨ha.lt⟩
  have hd64 : hd < 64 := by omega
  have HHD := hid_ hhd
  clear hT ha hr hhd
  have b0 : (0 : Int) ≤ (hd : Int) := by omega
  have b1 : (hd : Int) < 64 := by omega
  have b2 : (0 : Int) ≤ (hd : Int) + 1 := by omega
  have b3 : (hd : Int) + 1 ≤ 64 := by omega
  have b4 : ((hd : Int) + 1).toNat = hd + 1 := by omega
  have b5 : hd + 1 ≤ 64 := by omega
  by_cases hbig : 64 < hd + 9
  · go_enter Tryd.func66, Tryd.ntmps66
    go_wp2_with (first
      | (refine wpList_load_sub rfl 64 _ rfl b 0 rfl 64 _ (0, 0) _ (af 74 (hf (stOf l) rest hd l.length)).toList HA.out Tryd.underlying64 rfl (by kernel_rfl) (fun j x hx => by simpa using hx) ?_)
      | (refine wpList_store_sub rfl 64 _ _ rfl w.heap.size 0 rfl 64 Tryd.zeroCells64 (af 74 (hf (stOf l) rest hd l.length)).toList rfl HZ.out (by rw [af_len]; kernel_rfl) (by rw [af_len, zero64_size]; exact Nat.le_refl _) (hf_one _ _ _ _) ?_
         intro w1 h1 hf1
         rw [whole_store _ _ _ zero64_size] at h1
         have H1 : As (AF w.heap.size 64 74 (hf (stOf l) rest hd l.length) w1) := ⟨h1⟩
         have HF1 : As (Below w.heap.size w w1) := ⟨below_fr (below_alloc (Below.refl _ _) _) hf1⟩
         have c72 : w1.cell? ⟨w.heap.size, 72, none⟩ = some (.int .i64 hd) := H1.out.cell 72 (by omega)
         clear HZ h1 hf1)
      | (refine wpList_store_one rfl 5 _ _ rfl w.heap.size (8 + hd) rfl 64 74 _ (b8 0x80) rfl rfl rfl H1.out (by kernel_rfl) (by omega) ?_
         intro w2 h2 hf2
         have H2 := As.mk (AF.rest1 hd64 h2)
         have HF2 : As (Below w.heap.size w w2) := ⟨below_fr HF1.out hf2⟩
         have c72 : w2.cell? ⟨w.heap.size, 72, none⟩ = some (.int .i64 hd) := H2.out.cell 72 (by omega)
         clear H1 h2 hf2 HF1)
      | (refine wpList_rest_slice rfl _ _ rfl w.heap.size (hd + 1) rfl _ rfl (by omega) hd64 ?_)
      | (refine wpList_rest_clear rfl _ rfl w.heap.size (hd + 1) rfl hd64 _ _ _ _ H2.out ?_
         intro w3 h3 hf3
         have H3 : As (AF w.heap.size 64 74 (hf (stOf l) (mk l) hd l.length) w3) := ⟨h3.rest_congr (mk_eq l rest hd HHD.out HR.out)⟩
         have HF3 : As (Below w.heap.size w w3) := ⟨below_fr HF2.out hf3⟩
         have c73 : w3.cell? ⟨b, 73, none⟩ = some (.int .u64 l.length) := pw_cell_below HF3.out (HA.out.cell 73 (by omega))
         have c72 : w3.cell? ⟨w.heap.size, 72, none⟩ = some (.int .i64 hd) := H3.out.cell 72 (by omega)
         clear H2 h3 hf3 HF2)
      | (refine wpList_load_sub rfl 60 _ rfl w.heap.size 0 rfl 64 _ (0, 0) _ (c8 (stOf l)).toList H3.out Tryd.underlying60 rfl (by kernel_rfl) (hf_st _ _ _ _) ?_)
      | (refine wpList_load_sub rfl 61 _ rfl w.heap.size 8 rfl 64 _ (0, 0) _ (a64 (mk l)).toList H3.out Tryd.underlying61 rfl (by kernel_rfl) (hf_rest _ _ _ _) ?_))
    refine (take_c (stOf l) (mk l) w3 (HT.out.below HF3.out)).mono ?_
    rintro _ w4 ⟨rfl, hb4⟩
    have HE : As (w.heap.size < w3.heap.size) := ⟨H3.out.lt⟩
    have H4 : As (AF w.heap.size 64 74 (hf (stOf l) (mk l) hd l.length) w4) := ⟨(hb4.block _ HE.out).trans H3.out⟩
    have HF4 : As (Below w.heap.size w w4) := ⟨HF3.out.trans ⟨hb4.os, hb4.tape, hb4.output, hb4.size, fun k hk => hb4.block k (Nat.lt_trans hk HE.out)⟩⟩
    clear HE hb4 H3 HF3 c72 c73
    go_wp2_with (first
      | (refine wpList_store_sub rfl 60 _ _ rfl w.heap.size 0 rfl 64 _ (c8 (comp (stOf l) (mk l))).toList rfl H4.out (by kernel_rfl) (by rw [af_size]; simp) (by simp [w32, Value.oneCell']) ?_
         intro w5 h5 hf5
         rw [hf_set_st] at h5
         have H5 : As (AF w.heap.size 64 74 (hf (comp (stOf l) (mk l)) (mk l) hd l.length) w5) := ⟨h5⟩
         have HF5 : As (Below w.heap.size w w5) := ⟨below_fr HF4.out hf5⟩
         clear H4 h5 hf5 HF4)
      | (refine wpList_store_sub rfl 61 _ _ rfl w.heap.size 8 rfl 64 _ (a64 (fun _ => 0)).toList rfl H5.out (by kernel_rfl) (by rw [af_size]; simp [af]) (by simp [af, Value.oneCell']) ?_
         intro w6 h6 hf6
         rw [hf_set_rest'] at h6
         have H6 : As (AF w.heap.size 64 74 (hf (comp (stOf l) (mk l)) (fun _ => 0) hd l.length) w6) := ⟨h6⟩
         have HF6 : As (Below w.heap.size w w6) := ⟨below_fr HF5.out hf6⟩
         have c73 : w6.cell? ⟨b, 73, none⟩ = some (.int .u64 l.length) := pw_cell_below HF6.out (HA.out.cell 73 (by omega))
         clear H5 h6 hf6 HF5))
    have HK : As (comp (stOf l) (mk l) = stP (padB l) (l.length / 64 + 1) ∧ whole l.length = 64 * (l.length / 64 + 1 + 1) ∧ ∀ i, i < 56 → (fun _ => (0 : UInt8)) i = padB l (64 * (l.length / 64 + 1) + i)) := ⟨by
      have h9 := HHD.out
      have hw : whole l.length = 64 * (l.length / 64 + 1 + 1) := by unfold whole; omega
      refine ⟨?_, hw, fun i hi => (pad_zero l _ (by omega) (by omega)).symm⟩
      rw [stP, stOf_pad]
      exact comp_congr _ (fun i hi => mk_pad l i hi (by omega))⟩
    clear HR HA
    generalize comp (stOf l) (mk l) = v1 at *
    generalize l.length / 64 + 1 = K1 at *
    generalize (fun _ => (0 : UInt8)) = r1 at *
    generalize w6 = wx at *
    have HX := H6
    have HFX := HF6
    clear H6 HF6
    go_loopw [38] (fun c wr => ∃ i : Nat, c = .int .i64 i ∧ i ≤ 8 ∧ As (AF w.heap.size 64 74 (hf v1 (fun j => if 64 ≤ j + i then lenB l.length (63 - j) else r1 j) hd l.length) wr) ∧ As (Below w.heap.size w wr)) (fun c _ => (8 - intOf c).toNat)
    case atStart => exact ⟨0, rfl, by omega, ⟨HX.out.rest_congr (fun j hj => by rw [if_neg (by omega)])⟩, HFX⟩
    case round =>
      clear HX HFX
      obtain ⟨i, rfl, hi, HX, HFX⟩ := hrel
      by_cases hi8 : i < 8
      · have c0 : (0 : Int) ≤ (i : Int) := by omega
        have c1 : (i : Int) < 8 := by omega
        have hv := lenB_int l.length i
        go_wp2_with (
          (refine wpList_store_one rfl 5 _ _ rfl w.heap.size (8 + (63 - i)) rfl 64 74 _ _ rfl rfl rfl HX.out (by kernel_rfl) (by omega) ?_
           intro w7 h7 hf7
           rw [hv] at h7
           have HY : As (AF w.heap.size 64 74 (hf v1 (fun j => if 64 ≤ j + (i + 1) then lenB l.length (63 - j) else r1 j) hd l.length) w7) := ⟨(AF.rest1 (by omega) h7).rest_congr (len_step l.length r1 i hi8)⟩
           have HFY : As (Below w.heap.size w w7) := ⟨below_fr HFX.out hf7⟩
           clear HX h7 hf7 HFX))
        refine ⟨⟨i + 1, by go_num, by omega, HY, HFY⟩, ?_⟩
        simp [intOf]
        omega
      · have HP : As (AF w.heap.size 64 74 (hf v1 (fun j => padB l (64 * K1 + j)) hd l.length) wr) := ⟨HX.out.rest_congr (by
          intro j hj
          obtain ⟨_, hw, hp⟩ := HK.out
          show (if _ then _ else _) = _
          by_cases h : 56 ≤ j
          · rw [if_pos (by omega), pad_len l _ (by unfold whole at hw; omega) (by omega)]
            congr 1; omega
          · rw [if_neg (by omega)]; exact hp j (by omega))⟩
        clear HX
        go_wp2_with (first
          | (refine wpList_load_sub rfl 60 _ rfl w.heap.size 0 rfl 64 _ (0, 0) _ (c8 v1).toList HP.out Tryd.underlying60 rfl (by kernel_rfl) (hf_st _ _ _ _) ?_)
          | (refine wpList_load_sub rfl 61 _ rfl w.heap.size 8 rfl 64 _ (0, 0) _ (a64 (fun j => padB l (64 * K1 + j))).toList HP.out Tryd.underlying61 rfl (by kernel_rfl) (hf_rest _ _ _ _) ?_))
        refine (take_c v1 (fun j => padB l (64 * K1 + j)) wr (HT.out.below HFX.out)).mono ?_
        rintro _ w8 ⟨rfl, hb8⟩
        have HV : As (comp v1 (fun j => padB l (64 * K1 + j)) = stP (padB l) (whole l.length / 64)) := ⟨by
          obtain ⟨h1, hw, _⟩ := HK.out
          rw [hw, show 64 * (K1 + 1) / 64 = K1 + 1 by omega, stP, ← h1]⟩
        generalize comp v1 (fun j => padB l (64 * K1 + j)) = v2 at *
        have HE : As (w.heap.size < wr.heap.size) := ⟨HP.out.lt⟩
        have H8 : As (AF w.heap.size 64 74 (hf v1 (fun j => padB l (64 * K1 + j)) hd l.length) w8) := ⟨(hb8.block _ HE.out).trans HP.out⟩
        have HF8 : As (Below w.heap.size w w8) := ⟨HFX.out.trans ⟨hb8.os, hb8.tape, hb8.output, hb8.size, fun k hk => hb8.block k (Nat.lt_trans hk HE.out)⟩⟩
        clear HE hb8 HP HFX
        go_wp2_with (first
          | (refine wpList_store_sub rfl 60 _ _ rfl w.heap.size 0 rfl 64 _ (c8 v2).toList rfl H8.out (by kernel_rfl) (by rw [af_size]; simp) (by simp [w32, Value.oneCell']) ?_
             intro w9 h9 hf9
             rw [hf_set_st] at h9
             have H9 : As (AF w.heap.size 64 74 (hf v2 (fun j => padB l (64 * K1 + j)) hd l.length) (w9.alloc (.cells z32 120))) := ⟨(Below.heap_alloc w9 _ _ (Array.getElem?_eq_some_iff.1 h9).1).trans h9⟩
             have HF9 : As (Below w.heap.size w (w9.alloc (.cells z32 120))) := ⟨below_alloc (below_fr HF8.out hf9) _⟩
             have HO : As (AF w9.heap.size 120 32 (fun _ => b8 0) (w9.alloc (.cells z32 120))) := ⟨z32_eq ▸ Array.getElem?_push_size⟩
             have HLE : As (w.heap.size ≤ w9.heap.size) := ⟨Nat.le_of_lt (Array.getElem?_eq_some_iff.1 h9).1⟩
             clear H8 h9 hf9 HF8)
          | (refine wpList_load_sub rfl 60 _ rfl w.heap.size 0 rfl 64 _ (0, 0) _ (c8 v2).toList H9.out Tryd.underlying60 rfl (by kernel_rfl) (hf_st _ _ _ _) ?_))
        clear H9
        generalize w9.heap.size = ob at *
        have HO1 : As (AF ob 120 32 (outF v2 0) (w9.alloc (.cells z32 120))) := ⟨HO.out.congr (fun j hj => by rw [outF, if_neg (by omega)])⟩
        clear HO
        generalize w9.alloc (.cells z32 120) = w10 at *
        go_loopw [59] (fun c wr => ∃ i : Nat, c = .int .i64 i ∧ i ≤ 8 ∧ As (AF ob 120 32 (outF v2 i) wr) ∧ As (Below w.heap.size w wr)) (fun c _ => (8 - intOf c).toNat)
        case atStart => exact ⟨0, rfl, by omega, HO1, HF9⟩
        case round =>
          clear HO1 HF9 hi8 hi
          obtain ⟨i, rfl, hi, HO, HFO⟩ := hrel
          by_cases hi8 : i < 8
          · have c0 : (0 : Int) ≤ (i : Int) := by omega
            have c1 : (i : Int) < 8 := by omega
            have hx := ixs v2 i hi8
            go_wp2_with (first
              | (refine wpList_store_one rfl 5 _ _ rfl ob _ rfl 120 32 _ _ rfl rfl rfl HO.out (by kernel_rfl) (by omega) ?_
                 intro wa ha hfa
                 have HOa := As.mk ha
                 have HFa : As (Below w.heap.size w wa) := ⟨HFO.out.trans (hfa.below HFO.out.size (fun k hk e => by have := HLE.out; omega))⟩
                 clear HO ha hfa HFO)
              | (refine wpList_store_one rfl 5 _ _ rfl ob _ rfl 120 32 _ _ rfl rfl rfl HOa.out (by kernel_rfl) (by omega) ?_
                 intro wb ha hfa
                 have HOb := As.mk ha
                 have HFb : As (Below w.heap.size w wb) := ⟨HFa.out.trans (hfa.below HFa.out.size (fun k hk e => by have := HLE.out; omega))⟩
                 clear HOa ha hfa HFa)
              | (refine wpList_store_one rfl 5 _ _ rfl ob _ rfl 120 32 _ _ rfl rfl rfl HOb.out (by kernel_rfl) (by omega) ?_
                 intro wc ha hfa
                 have HOc := As.mk ha
                 have HFc : As (Below w.heap.size w wc) := ⟨HFb.out.trans (hfa.below HFb.out.size (fun k hk e => by have := HLE.out; omega))⟩
                 clear HOb ha hfa HFb)
              | (refine wpList_store_one rfl 5 _ _ rfl ob _ rfl 120 32 _ _ rfl rfl rfl HOc.out (by kernel_rfl) (by omega) ?_
                 intro wd ha hfa
                 have HOd := As.mk ha
                 have HFd : As (Below w.heap.size w wd) := ⟨HFc.out.trans (hfa.below HFc.out.size (fun k hk e => by have := HLE.out; omega))⟩
                 clear HOc ha hfa HFc))
            refine ⟨⟨i + 1, by go_num, by omega, ⟨HOd.out.congr (fun j hj => ?_)⟩, HFd⟩, by simp [intOf]; omega⟩
            show (if _ then _ else if _ then _ else if _ then _ else if _ then _ else _) = _
            by_cases h3 : j = 4 * i + 3
            · rw [if_pos h3, h3, outF_at v2 i 3 (by omega)]
              exact congrArg (Value.int .u8) (w4b3 (v2.at i))
            rw [if_neg h3]
            by_cases h2 : j = 4 * i + 2
            · rw [if_pos h2, h2, outF_at v2 i 2 (by omega)]
              exact congrArg (Value.int .u8) (w4b2 (v2.at i))
            rw [if_neg h2]
            by_cases h1 : j = 4 * i + 1
            · rw [if_pos h1, h1, outF_at v2 i 1 (by omega)]
              exact congrArg (Value.int .u8) (w4b1 (v2.at i))
            rw [if_neg h1]
            by_cases h0 : j = 4 * i
            · rw [if_pos h0, h0, show outF v2 (i + 1) (4 * i) = _ from outF_at v2 i 0 (by omega)]
              exact congrArg (Value.int .u8) (w4b0 (v2.at i))
            rw [if_neg h0, outF, outF]
            by_cases hj4 : j < 4 * i
            · rw [if_pos hj4, if_pos (by omega)]
            · rw [if_neg hj4, if_neg (by omega)]
          · have hi9 : i = 8 := by omega
            have HX : As (sb (outB v2) = sb (shaL l)) := ⟨by rw [HV.out]; rfl⟩
            have HCC : As (∀ i, i < 32 → wr.cell? ⟨ob, i, none⟩ = some (b8 ((outB v2).getD i 0))) := ⟨fun j hj => by
              rw [HO.out.cell j hj, outF, if_pos (by omega), outB_eq, List.getD_eq_getElem?_getD, List.getElem?_map, List.getElem?_range hj]
              rfl⟩
            clear hi9
            go_wp2_with (refine wpList_bytes_str rfl 69 9 5 _ rfl Tryd.underlying69 Tryd.underlying5 Tryd.underlying9 ob 32 32 rfl (outB v2) rfl HCC.out ?_)
            go_ret
            exact ⟨ret_str HX.out, HFO.out⟩
  · have hsm : hd + 9 ≤ 64 := by omega
    go_enter Tryd.func66, Tryd.ntmps66
    go_wp2_with (first
      | (refine wpList_load_sub rfl 64 _ rfl b 0 rfl 64 _ (0, 0) _ (af 74 (hf (stOf l) rest hd l.length)).toList HA.out Tryd.underlying64 rfl (by kernel_rfl) (fun j x hx => by simpa using hx) ?_)
      | (refine wpList_store_sub rfl 64 _ _ rfl w.heap.size 0 rfl 64 Tryd.zeroCells64 (af 74 (hf (stOf l) rest hd l.length)).toList rfl HZ.out (by rw [af_len]; kernel_rfl) (by rw [af_len, zero64_size]; exact Nat.le_refl _) (hf_one _ _ _ _) ?_
         intro w1 h1 hf1
         rw [whole_store _ _ _ zero64_size] at h1
         have H1 : As (AF w.heap.size 64 74 (hf (stOf l) rest hd l.length) w1) := ⟨h1⟩
         have HF1 : As (Below w.heap.size w w1) := ⟨below_fr (below_alloc (Below.refl _ _) _) hf1⟩
         have c72 : w1.cell? ⟨w.heap.size, 72, none⟩ = some (.int .i64 hd) := H1.out.cell 72 (by omega)
         clear HZ h1 hf1)
      | (refine wpList_store_one rfl 5 _ _ rfl w.heap.size (8 + hd) rfl 64 74 _ (b8 0x80) rfl rfl rfl H1.out (by kernel_rfl) (by omega) ?_
         intro w2 h2 hf2
         have H2 := As.mk (AF.rest1 hd64 h2)
         have HF2 : As (Below w.heap.size w w2) := ⟨below_fr HF1.out hf2⟩
         have c72 : w2.cell? ⟨w.heap.size, 72, none⟩ = some (.int .i64 hd) := H2.out.cell 72 (by omega)
         clear H1 h2 hf2 HF1)
      | (refine wpList_rest_slice rfl _ _ rfl w.heap.size (hd + 1) rfl _ rfl (by omega) hd64 ?_)
      | (refine wpList_rest_clear rfl _ rfl w.heap.size (hd + 1) rfl hd64 _ _ _ _ H2.out ?_
         intro w3 h3 hf3
         have H3 : As (AF w.heap.size 64 74 (hf (stOf l) (mk l) hd l.length) w3) := ⟨h3.rest_congr (mk_eq l rest hd HHD.out HR.out)⟩
         have HF3 : As (Below w.heap.size w w3) := ⟨below_fr HF2.out hf3⟩
         have c73 : w3.cell? ⟨b, 73, none⟩ = some (.int .u64 l.length) := pw_cell_below HF3.out (HA.out.cell 73 (by omega))
         have c72 : w3.cell? ⟨w.heap.size, 72, none⟩ = some (.int .i64 hd) := H3.out.cell 72 (by omega)
         clear H2 h3 hf3 HF2))
    have HK : As (stOf l = stP (padB l) (l.length / 64) ∧ whole l.length = 64 * (l.length / 64 + 1) ∧ ∀ i, i < 56 → mk l i = padB l (64 * (l.length / 64) + i)) := ⟨by
      have h9 := HHD.out
      have hw : whole l.length = 64 * (l.length / 64 + 1) := by unfold whole; omega
      refine ⟨stOf_pad l, hw, fun i hi => mk_pad l i (by omega) (by omega)⟩⟩
    clear HR HA
    generalize stOf l = v1 at *
    generalize l.length / 64 = K1 at *
    generalize mk l = r1 at *
    generalize w3 = wx at *
    have HX := H3
    have HFX := HF3
    clear H3 HF3
    go_loopw [38] (fun c wr => ∃ i : Nat, c = .int .i64 i ∧ i ≤ 8 ∧ As (AF w.heap.size 64 74 (hf v1 (fun j => if 64 ≤ j + i then lenB l.length (63 - j) else r1 j) hd l.length) wr) ∧ As (Below w.heap.size w wr)) (fun c _ => (8 - intOf c).toNat)
    case atStart => exact ⟨0, rfl, by omega, ⟨HX.out.rest_congr (fun j hj => by rw [if_neg (by omega)])⟩, HFX⟩
    case round =>
      clear HX HFX
      obtain ⟨i, rfl, hi, HX, HFX⟩ := hrel
      by_cases hi8 : i < 8
      · have c0 : (0 : Int) ≤ (i : Int) := by omega
        have c1 : (i : Int) < 8 := by omega
        have hv := lenB_int l.length i
        go_wp2_with (
          (refine wpList_store_one rfl 5 _ _ rfl w.heap.size (8 + (63 - i)) rfl 64 74 _ _ rfl rfl rfl HX.out (by kernel_rfl) (by omega) ?_
           intro w7 h7 hf7
           rw [hv] at h7
           have HY : As (AF w.heap.size 64 74 (hf v1 (fun j => if 64 ≤ j + (i + 1) then lenB l.length (63 - j) else r1 j) hd l.length) w7) := ⟨(AF.rest1 (by omega) h7).rest_congr (len_step l.length r1 i hi8)⟩
           have HFY : As (Below w.heap.size w w7) := ⟨below_fr HFX.out hf7⟩
           clear HX h7 hf7 HFX))
        refine ⟨⟨i + 1, by go_num, by omega, HY, HFY⟩, ?_⟩
        simp [intOf]
        omega
      · have HP : As (AF w.heap.size 64 74 (hf v1 (fun j => padB l (64 * K1 + j)) hd l.length) wr) := ⟨HX.out.rest_congr (by
          intro j hj
          obtain ⟨_, hw, hp⟩ := HK.out
          show (if _ then _ else _) = _
          by_cases h : 56 ≤ j
          · rw [if_pos (by omega), pad_len l _ (by unfold whole at hw; omega) (by omega)]
            congr 1; omega
          · rw [if_neg (by omega)]; exact hp j (by omega))⟩
        clear HX
        go_wp2_with (first
          | (refine wpList_load_sub rfl 60 _ rfl w.heap.size 0 rfl 64 _ (0, 0) _ (c8 v1).toList HP.out Tryd.underlying60 rfl (by kernel_rfl) (hf_st _ _ _ _) ?_)
          | (refine wpList_load_sub rfl 61 _ rfl w.heap.size 8 rfl 64 _ (0, 0) _ (a64 (fun j => padB l (64 * K1 + j))).toList HP.out Tryd.underlying61 rfl (by kernel_rfl) (hf_rest _ _ _ _) ?_))
        refine (take_c v1 (fun j => padB l (64 * K1 + j)) wr (HT.out.below HFX.out)).mono ?_
        rintro _ w8 ⟨rfl, hb8⟩
        have HV : As (comp v1 (fun j => padB l (64 * K1 + j)) = stP (padB l) (whole l.length / 64)) := ⟨by
          obtain ⟨h1, hw, _⟩ := HK.out
          rw [hw, show 64 * (K1 + 1) / 64 = K1 + 1 by omega, stP, ← h1]⟩
        generalize comp v1 (fun j => padB l (64 * K1 + j)) = v2 at *
        have HE : As (w.heap.size < wr.heap.size) := ⟨HP.out.lt⟩
        have H8 : As (AF w.heap.size 64 74 (hf v1 (fun j => padB l (64 * K1 + j)) hd l.length) w8) := ⟨(hb8.block _ HE.out).trans HP.out⟩
        have HF8 : As (Below w.heap.size w w8) := ⟨HFX.out.trans ⟨hb8.os, hb8.tape, hb8.output, hb8.size, fun k hk => hb8.block k (Nat.lt_trans hk HE.out)⟩⟩
        clear HE hb8 HP HFX
        go_wp2_with (first
          | (refine wpList_store_sub rfl 60 _ _ rfl w.heap.size 0 rfl 64 _ (c8 v2).toList rfl H8.out (by kernel_rfl) (by rw [af_size]; simp) (by simp [w32, Value.oneCell']) ?_
             intro w9 h9 hf9
             rw [hf_set_st] at h9
             have H9 : As (AF w.heap.size 64 74 (hf v2 (fun j => padB l (64 * K1 + j)) hd l.length) (w9.alloc (.cells z32 120))) := ⟨(Below.heap_alloc w9 _ _ (Array.getElem?_eq_some_iff.1 h9).1).trans h9⟩
             have HF9 : As (Below w.heap.size w (w9.alloc (.cells z32 120))) := ⟨below_alloc (below_fr HF8.out hf9) _⟩
             have HO : As (AF w9.heap.size 120 32 (fun _ => b8 0) (w9.alloc (.cells z32 120))) := ⟨z32_eq ▸ Array.getElem?_push_size⟩
             have HLE : As (w.heap.size ≤ w9.heap.size) := ⟨Nat.le_of_lt (Array.getElem?_eq_some_iff.1 h9).1⟩
             clear H8 h9 hf9 HF8)
          | (refine wpList_load_sub rfl 60 _ rfl w.heap.size 0 rfl 64 _ (0, 0) _ (c8 v2).toList H9.out Tryd.underlying60 rfl (by kernel_rfl) (hf_st _ _ _ _) ?_))
        clear H9
        generalize w9.heap.size = ob at *
        have HO1 : As (AF ob 120 32 (outF v2 0) (w9.alloc (.cells z32 120))) := ⟨HO.out.congr (fun j hj => by rw [outF, if_neg (by omega)])⟩
        clear HO
        generalize w9.alloc (.cells z32 120) = w10 at *
        go_loopw [59] (fun c wr => ∃ i : Nat, c = .int .i64 i ∧ i ≤ 8 ∧ As (AF ob 120 32 (outF v2 i) wr) ∧ As (Below w.heap.size w wr)) (fun c _ => (8 - intOf c).toNat)
        case atStart => exact ⟨0, rfl, by omega, HO1, HF9⟩
        case round =>
          clear HO1 HF9 hi8 hi
          obtain ⟨i, rfl, hi, HO, HFO⟩ := hrel
          by_cases hi8 : i < 8
          · have c0 : (0 : Int) ≤ (i : Int) := by omega
            have c1 : (i : Int) < 8 := by omega
            have hx := ixs v2 i hi8
            go_wp2_with (first
              | (refine wpList_store_one rfl 5 _ _ rfl ob _ rfl 120 32 _ _ rfl rfl rfl HO.out (by kernel_rfl) (by omega) ?_
                 intro wa ha hfa
                 have HOa := As.mk ha
                 have HFa : As (Below w.heap.size w wa) := ⟨HFO.out.trans (hfa.below HFO.out.size (fun k hk e => by have := HLE.out; omega))⟩
                 clear HO ha hfa HFO)
              | (refine wpList_store_one rfl 5 _ _ rfl ob _ rfl 120 32 _ _ rfl rfl rfl HOa.out (by kernel_rfl) (by omega) ?_
                 intro wb ha hfa
                 have HOb := As.mk ha
                 have HFb : As (Below w.heap.size w wb) := ⟨HFa.out.trans (hfa.below HFa.out.size (fun k hk e => by have := HLE.out; omega))⟩
                 clear HOa ha hfa HFa)
              | (refine wpList_store_one rfl 5 _ _ rfl ob _ rfl 120 32 _ _ rfl rfl rfl HOb.out (by kernel_rfl) (by omega) ?_
                 intro wc ha hfa
                 have HOc := As.mk ha
                 have HFc : As (Below w.heap.size w wc) := ⟨HFb.out.trans (hfa.below HFb.out.size (fun k hk e => by have := HLE.out; omega))⟩
                 clear HOb ha hfa HFb)
              | (refine wpList_store_one rfl 5 _ _ rfl ob _ rfl 120 32 _ _ rfl rfl rfl HOc.out (by kernel_rfl) (by omega) ?_
                 intro wd ha hfa
                 have HOd := As.mk ha
                 have HFd : As (Below w.heap.size w wd) := ⟨HFc.out.trans (hfa.below HFc.out.size (fun k hk e => by have := HLE.out; omega))⟩
                 clear HOc ha hfa HFc))
            refine ⟨⟨i + 1, by go_num, by omega, ⟨HOd.out.congr (fun j hj => ?_)⟩, HFd⟩, by simp [intOf]; omega⟩
            show (if _ then _ else if _ then _ else if _ then _ else if _ then _ else _) = _
            by_cases h3 : j = 4 * i + 3
            · rw [if_pos h3, h3, outF_at v2 i 3 (by omega)]
              exact congrArg (Value.int .u8) (w4b3 (v2.at i))
            rw [if_neg h3]
            by_cases h2 : j = 4 * i + 2
            · rw [if_pos h2, h2, outF_at v2 i 2 (by omega)]
              exact congrArg (Value.int .u8) (w4b2 (v2.at i))
            rw [if_neg h2]
            by_cases h1 : j = 4 * i + 1
            · rw [if_pos h1, h1, outF_at v2 i 1 (by omega)]
              exact congrArg (Value.int .u8) (w4b1 (v2.at i))
            rw [if_neg h1]
            by_cases h0 : j = 4 * i
            · rw [if_pos h0, h0, show outF v2 (i + 1) (4 * i) = _ from outF_at v2 i 0 (by omega)]
              exact congrArg (Value.int .u8) (w4b0 (v2.at i))
            rw [if_neg h0, outF, outF]
            by_cases hj4 : j < 4 * i
            · rw [if_pos hj4, if_pos (by omega)]
            · rw [if_neg hj4, if_neg (by omega)]
          · have hi9 : i = 8 := by omega
            have HX : As (sb (outB v2) = sb (shaL l)) := ⟨by rw [HV.out]; rfl⟩
            have HCC : As (∀ i, i < 32 → wr.cell? ⟨ob, i, none⟩ = some (b8 ((outB v2).getD i 0))) := ⟨fun j hj => by
              rw [HO.out.cell j hj, outF, if_pos (by omega), outB_eq, List.getD_eq_getElem?_getD, List.getElem?_map, List.getElem?_range hj]
              rfl⟩
            clear hi9
            go_wp2_with (refine wpList_bytes_str rfl 69 9 5 _ rfl Tryd.underlying69 Tryd.underlying5 Tryd.underlying9 ob 32 32 rfl (outB v2) rfl HCC.out ?_)
            go_ret
            exact ⟨ret_str HX.out, HFO.out⟩
end Go.Proofs.YtegeijlookpgaaaDoor
