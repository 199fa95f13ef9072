/- What field.all, field.Token and field.low compute. -/
import Derived.Test.YtegeijlookpgaaaDoorN1
import Derived.Test.YtegeijlookpgaaaDoorBA
import Derived.Lib.ConvBytes
set_option linter.unusedVariables false
set_option linter.unusedSimpArgs false
namespace Go.Proofs.YtegeijlookpgaaaDoor
open Go.RowKit Go.Proofs.YtegeijlookpgaaaDoorW.PrintWords

theorem all_drop (s : ByteArray) (p : UInt8 → Bool) (i : Nat) (hi : i < s.size) : ((bs s).drop i).all p = (p s[i] && ((bs s).drop (i + 1)).all p) := by
  rw [drop_bs s i hi, List.all_cons]

/-- all bytes of s are of a kind -/
def allK (k : Nat) (s : ByteArray) : Bool := (bs s).all (kindB k)
theorem str_nil (s : ByteArray) (h : bs s = []) : s.toList = [] ∧ s.toList.isEmpty = true ∧ (!s.toList.isEmpty) = false := by
  have : s.toList = [] := by rw [ByteArray.toList_eq]; exact h
  rw [this]; exact ⟨rfl, rfl, rfl⟩
theorem str_some (s : ByteArray) (h : bs s ≠ []) : ¬ s.toList = [] ∧ s.toList.isEmpty = false ∧ (!s.toList.isEmpty) = true := by
  have h1 : ¬ s.toList = [] := by rw [ByteArray.toList_eq]; exact h
  have h2 : s.toList.isEmpty = false := by simpa using h1
  exact ⟨h1, h2, by rw [h2]; rfl⟩

set_option maxHeartbeats 1000000 in
set_option maxRecDepth 100000 in
theorem all_c (s : ByteArray) (k : Nat) (hk : k = 1 ∨ k = 2 ∨ k = 4 ∨ k = 8) (w : World) (hT : KT w) (hs : s.size ≤ 1099511627776) :
    Calls Tryd.prog 79 #[.string s, .int .u8 k] w fun e w' => e = .returned (.bool (allK k s)) ∧ w' = w := by
  have HT := As.mk hT
  clear hT
  go_enter Tryd.func79, Tryd.ntmps79
  go_wp2
  go_loop [8] (fun v => ∃ i : Nat, v = .int .i64 i ∧ i ≤ s.size ∧ As (allK k s = ((bs s).drop i).all (kindB k))) (fun v => s.size - (intOf v).toNat)
  case atStart => exact ⟨0, rfl, Nat.zero_le _, ⟨rfl⟩⟩
  case round =>
    obtain ⟨i, rfl, hi, HA⟩ := hrel
    by_cases hlt : i < s.size
    · have HS := hid_ (all_drop s (kindB k) i hlt)
      cases hp : kindB k s[i]
      · go_wp2_with (go_at_call 100; refine (is_v s[i] k hk _ hp _ HT.out).mono ?_; rintro e w' ⟨rfl, rfl⟩)
        go_ret
        exact ⟨ret_bool (by rw [HA.out, HS.out, hp]; rfl), rfl⟩
      · go_wp2_with (go_at_call 100; refine (is_v s[i] k hk _ hp _ HT.out).mono ?_; rintro e w' ⟨rfl, rfl⟩)
        go_round
        case rel => exact ⟨i + 1, by go_num, by omega, ⟨by rw [HA.out, HS.out, hp]; rfl⟩⟩
        case measure => simp [intOf]; omega
    · go_wp2
      go_ret
      exact ⟨ret_bool (by rw [HA.out, List.drop_of_length_le (by rw [bs_size]; omega)]; rfl), rfl⟩

def tokenB (s : ByteArray) : Bool := !(bs s).isEmpty && (bs s).all tokB
theorem kind_tok_fun : kindB 1 = tokB := funext kind_tok
theorem kind_val_fun : kindB 4 = valB := funext kind_val
theorem kind_white_fun : kindB 8 = whiteB := funext kind_white
set_option maxRecDepth 100000 in
theorem Token_c (s : ByteArray) (w : World) (hT : KT w) (hs : s.size ≤ 1099511627776) :
    Calls Tryd.prog 52 #[.string s] w fun e w' => e = .returned (.bool (tokenB s)) ∧ w' = w := by
  have HT := As.mk hT
  clear hT
  by_cases h0 : bs s = []
  · obtain ⟨h1, h2, h3⟩ := str_nil s h0
    have HF : As (tokenB s = false) := ⟨by unfold tokenB; rw [h0]; rfl⟩
    clear h0
    go_enter Tryd.func52, Tryd.ntmps52
    go_wp2
    go_ret
    exact ⟨ret_bool HF.out.symm, rfl⟩
  · obtain ⟨h1, h2, h3⟩ := str_some s h0
    have HF : As (tokenB s = allK 1 s) := ⟨by
      unfold tokenB allK
      rw [kind_tok_fun]
      have : (bs s).isEmpty = false := by simpa using h0
      rw [this]; rfl⟩
    clear h0
    go_enter Tryd.func52, Tryd.ntmps52
    go_wp2_with (go_at_call 79; refine (all_c s 1 (.inl rfl) _ HT.out hs).mono ?_; rintro e w' ⟨rfl, rfl⟩)
    go_ret
    exact ⟨ret_bool HF.out.symm, rfl⟩

/-- block g holds these bytes (and perhaps more behind them); what lay there before stands -/
structure BW (w0 : World) (g : Nat) (l : List UInt8) (w : World) : Prop where
  blk : ∃ cs, w.heap[g]? = some (.cells cs 5 (cs.size, cs.size + 1)) ∧ l.length ≤ cs.size ∧ cs.toList.take l.length = cells8 l
  lo : w0.heap.size ≤ g
  fr : Below w0.heap.size w0 w
theorem BW.cell {w0 : World} {g : Nat} {l : List UInt8} {w : World} (h : BW w0 g l w) (i : Nat) (hi : i < l.length) : w.cell? ⟨g, i, none⟩ = some (.int .u8 l[i].toNat) := by
  obtain ⟨cs, hb, hle, ht⟩ := h.blk
  rw [Lib.cell_of_heap hb]
  have h1 : (cs.toList.take l.length)[i]? = cs[i]? := by rw [List.getElem?_take, if_pos hi, Array.getElem?_toList]
  rw [← h1, ht]
  simp [cells8, hi]
theorem BW.fz {w0 : World} {g : Nat} {l : List UInt8} {w : World} (h : BW w0 g l w) (i : Nat) (hi : i < l.length) : w.frozen? ⟨g, i, none⟩ = false := by
  obtain ⟨cs, hb, hle, ht⟩ := h.blk
  simp [World.frozen?, hb]
  omega
theorem BW.set {w0 : World} {g : Nat} {l : List UInt8} {w : World} (h : BW w0 g l w) (i : Nat) (hi : i < l.length) (c : UInt8) : BW w0 g (l.set i c) (w.setCell ⟨g, i, none⟩ (.int .u8 c.toNat)) := by
  obtain ⟨cs, hb, hle, ht⟩ := h.blk
  refine ⟨⟨cs.setIfInBounds i (.int .u8 c.toNat), ?_, by simpa using hle, ?_⟩, h.lo, h.fr.setCell h.lo _⟩
  · simp [World.setCell, Array.getElem?_modify, hb]
  · rw [List.length_set, Array.toList_setIfInBounds, List.take_set, ht]
    simp [cells8, List.map_set]
theorem BW.drew {w0 : World} {g : Nat} {l : List UInt8} {w : World} (h : BW w0 g l w) : BW w0 g l w.drew := ⟨h.blk, h.lo, ⟨h.fr.os, h.fr.tape, h.fr.output, h.fr.size, h.fr.block⟩⟩
theorem BW.new (w : World) (s : ByteArray) : BW w w.heap.size (bs s) (Lib.bytesWorld w 5 s) := by
  refine ⟨⟨Lib.bytesCells w 5 s, Lib.bytesWorld_at_new w 5 s, ?_, ?_⟩, Nat.le_refl _, ⟨rfl, rfl, rfl, by rw [Lib.bytesWorld_size]; omega, fun i hi => Lib.bytesWorld_at_old w 5 s i hi⟩⟩
  · simp [Lib.bytesCells, bs]
  · simp [Lib.bytesCells, bs, cells8]
section
variable {ops : Array Oper} {rest : List Oper} {o : Oper} {a : Act} {Q : Exit → Act → World → Prop}
/-- []byte(s) -/
theorem bytes_of {w : World} (hgd : o.guard = none) (x : Operand) (ho : o.op = .convert 9 69 x) (s : ByteArray) (hx : a.eval x = .string s)
    (h : ∀ c w1, BW w w.heap.size (bs s) w1 → wpList Tryd.prog ops Q rest (a.put o.dst (.slice (some ⟨w.heap.size, 0, none⟩) s.size c)) w1) : wpList Tryd.prog ops Q (o :: rest) a w := by
  refine wpList_value hgd (v := .slice (some ⟨w.heap.size, 0, none⟩) s.size (grownCap w s.size 0 5)) (w1 := Lib.bytesWorld w 5 s) ?_ (h _ _ (BW.new w s))
  unfold execOp
  have hr := Lib.run_convert_string_bytes (P := Tryd.prog) w 9 69 5 s Tryd.underlying9 Tryd.underlying69 Tryd.underlying5
  simp only [ho, hx, Sem.run_bind, hr, Result.andThen_ok, Sem.run_pure]
/-- string(v) of such a block -/
theorem bytes_str {w0 w : World} (hgd : o.guard = none) (x : Operand) (ho : o.op = .convert 69 9 x) (g n c : Nat) (l : List UInt8) (hx : a.eval x = .slice (some ⟨g, 0, none⟩) n c) (hn : n = l.length) (HO : BW w0 g l w)
    (h : wpList Tryd.prog ops Q rest (a.put o.dst (.string (sb l))) w) : wpList Tryd.prog ops Q (o :: rest) a w := by
  subst hn
  refine wpList_value hgd (v := .string (sb l)) (w1 := w) ?_ h
  unfold execOp
  have hr := run_convert_bytes_arg (P := Tryd.prog) w 69 5 Tryd.underlying69 Tryd.underlying5 g 0 l.length c (l.map fun b => (b.toNat : Int)) (by simp) (fun i hi => by
    rw [Nat.zero_add, HO.cell i hi]
    simp only [List.getD_eq_getElem?_getD, List.getElem?_map, List.getElem?_eq_getElem hi]
    rfl) 9 Tryd.underlying9
  have hb : strOfNums (l.map fun b => (b.toNat : Int)) = sb l := by simp [strOfNums, sb, Function.comp_def]
  rw [hb] at hr
  simp only [ho, hx, Sem.run_bind, hr, Result.andThen_ok, Sem.run_pure]
end

theorem low_len (l : List UInt8) : (low l).length = l.length := by simp [low]
def lowTo (l : List UInt8) (i : Nat) : List UInt8 := low (l.take i) ++ l.drop i
theorem lowTo_len (l : List UInt8) (i : Nat) (hi : i ≤ l.length) : (lowTo l i).length = l.length := by simp [lowTo, low]; omega
theorem lowTo_get (l : List UInt8) (i : Nat) (hi : i < l.length) : (lowTo l i)[i]'(by rw [lowTo_len l i (by omega)]; exact hi) = l[i] := by
  have h1 : (low (l.take i)).length = i := by simp [low]; omega
  simp only [lowTo]
  rw [List.getElem_append_right (by omega)]
  simp [h1]
theorem lowTo_succ (l : List UInt8) (i : Nat) (hi : i < l.length) : (lowTo l i).set i (lowB l[i]) = lowTo l (i + 1) := by
  have h1 : (low (l.take i)).length = i := by simp [low]; omega
  rw [lowTo, List.set_append_right _ _ (by omega), h1, Nat.sub_self, List.drop_eq_getElem_cons hi, List.set_cons_zero, lowTo, List.take_add_one, List.getElem?_eq_getElem hi]
  simp only [low, List.map_append, Option.toList, List.map_cons, List.map_nil, List.append_assoc, List.cons_append, List.nil_append]
theorem lowTo_same (l : List UInt8) (i : Nat) (hi : i < l.length) (h : lowB l[i] = l[i]) : lowTo l i = lowTo l (i + 1) := by
  rw [← lowTo_succ l i hi, h]
  have h1 := lowTo_get l i hi
  have h2 : i < (lowTo l i).length := by rw [lowTo_len l i (by omega)]; exact hi
  rw [← h1, List.set_getElem_self]

set_option maxHeartbeats 2000000 in
set_option maxRecDepth 100000 in
theorem low_c (s : ByteArray) (w : World) (hs : s.size ≤ 1099511627776) :
    Calls Tryd.prog 51 #[.string s] w fun e w' => e = .returned (.string (sb (low (bs s)))) ∧ Below w.heap.size w w' := by
  go_enter Tryd.func51, Tryd.ntmps51
  go_wp2_with (refine bytes_of rfl _ rfl s rfl ?_; intro cap w1 hbw; have HB := As.mk hbw; clear hbw)
  go_loopw [10] (fun v wr => ∃ i : Nat, v = .int .i64 i ∧ i ≤ s.size ∧ As (BW w w.heap.size (lowTo (bs s) i) wr)) (fun v _ => s.size - (intOf v).toNat)
  case atStart => exact ⟨0, rfl, Nat.zero_le _, ⟨by simpa [lowTo, low] using HB.out⟩⟩
  case round =>
    clear HB
    obtain ⟨i, rfl, hi, HB⟩ := hrel
    by_cases hlt : i < s.size
    · have hlb : i < (bs s).length := by rw [bs_size]; exact hlt
      have hll : i < (lowTo (bs s) i).length := by rw [lowTo_len _ _ (by omega)]; exact hlb
      have hc := HB.out.cell i hll
      rw [lowTo_get _ _ hlb] at hc
      have hf := HB.out.fz i hll
      have hlt2 := ((bs s)[i]).toNat_lt
      have HSET := As.mk (fun c => HB.out.set i hll c)
      have HSU := hid_ (lowTo_succ (bs s) i hlb)
      have HSA := As.mk (lowTo_same (bs s) i hlb)
      generalize (bs s)[i] = c at *
      by_cases hu : 65 ≤ c.toNat ∧ c.toNat ≤ 90
      · have hq1 : decide ((65 : Int) ≤ (c.toNat : Int)) = true := by simp; omega
        have hq2 : decide ((c.toNat : Int) ≤ 90) = true := by simp; omega
        have HLB : As (((c.toNat : Int) + 97 - 65) = ((lowB c).toNat : Int)) := ⟨by
          unfold lowB
          have a1 : (65 : UInt8) ≤ c := by rw [UInt8.le_iff_toNat_le]; exact hu.1
          have a2 : c ≤ (90 : UInt8) := by rw [UInt8.le_iff_toNat_le]; exact hu.2
          simp only [a1, a2, decide_true, Bool.and_self, if_true]
          rw [UInt8.toNat_add]
          show _ = (((c.toNat + 32) % 256 : Nat) : Int)
          omega⟩
        go_wp2
        refine ⟨⟨i + 1, by go_num, by omega, ?_⟩, by simp [intOf]; omega⟩
        rw [HLB.out, ← HSU.out]
        exact ⟨HSET.out _⟩
      · have hq1 : decide ((65 : Int) ≤ (c.toNat : Int)) = true → decide ((c.toNat : Int) ≤ 90) = false := by simp; omega
        have HS2 : As (lowTo (bs s) i = lowTo (bs s) (i + 1)) := ⟨HSA.out (by
          unfold lowB
          rw [if_neg]
          intro h
          simp only [Bool.and_eq_true, decide_eq_true_eq, UInt8.le_iff_toNat_le] at h
          exact hu h)⟩
        by_cases hq : (65 : Int) ≤ (c.toNat : Int)
        · have hq2 : decide ((65 : Int) ≤ (c.toNat : Int)) = true := by simpa using hq
          have hq3 := hq1 hq2
          clear hq1
          go_wp2
          exact ⟨⟨i + 1, by go_num, by omega, ⟨by rw [← HS2.out]; exact HB.out⟩⟩, by simp [intOf]; omega⟩
        · have hq2 : decide ((65 : Int) ≤ (c.toNat : Int)) = false := by simpa using hq
          clear hq1
          go_wp2
          exact ⟨⟨i + 1, by go_num, by omega, ⟨by rw [← HS2.out]; exact HB.out⟩⟩, by simp [intOf]; omega⟩
    · have HE : As (lowTo (bs s) i = low (bs s)) := ⟨by
        unfold lowTo
        rw [List.take_of_length_le (by rw [bs_size]; omega), List.drop_of_length_le (by rw [bs_size]; omega), List.append_nil]⟩
      have HLN := hid_ (lowTo_len (bs s) i (by rw [bs_size]; omega))
      go_wp2_with (refine bytes_str rfl _ rfl w.heap.size s.size cap (lowTo (bs s) i) rfl (by rw [HLN.out, bs_size]) HB.out ?_)
      go_ret
      exact ⟨ret_str (by rw [HE.out]), HB.out.fr⟩
end Go.Proofs.YtegeijlookpgaaaDoor
