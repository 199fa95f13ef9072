/- What sums.Hash.Add does. -/
import Derived.Test.YtegeijlookpgaaaDoorS3
import Derived.Test.YtegeijlookpgaaaDoorWLast
set_option linter.unusedVariables false
set_option linter.unusedSimpArgs false
namespace Go.Proofs.YtegeijlookpgaaaDoor
open Go.RowKit Go.Proofs.YtegeijlookpgaaaDoorW.PrintWords Go.Proofs.YtegeijlookpgaaaDoorW.PrintLast

/-- A store of an aggregate into a part of a block, in a region that draws its order. -/
theorem store_sub_ {P : Program} {ops : Array Oper} {Q : Exit → Act → World → Prop} {oi : Oper} {a : Act} {w : World} {K : Act → World → Prop} (hw : Region.wanted oi (yielded ops a.tmps) = true) (hN : oi.dst = none)
    (ty : TypeId) (x y : Operand) (ho : oi.op = .store ty x y) (g off : Nat) (hx : a.eval x = .pointer (some ⟨g, off, none⟩)) (t : TypeId) (cs : Array Value) (vs : List Value) (hy : a.eval y = .agg vs.toArray)
    (hg : w.heap[g]? = some (.cells cs t (0, 0))) (hi : (P.info? ty).map (·.size) = some vs.length) (hfit : off + vs.length ≤ cs.size) (h1 : ∀ v ∈ vs, v.oneCell' = true)
    (h : ∀ w1, w1.heap[g]? = some (.cells (cs.toList.take off ++ vs ++ cs.toList.drop (off + vs.length)).toArray t (0, 0)) → Fr (fun k => k = g) w w1 → K a w1) :
    if Region.wanted oi (yielded ops a.tmps) = true then Oper.wp P oi a w K Q else K (a.put none undef) w := by
  obtain ⟨w1, e1, e2, e3⟩ := exec_store_sub (P := P) (w := w) ty x y ho g off hx t cs vs hy hg hi hfit h1
  exact skip_ hw hN e1 (h w1 e2 e3)

/-! ### the digest, in pieces -/
def vInit : V8 := ⟨0x6a09e667, 0xbb67ae85, 0x3c6ef372, 0xa54ff53a, 0x510e527f, 0x9b05688c, 0x1f83d9ab, 0x5be0cd19⟩
theorem word_congr {p q : Nat → UInt8} (h : ∀ i, i < 64 → p i = q i) (t : Nat) (ht : t < 16) : word p t = word q t := by
  unfold word
  rw [h _ (by omega), h _ (by omega), h _ (by omega), h _ (by omega)]
theorem sch_lo (p : Nat → UInt8) (t : Nat) (h : t < 16) : sch p t = word p t := by rw [sch, dif_pos h]
theorem sch_hi (p : Nat → UInt8) (t : Nat) (h : ¬ t < 16) : sch p t = sch p (t - 16) + s0 (sch p (t - 15)) + sch p (t - 7) + s1 (sch p (t - 2)) := by rw [sch, dif_neg h]
theorem sch_congr {p q : Nat → UInt8} (h : ∀ i, i < 64 → p i = q i) : ∀ t, sch p t = sch q t := by
  intro t
  induction t using Nat.strongRecOn with
  | _ t ih =>
    by_cases ht : t < 16
    · rw [sch_lo p t ht, sch_lo q t ht, word_congr h t ht]
    · rw [sch_hi p t ht, sch_hi q t ht, ih _ (by omega), ih _ (by omega), ih _ (by omega), ih _ (by omega)]
theorem comp_congr {p q : Nat → UInt8} (v : V8) (h : ∀ i, i < 64 → p i = q i) : comp v p = comp v q := by
  have : sch p = sch q := funext (sch_congr h)
  unfold comp
  rw [this]
def piece (l : List UInt8) (k : Nat) : Nat → UInt8 := fun i => l.getD (64 * k + i) 0
def stN (l : List UInt8) : Nat → V8
  | 0 => vInit
  | k + 1 => comp (stN l k) (piece l k)
def stOf (l : List UInt8) : V8 := stN l (l.length / 64)
theorem stN_append (l m : List UInt8) : ∀ k, 64 * k ≤ l.length → stN (l ++ m) k = stN l k
  | 0, _ => rfl
  | k + 1, h => by
    rw [stN, stN, stN_append l m k (by omega)]
    refine comp_congr _ (fun i hi => ?_)
    unfold piece
    rw [List.getD_eq_getElem?_getD, List.getD_eq_getElem?_getD, List.getElem?_append_left (by omega)]

/-- a Hash's cells -/
def hf (v : V8) (rest : Nat → UInt8) (held cnt : Nat) : Nat → Value := fun i =>
  if i < 8 then (c8 v)[i]?.getD undef else if i < 72 then b8 (rest (i - 8)) else if i = 72 then .int .i64 (held : Int) else .int .u64 (cnt : Int)
def upd (rest : Nat → UInt8) (k : Nat) (l : List UInt8) : Nat → UInt8 := fun i => if k ≤ i ∧ i < k + l.length then l.getD (i - k) 0 else rest i
theorem hf_st (v : V8) (rest : Nat → UInt8) (held cnt : Nat) : ∀ (j : Nat) (u : Value), (c8 v).toList[j]? = some u → (af 74 (hf v rest held cnt))[0 + j]? = some u := by
  intro j u hj
  have hj8 : j < 8 := by simpa using (List.getElem?_eq_some_iff.1 hj).1
  rw [Nat.zero_add, af_get _ _ _ (by omega), hf, if_pos hj8]
  rw [Array.getElem?_toList] at hj
  rw [hj]; rfl
theorem hf_rest (v : V8) (rest : Nat → UInt8) (held cnt : Nat) : ∀ (j : Nat) (u : Value), (a64 rest).toList[j]? = some u → (af 74 (hf v rest held cnt))[8 + j]? = some u := by
  intro j u hj
  have hj8 : j < 64 := by have := (List.getElem?_eq_some_iff.1 hj).1; simpa [af] using this
  rw [af_get _ _ _ (by omega), hf, if_neg (by omega), if_pos (by omega), Nat.add_sub_cancel_left]
  rw [Array.getElem?_toList, af_get _ _ _ hj8] at hj
  exact hj
theorem af_ext {n : Nat} {f : Nat → Value} {l : List Value} (hl : l.length = n) (h : ∀ i, i < n → l[i]? = some (f i)) : l.toArray = af n f := by
  unfold af
  congr 1
  apply List.ext_getElem?
  intro i
  by_cases hi : i < n
  · rw [h i hi]; simp [hi]
  · rw [List.getElem?_eq_none (by omega), List.getElem?_eq_none (by simp; omega)]
theorem af_toList (n : Nat) (f : Nat → Value) (i : Nat) (h : i < n) : (af n f).toList[i]? = some (f i) := by rw [Array.getElem?_toList, af_get n f i h]
theorem af_len (n : Nat) (f : Nat → Value) : (af n f).toList.length = n := by simp [af]
/-- a part written over -/
theorem af_splice (n : Nat) (f : Nat → Value) (off : Nat) (vs : List Value) (h : off + vs.length ≤ n) :
    ((af n f).toList.take off ++ vs ++ (af n f).toList.drop (off + vs.length)).toArray = af n (fun i => if off ≤ i ∧ i < off + vs.length then vs[i - off]?.getD undef else f i) := by
  have hl := af_len n f
  refine af_ext (by simp only [List.length_append, List.length_take, List.length_drop, hl]; omega) (fun i hi => ?_)
  by_cases h1 : i < off
  · rw [List.append_assoc, List.getElem?_append_left (by rw [List.length_take, hl]; omega), List.getElem?_take, if_pos h1, af_toList n f i hi, if_neg (by omega)]
  · by_cases h2 : i < off + vs.length
    · rw [List.append_assoc, List.getElem?_append_right (by rw [List.length_take, hl]; omega), List.length_take, hl, Nat.min_eq_left (by omega), List.getElem?_append_left (by omega), if_pos ⟨by omega, h2⟩]
      rw [List.getElem?_eq_getElem (by omega)]; rfl
    · rw [List.getElem?_append_right (by simp only [List.length_append, List.length_take, hl]; omega), List.getElem?_drop, if_neg (by omega)]
      simp only [List.length_append, List.length_take, hl]
      rw [show off + vs.length + (i - (min off n + vs.length)) = i by omega, af_toList n f i hi]
theorem af_congr {n : Nat} {f g : Nat → Value} (h : ∀ i, i < n → f i = g i) : af n f = af n g := by
  unfold af
  rw [List.map_congr_left (fun i hi => h i (List.mem_range.1 hi))]
theorem hf_set_st (v v' : V8) (rest : Nat → UInt8) (held cnt : Nat) :
    ((af 74 (hf v rest held cnt)).toList.take 0 ++ (c8 v').toList ++ (af 74 (hf v rest held cnt)).toList.drop (0 + (c8 v').toList.length)).toArray = af 74 (hf v' rest held cnt) := by
  rw [af_splice _ _ _ _ (by simp)]
  refine af_congr (fun i hi => ?_)
  have hl : (c8 v').toList.length = 8 := by simp
  by_cases h : i < 8
  · rw [if_pos (by omega), hf, if_pos h, Nat.sub_zero, Array.getElem?_toList]
  · rw [if_neg (by omega), hf, hf, if_neg h, if_neg h]
theorem hf_set_rest (v : V8) (rest : Nat → UInt8) (held cnt k : Nat) (l : List UInt8) (hk : k + l.length ≤ 64) :
    ((af 74 (hf v rest held cnt)).toList.take (8 + k) ++ cells8 l ++ (af 74 (hf v rest held cnt)).toList.drop (8 + k + l.length)).toArray = af 74 (hf v (upd rest k l) held cnt) := by
  have hl := cells8_length l
  rw [← hl, af_splice _ _ _ _ (by omega)]
  refine af_congr (fun i hi => ?_)
  rw [hl]
  by_cases h : 8 + k ≤ i ∧ i < 8 + k + l.length
  · rw [if_pos h, hf, if_neg (by omega), if_pos (by omega), upd, if_pos (by omega)]
    simp only [cells8, List.getElem?_map]
    rw [List.getElem?_eq_getElem (by omega), List.getD_eq_getElem?_getD, show i - 8 - k = i - (8 + k) by omega, List.getElem?_eq_getElem (by omega)]
    rfl
  · rw [if_neg h, hf, hf]
    by_cases h8 : i < 8
    · rw [if_pos h8, if_pos h8]
    · rw [if_neg h8, if_neg h8]
      by_cases h72 : i < 72
      · rw [if_pos h72, if_pos h72, upd, if_neg (by omega)]
      · rw [if_neg h72, if_neg h72]

/-- block b is a Hash that has taken in l; its count says cnt -/
def HC (b : Nat) (l : List UInt8) (cnt : Nat) (w : World) : Prop :=
  ∃ rest : Nat → UInt8, AF b 64 74 (hf (stOf l) rest (l.length % 64) cnt) w ∧ ∀ i, i < l.length % 64 → rest i = l.getD (64 * (l.length / 64) + i) 0
theorem upd_rest (l d : List UInt8) (rest : Nat → UInt8) (hr : ∀ i, i < l.length % 64 → rest i = l.getD (64 * (l.length / 64) + i) 0) (hd : l.length % 64 + d.length ≤ 64) :
    ∀ i, i < l.length % 64 + d.length → upd rest (l.length % 64) d i = (l ++ d).getD (64 * (l.length / 64) + i) 0 := by
  intro i hi
  rw [List.getD_eq_getElem?_getD]
  by_cases h : l.length % 64 ≤ i
  · rw [upd, if_pos ⟨h, hi⟩, List.getElem?_append_right (by omega), List.getD_eq_getElem?_getD]
    rw [show 64 * (l.length / 64) + i - l.length = i - l.length % 64 by omega]
  · rw [upd, if_neg (by omega), hr i (by omega), List.getElem?_append_left (by omega), List.getD_eq_getElem?_getD]
theorem HC.same {b : Nat} {l d : List UInt8} {cnt : Nat} {w : World} {rest : Nat → UInt8} (h : AF b 64 74 (hf (stOf l) rest (l.length % 64 + d.length) cnt) w) (hr : ∀ i, i < l.length % 64 + d.length → rest i = (l ++ d).getD (64 * (l.length / 64) + i) 0) (hd : l.length % 64 + d.length < 64) :
    HC b (l ++ d) cnt w := by
  have e1 : (l ++ d).length % 64 = l.length % 64 + d.length := by rw [List.length_append]; omega
  have e2 : (l ++ d).length / 64 = l.length / 64 := by rw [List.length_append]; omega
  refine ⟨rest, ?_, fun i hi => by rw [e1] at hi; rw [e2]; exact hr i hi⟩
  rw [e1, stOf, e2, stN_append l d _ (by omega)]
  exact h
theorem HC.full {b : Nat} {l d : List UInt8} {cnt : Nat} {w : World} {rest : Nat → UInt8} (h : AF b 64 74 (hf (comp (stOf l) rest) rest 0 cnt) w) (hr : ∀ i, i < l.length % 64 + d.length → rest i = (l ++ d).getD (64 * (l.length / 64) + i) 0) (hd : l.length % 64 + d.length = 64) :
    HC b (l ++ d) cnt w := by
  have e1 : (l ++ d).length % 64 = 0 := by rw [List.length_append]; omega
  have e2 : (l ++ d).length / 64 = l.length / 64 + 1 := by rw [List.length_append]; omega
  refine ⟨rest, ?_, fun i hi => by omega⟩
  have hc := comp_congr (p := rest) (q := piece (l ++ d) (l.length / 64)) (stOf l) (fun i hi => hr i (by omega))
  rw [e1, stOf, e2, stN, stN_append l d _ (by omega)]
  rw [hc] at h
  exact h

theorem AF.held {b : Nat} {v : V8} {rest : Nat → UInt8} {h c : Nat} {w : World} (ha : AF b 64 74 (hf v rest h c) w) (h' : Nat) (x : Int) (hx : x = h') : AF b 64 74 (hf v rest h' c) (w.setCell ⟨b, 72, none⟩ (.int .i64 x)) := by
  refine (ha.set 72 _).congr (fun i hi => ?_)
  subst hx
  by_cases h : i = 72
  · subst h; rw [if_pos rfl]; simp [hf]
  · rw [if_neg h, hf, hf]
    by_cases h8 : i < 8
    · rw [if_pos h8, if_pos h8]
    · rw [if_neg h8, if_neg h8]
      by_cases h72 : i < 72
      · rw [if_pos h72, if_pos h72]
      · rw [if_neg h72, if_neg h72, if_neg h, if_neg h]
theorem bs_extract (y : ByteArray) (n : Nat) : bs (y.extract n y.size) = (bs y).drop n := by
  simp only [bs, ByteArray.data_extract, Array.toList_extract, List.extract_eq_take_drop]
  refine List.take_of_length_le ?_
  rw [List.length_drop]
  exact Nat.le_refl _
theorem size_extract (y : ByteArray) (n : Nat) : (y.extract n y.size).size = y.size - n := by simp

set_option maxHeartbeats 4000000 in
set_option maxRecDepth 100000 in
theorem Add_c (b : Nat) (l : List UInt8) (cnt : Nat) (s : ByteArray) (w : World) (hb17 : 17 ≠ b) (hT : Tab32 17 kTab w) (h : HC b l cnt w) (hcnt : cnt + s.size ≤ 4503599627370496) :
    Calls Tryd.prog 65 #[.pointer (some ⟨b, 0, none⟩), .string s] w fun e w' => e = .returned (.tuple #[]) ∧ HC b (l ++ bs s) (cnt + s.size) w' ∧ Fr (fun k => k = b) w w' := by
  have HT := As.mk hT
  obtain ⟨rest, ha, hr⟩ := h
  have c73 : w.cell? ⟨b, 73, none⟩ = some (.int .u64 cnt) := ha.cell 73 (by omega)
  have f73 := ha.free 73
  have HA := As.mk ha
  have HR := As.mk hr
  clear hT ha hr
  go_enter Tryd.func65, Tryd.ntmps65
  go_wp2
  go_loopw [1] (fun c1 wr => ∃ (m : Nat) (y : ByteArray), c1 = .string y ∧ As (bs y = (bs s).drop m) ∧ m ≤ s.size ∧ y.size = s.size - m ∧ As (HC b (l ++ (bs s).take m) (cnt + s.size) wr) ∧ As (Fr (fun k => k = b) w wr)) (fun c1 _ => match c1 with | .string y => y.size | _ => 0)
  case atStart =>
    refine ⟨0, s, rfl, ⟨by simp⟩, Nat.zero_le _, by omega, ⟨rest, ?_, by simpa using HR.out⟩, ⟨rfl, rfl, rfl, by simp [World.setCell], fun i hi hn => Below.heap_setCell _ _ _ _ hn⟩⟩
    refine (HA.out.set 73 _).congr (fun i hi => ?_)
    by_cases h : i = 73
    · subst h; rw [if_pos rfl]; simp [hf]
    · rw [if_neg h]
      have h0 : l ++ List.take 0 (bs s) = l := by simp
      rw [h0, hf, hf]
      by_cases h8 : i < 8
      · rw [if_pos h8, if_pos h8]
      · rw [if_neg h8, if_neg h8]
        by_cases h72 : i < 72
        · rw [if_pos h72, if_pos h72]
        · rw [if_neg h72, if_neg h72, if_pos (by omega), if_pos (by omega)]
  case round =>
    clear HA HR c73 f73
    obtain ⟨m, y, rfl, HY, hm, hy, HS, HF⟩ := hrel
    obtain ⟨L, hL⟩ : ∃ L, L = l ++ (bs s).take m := ⟨_, rfl⟩
    rw [← hL] at HS
    have HL := hid_ hL
    have Hy := hid_ hy
    clear hL hy
    by_cases hlt : m < s.size
    · have hy0 : 0 < y.size := by have := Hy.out; omega
      obtain ⟨rest, ha, hr⟩ := HS.out
      clear HS
      obtain ⟨hd, hhd⟩ : ∃ hd, hd = L.length % 64 := ⟨_, rfl⟩
      rw [← hhd] at ha hr
      have hd64 : hd < 64 := by omega
      have HHD := hid_ hhd
      have HA := As.mk ha
      have HR := As.mk hr
      have c72 : wr.cell? ⟨b, 72, none⟩ = some (.int .i64 hd) := ha.cell 72 (by omega)
      clear ha hr hhd
      have b0 : (0 : Int) ≤ (hd : Int) := by omega
      have b1 : (hd : Int) ≤ 64 := by omega
      have b2 : ¬ (64 = hd) := by omega
      obtain ⟨n, hn⟩ : ∃ n, n = min y.size (64 - hd) := ⟨_, rfl⟩
      have hn1 : n ≤ y.size := by omega
      have hn2 : hd + n ≤ 64 := by omega
      have hn3 : 0 < n := by omega
      have HN := hid_ hn
      clear hn
      go_wp2
      go_still_tail 9, (by kernel_rfl)
      change wpList _ _ _ _ _ wr.drew
      clear b0 b1 b2 c72
      have HD : As (AF b 64 74 (hf (stOf L) rest hd (cnt + s.size)) wr.drew) := ⟨HA.out⟩
      have HFD : As (Fr (fun k => k = b) w wr.drew) := ⟨⟨HF.out.os, HF.out.tape, HF.out.output, HF.out.size, HF.out.block⟩⟩
      generalize wr.drew = w2 at *
      clear HA HF
      refine wpList_copy_str rfl _ _ 69 9 5 rfl Tryd.underlying69 (by kernel_rfl) b (8 + hd) (64 - hd) (64 - hd) rfl y rfl 64 _ HD.out n HN.out (by rw [af_size]; omega) ?_
      intro w3 h3 hf3
      have hdl : ((bs y).take n).length = n := by rw [List.length_take, bs_size]; omega
      rw [show 8 + hd + n = 8 + hd + ((bs y).take n).length by rw [hdl], hf_set_rest _ _ _ _ _ _ (by rw [hdl]; exact hn2)] at h3
      have HA : As (AF b 64 74 (hf (stOf L) (upd rest hd ((bs y).take n)) hd (cnt + s.size)) w3) := ⟨h3⟩
      replace HF := As.mk (HFD.out.trans hf3)
      have HDL := hid_ hdl
      clear h3 hf3 HD HFD hdl HN
      have c72 : w3.cell? ⟨b, 72, none⟩ = some (.int .i64 hd) := HA.out.cell 72 (by omega)
      have f72 := HA.out.free 72
      by_cases hfull : hd + n = 64
      · have q0 : ((hd : Int) + (n : Int) == 64) = true := by rw [beq_iff_eq]; omega
        have HQ := hid_ hfull
        clear hfull
        go_wp2
        have H4 := As.mk (HA.out.held (hd + n) ((hd : Int) + (n : Int)) (by omega))
        have HF4 : As (Fr (fun k => k = b) w (w3.setCell ⟨b, 72, none⟩ (.int .i64 ((hd : Int) + (n : Int))))) := ⟨HF.out.trans ⟨rfl, rfl, rfl, by simp [World.setCell], fun i hi hn => Below.heap_setCell _ _ _ _ hn⟩⟩
        generalize w3.setCell ⟨b, 72, none⟩ (.int .i64 ((hd : Int) + (n : Int))) = w4 at *
        clear HA HF c72 f72
        replace H4 : As (AF b 64 74 (hf (stOf L) (upd rest hd ((bs y).take n)) (hd + n) (cnt + s.size)) w4.drew) := ⟨H4.out⟩
        replace HF4 : As (Fr (fun k => k = b) w w4.drew) := ⟨⟨HF4.out.os, HF4.out.tape, HF4.out.output, HF4.out.size, HF4.out.block⟩⟩
        have HT4 : As (Tab32 17 kTab w4.drew) := ⟨fun i hi => HF4.out.cell (HT.out i hi) hb17⟩
        refine start_ (n := 13) (S := fun w' => AF b 64 74 (hf (stOf L) (upd rest hd ((bs y).take n)) (hd + n) (cnt + s.size)) w') (ds := [12]) #[false, false, false, false, false, false, false, false, false, false, false, false, false] (by kernel_rfl) rfl rfl (by exact H4.out) (fun hHeld => ?_)
        refine pure_ (i := 0) (N := some 44) (v := ?_) (a' := ?_) #[true, false, false, false, false, false, false, false, false, false, false, false, false] rfl rfl (by kernel_rfl) (fun _ _ _ h => h) (Or.inl ⟨by rfl, ?_⟩) ?_ ?_
        rotate_left
        · intro w'
          go_simp
          with_reducible rfl
        rotate_left
        · simp only [Act.put, List.setIfInBounds_toArray, List.set_cons_zero, List.set_cons_succ]
          rfl
        refine pure_ (i := 1) (N := some 45) (v := ?_) (a' := ?_) #[true, true, false, false, false, false, false, false, false, false, false, false, false] rfl rfl (by kernel_rfl) (fun _ _ _ h => h) (Or.inl ⟨by rfl, ?_⟩) ?_ ?_
        rotate_left
        · intro w'
          go_simp
          with_reducible rfl
        rotate_left
        · simp only [Act.put, List.setIfInBounds_toArray, List.set_cons_zero, List.set_cons_succ]
          rfl
        refine pure_ (i := 2) (N := some 46) (v := ?_) (a' := ?_) #[true, true, true, false, false, false, false, false, false, false, false, false, false] rfl rfl (by kernel_rfl) (fun _ _ _ h => h) (Or.inl ⟨by rfl, ?_⟩) ?_ ?_
        rotate_left
        · intro w'
          go_simp
          with_reducible rfl
        rotate_left
        · simp only [Act.put, List.setIfInBounds_toArray, List.set_cons_zero, List.set_cons_succ]
          rfl
        refine pure_ (i := 3) (N := some 47) (v := ?_) (a' := ?_) #[true, true, true, true, false, false, false, false, false, false, false, false, false] rfl rfl (by kernel_rfl) (fun _ _ _ h => h) (Or.inl ⟨by rfl, ?_⟩) ?_ ?_
        rotate_left
        · intro w'
          go_simp
          with_reducible rfl
        rotate_left
        · simp only [Act.put, List.setIfInBounds_toArray, List.set_cons_zero, List.set_cons_succ]
          rfl
        refine pure_ (i := 5) (N := some 49) (v := ?_) (a' := ?_) #[true, true, true, true, false, true, false, false, false, false, false, false, false] rfl rfl (by kernel_rfl) (fun _ _ _ h => h) (Or.inl ⟨by rfl, ?_⟩) ?_ ?_
        rotate_left
        · intro w'
          go_simp
          with_reducible rfl
        rotate_left
        · simp only [Act.put, List.setIfInBounds_toArray, List.set_cons_zero, List.set_cons_succ]
          rfl
        refine pure_ (i := 6) (N := some 50) (v := ?_) (a' := ?_) #[true, true, true, true, false, true, true, false, false, false, false, false, false] rfl rfl (by kernel_rfl) (fun _ _ _ h => h) (Or.inl ⟨by rfl, ?_⟩) ?_ ?_
        rotate_left
        · intro w'
          go_simp
          with_reducible rfl
        rotate_left
        · simp only [Act.put, List.setIfInBounds_toArray, List.set_cons_zero, List.set_cons_succ]
          rfl
        refine pure_ (i := 7) (N := some 51) (v := ?_) (a' := ?_) #[true, true, true, true, false, true, true, true, false, false, false, false, false] rfl rfl (by kernel_rfl) (fun _ _ _ h => h) (Or.inl ⟨by rfl, ?_⟩) ?_ ?_
        rotate_left
        · intro w'
          go_simp
          with_reducible rfl
        rotate_left
        · simp only [Act.put, List.setIfInBounds_toArray, List.set_cons_zero, List.set_cons_succ]
          rfl
        refine take_ (i := 4) (N := some 48) (v := .agg (c8 (stOf L)).toList.toArray) (a' := ?_) #[true, true, true, true, true, true, true, true, false, false, false, false, false] rfl rfl (by kernel_rfl) (fun _ _ _ h => h) (Or.inl ⟨by rfl, ?_⟩) hHeld ?_ ?_
        · intro w' hS
          exact exec_load_sub 60 (.tmp 47) (by rfl) b 0 (by rfl) 64 _ (0, 0) _ (c8 (stOf L)).toList hS Tryd.underlying60 rfl (by kernel_rfl) (hf_st _ _ _ _)
        rotate_left
        · simp only [Act.put, List.setIfInBounds_toArray, List.set_cons_zero, List.set_cons_succ]
          rfl
        refine take_ (i := 8) (N := some 52) (v := .agg (a64 (upd rest hd ((bs y).take n))).toList.toArray) (a' := ?_) #[true, true, true, true, true, true, true, true, true, false, false, false, false] rfl rfl (by kernel_rfl) (fun _ _ _ h => h) (Or.inl ⟨by rfl, ?_⟩) hHeld ?_ ?_
        · intro w' hS
          exact exec_load_sub 61 (.tmp 51) (by rfl) b 8 (by rfl) 64 _ (0, 0) _ (a64 (upd rest hd ((bs y).take n))).toList hS Tryd.underlying61 rfl (by kernel_rfl) (hf_rest _ _ _ _)
        rotate_left
        · simp only [Act.put, List.setIfInBounds_toArray, List.set_cons_zero, List.set_cons_succ]
          rfl
        refine one_ (i := 9) (N := some 53) #[true, true, true, true, true, true, true, true, true, true, false, false, false] rfl rfl (by kernel_rfl) (by decide) (fun K hK => ?_)
        refine goes_ Tryd.func95 (by kernel_rfl) rfl #[.agg (c8 (stOf L)).toList.toArray, .agg (a64 (upd rest hd ((bs y).take n))).toList.toArray] (by rfl) rfl rfl (by simp only [List.map_toArray, List.map_cons, List.map_nil]; rfl) ?_
        refine (take_c _ _ _ HT4.out).mono ?_
        rintro e w5 ⟨rfl, hb5⟩
        refine ⟨_, rfl, ?_⟩
        have H5 : As (AF b 64 74 (hf (stOf L) (upd rest hd ((bs y).take n)) (hd + n) (cnt + s.size)) w5) := ⟨(hb5.block b (AF.lt H4.out)).trans H4.out⟩
        have HF5 : As (Fr (fun k => k = b) w w5) := ⟨HF4.out.trans ⟨hb5.os, hb5.tape, hb5.output, hb5.size, fun i hi _ => hb5.block i hi⟩⟩
        clear hb5
        refine hK.out _ _ H5.out (fun hHeld => ?_)
        clear hK K
        refine pure_ (i := 10) (N := some 54) (v := ?_) (a' := ?_) #[true, true, true, true, true, true, true, true, true, true, true, false, false] rfl rfl (by kernel_rfl) (fun _ _ _ h => h) (Or.inl ⟨by rfl, ?_⟩) ?_ ?_
        rotate_left
        · intro w'
          go_simp
          with_reducible rfl
        rotate_left
        · simp only [Act.put, List.setIfInBounds_toArray, List.set_cons_zero, List.set_cons_succ]
          rfl
        refine pure_ (i := 11) (N := some 55) (v := ?_) (a' := ?_) #[true, true, true, true, true, true, true, true, true, true, true, true, false] rfl rfl (by kernel_rfl) (fun _ _ _ h => h) (Or.inl ⟨by rfl, ?_⟩) ?_ ?_
        rotate_left
        · intro w'
          go_simp
          with_reducible rfl
        rotate_left
        · simp only [Act.put, List.setIfInBounds_toArray, List.set_cons_zero, List.set_cons_succ]
          rfl
        refine last_ (i := 12) (N := none) #[true, true, true, true, true, true, true, true, true, true, true, true, true] rfl rfl (by kernel_rfl) (by decide) (fun K hK => ?_)
        refine store_sub_ (by rfl) rfl 60 _ _ rfl b 0 rfl 64 _ (c8 (comp (stOf L) (upd rest hd ((bs y).take n)))).toList rfl H5.out (by kernel_rfl) (by rw [af_size]; simp) (by simp [w32, Value.oneCell']) ?_
        intro w6 h6 hf6
        rw [hf_set_st] at h6
        have H6 : As (AF b 64 74 (hf (comp (stOf L) (upd rest hd ((bs y).take n))) (upd rest hd ((bs y).take n)) (hd + n) (cnt + s.size)) w6) := ⟨h6⟩
        have HF6 := As.mk (HF5.out.trans hf6)
        clear h6 hf6
        refine hK.out _ _ ?_
        clear hK K
        refine done_ (by kernel_rfl) ?_
        have f72 := H6.out.free 72
        have c72 : w6.cell? ⟨b, 72, none⟩ = some (.int .i64 ((hd + n : Nat) : Int)) := H6.out.cell 72 (by omega)
        have HE : As (L ++ (bs y).take n = l ++ (bs s).take (m + n)) := ⟨by rw [HL.out, HY.out, List.append_assoc, List.take_add]⟩
        have HZ : As (bs (y.extract n y.size) = (bs s).drop (m + n)) := ⟨by rw [bs_extract, HY.out, List.drop_drop]⟩
        have HW : As (HC b (l ++ (bs s).take (m + n)) (cnt + s.size) (w6.setCell ⟨b, 72, none⟩ (.int .i64 0))) := ⟨by
          rw [← HE.out]
          have e1 : L.length % 64 + ((bs y).take n).length = hd + n := by rw [HDL.out, ← HHD.out]
          refine HC.full (rest := upd rest hd ((bs y).take n)) ?_ ?_ (by rw [e1]; exact HQ.out)
          · exact H6.out.held 0 0 rfl
          · rw [HHD.out]; exact upd_rest L _ rest (by rw [← HHD.out]; exact HR.out) (by rw [e1]; exact Nat.le_of_eq HQ.out)⟩
        have HF2 : As (Fr (fun k => k = b) w (w6.setCell ⟨b, 72, none⟩ (.int .i64 0))) := ⟨HF6.out.trans ⟨rfl, rfl, rfl, by simp [World.setCell], fun i hi hn => Below.heap_setCell _ _ _ _ hn⟩⟩
        have hsz := size_extract y n
        have HSZ := hid_ hsz
        clear hsz H4 H5 H6 HF4 HF5 HF6 HT4 HR HHD HDL HL hHeld
        go_wp2
        refine ⟨⟨m + n, y.extract n y.size, rfl, HZ, by have := Hy.out; omega, by have := Hy.out; have := HSZ.out; omega, HW, HF2⟩, ?_⟩
        show (y.extract n y.size).size < y.size
        rw [HSZ.out]; omega
      · have q0 : ((hd : Int) + (n : Int) == 64) = false := by rw [beq_eq_false_iff_ne]; omega
        have HE : As (L ++ (bs y).take n = l ++ (bs s).take (m + n)) := ⟨by rw [HL.out, HY.out, List.append_assoc, List.take_add]⟩
        have HZ : As (bs (y.extract n y.size) = (bs s).drop (m + n)) := ⟨by rw [bs_extract, HY.out, List.drop_drop]⟩
        have HW : As (HC b (l ++ (bs s).take (m + n)) (cnt + s.size) (w3.setCell ⟨b, 72, none⟩ (.int .i64 ((hd : Int) + (n : Int))))) := ⟨by
          rw [← HE.out]
          have e1 : L.length % 64 + ((bs y).take n).length = hd + n := by rw [HDL.out, ← HHD.out]
          refine HC.same (rest := upd rest hd ((bs y).take n)) ?_ ?_ (by rw [e1]; omega)
          · rw [e1]; exact HA.out.held (hd + n) _ (by omega)
          · rw [HHD.out]; exact upd_rest L _ rest (by rw [← HHD.out]; exact HR.out) (by rw [e1]; omega)⟩
        have HF2 : As (Fr (fun k => k = b) w (w3.setCell ⟨b, 72, none⟩ (.int .i64 ((hd : Int) + (n : Int))))) := ⟨HF.out.trans ⟨rfl, rfl, rfl, by simp [World.setCell], fun i hi hn => Below.heap_setCell _ _ _ _ hn⟩⟩
        have hys := Hy.out
        have hsz := size_extract y n
        have HSZ := hid_ hsz
        have Hys := hid_ hys
        clear hys hsz HA HF HR HHD HDL HL
        go_wp2
        refine ⟨⟨m + n, y.extract n y.size, rfl, HZ, by have := Hys.out; omega, by have := Hys.out; have := HSZ.out; omega, HW, HF2⟩, ?_⟩
        show (y.extract n y.size).size < y.size
        rw [HSZ.out]; omega
    · have hy0 : y.size = 0 := by have := Hy.out; omega
      have hms : m = s.size := by omega
      have q0 : ¬ (0 < y.size) := by omega
      have HM := hid_ hms
      have HLL : As (L = l ++ bs s) := ⟨by rw [HL.out, HM.out, ← bs_size, List.take_length]⟩
      clear hy0 hms
      go_wp2
      go_end0
      exact ⟨rfl, by rw [← HLL.out]; exact HS.out, HF.out⟩
end Go.Proofs.YtegeijlookpgaaaDoor
