/- What sums.keyed computes. -/
import Derived.Test.YtegeijlookpgaaaDoorS6
set_option linter.unusedVariables false
set_option linter.unusedSimpArgs false
namespace Go.Proofs.YtegeijlookpgaaaDoor
open Go.RowKit Go.Proofs.YtegeijlookpgaaaDoorW.PrintWords Go.Proofs.YtegeijlookpgaaaDoorW.PrintLast

theorem HC.of_heap {b : Nat} {l : List UInt8} {c : Nat} {w w' : World} (h : HC b l c w) (hb : w'.heap[b]? = w.heap[b]?) : HC b l c w' := by
  obtain ⟨r, h1, h2⟩ := h
  exact ⟨r, hb.trans h1, h2⟩
theorem HC.lt {b : Nat} {l : List UInt8} {c : Nat} {w : World} (h : HC b l c w) : b < w.heap.size := by obtain ⟨r, h1, _⟩ := h; exact h1.lt
theorem HC.below {b : Nat} {l : List UInt8} {c : Nat} {w w' : World} (h : HC b l c w) (hb : Below w.heap.size w w') : HC b l c w' := h.of_heap (hb.block b h.lt)
theorem HC.fr {b a : Nat} {l : List UInt8} {c : Nat} {w w' : World} (h : HC b l c w) (hb : Fr (fun k => k = a) w w') (hne : b ≠ a) : HC b l c w' := h.of_heap (hb.block b h.lt hne)

/-- the key, brought to a piece, each byte with x -/
def kCut (k : ByteArray) : List UInt8 := if 64 < k.size then shaL (bs k) else bs k
def kPad (k : ByteArray) (x : UInt8) : List UInt8 := (List.range 64).map fun i => (kCut k).getD i 0 ^^^ x
theorem copy_key (y : ByteArray) (hy : y.size ≤ 64) :
    ((af 64 fun _ => b8 0).toList.take 0 ++ cells8 ((bs y).take y.size) ++ (af 64 fun _ => b8 0).toList.drop (0 + y.size)).toArray = af 64 (fun i => b8 ((bs y).getD i 0)) := by
  have hl : (cells8 ((bs y).take y.size)).length = y.size := by rw [cells8_length, List.length_take, bs_size]; omega
  have := af_splice 64 (fun _ => b8 0) 0 (cells8 ((bs y).take y.size)) (by rw [hl]; omega)
  rw [hl] at this
  rw [this]
  refine af_congr (fun i hi => ?_)
  have ht : (bs y).take y.size = bs y := take_all y _ (Nat.le_refl _)
  rw [ht]
  by_cases h : i < y.size
  · rw [if_pos ⟨by omega, by omega⟩, Nat.sub_zero, cells8, List.getElem?_map, List.getD_eq_getElem?_getD, List.getElem?_eq_getElem (by rw [bs_size]; exact h)]
    rfl
  · rw [if_neg (by omega), List.getD_eq_getElem?_getD, List.getElem?_eq_none (by rw [bs_size]; omega)]
    rfl
theorem wraps_u8 (n : Int) (h₀ : 0 ≤ n) (h₁ : n < 2 ^ 8) : IntKind.u8.wrap n = n := by rw [IntKind.wrap_u8]; omega
theorem u8_xor (x y : UInt8) : Go.bits .xor .u8 (x.toNat : Int) (y.toNat : Int) = (((x ^^^ y).toNat : Nat) : Int) := by
  rw [bits_xor_nat .u8 8 (by decide) wraps_u8 _ _ x.toNat_lt y.toNat_lt, UInt8.toNat_xor]
abbrev z64 : Array Value := #[.int .u8 0, .int .u8 0, .int .u8 0, .int .u8 0, .int .u8 0, .int .u8 0, .int .u8 0, .int .u8 0, .int .u8 0, .int .u8 0, .int .u8 0, .int .u8 0, .int .u8 0, .int .u8 0, .int .u8 0, .int .u8 0, .int .u8 0, .int .u8 0, .int .u8 0, .int .u8 0, .int .u8 0, .int .u8 0, .int .u8 0, .int .u8 0, .int .u8 0, .int .u8 0, .int .u8 0, .int .u8 0, .int .u8 0, .int .u8 0, .int .u8 0, .int .u8 0, .int .u8 0, .int .u8 0, .int .u8 0, .int .u8 0, .int .u8 0, .int .u8 0, .int .u8 0, .int .u8 0, .int .u8 0, .int .u8 0, .int .u8 0, .int .u8 0, .int .u8 0, .int .u8 0, .int .u8 0, .int .u8 0, .int .u8 0, .int .u8 0, .int .u8 0, .int .u8 0, .int .u8 0, .int .u8 0, .int .u8 0, .int .u8 0, .int .u8 0, .int .u8 0, .int .u8 0, .int .u8 0, .int .u8 0, .int .u8 0, .int .u8 0, .int .u8 0]
theorem z64_eq : z64 = af 64 (fun _ => b8 0) := by kernel_rfl
theorem size_al (w : World) (o : Obj) : (w.alloc o).heap.size = w.heap.size + 1 := by
  show (w.heap.push o).size = _
  simp
theorem alloc2 (w : World) (A B : Obj) : ((w.alloc A).alloc B).heap[w.heap.size]? = some A ∧ ((w.alloc A).alloc B).heap[w.heap.size + 1]? = some B := by
  have h : ((w.alloc A).alloc B).heap = (w.heap.push A).push B := rfl
  rw [h]
  simp only [Array.getElem?_push, Array.size_push]
  refine ⟨?_, ?_⟩
  · rw [if_neg (by omega), if_pos trivial]
  · rw [if_pos trivial]
/-- the two pieces of the key (blocks a, b), the two results (the first two new blocks) -/
structure KS (w : World) (a b : Nat) (fa fb : Nat → Value) (w' : World) : Prop where
  ha : AF a 61 64 fa w'
  hb : AF b 61 64 fb w'
  h2 : w'.heap[w.heap.size]? = some (.cells Tryd.zeroCells64 64 (0, 0))
  h3 : w'.heap[w.heap.size + 1]? = some (.cells Tryd.zeroCells64 64 (0, 0))
  fr : Below w.heap.size w w'
  hab : a < b
  hw : w.heap.size + 1 < a
theorem KS.seta {w w' w'' : World} {a b : Nat} {fa fb fa' : Nat → Value} (h : KS w a b fa fb w') (hf : Fr (fun k => k = a) w' w'') (ha : AF a 61 64 fa' w'') : KS w a b fa' fb w'' := by
  have h1 := h.ha.lt
  have h2 := h.hb.lt
  have h3 := h.hab
  have h4 := h.hw
  exact ⟨ha, (hf.block b (by omega) (by omega)).trans h.hb, (hf.block _ (by omega) (by omega)).trans h.h2, (hf.block _ (by omega) (by omega)).trans h.h3, h.fr.trans (hf.below h.fr.size (fun i hi => by omega)), h3, h4⟩
theorem KS.setb {w w' w'' : World} {a b : Nat} {fa fb fb' : Nat → Value} (h : KS w a b fa fb w') (hf : Fr (fun k => k = b) w' w'') (hb : AF b 61 64 fb' w'') : KS w a b fa fb' w'' := by
  have h1 := h.ha.lt
  have h2 := h.hb.lt
  have h3 := h.hab
  have h4 := h.hw
  exact ⟨(hf.block a (by omega) (by omega)).trans h.ha, hb, (hf.block _ (by omega) (by omega)).trans h.h2, (hf.block _ (by omega) (by omega)).trans h.h3, h.fr.trans (hf.below h.fr.size (fun i hi => by omega)), h3, h4⟩
theorem KS.keep {w w' w'' : World} {a b n : Nat} {fa fb : Nat → Value} (h : KS w a b fa fb w') (hf : Fr (fun k => k = n) w' w'') (hn : b < n) : KS w a b fa fb w'' := by
  have h1 := h.ha.lt
  have h2 := h.hb.lt
  have h3 := h.hab
  have h4 := h.hw
  exact ⟨(hf.block a (by omega) (by omega)).trans h.ha, (hf.block b (by omega) (by omega)).trans h.hb, (hf.block _ (by omega) (by omega)).trans h.h2, (hf.block _ (by omega) (by omega)).trans h.h3, h.fr.trans (hf.below h.fr.size (fun i hi => by omega)), h3, h4⟩
theorem KS.below {w w' w'' : World} {a b : Nat} {fa fb : Nat → Value} (h : KS w a b fa fb w') (hf : Below w'.heap.size w' w'') : KS w a b fa fb w'' := by
  have h1 := h.ha.lt
  have h2 := h.hb.lt
  have h3 := h.hab
  have h4 := h.hw
  exact ⟨(hf.block a (by omega)).trans h.ha, (hf.block b (by omega)).trans h.hb, (hf.block _ (by omega)).trans h.h2, (hf.block _ (by omega)).trans h.h3, h.fr.trans ⟨hf.os, hf.tape, hf.output, hf.size, fun k hk => hf.block k (by omega)⟩, h3, h4⟩
theorem KS.small (w : World) : KS w (w.heap.size + 1 + 1) (w.heap.size + 1 + 1 + 1) (fun _ => b8 0) (fun _ => b8 0) ((((w.alloc (.cells Tryd.zeroCells64 64)).alloc (.cells Tryd.zeroCells64 64)).alloc (.cells z64 61)).alloc (.cells z64 61)) := by
  obtain ⟨h1, h2, h3, h4⟩ := alloc4 w (.cells Tryd.zeroCells64 64) (.cells Tryd.zeroCells64 64) (.cells z64 61) (.cells z64 61)
  refine ⟨?_, ?_, h1, h2, ?_, by omega, by omega⟩
  · rw [AF, ← z64_eq]; exact h3
  · rw [AF, ← z64_eq]; exact h4
  · exact (((Below.refl _ _ |>.alloc (Nat.le_refl _) _).alloc (by simp only [size_al]; omega) _).alloc (by simp only [size_al]; omega) _).alloc (by simp only [size_al]; omega) _
theorem KS.big {w w1 : World} (hb : Below ((w.alloc (.cells Tryd.zeroCells64 64)).alloc (.cells Tryd.zeroCells64 64)).heap.size ((w.alloc (.cells Tryd.zeroCells64 64)).alloc (.cells Tryd.zeroCells64 64)) w1) :
    KS w w1.heap.size (w1.heap.size + 1) (fun _ => b8 0) (fun _ => b8 0) ((w1.alloc (.cells z64 61)).alloc (.cells z64 61)) := by
  obtain ⟨h1, h2⟩ := alloc2 w (.cells Tryd.zeroCells64 64) (.cells Tryd.zeroCells64 64)
  obtain ⟨h3, h4⟩ := alloc2 w1 (.cells z64 61) (.cells z64 61)
  have hs : ((w.alloc (.cells Tryd.zeroCells64 64)).alloc (.cells Tryd.zeroCells64 64)).heap.size = w.heap.size + 1 + 1 := by simp only [size_al]
  have hs1 := hb.size
  rw [hs] at hs1
  have hb2 : Below w1.heap.size w1 ((w1.alloc (.cells z64 61)).alloc (.cells z64 61)) := ((Below.refl _ _).alloc (Nat.le_refl _) _).alloc (by simp only [size_al]; omega) _
  refine ⟨?_, ?_, ?_, ?_, ?_, by omega, by omega⟩
  · rw [AF, ← z64_eq]; exact h3
  · rw [AF, ← z64_eq]; exact h4
  · rw [hb2.block _ (by omega), hb.block _ (by omega)]; exact h1
  · rw [hb2.block _ (by omega), hb.block _ (by omega)]; exact h2
  · have q : Below w.heap.size w ((w.alloc (.cells Tryd.zeroCells64 64)).alloc (.cells Tryd.zeroCells64 64)) := ((Below.refl _ _).alloc (Nat.le_refl _) _).alloc (by simp only [size_al]; omega) _
    exact (q.trans ⟨hb.os, hb.tape, hb.output, hb.size, fun k hk => hb.block k (by omega)⟩).trans ⟨hb2.os, hb2.tape, hb2.output, hb2.size, fun k hk => hb2.block k (by omega)⟩
theorem KS.congr {w w' : World} {a b : Nat} {fa fb ga gb : Nat → Value} (h : KS w a b fa fb w') (h1 : ∀ i, i < 64 → fa i = ga i) (h2 : ∀ i, i < 64 → fb i = gb i) : KS w a b ga gb w' :=
  ⟨h.ha.congr h1, h.hb.congr h2, h.h2, h.h3, h.fr, h.hab, h.hw⟩
theorem key_cells (k : ByteArray) (x : UInt8) (f : Nat → Value) (hf : ∀ i, i < 64 → f i = b8 ((kCut k).getD i 0 ^^^ x)) : ∀ i, i < 64 → f i = b8 ((kPad k x).getD i 0) := by
  intro i hi
  rw [hf i hi, kPad, List.getD_eq_getElem?_getD (l := List.map _ _), List.getElem?_map, List.getElem?_range hi]
  rfl
theorem kPad_len (k : ByteArray) (x : UInt8) : (kPad k x).length = 64 := by simp [kPad]
theorem shaL_len (l : List UInt8) : (shaL l).length = 32 := rfl
theorem sb_size (l : List UInt8) : (sb l).size = l.length := by simp [sb, ByteArray.size]

theorem results_two_rows {P : Program} {fn : Func} {p p2 : Tmp} {ty ty2 : TypeId} (h : fn.results = #[.cell p ty, .cell p2 ty2]) (tmps : Array Value) (w : World) (g g2 : Nat) (t t2 : TypeId) (cs cs2 : Array Value) (fr fr2 : Nat × Nat) (d d2 : TypeDesc)
    (hp : tmps.getD p undef = .pointer (some ⟨g, 0, none⟩)) (hp2 : tmps.getD p2 undef = .pointer (some ⟨g2, 0, none⟩)) (hg : w.heap[g]? = some (.cells cs t fr)) (hg2 : w.heap[g2]? = some (.cells cs2 t2 fr2))
    (hu : P.underlying ty = some d) (hu2 : P.underlying ty2 = some d2) (hd : (match d with | .struct _ | .array _ _ => true | _ => false) = true) (hd2 : (match d2 with | .struct _ | .array _ _ => true | _ => false) = true) (hi : (P.info? ty).map (·.size) = some cs.size) (hi2 : (P.info? ty2).map (·.size) = some cs2.size) :
    (results fn tmps).run P w = .ok (.tuple #[.agg cs, .agg cs2]) w := by
  have hp' : tmps[p]?.getD undef = .pointer (some ⟨g, 0, none⟩) := by simpa using hp
  have hp2' : tmps[p2]?.getD undef = .pointer (some ⟨g2, 0, none⟩) := by simpa using hp2
  simp [results, h, hp', hp2', asAddr, run_loadVar_row w g t ty cs fr d hg hu hd hi, run_loadVar_row w g2 t2 ty2 cs2 fr2 d2 hg2 hu2 hd2 hi2]

set_option maxHeartbeats 8000000 in
set_option maxRecDepth 100000 in
theorem keyed_c (s : ByteArray) (w : World) (hT : ShaT w) (hs : s.size ≤ 4503599627370496) :
    Calls Tryd.prog 36 #[.string s] w fun e w' => (∃ r1 r2 : Nat → UInt8, e = .returned (.tuple #[.agg (af 74 (hf (stOf (kPad s 0x36)) r1 0 64)), .agg (af 74 (hf (stOf (kPad s 0x5c)) r2 0 64))])) ∧ Below w.heap.size w w' := by
  have HT := As.mk hT
  clear hT
  by_cases hbig : 64 < s.size
  · obtain ⟨y, hy⟩ : ∃ y, y = sb (shaL (bs s)) := ⟨_, rfl⟩
    have HY : As (bs y = kCut s) := ⟨by rw [hy, bs_sb, kCut, if_pos hbig]⟩
    have hy64 : y.size ≤ 64 := by rw [hy, sb_size, shaL_len]; omega
    go_enter Tryd.func36, Tryd.ntmps36
    go_wp2_with fail
    refine (Sha_c s _ (HT.out.below (((Below.refl _ _).alloc (Nat.le_refl _) _).alloc (by simp only [size_al]; omega) _)) hs).mono ?_
    rw [← hy]
    clear hy
    rintro _ w1 ⟨rfl, hb1⟩
    have HS0 := As.mk (KS.big hb1)
    clear hb1
    generalize hn : w1.heap.size = na at *
    go_wp2_with (first
      | (refine wpList_copy_str rfl _ _ 69 9 5 rfl Tryd.underlying69 (by kernel_rfl) na 0 64 64 rfl y rfl 61 _ HS0.out.ha y.size (Nat.min_eq_left hy64).symm (by rw [af_size]; omega) ?_
         intro w2 h2 hf2
         rw [copy_key y hy64] at h2
         have HS1 := As.mk (HS0.out.seta hf2 (show AF na 61 64 _ w2 from h2))
         clear HS0 h2 hf2)
      | (refine wpList_copy_str rfl _ _ 69 9 5 rfl Tryd.underlying69 (by kernel_rfl) (na + 1) 0 64 64 rfl y rfl 61 _ HS1.out.hb y.size (Nat.min_eq_left hy64).symm (by rw [af_size]; omega) ?_
         intro w3 h3 hf3
         rw [copy_key y hy64] at h3
         have HS2 := As.mk (HS1.out.setb hf3 (show AF (na + 1) 61 64 _ w3 from h3))
         clear HS1 h3 hf3))
    clear hn
    obtain ⟨kp, hkp⟩ : ∃ kp : Nat → UInt8, kp = fun i => (bs y).getD i 0 := ⟨_, rfl⟩
    have HKP : As (∀ i, kp i = (kCut s).getD i 0) := ⟨fun i => by rw [hkp, ← HY.out]⟩
    replace HS2 : As (KS w na (na + 1) (fun i => b8 (kp i)) (fun i => b8 (kp i)) w3) := ⟨HS2.out.congr (fun j hj => by rw [hkp]) (fun j hj => by rw [hkp])⟩
    clear hkp HY
    go_loopw [20] (fun c wr => ∃ i : Nat, c = .int .i64 i ∧ i ≤ 64 ∧ As (KS w na (na + 1) (fun j => b8 (if j < i then kp j ^^^ 0x36 else kp j)) (fun j => b8 (if j < i then kp j ^^^ 0x5c else kp j)) wr)) (fun c _ => (64 - intOf c).toNat)
    case atStart => exact ⟨0, rfl, by omega, ⟨HS2.out.congr (fun j hj => by rw [if_neg (by omega)]) (fun j hj => by rw [if_neg (by omega)])⟩⟩
    case round =>
      clear HS2
      obtain ⟨i, rfl, hi, HS⟩ := hrel
      by_cases hi64 : i < 64
      · have c0 : (0 : Int) ≤ (i : Int) := by omega
        have c1 : (i : Int) < 64 := by omega
        have q1 : wr.cell? ⟨na, i, none⟩ = some (b8 (kp i)) := by
          have := HS.out.ha.cell i hi64
          rw [if_neg (Nat.lt_irrefl i)] at this
          exact this
        go_wp2_with (first
          | (refine wpList_store_one rfl 5 _ _ rfl na _ rfl 61 64 _ _ rfl rfl rfl HS.out.ha (by kernel_rfl) hi64 ?_
             intro w4 h4 hf4
             have HS3 := As.mk (HS.out.seta hf4 h4)
             have q2 : w4.cell? ⟨na + 1, i, none⟩ = some (b8 (kp i)) := by
               have := HS3.out.hb.cell i hi64
               rw [if_neg (Nat.lt_irrefl i)] at this
               exact this
             clear HS h4 hf4)
          | (refine wpList_store_one rfl 5 _ _ rfl (na + 1) _ rfl 61 64 _ _ rfl rfl rfl HS3.out.hb (by kernel_rfl) hi64 ?_
             intro w5 h5 hf5
             have HS4 := As.mk (HS3.out.setb hf5 h5)
             clear HS3 h5 hf5))
        refine ⟨⟨i + 1, by go_num, by omega, ⟨HS4.out.congr (fun j hj => ?_) (fun j hj => ?_)⟩⟩, by simp [intOf]; omega⟩
        · show (if _ then _ else _) = _
          by_cases h : j = i
          · rw [if_pos h, h, if_pos (Nat.lt_succ_self i)]
            exact congrArg (Value.int .u8) (u8_xor (kp i) 0x36)
          · rw [if_neg h]
            by_cases h2 : j < i
            · rw [if_pos h2, if_pos (by omega)]
            · rw [if_neg h2, if_neg (by omega)]
        · show (if _ then _ else _) = _
          by_cases h : j = i
          · rw [if_pos h, h, if_pos (Nat.lt_succ_self i)]
            exact congrArg (Value.int .u8) (u8_xor (kp i) 0x5c)
          · rw [if_neg h]
            by_cases h2 : j < i
            · rw [if_pos h2, if_pos (by omega)]
            · rw [if_neg h2, if_neg (by omega)]
      · have HS5 : As (KS w na (na + 1) (fun j => b8 ((kPad s 0x36).getD j 0)) (fun j => b8 ((kPad s 0x5c).getD j 0)) wr) := ⟨HS.out.congr
          (fun j hj => key_cells s 0x36 (fun j => b8 (if j < i then kp j ^^^ 0x36 else kp j)) (fun j hj => by show b8 (if _ then _ else _) = _; rw [if_pos (by omega), HKP.out j]) j hj) (fun j hj => key_cells s 0x5c (fun j => b8 (if j < i then kp j ^^^ 0x5c else kp j)) (fun j hj => by show b8 (if _ then _ else _) = _; rw [if_pos (by omega), HKP.out j]) j hj)⟩
        clear HS
        go_wp2_with fail
        refine (NewHash_c wr (HT.out.below HS5.out.fr).1).mono ?_
        rintro _ w6 ⟨rfl, h6, hb6⟩
        have HS6 := As.mk (HS5.out.below hb6)
        have HA6 := As.mk h6
        have HL1 := hid_ HS5.out.hb.lt
        clear HS5 h6 hb6
        generalize wr.heap.size = g1 at *
        go_wp2_with fail
        refine (NewHash_c w6 (HT.out.below HS6.out.fr).1).mono ?_
        rintro _ w7 ⟨rfl, h7, hb7⟩
        have HS7 := As.mk (HS6.out.below hb7)
        have HA7 := As.mk (HA6.out.below hb7)
        have HB7 := As.mk h7
        have HL2 := hid_ HA6.out.lt
        clear HS6 HA6 h7 hb7
        generalize w6.heap.size = g2 at *
        go_wp2_with (refine wpList_bytes_str rfl 69 9 5 _ rfl Tryd.underlying69 Tryd.underlying5 Tryd.underlying9 na 64 64 rfl (kPad s 0x36) (kPad_len _ _) (fun i hi => HS7.out.ha.cell i hi) ?_)
        have H17 := hid_ (show (17 : Nat) < na by have := HS7.out.hw; have := HT.out.2.2; omega)
        refine (Add_c g1 [] 0 (sb (kPad s 0x36)) w7 (by have := H17.out; have := HL1.out; omega) (HT.out.below HS7.out.fr).2.1 HA7.out (by rw [sb_size, kPad_len]; omega)).mono ?_
        rintro _ w8 ⟨rfl, h8, hf8⟩
        rw [List.nil_append, bs_sb, sb_size, kPad_len, Nat.zero_add] at h8
        have HA8 := As.mk h8
        have HB8 := As.mk (HB7.out.fr hf8 (by have := HL2.out; omega))
        have HS8 := As.mk (HS7.out.keep hf8 HL1.out)
        clear HS7 HA7 HB7 h8 hf8
        go_wp2_with (refine wpList_bytes_str rfl 69 9 5 _ rfl Tryd.underlying69 Tryd.underlying5 Tryd.underlying9 (na + 1) 64 64 rfl (kPad s 0x5c) (kPad_len _ _) (fun i hi => HS8.out.hb.cell i hi) ?_)
        refine (Add_c g2 [] 0 (sb (kPad s 0x5c)) w8 (by have := H17.out; have := HL1.out; have := HL2.out; omega) (HT.out.below HS8.out.fr).2.1 HB8.out (by rw [sb_size, kPad_len]; omega)).mono ?_
        rintro _ w9 ⟨rfl, h9, hf9⟩
        rw [List.nil_append, bs_sb, sb_size, kPad_len, Nat.zero_add] at h9
        have HA9 := As.mk (HA8.out.fr hf9 (by have := HL2.out; omega))
        have HB9 := As.mk h9
        have HS9 := As.mk (HS8.out.keep hf9 (by have := HL1.out; have := HL2.out; omega))
        clear HS8 HA8 HB8 h9 hf9
        go_wp2_with fail
        obtain ⟨r1, ha1, _⟩ := HA9.out
        obtain ⟨r2, ha2, _⟩ := HB9.out
        rw [kPad_len] at ha1 ha2
        have HA := As.mk (show AF g1 64 74 (hf (stOf (kPad s 0x36)) r1 0 64) w9.drew from ha1)
        have HB := As.mk (show AF g2 64 74 (hf (stOf (kPad s 0x5c)) r2 0 64) w9.drew from ha2)
        have HS : As (KS w na (na + 1) (fun j => b8 ((kPad s 54).getD j 0)) (fun j => b8 ((kPad s 92).getD j 0)) w9.drew) := ⟨⟨HS9.out.ha, HS9.out.hb, HS9.out.h2, HS9.out.h3, below_drew HS9.out.fr, HS9.out.hab, HS9.out.hw⟩⟩
        clear HA9 HB9 HS9 ha1 ha2
        refine start_ (n := 8) (S := fun w' => AF g1 64 74 (hf (stOf (kPad s 0x36)) r1 0 64) w' ∧ AF g2 64 74 (hf (stOf (kPad s 0x5c)) r2 0 64) w') (ds := []) #[false, false, false, false, false, false, false, false] (by kernel_rfl) rfl rfl ⟨HA.out, HB.out⟩ (fun hHeld => ?_)
        refine pure_ (i := 0) (N := some 44) (v := ?_) (a' := ?_) #[true, false, false, false, false, false, false, false] rfl rfl (by kernel_rfl) (fun _ _ _ h => h) (Or.inl ⟨by rfl, ?_⟩) ?_ ?_
        rotate_left
        · intro w'
          go_simp
          with_reducible rfl
        rotate_left
        · simp only [Act.put, List.setIfInBounds_toArray, List.set_cons_zero, List.set_cons_succ]
          rfl
        refine pure_ (i := 1) (N := some 45) (v := ?_) (a' := ?_) #[true, true, false, false, false, false, false, false] rfl rfl (by kernel_rfl) (fun _ _ _ h => h) (Or.inl ⟨by rfl, ?_⟩) ?_ ?_
        rotate_left
        · intro w'
          go_simp
          with_reducible rfl
        rotate_left
        · simp only [Act.put, List.setIfInBounds_toArray, List.set_cons_zero, List.set_cons_succ]
          rfl
        refine pure_ (i := 3) (N := some 47) (v := ?_) (a' := ?_) #[true, true, false, true, false, false, false, false] rfl rfl (by kernel_rfl) (fun _ _ _ h => h) (Or.inl ⟨by rfl, ?_⟩) ?_ ?_
        rotate_left
        · intro w'
          go_simp
          with_reducible rfl
        rotate_left
        · simp only [Act.put, List.setIfInBounds_toArray, List.set_cons_zero, List.set_cons_succ]
          rfl
        refine pure_ (i := 4) (N := some 48) (v := ?_) (a' := ?_) #[true, true, false, true, true, false, false, false] rfl rfl (by kernel_rfl) (fun _ _ _ h => h) (Or.inl ⟨by rfl, ?_⟩) ?_ ?_
        rotate_left
        · intro w'
          go_simp
          with_reducible rfl
        rotate_left
        · simp only [Act.put, List.setIfInBounds_toArray, List.set_cons_zero, List.set_cons_succ]
          rfl
        refine take_ (i := 2) (N := some 46) (v := .agg (af 74 (hf (stOf (kPad s 0x36)) r1 0 64)).toList.toArray) (a' := ?_) #[true, true, true, true, true, false, false, false] rfl rfl (by kernel_rfl) (fun _ _ _ h => h) (Or.inl ⟨by rfl, ?_⟩) hHeld ?_ ?_
        · intro w' hS
          exact exec_load_sub 64 (.tmp 45) (by rfl) g1 0 (by rfl) 64 _ (0, 0) _ (af 74 (hf (stOf (kPad s 0x36)) r1 0 64)).toList hS.1 Tryd.underlying64 rfl (by kernel_rfl) (fun j x hx => by simpa using hx)
        rotate_left
        · simp only [Act.put, List.setIfInBounds_toArray, List.set_cons_zero, List.set_cons_succ]
          rfl
        refine take_ (i := 5) (N := some 49) (v := .agg (af 74 (hf (stOf (kPad s 0x5c)) r2 0 64)).toList.toArray) (a' := ?_) #[true, true, true, true, true, true, false, false] rfl rfl (by kernel_rfl) (fun _ _ _ h => h) (Or.inl ⟨by rfl, ?_⟩) hHeld ?_ ?_
        · intro w' hS
          exact exec_load_sub 64 (.tmp 48) (by rfl) g2 0 (by rfl) 64 _ (0, 0) _ (af 74 (hf (stOf (kPad s 0x5c)) r2 0 64)).toList hS.2 Tryd.underlying64 rfl (by kernel_rfl) (fun j x hx => by simpa using hx)
        rotate_left
        · simp only [Act.put, List.setIfInBounds_toArray, List.set_cons_zero, List.set_cons_succ]
          rfl
        refine one_ (i := 6) (N := none) #[true, true, true, true, true, true, true, false] rfl rfl (by kernel_rfl) (by decide) (fun K hK => ?_)
        refine store_sub_ (by rfl) rfl 64 _ _ rfl w.heap.size 0 rfl 64 Tryd.zeroCells64 (af 74 (hf (stOf (kPad s 0x36)) r1 0 64)).toList rfl HS.out.h2 (by rw [af_len]; kernel_rfl) (by rw [af_len, zero64_size]; exact Nat.le_refl _) (hf_one _ _ _ _) ?_
        intro w10 h10 hf10
        rw [whole_store _ _ _ zero64_size] at h10
        have HR2 := As.mk (show AF w.heap.size 64 74 (hf (stOf (kPad s 0x36)) r1 0 64) w10 from h10)
        have HG1 := As.mk ((hf10.block g1 HA.out.lt (by have := HL1.out; have := HS.out.hw; omega)).trans HA.out)
        have HG2 := As.mk ((hf10.block g2 HB.out.lt (by have := HL1.out; have := HL2.out; have := HS.out.hw; omega)).trans HB.out)
        have HR3 := As.mk ((hf10.block (w.heap.size + 1) (by have := HS.out.hw; have := HS.out.ha.lt; omega) (by omega)).trans HS.out.h3)
        have HB10 : As (Below w.heap.size w w10) := ⟨below_fr HS.out.fr hf10⟩
        clear h10 hf10
        refine hK.out _ _ ⟨HG1.out, HG2.out⟩ (fun hHeld => ?_)
        clear hK K
        refine one_ (i := 7) (N := none) #[true, true, true, true, true, true, true, true] rfl rfl (by kernel_rfl) (by decide) (fun K hK => ?_)
        refine store_sub_ (by rfl) rfl 64 _ _ rfl (w.heap.size + 1) 0 rfl 64 Tryd.zeroCells64 (af 74 (hf (stOf (kPad s 0x5c)) r2 0 64)).toList rfl HR3.out (by rw [af_len]; kernel_rfl) (by rw [af_len, zero64_size]; exact Nat.le_refl _) (hf_one _ _ _ _) ?_
        intro w11 h11 hf11
        rw [whole_store _ _ _ zero64_size] at h11
        have HR3' := As.mk (show AF (w.heap.size + 1) 64 74 (hf (stOf (kPad s 0x5c)) r2 0 64) w11 from h11)
        have HR2' := As.mk (show AF w.heap.size 64 74 (hf (stOf (kPad s 0x36)) r1 0 64) w11 from (hf11.block w.heap.size HR2.out.lt (by omega)).trans HR2.out)
        have HG1' := As.mk ((hf11.block g1 (Array.getElem?_eq_some_iff.1 HG1.out).1 (by have := HL1.out; have := HS.out.hw; omega)).trans HG1.out)
        have HG2' := As.mk ((hf11.block g2 (Array.getElem?_eq_some_iff.1 HG2.out).1 (by have := HL1.out; have := HL2.out; have := HS.out.hw; omega)).trans HG2.out)
        have HB11 : As (Below w.heap.size w w11) := ⟨HB10.out.trans (hf11.below HB10.out.size (fun k hk e => by omega))⟩
        clear h11 hf11
        refine hK.out _ _ ⟨HG1'.out, HG2'.out⟩ (fun hHeld => ?_)
        clear hK K
        refine done_ (by kernel_rfl) ?_
        go_wp2
        have hp2 := HR2'.out
        have hp3 := HR3'.out
        refine bodyPost_ret (v := .tuple #[.agg (af 74 (hf (stOf (kPad s 0x36)) r1 0 64)), .agg (af 74 (hf (stOf (kPad s 0x5c)) r2 0 64))]) (results_two_rows Tryd.results36 _ _ _ _ 64 64 _ _ (0, 0) (0, 0) _ _ rfl rfl hp2 hp3 Tryd.underlying64 Tryd.underlying64 rfl rfl (by rw [af_size]; kernel_rfl) (by rw [af_size]; kernel_rfl)) rfl ⟨⟨r1, r2, rfl⟩, HB11.out⟩
  · have hsm : s.size ≤ 64 := by omega
    have HY : As (bs s = kCut s) := ⟨by rw [kCut, if_neg hbig]⟩
    have hy64 : s.size ≤ 64 := hsm
    have HS0 := As.mk (KS.small w)
    go_enter Tryd.func36, Tryd.ntmps36
    go_wp2_with (first
      | (refine wpList_copy_str rfl _ _ 69 9 5 rfl Tryd.underlying69 (by kernel_rfl) (w.heap.size + 1 + 1) 0 64 64 rfl s rfl 61 _ HS0.out.ha s.size (Nat.min_eq_left hy64).symm (by rw [af_size]; omega) ?_
         intro w2 h2 hf2
         rw [copy_key s hy64] at h2
         have HS1 := As.mk (HS0.out.seta hf2 (show AF (w.heap.size + 1 + 1) 61 64 _ w2 from h2))
         clear HS0 h2 hf2)
      | (refine wpList_copy_str rfl _ _ 69 9 5 rfl Tryd.underlying69 (by kernel_rfl) (w.heap.size + 1 + 1 + 1) 0 64 64 rfl s rfl 61 _ HS1.out.hb s.size (Nat.min_eq_left hy64).symm (by rw [af_size]; omega) ?_
         intro w3 h3 hf3
         rw [copy_key s hy64] at h3
         have HS2 := As.mk (HS1.out.setb hf3 (show AF (w.heap.size + 1 + 1 + 1) 61 64 _ w3 from h3))
         clear HS1 h3 hf3))
    generalize w.heap.size + 1 + 1 = na at *
    obtain ⟨kp, hkp⟩ : ∃ kp : Nat → UInt8, kp = fun i => (bs s).getD i 0 := ⟨_, rfl⟩
    have HKP : As (∀ i, kp i = (kCut s).getD i 0) := ⟨fun i => by rw [hkp, ← HY.out]⟩
    replace HS2 : As (KS w na (na + 1) (fun i => b8 (kp i)) (fun i => b8 (kp i)) w3) := ⟨HS2.out.congr (fun j hj => by rw [hkp]) (fun j hj => by rw [hkp])⟩
    clear hkp HY
    go_loopw [20] (fun c wr => ∃ i : Nat, c = .int .i64 i ∧ i ≤ 64 ∧ As (KS w na (na + 1) (fun j => b8 (if j < i then kp j ^^^ 0x36 else kp j)) (fun j => b8 (if j < i then kp j ^^^ 0x5c else kp j)) wr)) (fun c _ => (64 - intOf c).toNat)
    case atStart => exact ⟨0, rfl, by omega, ⟨HS2.out.congr (fun j hj => by rw [if_neg (by omega)]) (fun j hj => by rw [if_neg (by omega)])⟩⟩
    case round =>
      clear HS2
      obtain ⟨i, rfl, hi, HS⟩ := hrel
      by_cases hi64 : i < 64
      · have c0 : (0 : Int) ≤ (i : Int) := by omega
        have c1 : (i : Int) < 64 := by omega
        have q1 : wr.cell? ⟨na, i, none⟩ = some (b8 (kp i)) := by
          have := HS.out.ha.cell i hi64
          rw [if_neg (Nat.lt_irrefl i)] at this
          exact this
        go_wp2_with (first
          | (refine wpList_store_one rfl 5 _ _ rfl na _ rfl 61 64 _ _ rfl rfl rfl HS.out.ha (by kernel_rfl) hi64 ?_
             intro w4 h4 hf4
             have HS3 := As.mk (HS.out.seta hf4 h4)
             have q2 : w4.cell? ⟨na + 1, i, none⟩ = some (b8 (kp i)) := by
               have := HS3.out.hb.cell i hi64
               rw [if_neg (Nat.lt_irrefl i)] at this
               exact this
             clear HS h4 hf4)
          | (refine wpList_store_one rfl 5 _ _ rfl (na + 1) _ rfl 61 64 _ _ rfl rfl rfl HS3.out.hb (by kernel_rfl) hi64 ?_
             intro w5 h5 hf5
             have HS4 := As.mk (HS3.out.setb hf5 h5)
             clear HS3 h5 hf5))
        refine ⟨⟨i + 1, by go_num, by omega, ⟨HS4.out.congr (fun j hj => ?_) (fun j hj => ?_)⟩⟩, by simp [intOf]; omega⟩
        · show (if _ then _ else _) = _
          by_cases h : j = i
          · rw [if_pos h, h, if_pos (Nat.lt_succ_self i)]
            exact congrArg (Value.int .u8) (u8_xor (kp i) 0x36)
          · rw [if_neg h]
            by_cases h2 : j < i
            · rw [if_pos h2, if_pos (by omega)]
            · rw [if_neg h2, if_neg (by omega)]
        · show (if _ then _ else _) = _
          by_cases h : j = i
          · rw [if_pos h, h, if_pos (Nat.lt_succ_self i)]
            exact congrArg (Value.int .u8) (u8_xor (kp i) 0x5c)
          · rw [if_neg h]
            by_cases h2 : j < i
            · rw [if_pos h2, if_pos (by omega)]
            · rw [if_neg h2, if_neg (by omega)]
      · have HS5 : As (KS w na (na + 1) (fun j => b8 ((kPad s 0x36).getD j 0)) (fun j => b8 ((kPad s 0x5c).getD j 0)) wr) := ⟨HS.out.congr
          (fun j hj => key_cells s 0x36 (fun j => b8 (if j < i then kp j ^^^ 0x36 else kp j)) (fun j hj => by show b8 (if _ then _ else _) = _; rw [if_pos (by omega), HKP.out j]) j hj) (fun j hj => key_cells s 0x5c (fun j => b8 (if j < i then kp j ^^^ 0x5c else kp j)) (fun j hj => by show b8 (if _ then _ else _) = _; rw [if_pos (by omega), HKP.out j]) j hj)⟩
        clear HS
        go_wp2_with fail
        refine (NewHash_c wr (HT.out.below HS5.out.fr).1).mono ?_
        rintro _ w6 ⟨rfl, h6, hb6⟩
        have HS6 := As.mk (HS5.out.below hb6)
        have HA6 := As.mk h6
        have HL1 := hid_ HS5.out.hb.lt
        clear HS5 h6 hb6
        generalize wr.heap.size = g1 at *
        go_wp2_with fail
        refine (NewHash_c w6 (HT.out.below HS6.out.fr).1).mono ?_
        rintro _ w7 ⟨rfl, h7, hb7⟩
        have HS7 := As.mk (HS6.out.below hb7)
        have HA7 := As.mk (HA6.out.below hb7)
        have HB7 := As.mk h7
        have HL2 := hid_ HA6.out.lt
        clear HS6 HA6 h7 hb7
        generalize w6.heap.size = g2 at *
        go_wp2_with (refine wpList_bytes_str rfl 69 9 5 _ rfl Tryd.underlying69 Tryd.underlying5 Tryd.underlying9 na 64 64 rfl (kPad s 0x36) (kPad_len _ _) (fun i hi => HS7.out.ha.cell i hi) ?_)
        have H17 := hid_ (show (17 : Nat) < na by have := HS7.out.hw; have := HT.out.2.2; omega)
        refine (Add_c g1 [] 0 (sb (kPad s 0x36)) w7 (by have := H17.out; have := HL1.out; omega) (HT.out.below HS7.out.fr).2.1 HA7.out (by rw [sb_size, kPad_len]; omega)).mono ?_
        rintro _ w8 ⟨rfl, h8, hf8⟩
        rw [List.nil_append, bs_sb, sb_size, kPad_len, Nat.zero_add] at h8
        have HA8 := As.mk h8
        have HB8 := As.mk (HB7.out.fr hf8 (by have := HL2.out; omega))
        have HS8 := As.mk (HS7.out.keep hf8 HL1.out)
        clear HS7 HA7 HB7 h8 hf8
        go_wp2_with (refine wpList_bytes_str rfl 69 9 5 _ rfl Tryd.underlying69 Tryd.underlying5 Tryd.underlying9 (na + 1) 64 64 rfl (kPad s 0x5c) (kPad_len _ _) (fun i hi => HS8.out.hb.cell i hi) ?_)
        refine (Add_c g2 [] 0 (sb (kPad s 0x5c)) w8 (by have := H17.out; have := HL1.out; have := HL2.out; omega) (HT.out.below HS8.out.fr).2.1 HB8.out (by rw [sb_size, kPad_len]; omega)).mono ?_
        rintro _ w9 ⟨rfl, h9, hf9⟩
        rw [List.nil_append, bs_sb, sb_size, kPad_len, Nat.zero_add] at h9
        have HA9 := As.mk (HA8.out.fr hf9 (by have := HL2.out; omega))
        have HB9 := As.mk h9
        have HS9 := As.mk (HS8.out.keep hf9 (by have := HL1.out; have := HL2.out; omega))
        clear HS8 HA8 HB8 h9 hf9
        go_wp2_with fail
        obtain ⟨r1, ha1, _⟩ := HA9.out
        obtain ⟨r2, ha2, _⟩ := HB9.out
        rw [kPad_len] at ha1 ha2
        have HA := As.mk (show AF g1 64 74 (hf (stOf (kPad s 0x36)) r1 0 64) w9.drew from ha1)
        have HB := As.mk (show AF g2 64 74 (hf (stOf (kPad s 0x5c)) r2 0 64) w9.drew from ha2)
        have HS : As (KS w na (na + 1) (fun j => b8 ((kPad s 54).getD j 0)) (fun j => b8 ((kPad s 92).getD j 0)) w9.drew) := ⟨⟨HS9.out.ha, HS9.out.hb, HS9.out.h2, HS9.out.h3, below_drew HS9.out.fr, HS9.out.hab, HS9.out.hw⟩⟩
        clear HA9 HB9 HS9 ha1 ha2
        refine start_ (n := 8) (S := fun w' => AF g1 64 74 (hf (stOf (kPad s 0x36)) r1 0 64) w' ∧ AF g2 64 74 (hf (stOf (kPad s 0x5c)) r2 0 64) w') (ds := []) #[false, false, false, false, false, false, false, false] (by kernel_rfl) rfl rfl ⟨HA.out, HB.out⟩ (fun hHeld => ?_)
        refine pure_ (i := 0) (N := some 44) (v := ?_) (a' := ?_) #[true, false, false, false, false, false, false, false] rfl rfl (by kernel_rfl) (fun _ _ _ h => h) (Or.inl ⟨by rfl, ?_⟩) ?_ ?_
        rotate_left
        · intro w'
          go_simp
          with_reducible rfl
        rotate_left
        · simp only [Act.put, List.setIfInBounds_toArray, List.set_cons_zero, List.set_cons_succ]
          rfl
        refine pure_ (i := 1) (N := some 45) (v := ?_) (a' := ?_) #[true, true, false, false, false, false, false, false] rfl rfl (by kernel_rfl) (fun _ _ _ h => h) (Or.inl ⟨by rfl, ?_⟩) ?_ ?_
        rotate_left
        · intro w'
          go_simp
          with_reducible rfl
        rotate_left
        · simp only [Act.put, List.setIfInBounds_toArray, List.set_cons_zero, List.set_cons_succ]
          rfl
        refine pure_ (i := 3) (N := some 47) (v := ?_) (a' := ?_) #[true, true, false, true, false, false, false, false] rfl rfl (by kernel_rfl) (fun _ _ _ h => h) (Or.inl ⟨by rfl, ?_⟩) ?_ ?_
        rotate_left
        · intro w'
          go_simp
          with_reducible rfl
        rotate_left
        · simp only [Act.put, List.setIfInBounds_toArray, List.set_cons_zero, List.set_cons_succ]
          rfl
        refine pure_ (i := 4) (N := some 48) (v := ?_) (a' := ?_) #[true, true, false, true, true, false, false, false] rfl rfl (by kernel_rfl) (fun _ _ _ h => h) (Or.inl ⟨by rfl, ?_⟩) ?_ ?_
        rotate_left
        · intro w'
          go_simp
          with_reducible rfl
        rotate_left
        · simp only [Act.put, List.setIfInBounds_toArray, List.set_cons_zero, List.set_cons_succ]
          rfl
        refine take_ (i := 2) (N := some 46) (v := .agg (af 74 (hf (stOf (kPad s 0x36)) r1 0 64)).toList.toArray) (a' := ?_) #[true, true, true, true, true, false, false, false] rfl rfl (by kernel_rfl) (fun _ _ _ h => h) (Or.inl ⟨by rfl, ?_⟩) hHeld ?_ ?_
        · intro w' hS
          exact exec_load_sub 64 (.tmp 45) (by rfl) g1 0 (by rfl) 64 _ (0, 0) _ (af 74 (hf (stOf (kPad s 0x36)) r1 0 64)).toList hS.1 Tryd.underlying64 rfl (by kernel_rfl) (fun j x hx => by simpa using hx)
        rotate_left
        · simp only [Act.put, List.setIfInBounds_toArray, List.set_cons_zero, List.set_cons_succ]
          rfl
        refine take_ (i := 5) (N := some 49) (v := .agg (af 74 (hf (stOf (kPad s 0x5c)) r2 0 64)).toList.toArray) (a' := ?_) #[true, true, true, true, true, true, false, false] rfl rfl (by kernel_rfl) (fun _ _ _ h => h) (Or.inl ⟨by rfl, ?_⟩) hHeld ?_ ?_
        · intro w' hS
          exact exec_load_sub 64 (.tmp 48) (by rfl) g2 0 (by rfl) 64 _ (0, 0) _ (af 74 (hf (stOf (kPad s 0x5c)) r2 0 64)).toList hS.2 Tryd.underlying64 rfl (by kernel_rfl) (fun j x hx => by simpa using hx)
        rotate_left
        · simp only [Act.put, List.setIfInBounds_toArray, List.set_cons_zero, List.set_cons_succ]
          rfl
        refine one_ (i := 6) (N := none) #[true, true, true, true, true, true, true, false] rfl rfl (by kernel_rfl) (by decide) (fun K hK => ?_)
        refine store_sub_ (by rfl) rfl 64 _ _ rfl w.heap.size 0 rfl 64 Tryd.zeroCells64 (af 74 (hf (stOf (kPad s 0x36)) r1 0 64)).toList rfl HS.out.h2 (by rw [af_len]; kernel_rfl) (by rw [af_len, zero64_size]; exact Nat.le_refl _) (hf_one _ _ _ _) ?_
        intro w10 h10 hf10
        rw [whole_store _ _ _ zero64_size] at h10
        have HR2 := As.mk (show AF w.heap.size 64 74 (hf (stOf (kPad s 0x36)) r1 0 64) w10 from h10)
        have HG1 := As.mk ((hf10.block g1 HA.out.lt (by have := HL1.out; have := HS.out.hw; omega)).trans HA.out)
        have HG2 := As.mk ((hf10.block g2 HB.out.lt (by have := HL1.out; have := HL2.out; have := HS.out.hw; omega)).trans HB.out)
        have HR3 := As.mk ((hf10.block (w.heap.size + 1) (by have := HS.out.hw; have := HS.out.ha.lt; omega) (by omega)).trans HS.out.h3)
        have HB10 : As (Below w.heap.size w w10) := ⟨below_fr HS.out.fr hf10⟩
        clear h10 hf10
        refine hK.out _ _ ⟨HG1.out, HG2.out⟩ (fun hHeld => ?_)
        clear hK K
        refine one_ (i := 7) (N := none) #[true, true, true, true, true, true, true, true] rfl rfl (by kernel_rfl) (by decide) (fun K hK => ?_)
        refine store_sub_ (by rfl) rfl 64 _ _ rfl (w.heap.size + 1) 0 rfl 64 Tryd.zeroCells64 (af 74 (hf (stOf (kPad s 0x5c)) r2 0 64)).toList rfl HR3.out (by rw [af_len]; kernel_rfl) (by rw [af_len, zero64_size]; exact Nat.le_refl _) (hf_one _ _ _ _) ?_
        intro w11 h11 hf11
        rw [whole_store _ _ _ zero64_size] at h11
        have HR3' := As.mk (show AF (w.heap.size + 1) 64 74 (hf (stOf (kPad s 0x5c)) r2 0 64) w11 from h11)
        have HR2' := As.mk (show AF w.heap.size 64 74 (hf (stOf (kPad s 0x36)) r1 0 64) w11 from (hf11.block w.heap.size HR2.out.lt (by omega)).trans HR2.out)
        have HG1' := As.mk ((hf11.block g1 (Array.getElem?_eq_some_iff.1 HG1.out).1 (by have := HL1.out; have := HS.out.hw; omega)).trans HG1.out)
        have HG2' := As.mk ((hf11.block g2 (Array.getElem?_eq_some_iff.1 HG2.out).1 (by have := HL1.out; have := HL2.out; have := HS.out.hw; omega)).trans HG2.out)
        have HB11 : As (Below w.heap.size w w11) := ⟨HB10.out.trans (hf11.below HB10.out.size (fun k hk e => by omega))⟩
        clear h11 hf11
        refine hK.out _ _ ⟨HG1'.out, HG2'.out⟩ (fun hHeld => ?_)
        clear hK K
        refine done_ (by kernel_rfl) ?_
        go_wp2
        have hp2 := HR2'.out
        have hp3 := HR3'.out
        refine bodyPost_ret (v := .tuple #[.agg (af 74 (hf (stOf (kPad s 0x36)) r1 0 64)), .agg (af 74 (hf (stOf (kPad s 0x5c)) r2 0 64))]) (results_two_rows Tryd.results36 _ _ _ _ 64 64 _ _ (0, 0) (0, 0) _ _ rfl rfl hp2 hp3 Tryd.underlying64 Tryd.underlying64 rfl rfl (by rw [af_size]; kernel_rfl) (by rw [af_size]; kernel_rfl)) rfl ⟨⟨r1, r2, rfl⟩, HB11.out⟩
end Go.Proofs.YtegeijlookpgaaaDoor
