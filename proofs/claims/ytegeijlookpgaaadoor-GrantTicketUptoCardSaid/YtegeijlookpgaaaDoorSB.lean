/- What the reference digest's Sha computes. -/
import Derived.Test.YtegeijlookpgaaaDoorSA
import Derived.Test.YtegeijlookpgaaaDoorBA
set_option linter.unusedVariables false
set_option linter.unusedSimpArgs false
namespace Go.Proofs.YtegeijlookpgaaaDoor
open Go.RowKit Go.Proofs.YtegeijlookpgaaaDoorW.PrintWords Go.Proofs.YtegeijlookpgaaaDoorW.PrintLast

/-- the two tables of the document's digest -/
def RefT (w : World) : Prop := Whole8 13 vInit w ∧ Tab32 14 kTab w ∧ 17 < w.heap.size
theorem RefT.below {w w' : World} (h : RefT w) (hb : Below w.heap.size w w') : RefT w' :=
  ⟨by obtain ⟨t, fr, h1⟩ := h.1; exact ⟨t, fr, (hb.block _ (Nat.lt_trans (by decide) h.2.2)).trans h1⟩, h.2.1.below hb, Nat.lt_of_lt_of_le h.2.2 hb.size⟩
theorem c8_af (v : V8) : c8 v = af 8 (fun i => w32 (v.at i)) := rfl
theorem at_add8 (v u : V8) (j : Nat) : (add8 v u).at j = v.at j + u.at j := by
  unfold V8.at add8
  split <;> rfl
theorem u32_add1 (a b : UInt32) : IntKind.u32.wrap ((a.toNat : Int) + b.toNat) = ((a + b).toNat : Int) := by
  rw [IntKind.wrap_u32, UInt32.toNat_add]; omega
def outL (F : V8) : Nat → List UInt8
  | 0 => []
  | i + 1 => outL F i ++ w4b (F.at i)
theorem outL_len (F : V8) : ∀ i, (outL F i).length = 4 * i
  | 0 => rfl
  | i + 1 => by rw [outL, List.length_append, outL_len F i]; rfl
theorem outL_all (F : V8) : outL F 8 = outB F := by
  simp only [outL, outB, List.nil_append, V8.at]
theorem u32_and255 (x : Int) (y : Nat) (hx : x = y) (hy : y < 2 ^ 32) : Go.bits .and .u32 x 255 % 256 = ((y % 256 : Nat) : Int) := by
  subst hx
  have := (bits_nat .u32 32 (by decide) wraps_u32 y 255 hy (by decide)).1
  rw [show ((255 : Nat) : Int) = 255 from rfl] at this
  rw [this, show (255 : Nat) = 2 ^ 8 - 1 from rfl, Nat.and_two_pow_sub_one_eq_mod]
  omega
theorem w4b_cells (x : UInt32) : #[Value.int .u8 ((x.toNat : Int) / 16777216 % 256), .int .u8 (Go.bits .and .u32 ((x.toNat : Int) / 65536) 255 % 256), .int .u8 (Go.bits .and .u32 ((x.toNat : Int) / 256) 255 % 256), .int .u8 (Go.bits .and .u32 (x.toNat : Int) 255 % 256)] = (cells8 (w4b x)).toArray := by
  have hx := x.toNat_lt
  rw [u32_and255 _ (x.toNat / 65536) (by omega) (by omega), u32_and255 _ (x.toNat / 256) (by omega) (by omega), u32_and255 _ x.toNat rfl hx]
  have e0 := w4b0 x
  have e1 := w4b1 x
  have e2 := w4b2 x
  have e3 := w4b3 x
  have h0 : ((x.toNat : Int) / 16777216 % 256) = (((w4b x).getD 0 0).toNat : Int) := e0
  have h1 : ((x.toNat / 65536 % 256 : Nat) : Int) = (((w4b x).getD 1 0).toNat : Int) := by rw [← e1]; omega
  have h2 : ((x.toNat / 256 % 256 : Nat) : Int) = (((w4b x).getD 2 0).toNat : Int) := by rw [← e2]; omega
  have h3 : ((x.toNat % 256 : Nat) : Int) = (((w4b x).getD 3 0).toNat : Int) := by rw [← e3]; omega
  rw [h0, h1, h2, h3]
  rfl
theorem z98_size : z98.size = 64 := rfl
theorem w32_one (n : Nat) (f : Nat → UInt32) : ∀ v ∈ (af n fun t => w32 (f t)).toList, v.oneCell' = true := by
  intro v hv
  simp only [af, List.mem_map] at hv
  obtain ⟨i, _, rfl⟩ := hv
  rfl
theorem c8_load (v : V8) : ∀ (j : Nat) (x : Value), (c8 v).toList[j]? = some x → (af 8 (fun i => w32 (v.at i)))[0 + j]? = some x := by
  intro j x hx
  rw [Array.getElem?_toList] at hx
  rw [Nat.zero_add, ← c8_af]
  exact hx
abbrev z96 : Array Value := #[.int .u32 0, .int .u32 0, .int .u32 0, .int .u32 0, .int .u32 0, .int .u32 0, .int .u32 0, .int .u32 0]
theorem z96_eq : z96 = af 8 (fun _ => w32 0) := rfl

set_option maxHeartbeats 4000000 in
set_option maxRecDepth 100000 in
theorem refSha_c (s : ByteArray) (w : World) (hT : RefT w) (hs : s.size ≤ 4503599627370496) :
    Calls Tryd.prog 44 #[.string s] w fun e w' => e = .returned (.string (sb (shaL (bs s)))) ∧ Below w.heap.size w w' := by
  have HT := As.mk hT
  obtain ⟨n, hn⟩ : ∃ n, whole s.size = 64 * n := ⟨(s.size + 8) / 64 + 1, by unfold whole; omega⟩
  have HN := hid_ hn
  have hw2 : 64 * (n : Int) ≤ (s.size : Int) + 72 := by unfold whole at hn; omega
  have hwv : (((s.size : Int) + 8) / 64 + 1) * 64 = 64 * (n : Int) := by unfold whole at hn; omega
  have hdv : Int.tdiv ((s.size : Int) + 8) 64 = ((s.size : Int) + 8) / 64 := Int.tdiv_eq_ediv_of_nonneg (by omega)
  have H0 : As (AF w.heap.size 96 8 (fun j => if j < 0 then w32 (vInit.at j) else w32 0) (w.alloc (.cells z96 96)) ∧ Below w.heap.size w (w.alloc (.cells z96 96))) := ⟨by
    refine ⟨?_, below_alloc (Below.refl _ _) _⟩
    exact Array.getElem?_push_size⟩
  clear hT hn
  go_enter Tryd.func44, Tryd.ntmps44
  go_wp2
  go_loopw [5] (fun c wr => ∃ i : Nat, c = .int .i64 i ∧ i ≤ 8 ∧ As (AF w.heap.size 96 8 (fun j => if j < i then w32 (vInit.at j) else w32 0) wr ∧ Below w.heap.size w wr)) (fun c _ => (8 - intOf c).toNat)
  case atStart => exact ⟨0, rfl, by omega, H0⟩
  case round =>
    clear H0
    obtain ⟨i, rfl, hi, HS⟩ := hrel
    by_cases hi8 : i < 8
    · have c0 : (0 : Int) ≤ (i : Int) := by omega
      have c1 : (i : Int) < 8 := by omega
      have q1 : wr.cell? ⟨13, i, none⟩ = some (w32 (vInit.at i)) := by
        obtain ⟨t, fr, hh⟩ := (HT.out.below HS.out.2).1
        rw [Lib.cell_of_heap hh, c8_af, af_get 8 _ i hi8]
      go_wp2_with (refine wpList_store_one rfl 59 _ _ rfl w.heap.size _ rfl 96 8 _ _ rfl rfl rfl HS.out.1 (by kernel_rfl) (by omega) ?_
                   intro wa ha hfa
                   have HS2 := As.mk (And.intro ha (below_fr HS.out.2 hfa))
                   clear HS ha hfa)
      refine ⟨⟨i + 1, by go_num, by omega, ⟨HS2.out.1.congr (fun j hj => ?_), HS2.out.2⟩⟩, by simp [intOf]; omega⟩
      show (if _ then _ else if _ then _ else _) = _
      by_cases h : j = i
      · rw [if_pos h, if_pos (by omega), h]; rfl
      · rw [if_neg h]
        by_cases h2 : j < i
        · rw [if_pos h2, if_pos (by omega)]
        · rw [if_neg h2, if_neg (by omega)]
    · have HI : As (AF w.heap.size 96 8 (fun j => w32 (vInit.at j)) wr ∧ Below w.heap.size w wr) := ⟨HS.out.1.congr (fun j hj => by rw [if_pos (by omega)]), HS.out.2⟩
      clear HS
      go_wp2
      go_loopw [6] (fun c wr => ∃ k : Nat, c = .int .i64 (64 * (k : Int)) ∧ k ≤ n ∧ As (AF w.heap.size 96 8 (fun j => w32 ((stP (padB (bs s)) k).at j)) wr ∧ Below w.heap.size w wr)) (fun c _ => (64 * n - intOf c).toNat)
      case atStart => exact ⟨0, rfl, by omega, HI⟩
      case round =>
        clear HI
        obtain ⟨k, rfl, hk, HS⟩ := hrel
        obtain ⟨V, hV⟩ : ∃ V, V = stP (padB (bs s)) k := ⟨_, rfl⟩
        rw [← hV] at HS
        have HV := hid_ hV
        clear hV
        obtain ⟨p, hp⟩ : ∃ p : Nat → UInt8, p = fun i => padB (bs s) (64 * k + i) := ⟨_, rfl⟩
        have HP := hid_ hp
        by_cases hkn : k < n
        · have q1 : (64 * (k : Int)) < 64 * (n : Int) := by omega
          have HPL : As (∀ w, Calls Tryd.prog 71 #[.string s, .int .i64 (64 * (n : Int)), .int .i64 (64 * (k : Int))] w fun e w' => e = .returned (.agg (af 64 fun t => w32 (sch p t))) ∧ Below w.heap.size w w') := ⟨fun w => by
            have := plan_c s k w (by rw [HN.out]; omega) hs
            rw [HN.out] at this
            rw [hp]
            exact_mod_cast this⟩
          clear hp
          go_wp2_with fail
          refine (HPL.out wr).mono ?_
          rintro _ w1 ⟨rfl, hb1⟩
          have HS1 : As (AF w.heap.size 96 8 (fun j => w32 (V.at j)) (w1.alloc (.cells z98 98)) ∧ Below w.heap.size w (w1.alloc (.cells z98 98)) ∧ w.heap.size < w1.heap.size) := ⟨by
            have h1 : AF w.heap.size 96 8 (fun j => w32 (V.at j)) w1 := (hb1.block _ HS.out.1.lt).trans HS.out.1
            exact ⟨(Below.heap_alloc w1 _ _ h1.lt).trans h1, below_alloc (below_next HS.out.2 hb1) _, h1.lt⟩⟩
          have HZ1 : As ((w1.alloc (.cells z98 98)).heap[w1.heap.size]? = some (.cells z98 98 (0, 0))) := ⟨Array.getElem?_push_size⟩
          clear hb1 HS HPL
          go_wp2_with (first
            | (refine wpList_store_sub rfl 98 _ _ rfl w1.heap.size 0 rfl 98 z98 (af 64 fun t => w32 (sch p t)).toList rfl HZ1.out (by rw [af_len]; kernel_rfl) (by rw [af_len]; exact Nat.le_refl _) (w32_one _ _) ?_
               intro w2 h2 hf2
               rw [whole_store _ _ _ z98_size] at h2
               have HS2 : As (AF w.heap.size 96 8 (fun j => w32 (V.at j)) w2 ∧ Below w.heap.size w w2 ∧ w.heap.size < w1.heap.size) := ⟨(hf2.block _ HS1.out.1.lt (by have := HS1.out.2.2; omega)).trans HS1.out.1, HS1.out.2.1.trans (hf2.below HS1.out.2.1.size (fun k hk e => by have := HS1.out.2.2; omega)), HS1.out.2.2⟩
               have HW2 := As.mk (show AF w1.heap.size 98 64 (fun t => w32 (sch p t)) w2 from h2)
               have HZ2 : As ((w2.alloc (.cells z96 96)).heap[w2.heap.size]? = some (.cells z96 96 (0, 0))) := ⟨Array.getElem?_push_size⟩
               have HW2' : As (AF w1.heap.size 98 64 (fun t => w32 (sch p t)) (w2.alloc (.cells z96 96)) ∧ AF w.heap.size 96 8 (fun j => w32 (V.at j)) (w2.alloc (.cells z96 96))) := ⟨(Below.heap_alloc w2 _ _ HW2.out.lt).trans HW2.out, (Below.heap_alloc w2 _ _ HS2.out.1.lt).trans HS2.out.1⟩
               clear HS1 HZ1 h2 hf2)
            | (refine wpList_load_sub rfl 96 _ rfl w.heap.size 0 rfl 96 _ (0, 0) _ (c8 V).toList HS2.out.1 Tryd.underlying96 rfl (by kernel_rfl) (c8_load _) ?_)
            | (refine wpList_store_sub rfl 96 _ _ rfl w2.heap.size 0 rfl 96 z96 (c8 V).toList rfl HZ2.out (by kernel_rfl) (by simp) (by simp [w32, Value.oneCell']) ?_
               intro w3 h3 hf3
               have h3' : AF w2.heap.size 96 8 (fun j => w32 (V.at j)) w3 := h3
               have HS3 : As (AF w.heap.size 96 8 (fun j => w32 (V.at j)) w3 ∧ Below w.heap.size w w3) := ⟨(hf3.block _ HW2'.out.2.lt (by have := HS2.out.1.lt; omega)).trans HW2'.out.2, (below_alloc HS2.out.2.1 _).trans (hf3.below (below_alloc HS2.out.2.1 _).size (fun k hk e => by have := HS2.out.1.lt; omega))⟩
               have HW3 : As (AF w1.heap.size 98 64 (fun t => w32 (sch p t)) w3) := ⟨(hf3.block _ HW2'.out.1.lt (by have := HW2.out.lt; omega)).trans HW2'.out.1⟩
               have HV3 := As.mk h3'
               have HO : As (w.heap.size < w1.heap.size ∧ w1.heap.size < w2.heap.size) := ⟨HS2.out.2.2, HW2.out.lt⟩
               clear HS2 HW2 HW2' HZ2 h3 h3' hf3))
          generalize w1.heap.size = nw at *
          generalize w2.heap.size = nv at *
          go_loopw [9] (fun c wr => ∃ t : Nat, c = .int .i64 t ∧ t ≤ 64 ∧ As (AF w.heap.size 96 8 (fun j => w32 (V.at j)) wr ∧ Below w.heap.size w wr) ∧ As (AF nw 98 64 (fun t => w32 (sch p t)) wr) ∧ As (AF nv 96 8 (fun j => w32 ((rounds (sch p) V t).at j)) wr)) (fun c _ => (64 - intOf c).toNat)
          case atStart => exact ⟨0, rfl, by omega, HS3, HW3, HV3⟩
          case round =>
            clear HS3 HW3 HV3
            obtain ⟨t, rfl, ht, HS, HW, HU⟩ := hrel
            by_cases ht64 : t < 64
            · have c0 : (0 : Int) ≤ (t : Int) := by omega
              have c1 : (t : Int) < 64 := by omega
              go_wp2_with fail
              have HG : As (wr.drew.cell? ⟨14, t, none⟩ = some (w32 (kTab.getD t 0))) := ⟨(HT.out.below HS.out.2).2.1 t (by simpa [kTab] using ht64)⟩
              refine start_ (n := 9) (S := fun w' => AF nv 96 8 (fun j => w32 ((rounds (sch p) V t).at j)) w' ∧ AF nw 98 64 (fun t => w32 (sch p t)) w' ∧ w'.cell? ⟨14, t, none⟩ = some (w32 (kTab.getD t 0))) (ds := [8]) #[false, false, false, false, false, false, false, false, false] (by kernel_rfl) rfl rfl ⟨HU.out, HW.out, HG.out⟩ (fun hHeld => ?_)
              refine pure_ (i := 1) (N := some 44) (v := ?_) (a' := ?_) #[false, true, false, false, false, false, false, false, false] rfl rfl (by kernel_rfl) (fun _ _ _ h => h) (Or.inl ⟨by rfl, ?_⟩) ?_ ?_
              rotate_left
              · intro w'
                go_simp
                with_reducible rfl
              rotate_left
              · simp only [Act.put, List.setIfInBounds_toArray, List.set_cons_zero, List.set_cons_succ]
                rfl
              refine pure_ (i := 2) (N := some 45) (v := ?_) (a' := ?_) #[false, true, true, false, false, false, false, false, false] rfl rfl (by kernel_rfl) (fun _ _ _ h => h) (Or.inl ⟨by rfl, ?_⟩) ?_ ?_
              rotate_left
              · intro w'
                go_simp
                with_reducible rfl
              rotate_left
              · simp only [Act.put, List.setIfInBounds_toArray, List.set_cons_zero, List.set_cons_succ]
                rfl
              refine pure_ (i := 4) (N := some 47) (v := ?_) (a' := ?_) #[false, true, true, false, true, false, false, false, false] rfl rfl (by kernel_rfl) (fun _ _ _ h => h) (Or.inl ⟨by rfl, ?_⟩) ?_ ?_
              rotate_left
              · intro w'
                go_simp
                with_reducible rfl
              rotate_left
              · simp only [Act.put, List.setIfInBounds_toArray, List.set_cons_zero, List.set_cons_succ]
                rfl
              refine pure_ (i := 5) (N := some 48) (v := ?_) (a' := ?_) #[false, true, true, false, true, true, false, false, false] rfl rfl (by kernel_rfl) (fun _ _ _ h => h) (Or.inl ⟨by rfl, ?_⟩) ?_ ?_
              rotate_left
              · intro w'
                go_simp
                with_reducible rfl
              rotate_left
              · simp only [Act.put, List.setIfInBounds_toArray, List.set_cons_zero, List.set_cons_succ]
                rfl
              refine take_ (i := 0) (N := some 43) (v := .agg (c8 (rounds (sch p) V t)).toList.toArray) (a' := ?_) #[true, true, true, false, true, true, false, false, false] rfl rfl (by kernel_rfl) (fun _ _ _ h => h) (Or.inl ⟨by rfl, ?_⟩) hHeld ?_ ?_
              · intro w' hS
                exact exec_load_sub 96 (.tmp 8) (by rfl) nv 0 (by rfl) 96 _ (0, 0) _ (c8 (rounds (sch p) V t)).toList hS.1 Tryd.underlying96 rfl (by kernel_rfl) (c8_load _)
              rotate_left
              · simp only [Act.put, List.setIfInBounds_toArray, List.set_cons_zero, List.set_cons_succ]
                rfl
              refine take_ (i := 3) (N := some 46) (v := w32 (kTab.getD t 0)) (a' := ?_) #[true, true, true, true, true, true, false, false, false] rfl rfl (by kernel_rfl) (fun _ _ _ h => h) (Or.inl ⟨by rfl, ?_⟩) hHeld ?_ ?_
              · intro w' hS
                have h := hS.2.2
                go_simp
              rotate_left
              · simp only [Act.put, List.setIfInBounds_toArray, List.set_cons_zero, List.set_cons_succ]
                rfl
              refine take_ (i := 6) (N := some 49) (v := w32 (sch p t)) (a' := ?_) #[true, true, true, true, true, true, true, false, false] rfl rfl (by kernel_rfl) (fun _ _ _ h => h) (Or.inl ⟨by rfl, ?_⟩) hHeld ?_ ?_
              · intro w' hS
                have h := hS.2.1.cell t ht64
                go_simp
              rotate_left
              · simp only [Act.put, List.setIfInBounds_toArray, List.set_cons_zero, List.set_cons_succ]
                rfl
              refine one_ (i := 7) (N := some 50) #[true, true, true, true, true, true, true, true, false] rfl rfl (by kernel_rfl) (by decide) (fun K hK => ?_)
              refine goes_ Tryd.func72 (by kernel_rfl) rfl #[.agg (c8 (rounds (sch p) V t)).toList.toArray, w32 (kTab.getD t 0), w32 (sch p t)] (by rfl) rfl rfl (by simp only [List.map_toArray, List.map_cons, List.map_nil]; rfl) ?_
              refine (refStep_c (rounds (sch p) V t) (kTab.getD t 0) (sch p t) _).mono ?_
              rintro e w5 ⟨rfl, hb5⟩
              refine ⟨_, rfl, ?_⟩
              have HS5 : As (AF w.heap.size 96 8 (fun j => w32 (V.at j)) w5 ∧ Below w.heap.size w w5) := ⟨(hb5.block _ HS.out.1.lt).trans HS.out.1, below_next (below_drew HS.out.2) hb5⟩
              have HW5 : As (AF nw 98 64 (fun t => w32 (sch p t)) w5) := ⟨(hb5.block _ HW.out.lt).trans HW.out⟩
              have HU5 : As (AF nv 96 8 (fun j => w32 ((rounds (sch p) V t).at j)) w5) := ⟨(hb5.block _ HU.out.lt).trans HU.out⟩
              refine hK.out _ _ ⟨HU5.out, HW5.out, pw_cell_below hb5 HG.out⟩ (fun hHeld => ?_)
              clear hb5
              clear hK K
              refine last_ (i := 8) (N := none) #[true, true, true, true, true, true, true, true, true] rfl rfl (by kernel_rfl) (by decide) (fun K hK => ?_)
              refine store_sub_ (by rfl) rfl 96 _ _ rfl nv 0 rfl 96 _ (c8 (step8 (rounds (sch p) V t) (kTab.getD t 0) (sch p t))).toList rfl HU5.out (by kernel_rfl) (by rw [af_size]; simp) (by simp [w32, Value.oneCell']) ?_
              intro w6 h6 hf6
              have h6' : AF nv 96 8 (fun j => w32 ((rounds (sch p) V (t + 1)).at j)) w6 := h6
              have HU6 := As.mk h6'
              have HS6 : As (AF w.heap.size 96 8 (fun j => w32 (V.at j)) w6 ∧ Below w.heap.size w w6) := ⟨(hf6.block _ HS5.out.1.lt (by have := HO.out; omega)).trans HS5.out.1, HS5.out.2.trans (hf6.below HS5.out.2.size (fun k hk e => by have := HO.out; omega))⟩
              have HW6 : As (AF nw 98 64 (fun t => w32 (sch p t)) w6) := ⟨(hf6.block _ HW5.out.lt (by have := HO.out; omega)).trans HW5.out⟩
              clear h6 h6' hf6 HU5 HS5 HW5
              refine hK.out _ _ ?_
              clear hK K
              refine done_ (by kernel_rfl) ?_
              go_wp2
              refine ⟨⟨t + 1, by go_num, by omega, HS6, HW6, HU6⟩, by simp [intOf]; omega⟩
            · have HU2 : As (AF nv 96 8 (fun j => w32 ((rounds (sch p) V 64).at j)) wr) := ⟨(show t = 64 by omega) ▸ HU.out⟩
              clear HU HW
              have HV2 : As (stP (padB (bs s)) (k + 1) = add8 V (rounds (sch p) V 64)) := ⟨by rw [stP, ← HV.out, ← HP.out]; rfl⟩
              generalize rounds (sch p) V 64 = U at *
              go_wp2
              go_loopw [10] (fun c wr => ∃ i : Nat, c = .int .i64 i ∧ i ≤ 8 ∧ As (AF w.heap.size 96 8 (fun j => w32 (if j < i then V.at j + U.at j else V.at j)) wr ∧ Below w.heap.size w wr) ∧ As (AF nv 96 8 (fun j => w32 (U.at j)) wr)) (fun c _ => (8 - intOf c).toNat)
              case atStart => exact ⟨0, rfl, by omega, ⟨HS.out.1.congr (fun j hj => by rw [if_neg (by omega)]), HS.out.2⟩, HU2⟩
              case round =>
                clear HS HU2
                obtain ⟨i, rfl, hi, HS, HU⟩ := hrel
                by_cases hi8 : i < 8
                · have c0 : (0 : Int) ≤ (i : Int) := by omega
                  have c1 : (i : Int) < 8 := by omega
                  have q1 : wr.cell? ⟨w.heap.size, i, none⟩ = some (w32 (V.at i)) := by
                    rw [HS.out.1.cell i hi8, if_neg (Nat.lt_irrefl i)]
                  have q2 := HU.out.cell i hi8
                  go_wp2
                  go_still_tail 9, (by kernel_rfl)
                  change wpList _ _ _ _ _ wr.drew
                  clear q1 q2
                  have HS2 : As (AF w.heap.size 96 8 (fun j => w32 (if j < i then V.at j + U.at j else V.at j)) wr.drew ∧ Below w.heap.size w wr.drew) := ⟨HS.out.1, below_drew HS.out.2⟩
                  have HU2 : As (AF nv 96 8 (fun j => w32 (U.at j)) wr.drew) := ⟨HU.out⟩
                  generalize wr.drew = w4 at *
                  clear HS HU
                  go_wp2_with (refine wpList_store_one rfl 59 _ _ rfl w.heap.size _ rfl 96 8 _ _ rfl rfl rfl HS2.out.1 (by kernel_rfl) (by omega) ?_
                               intro wa ha hfa
                               have HS3 := As.mk (And.intro ha (below_fr HS2.out.2 hfa))
                               have HU3 := As.mk (show AF nv 96 8 (fun j => w32 (U.at j)) wa from (hfa.block _ HU2.out.lt (by have := HO.out; omega)).trans HU2.out)
                               clear HS2 HU2 ha hfa)
                  refine ⟨⟨i + 1, by go_num, by omega, ⟨HS3.out.1.congr (fun j hj => ?_), HS3.out.2⟩, HU3⟩, by simp [intOf]; omega⟩
                  show (if _ then _ else _) = _
                  by_cases h : j = i
                  · rw [if_pos h, if_pos (by omega), h]
                    refine congrArg (Value.int .u32) ?_
                    exact u32_add1 _ _
                  · rw [if_neg h]
                    by_cases h2 : j < i
                    · rw [if_pos h2, if_pos (by omega)]
                    · rw [if_neg h2, if_neg (by omega)]
                · have HN2 : As (AF w.heap.size 96 8 (fun j => w32 ((stP (padB (bs s)) (k + 1)).at j)) wr ∧ Below w.heap.size w wr) := ⟨HS.out.1.congr (fun j hj => by rw [if_pos (by omega), HV2.out, at_add8]), HS.out.2⟩
                  clear HS HU
                  go_wp2
                  go_roundw
                  case rel => exact ⟨k + 1, by go_num, by omega, HN2⟩
                  case measure => simp [intOf]; omega
        · have HE : As (AF w.heap.size 96 8 (fun j => w32 ((stP (padB (bs s)) (whole (bs s).length / 64)).at j)) wr ∧ Below w.heap.size w wr) := ⟨by
            have h : k = n := by omega
            rw [bs_size, HN.out, show 64 * n / 64 = k by omega, ← HV.out]
            exact HS.out⟩
          clear HS
          generalize hFV : stP (padB (bs s)) (whole (bs s).length / 64) = F at *
          have HF := hid_ hFV
          clear hFV
          go_wp2
          go_loopw [11, 12] (fun c11 c12 wr => ∃ i : Nat, c12 = .int .i64 i ∧ i ≤ 8 ∧ As (AF w.heap.size 96 8 (fun j => w32 (F.at j)) wr ∧ Below w.heap.size w wr) ∧ As (BR (w.heap.size + 1) c11 (outL F i) wr)) (fun _ c _ => (8 - intOf c).toNat)
          case atStart => exact ⟨0, rfl, by omega, HE, ⟨BR.nil _ _⟩⟩
          case round =>
            clear HE
            obtain ⟨i, rfl, hi, HS, HO⟩ := hrel
            by_cases hi8 : i < 8
            · have c0 : (0 : Int) ≤ (i : Int) := by omega
              have c1 : (i : Int) < 8 := by omega
              have q1 := HS.out.1.cell i hi8
              have HLT := hid_ HS.out.1.lt
              have hLL : (outL F i).length + 4 ≤ 140737488355328 := by rw [outL_len]; omega
              go_wp2_with (at_builtin; refine byte_app (W := wr) (w.heap.size + 1) rfl _ _ rfl u11 (outL F i) (w4b (F.at i)) 4 rfl rfl rfl _ (w4b_cells (F.at i)) HO.out HLT.out hLL ?_)
              intro v1 w5 hbr hg
              have HO5 : As (BR (w.heap.size + 1) v1 (outL F (i + 1)) w5) := ⟨hbr⟩
              have HS5 : As (AF w.heap.size 96 8 (fun j => w32 (F.at j)) w5 ∧ Below w.heap.size w w5) := ⟨(grown_keep HO.out hg (by omega) HLT.out).trans HS.out.1, grown_below HO.out hg HS.out.2 (by omega)⟩
              clear hbr hg HO HS HLT hLL q1
              go_wp2
              exact ⟨⟨i + 1, by go_num, by omega, HS5, HO5⟩, by simp [intOf]; omega⟩
            · have HX : As (sb (outL F i) = sb (shaL (bs s))) := ⟨by rw [show i = 8 by omega, outL_all, ← HF.out]; rfl⟩
              go_wp2_with (refine byte_str (w.heap.size + 1) rfl _ rfl u11 (outL F i) rfl HO.out ?_)
              go_ret
              exact ⟨ret_str HX.out, HS.out.2⟩
end Go.Proofs.YtegeijlookpgaaaDoor
