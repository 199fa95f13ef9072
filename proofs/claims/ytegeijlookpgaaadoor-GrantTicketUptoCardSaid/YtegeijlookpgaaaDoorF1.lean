/- What the reference's Unreserved, digit and Escape compute. -/
import Derived.Test.YtegeijlookpgaaaDoorC
import Derived.Test.YtegeijlookpgaaaDoorBA
set_option linter.unusedVariables false
set_option linter.unusedSimpArgs false
namespace Go.Proofs.YtegeijlookpgaaaDoor
open Go.RowKit Go.Proofs.YtegeijlookpgaaaDoorW.PrintWords

theorem unres_int (c : UInt8) : unres c = (((decide ((65 : Int) ≤ c.toNat) && decide ((c.toNat : Int) ≤ 90)) || (decide ((97 : Int) ≤ c.toNat) && decide ((c.toNat : Int) ≤ 122)) || (decide ((48 : Int) ≤ c.toNat) && decide ((c.toNat : Int) ≤ 57))) || (((c.toNat : Int) == 45) || ((c.toNat : Int) == 46) || ((c.toNat : Int) == 95) || ((c.toNat : Int) == 126))) := by
  have h : ∀ n : Fin 256, unres (UInt8.ofNat n.val) = (((decide ((65 : Int) ≤ n.val) && decide ((n.val : Int) ≤ 90)) || (decide ((97 : Int) ≤ n.val) && decide ((n.val : Int) ≤ 122)) || (decide ((48 : Int) ≤ n.val) && decide ((n.val : Int) ≤ 57))) || (((n.val : Int) == 45) || ((n.val : Int) == 46) || ((n.val : Int) == 95) || ((n.val : Int) == 126))) := by decide +kernel
  have := h ⟨c.toNat, c.toNat_lt⟩
  rwa [u8_ofNat] at this
set_option maxHeartbeats 4000000 in
set_option maxRecDepth 100000 in
theorem refUnres_c (c : UInt8) (w : World) :
    Calls Tryd.prog 69 #[.int .u8 c.toNat] w fun e w' => e = .returned (.bool (unres c)) ∧ w = w' := by
  have hc := c.toNat_lt
  have HU := As.mk (unres_int c)
  go_enter Tryd.func69, Tryd.ntmps69
  go_wp2
  all_goals
    go_ret
    refine ⟨ret_bool ?_, rfl⟩
    first
      | (have hR : ((decide ((65 : Int) ≤ c.toNat) && decide ((c.toNat : Int) ≤ 90)) || (decide ((97 : Int) ≤ c.toNat) && decide ((c.toNat : Int) ≤ 122)) || (decide ((48 : Int) ≤ c.toNat) && decide ((c.toNat : Int) ≤ 57))) = true := by simp only [Bool.or_eq_true, Bool.and_eq_true, decide_eq_true_eq]; omega
         rw [HU.out, hR]; rfl)
      | (have hR : ((decide ((65 : Int) ≤ c.toNat) && decide ((c.toNat : Int) ≤ 90)) || (decide ((97 : Int) ≤ c.toNat) && decide ((c.toNat : Int) ≤ 122)) || (decide ((48 : Int) ≤ c.toNat) && decide ((c.toNat : Int) ≤ 57))) = false := by simp only [Bool.or_eq_false_iff, Bool.and_eq_false_iff, decide_eq_false_iff_not]; omega
         rw [HU.out, hR]
         first
           | rfl
           | (have hE : (((c.toNat : Int) == 45) || ((c.toNat : Int) == 46) || ((c.toNat : Int) == 95) || ((c.toNat : Int) == 126)) = true := by simp only [Bool.or_eq_true, beq_iff_eq]; omega
              rw [hE]; rfl))

theorem hexL_int (n : Nat) (h : n < 16) : ((hexL.getD n 0).toNat : Int) = if n < 10 then 48 + (n : Int) else 65 + ((n : Int) - 10) := by
  have h : ∀ n : Fin 16, ((hexL.getD n.val 0).toNat : Int) = if n.val < 10 then 48 + (n.val : Int) else 65 + ((n.val : Int) - 10) := by decide
  exact h ⟨n, by assumption⟩
set_option maxRecDepth 100000 in
theorem refDigit_c (n : Nat) (x : Int) (hx : x = n) (h : n < 16) (w : World) :
    Calls Tryd.prog 70 #[.int .u8 x] w fun e w' => e = .returned (.int .u8 (hexL.getD n 0).toNat) ∧ w = w' := by
  subst hx
  have HX := As.mk (hexL_int n h)
  by_cases h10 : n < 10
  · have c0 : (n : Int) < 10 := by omega
    go_enter Tryd.func70, Tryd.ntmps70
    go_wp2
    go_ret
    exact ⟨ret_int (by rw [HX.out, if_pos h10]), rfl⟩
  · have c0 : (10 : Int) ≤ n := by omega
    go_enter Tryd.func70, Tryd.ntmps70
    go_wp2
    go_ret
    exact ⟨ret_int (by rw [HX.out, if_neg h10]), rfl⟩

set_option maxHeartbeats 4000000 in
set_option maxRecDepth 100000 in
theorem refEscape_c (s : ByteArray) (plus : Bool) (w : World) (hs : s.size ≤ 268435456) :
    Calls Tryd.prog 42 #[.string s, .bool plus] w fun e w' => e = .returned (.string (sb (esc plus (bs s)))) ∧ Below w.heap.size w w' := by
  go_enter Tryd.func42, Tryd.ntmps42
  go_wp2
  go_loopw [5, 6] (fun c5 c6 wr => ∃ i : Nat, c6 = .int .i64 i ∧ i ≤ s.size ∧ As (BR w.heap.size c5 (esc plus ((bs s).take i)) wr) ∧ As (Below w.heap.size w wr)) (fun _ v _ => s.size - (intOf v).toNat)
  case atStart => exact ⟨0, rfl, Nat.zero_le _, ⟨BR.nil _ _⟩, ⟨Below.refl _ _⟩⟩
  case round =>
    obtain ⟨i, rfl, hi, HO, HW⟩ := hrel
    by_cases hlt : i < s.size
    · have HS := hid_ (take_snoc s i hlt)
      have HE := hid_ (esc_snoc plus ((bs s).take i) s[i])
      have HLL : As ((esc plus ((bs s).take i)).length + 3 ≤ 140737488355328 ∧ w.heap.size ≤ wr.heap.size) := ⟨by
        have := esc_le plus ((bs s).take i)
        have := List.length_take_le i (bs s)
        omega, HW.out.size⟩
      have hc := (s[i]).toNat_lt
      generalize esc plus ((bs s).take i) = acc at *
      cases hu : unres s[i]
      · have HU := hid_ hu
        clear hu
        by_cases h32 : ((s[i] == 32) && plus) = true
        · have HE32 : Hid (escB plus s[i] = [43]) := by unfold escB; rw [HU.out, if_neg (by simp), if_pos h32]; exact rfl
          have hq : (((s[i]).toNat : Int) == 32) = true := by
            simp only [Bool.and_eq_true, beq_iff_eq] at h32
            rw [h32.1]; rfl
          obtain rfl : plus = true := by simp only [Bool.and_eq_true] at h32; exact h32.2
          clear h32
          go_wp2_with (first | (go_at_call 69; refine (refUnres_c _ _).mono ?_; rintro e w' ⟨rfl, rfl⟩; rw [HU.out]) | (at_builtin; refine byte_app (W := wr) w.heap.size rfl _ _ rfl u5 acc [43] 1 rfl rfl rfl _ rfl HO.out HLL.out.2 (by have := HLL.out; omega) ?_; intro v1 w5 hbr hg; have HO5 := As.mk hbr; have HW5 : As (Below w.heap.size w w5) := ⟨grown_below HO.out hg HW.out (Nat.le_refl _)⟩; clear hbr hg HO HW))
          go_roundw
          case rel => exact ⟨i + 1, by go_num, by omega, ⟨by rw [HS.out, HE.out, HE32.out]; exact HO5.out⟩, HW5⟩
          case measure => simp [intOf]; omega
        · have HE32 : Hid (escB plus s[i] = [37, hexL.getD (s[i].toNat / 16) 0, hexL.getD (s[i].toNat % 16) 0]) := by unfold escB; rw [HU.out, if_neg (by simp), if_neg h32]; exact rfl
          have HD1 : As (∀ (x : Int) (w : World), x = ((s[i].toNat / 16 : Nat) : Int) → Calls Tryd.prog 70 #[.int .u8 x] w fun e w' => e = .returned (.int .u8 (hexL.getD (s[i].toNat / 16) 0).toNat) ∧ w = w') := ⟨fun x w hx => refDigit_c _ x hx (by omega) w⟩
          have HD2 : As (∀ (x : Int) (w : World), x = ((s[i].toNat % 16 : Nat) : Int) → Calls Tryd.prog 70 #[.int .u8 x] w fun e w' => e = .returned (.int .u8 (hexL.getD (s[i].toNat % 16) 0).toNat) ∧ w = w') := ⟨fun x w hx => refDigit_c _ x hx (by omega) w⟩
          generalize hexL.getD (s[i].toNat / 16) 0 = dh at *
          generalize hexL.getD (s[i].toNat % 16) 0 = dl at *
          have hq : plus = true → (((s[i]).toNat : Int) == 32) = false := by
            rintro rfl
            simp only [Bool.and_true] at h32
            simp only [beq_eq_false_iff_ne, ne_eq]
            intro h
            exact h32 (by simp only [beq_iff_eq]; exact UInt8.toNat_inj.1 (by simpa using (by omega : (s[i]).toNat = 32)))
          clear h32
          cases plus
          · clear hq
            go_wp2_with (first | (go_at_call 69; refine (refUnres_c _ _).mono ?_; rintro e w' ⟨rfl, rfl⟩; rw [HU.out]) | fail)
            refine (HD1.out _ _ (by omega)).mono ?_
            rintro _ _ ⟨rfl, rfl⟩
            go_wp2_with fail
            refine (HD2.out _ _ (by omega)).mono ?_
            rintro _ _ ⟨rfl, rfl⟩
            go_wp2_with (first
              | (at_builtin; refine byte_app (W := wr) w.heap.size rfl _ _ rfl u5 (acc) [37] 1 rfl rfl rfl _ rfl HO.out HW.out.size (by have := HLL.out; (try simp only [List.length_append, List.length_cons, List.length_nil]); omega) ?_; intro v1 w1 hbr hg; have HO1 := As.mk hbr; have HW1 : As (Below w.heap.size w w1) := ⟨grown_below HO.out hg HW.out (Nat.le_refl _)⟩; clear hbr hg HO HW)
              | (at_builtin; refine byte_app (W := w1) w.heap.size rfl _ _ rfl v1 (acc ++ [37]) [dh] 1 rfl rfl rfl _ rfl HO1.out HW1.out.size (by have := HLL.out; (try simp only [List.length_append, List.length_cons, List.length_nil]); omega) ?_; intro v2 w2 hbr hg; have HO2 := As.mk hbr; have HW2 : As (Below w.heap.size w w2) := ⟨grown_below HO1.out hg HW1.out (Nat.le_refl _)⟩; clear hbr hg HO1 HW1)
              | (at_builtin; refine byte_app (W := w2) w.heap.size rfl _ _ rfl v2 (acc ++ [37] ++ [dh]) [dl] 1 rfl rfl rfl _ rfl HO2.out HW2.out.size (by have := HLL.out; (try simp only [List.length_append, List.length_cons, List.length_nil]); omega) ?_; intro v3 w3 hbr hg; have HO3 := As.mk hbr; have HW3 : As (Below w.heap.size w w3) := ⟨grown_below HO2.out hg HW2.out (Nat.le_refl _)⟩; clear hbr hg HO2 HW2))
            first
              | exact ⟨⟨i + 1, by go_num, by omega, ⟨by rw [HS.out, HE.out, HE32.out]; simpa only [List.append_assoc, List.cons_append, List.nil_append] using HO3.out⟩, HW3⟩, by simp [intOf]; omega⟩
              | (go_roundw
                 case rel => exact ⟨i + 1, by go_num, by omega, ⟨by rw [HS.out, HE.out, HE32.out]; simpa only [List.append_assoc, List.cons_append, List.nil_append] using HO3.out⟩, HW3⟩
                 case measure => simp [intOf]; omega)
          · replace hq := hq rfl
            go_wp2_with (first | (go_at_call 69; refine (refUnres_c _ _).mono ?_; rintro e w' ⟨rfl, rfl⟩; rw [HU.out]) | fail)
            refine (HD1.out _ _ (by omega)).mono ?_
            rintro _ _ ⟨rfl, rfl⟩
            go_wp2_with fail
            refine (HD2.out _ _ (by omega)).mono ?_
            rintro _ _ ⟨rfl, rfl⟩
            go_wp2_with (first
              | (at_builtin; refine byte_app (W := wr) w.heap.size rfl _ _ rfl u5 (acc) [37] 1 rfl rfl rfl _ rfl HO.out HW.out.size (by have := HLL.out; (try simp only [List.length_append, List.length_cons, List.length_nil]); omega) ?_; intro v1 w1 hbr hg; have HO1 := As.mk hbr; have HW1 : As (Below w.heap.size w w1) := ⟨grown_below HO.out hg HW.out (Nat.le_refl _)⟩; clear hbr hg HO HW)
              | (at_builtin; refine byte_app (W := w1) w.heap.size rfl _ _ rfl v1 (acc ++ [37]) [dh] 1 rfl rfl rfl _ rfl HO1.out HW1.out.size (by have := HLL.out; (try simp only [List.length_append, List.length_cons, List.length_nil]); omega) ?_; intro v2 w2 hbr hg; have HO2 := As.mk hbr; have HW2 : As (Below w.heap.size w w2) := ⟨grown_below HO1.out hg HW1.out (Nat.le_refl _)⟩; clear hbr hg HO1 HW1)
              | (at_builtin; refine byte_app (W := w2) w.heap.size rfl _ _ rfl v2 (acc ++ [37] ++ [dh]) [dl] 1 rfl rfl rfl _ rfl HO2.out HW2.out.size (by have := HLL.out; (try simp only [List.length_append, List.length_cons, List.length_nil]); omega) ?_; intro v3 w3 hbr hg; have HO3 := As.mk hbr; have HW3 : As (Below w.heap.size w w3) := ⟨grown_below HO2.out hg HW2.out (Nat.le_refl _)⟩; clear hbr hg HO2 HW2))
            first
              | exact ⟨⟨i + 1, by go_num, by omega, ⟨by rw [HS.out, HE.out, HE32.out]; simpa only [List.append_assoc, List.cons_append, List.nil_append] using HO3.out⟩, HW3⟩, by simp [intOf]; omega⟩
              | (go_roundw
                 case rel => exact ⟨i + 1, by go_num, by omega, ⟨by rw [HS.out, HE.out, HE32.out]; simpa only [List.append_assoc, List.cons_append, List.nil_append] using HO3.out⟩, HW3⟩
                 case measure => simp [intOf]; omega)
      · have HU := hid_ hu
        clear hu
        have HE32 : Hid (escB plus s[i] = [s[i]]) := by unfold escB; rw [if_pos HU.out]; exact rfl
        go_wp2_with (first | (go_at_call 69; refine (refUnres_c _ _).mono ?_; rintro e w' ⟨rfl, rfl⟩; rw [HU.out]) | (at_builtin; refine byte_app (W := wr) w.heap.size rfl _ _ rfl u5 acc [s[i]] 1 rfl rfl rfl _ rfl HO.out HLL.out.2 (by have := HLL.out; omega) ?_; intro v1 w5 hbr hg; have HO5 := As.mk hbr; have HW5 : As (Below w.heap.size w w5) := ⟨grown_below HO.out hg HW.out (Nat.le_refl _)⟩; clear hbr hg HO HW))
        go_roundw
        case rel => exact ⟨i + 1, by go_num, by omega, ⟨by rw [HS.out, HE.out, HE32.out]; exact HO5.out⟩, HW5⟩
        case measure => simp [intOf]; omega
    · have HE : As ((bs s).take i = bs s) := ⟨take_all s i (by omega)⟩
      go_wp2_with (refine byte_str w.heap.size rfl _ rfl u5 (esc plus ((bs s).take i)) rfl HO.out ?_)
      go_ret
      exact ⟨ret_str (by rw [HE.out]), HW.out⟩
end Go.Proofs.YtegeijlookpgaaaDoor
