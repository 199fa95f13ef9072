/- What pct.isUnreserved, pct.Escape and pct.Form compute. -/
import Derived.Test.YtegeijlookpgaaaDoorB
import Derived.Test.YtegeijlookpgaaaDoorK
set_option linter.unusedVariables false
set_option linter.unusedSimpArgs false
namespace Go.Proofs.YtegeijlookpgaaaDoor
open Go.RowKit Go.Proofs.YtegeijlookpgaaaDoorW.PrintWords

/-- A package-level table: block g holds these numbers. -/
def Tab (g : Nat) (k : IntKind) (zs : List Int) (w : World) : Prop := ∀ i : Nat, i < zs.length → w.cell? ⟨g, i, none⟩ = some (.int k (zs.getD i 0))
theorem Tab.below {g : Nat} {k : IntKind} {zs : List Int} {w w' : World} (h : Tab g k zs w) (hb : Below w.heap.size w w') : Tab g k zs w' := fun i hi => pw_cell_below hb (h i hi)
def unresTab : List Int := [0, 67067904, 2281701374, 1207959550]

def unres (c : UInt8) : Bool := (65 ≤ c && c ≤ 90) || (97 ≤ c && c ≤ 122) || (48 ≤ c && c ≤ 57) || c == 45 || c == 46 || c == 95 || c == 126

theorem unres_tab : ∀ n : Fin 128, (Go.bits BinOp.and IntKind.u32 (unresTab[n.val / 32]?.getD 0 / 2 ^ (n.val % 32)) 1 == 1) = unres (UInt8.ofNat n.val) := by decide +kernel
theorem unres_high : ∀ n : Fin 256, 128 ≤ n.val → unres (UInt8.ofNat n.val) = false := by decide +kernel
theorem u8_ofNat (c : UInt8) : UInt8.ofNat c.toNat = c := by simp

set_option maxRecDepth 100000 in
theorem isUnreserved_c (c : UInt8) (w : World) (hT : Tab 16 .u32 unresTab w) :
    Calls Tryd.prog 68 #[.int .u8 c.toNat] w fun e w' => e = .returned (.bool (unres c)) ∧ w = w' := by
  have hc := c.toNat_lt
  by_cases h : c.toNat < 128
  · have hcell := hT (c.toNat / 32) (by simp [unresTab]; omega)
    clear hT
    have h' : decide ((c.toNat : Int) < 128) = true := by simp; omega
    go_enter Tryd.func68, Tryd.ntmps68
    go_wp2
    go_ret
    have := unres_tab ⟨c.toNat, h⟩
    rw [u8_ofNat] at this
    exact ⟨ret_bool this, rfl⟩
  · have h' : decide ((c.toNat : Int) < 128) = false := by simp; omega
    clear hT
    go_enter Tryd.func68, Tryd.ntmps68
    go_wp2
    go_ret
    have := unres_high ⟨c.toNat, by omega⟩ (by simp; omega)
    rw [u8_ofNat] at this
    exact ⟨ret_bool this.symm, rfl⟩

def hexL : List UInt8 := [48, 49, 50, 51, 52, 53, 54, 55, 56, 57, 65, 66, 67, 68, 69, 70]
def escB (plus : Bool) (c : UInt8) : List UInt8 := if unres c then [c] else if (c == 32 && plus) then [43] else [37, hexL.getD (c.toNat / 16) 0, hexL.getD (c.toNat % 16) 0]
def esc (plus : Bool) (l : List UInt8) : List UInt8 := l.flatMap (escB plus)
theorem esc_snoc (plus : Bool) (l : List UInt8) (c : UInt8) : esc plus (l ++ [c]) = esc plus l ++ escB plus c := by simp [esc]
theorem escB_le (plus : Bool) (c : UInt8) : (escB plus c).length ≤ 3 := by unfold escB; split <;> (try split) <;> simp
theorem esc_le (plus : Bool) (l : List UInt8) : (esc plus l).length ≤ 3 * l.length := by
  induction l with
  | nil => simp [esc]
  | cons c r ih =>
    have := escB_le plus c
    simp only [esc, List.flatMap_cons, List.length_append, List.length_cons] at ih ⊢
    omega

theorem lit_get (n : Nat) (l : List UInt8) (h : n < l.length) : (ByteArray.mk l.toArray)[n]'h = l.getD n 0 := by
  rw [List.getD_eq_getElem?_getD, List.getElem?_eq_getElem h]; rfl

set_option maxHeartbeats 2000000 in
set_option maxRecDepth 100000 in
theorem Escape_c (s : ByteArray) (plus : Bool) (w : World) (hT : Tab 16 .u32 unresTab w) (hs : s.size ≤ 268435456) :
    Calls Tryd.prog 40 #[.string s, .bool plus] w fun e w' => e = .returned (.string (sb (esc plus (bs s)))) ∧ Below w.heap.size w w' := by
  have HT := As.mk hT
  clear hT
  have HB0 := As.mk (Bd.new (ok := fun k => w.heap.size ≤ k) w (Nat.le_refl _))
  go_enter Tryd.func40, Tryd.ntmps40
  go_wp2
  go_loopw [6] (fun v wr => ∃ i : Nat, v = .int .i64 i ∧ i ≤ s.size ∧ As (Bd (fun k => w.heap.size ≤ k) w.heap.size (esc plus ((bs s).take i)) wr) ∧ As (Below w.heap.size w wr)) (fun v _ => s.size - (intOf v).toNat)
  case atStart => exact ⟨0, rfl, Nat.zero_le _, ⟨by simpa [esc] using HB0.out⟩, ⟨(Below.refl _ _).alloc (Nat.le_refl _) _⟩⟩
  case round =>
    clear HB0
    obtain ⟨i, rfl, hi, HB, HW⟩ := hrel
    by_cases hlt : i < s.size
    · have hc := (s[i]).toNat_lt
      have hS := take_snoc s i hlt
      have hE := esc_snoc plus ((bs s).take i) s[i]
      have hL := esc_le plus ((bs s).take i)
      have hl : ((bs s).take i).length ≤ i := List.length_take_le _ _
      have HS := hid_ hS
      have HE := hid_ hE
      clear hS hE
      have hwz : w.heap.size ≤ wr.heap.size := HW.out.size
      cases hu : unres s[i]
      · have HU := hid_ hu
        clear hu
        by_cases h32 : ((s[i] == 32) && plus) = true
        · have HE32 : Hid (escB plus s[i] = [43]) := by unfold escB; rw [HU.out, if_neg (by simp), if_pos h32]; exact rfl
          have hq : (((s[i]).toNat : Int) == 32) = true := by
            simp only [Bool.and_eq_true, beq_iff_eq] at h32
            rw [h32.1]; rfl
          obtain rfl : plus = true := by simp only [Bool.and_eq_true] at h32; exact h32.2
          clear h32
          go_wp2_with (first | (go_at_call 68; refine (isUnreserved_c _ _ (HT.out.below HW.out)).mono ?_; rintro e w' ⟨rfl, rfl⟩; rw [HU.out]) | (go_at_call 38; refine (WriteByte_c _ _ _ 43 _ rfl _ HB.out (by omega) (fun k hk => by omega)).mono ?_; rintro e w' ⟨rfl, hb1, hf1⟩))
          go_roundw
          case rel => exact ⟨i+1, by go_num, by omega, ⟨by rw [HS.out, HE.out, HE32.out]; exact hb1⟩, ⟨HW.out.trans (hf1.below hwz (fun k hk => by omega))⟩⟩
          case measure => simp [intOf]; omega
        · have HE32 : Hid (escB plus s[i] = [37, hexL.getD (s[i].toNat / 16) 0, hexL.getD (s[i].toNat % 16) 0]) := by unfold escB; rw [HU.out, if_neg (by simp), if_neg h32]; exact rfl
          have hq : ((((s[i]).toNat : Int) == 32) = false) ∨ ((((s[i]).toNat : Int) == 32) = true ∧ plus = false) := by
            cases plus
            · cases h : (((s[i]).toNat : Int) == 32) <;> simp
            · simp only [Bool.and_true] at h32
              refine .inl ?_
              simp only [beq_eq_false_iff_ne, ne_eq]
              intro h
              exact h32 (by simp only [beq_iff_eq]; exact UInt8.toNat_inj.1 (by simpa using (by omega : (s[i]).toNat = 32)))
          clear h32
          rcases hq with hq | ⟨hq, rfl⟩
          all_goals
            go_wp2_with (first | (go_at_call 68; refine (isUnreserved_c _ _ (HT.out.below HW.out)).mono ?_; rintro e w' ⟨rfl, rfl⟩; rw [HU.out]) | fail)
            refine (WriteByte_c _ _ _ 37 _ rfl _ HB.out (by omega) (fun k hk => by omega)).mono ?_
            rintro e w1 ⟨rfl, hb1, hf1⟩
            have HB1 := As.mk hb1
            have HF1 := As.mk hf1
            have hz1 := hf1.size
            clear hb1 hf1
            go_wp2_with fail
            refine (WriteByte_c _ _ _ (hexL.getD (s[i].toNat / 16) 0) _ ?hc1 _ HB1.out (by simp only [List.length_append, List.length_singleton]; omega) (fun k hk => by omega)).mono ?_
            case hc1 => exact congrArg (fun x : UInt8 => (x.toNat : Int)) (lit_get _ hexL (by simp only [hexL, List.length_cons, List.length_nil]; omega))
            rintro e w2 ⟨rfl, hb2, hf2⟩
            have HB2 := As.mk hb2
            have HF2 := As.mk hf2
            have hz2 := hf2.size
            clear hb2 hf2
            go_wp2_with fail
            refine (WriteByte_c _ _ _ (hexL.getD (s[i].toNat % 16) 0) _ ?hc2 _ HB2.out (by simp only [List.length_append, List.length_singleton]; omega) (fun k hk => by omega)).mono ?_
            case hc2 => exact congrArg (fun x : UInt8 => (x.toNat : Int)) (lit_get _ hexL (by simp only [hexL, List.length_cons, List.length_nil]; omega))
            rintro e w3 ⟨rfl, hb3, hf3⟩
            go_wp2
            go_roundw
            case rel =>
              rw [List.append_assoc, List.append_assoc] at hb3
              exact ⟨i+1, by go_num, by omega, ⟨by rw [HS.out, HE.out, HE32.out]; exact hb3⟩, ⟨HW.out.trans (((HF1.out.trans HF2.out).trans hf3).below hwz (fun k hk => by omega))⟩⟩
            case measure => simp [intOf]; omega
      · have HU := hid_ hu
        clear hu
        go_wp2_with (first | (go_at_call 68; refine (isUnreserved_c _ _ (HT.out.below HW.out)).mono ?_; rintro e w' ⟨rfl, rfl⟩; rw [HU.out]) | (go_at_call 38; refine (WriteByte_c _ _ _ s[i] _ rfl _ HB.out (by omega) (fun k hk => by omega)).mono ?_; rintro e w' ⟨rfl, hb1, hf1⟩))
        go_roundw
        case rel => exact ⟨i+1, by go_num, by omega, ⟨by rw [HS.out, HE.out]; unfold escB; rw [if_pos HU.out]; exact hb1⟩, ⟨HW.out.trans (hf1.below hwz (fun k hk => by omega))⟩⟩
        case measure => simp [intOf]; omega
    · have hbe := take_all s i (by omega)
      have HBE := hid_ hbe
      clear hbe
      go_wp2_with (go_at_call 41; refine (String_c _ w.heap.size _ _ _ HB.out (fun k hk => hk) HW.out.size).mono ?_; rintro e w' ⟨rfl, hb1⟩)
      go_ret
      exact ⟨ret_str (by rw [HBE.out]), HW.out.trans hb1⟩
def formP (p : Pr) : List UInt8 := esc true (bs p.f0) ++ [61] ++ esc true (bs p.f1)
def formG : Bool → List Pr → List UInt8
  | _, [] => []
  | first, p :: r => (if first then [] else [38]) ++ (formP p ++ formG false r)
def form (l : List Pr) : List UInt8 := formG true l

theorem le_escB (plus : Bool) (c : UInt8) : 1 ≤ (escB plus c).length := by unfold escB; split <;> (try split) <;> simp
theorem le_esc (plus : Bool) (l : List UInt8) : l.length ≤ (esc plus l).length := by
  induction l with
  | nil => simp [esc]
  | cons c r ih =>
    have := le_escB plus c
    simp only [esc, List.flatMap_cons, List.length_append, List.length_cons] at ih ⊢
    omega
theorem size_sb (l : List UInt8) : (sb l).size = l.length := by show l.toArray.size = _; simp

set_option maxHeartbeats 2000000 in
set_option maxRecDepth 100000 in
theorem Form_c (A : Option Addr) (c : Nat) (l : List Pr) (w : World) (hr : kP.C w A l.length l) (hT : Tab 16 .u32 unresTab w) (hl : (form l).length ≤ 268435456) :
    Calls Tryd.prog 16 #[.slice A l.length c] w fun e w' => e = .returned (.string (sb (form l))) ∧ Below w.heap.size w w' := by
  have HT := As.mk hT
  have HR := As.mk hr
  have hlen : l.length ≤ 9223372036854775807 := hr.2.1
  clear hT hr
  have HB0 := As.mk (Bd.new (ok := fun k => w.heap.size ≤ k) w (Nat.le_refl _))
  go_enter Tryd.func16, Tryd.ntmps16
  go_wp2
  go_loopw [8] (fun v wr => ∃ (i : Nat) (acc : List UInt8), v = .int .i64 i ∧ i ≤ l.length ∧ As (acc ++ formG (i == 0) (l.drop i) = form l) ∧ As (Bd (fun k => w.heap.size ≤ k) w.heap.size acc wr) ∧ As (Below w.heap.size w wr)) (fun v _ => l.length - (intOf v).toNat)
  case atStart => exact ⟨0, [], rfl, Nat.zero_le _, ⟨rfl⟩, HB0, ⟨(Below.refl _ _).alloc (Nat.le_refl _) _⟩⟩
  case round =>
    clear HB0
    obtain ⟨i, acc, rfl, hi, HE, HB, HW⟩ := hrel
    by_cases hlt : i < l.length
    · obtain ⟨ad, rfl, h0, h1⟩ := kP_at HR.out i hlt
      replace h0 := (HW.out.cell (World.block_lt_of_cell? w _ h0)).trans h0
      replace h1 := (HW.out.cell (World.block_lt_of_cell? w _ h1)).trans h1
      have hwz : w.heap.size ≤ wr.heap.size := HW.out.size
      have hstep : formG (i == 0) (l.drop i) = (if i == 0 then [] else [38]) ++ (formP l[i] ++ formG (i + 1 == 0) (l.drop (i + 1))) := by
        rw [List.drop_eq_getElem_cons hlt]; simp [formG]
      have HS : As (BS w w.heap.size wr.heap.size (Obj.cells #[Value.string l[i].f0, Value.string l[i].f1] 29) acc (wr.alloc (Obj.cells #[Value.string l[i].f0, Value.string l[i].f1] 29))) :=
        ⟨(HB.out.mono (ok' := fun k => w.heap.size ≤ k ∧ k ≠ wr.heap.size) (fun k hk h => ⟨h, by omega⟩)).below (below_alloc (Below.refl _ _) _), by simp, heap_alloc_new wr _, HW.out.alloc HW.out.size _⟩
      have HST := As.mk hstep
      clear hstep
      obtain ⟨acc', HA, hi0⟩ : ∃ acc', As (acc' ++ (formP l[i] ++ formG (i + 1 == 0) (l.drop (i + 1))) = form l) ∧ ((i = 0 ∧ acc' = acc) ∨ (0 < i ∧ acc' = acc ++ [38])) := by
        by_cases h : i = 0
        · exact ⟨acc, ⟨by rw [← HE.out, HST.out, if_pos (by simpa using h)]; rfl⟩, .inl ⟨h, rfl⟩⟩
        · exact ⟨acc ++ [38], ⟨by rw [← HE.out, HST.out, if_neg (by simpa using h)]; simp⟩, .inr ⟨by omega, rfl⟩⟩
      clear HST HE HB
      have hl' : acc'.length + (esc true (bs l[i].f0)).length + (esc true (bs l[i].f1)).length + 1 ≤ 268435456 := by
        have := congrArg List.length HA.out
        simp only [formP, List.length_append, List.length_singleton] at this
        omega
      have hs0 : l[i].f0.size ≤ 268435456 := by have := le_esc true (bs l[i].f0); rw [bs_size] at this; omega
      have hs1 : l[i].f1.size ≤ 268435456 := by have := le_esc true (bs l[i].f1); rw [bs_size] at this; omega
      rcases hi0 with ⟨hi0, rfl⟩ | ⟨hi0, rfl⟩
      · have hi0' : ¬ 0 < i := by omega
        clear hi0
        go_wp2_with fail
        generalize wr.alloc (Obj.cells #[Value.string l[i].f0, Value.string l[i].f1] 29) = W at *
        refine (Escape_c _ true _ (HT.out.below HS.out.fr) hs0).mono ?_
        rintro e w2 ⟨rfl, hb2⟩
        replace HS := As.mk (HS.out.below hb2)
        clear hb2
        go_wp2_with fail
        refine (WriteString_c _ _ _ _ _ HS.out.bd (by simp only [List.length_append, List.length_singleton, size_sb] at *; omega) HS.out.fresh).mono ?_
        rintro e w3 ⟨rfl, hb3, hf3⟩
        replace HS := As.mk (HS.out.wrote hb3 hf3)
        clear hb3 hf3
        go_wp2_with fail
        refine (WriteByte_c _ _ _ 61 _ rfl _ HS.out.bd (by simp only [List.length_append, List.length_singleton, bs_sb] at *; omega) HS.out.fresh).mono ?_
        rintro e w4 ⟨rfl, hb4, hf4⟩
        replace HS := As.mk (HS.out.wrote hb4 hf4)
        clear hb4 hf4
        have d1 := HS.out.cell 1
        simp only [List.getElem?_toArray, List.getElem?_cons_succ, List.getElem?_cons_zero] at d1
        go_wp2_with fail
        clear d1
        refine (Escape_c _ true _ (HT.out.below HS.out.fr) hs1).mono ?_
        rintro e w5 ⟨rfl, hb5⟩
        replace HS := As.mk (HS.out.below hb5)
        clear hb5
        go_wp2_with fail
        refine (WriteString_c _ _ _ _ _ HS.out.bd (by simp only [List.length_append, List.length_singleton, size_sb, bs_sb] at *; omega) HS.out.fresh).mono ?_
        rintro e w6 ⟨rfl, hb6, hf6⟩
        replace HS := As.mk (HS.out.wrote hb6 hf6)
        clear hb6 hf6
        go_wp2
        go_roundw
        case rel => exact ⟨i+1, _, by go_num, by omega, ⟨by rw [← HA.out]; simp only [bs_sb, formP, List.append_assoc]⟩, ⟨HS.out.bd.mono (fun k _ h => h.1)⟩, ⟨HS.out.fr⟩⟩
        case measure => simp [intOf]; omega
      · go_wp2_with fail
        generalize wr.alloc (Obj.cells #[Value.string l[i].f0, Value.string l[i].f1] 29) = W0 at *
        refine (WriteByte_c _ _ _ 38 _ rfl _ HS.out.bd (by simp only [List.length_append, List.length_singleton] at hl'; omega) HS.out.fresh).mono ?_
        rintro e W ⟨rfl, hb1, hf1⟩
        replace HS := As.mk (HS.out.wrote hb1 hf1)
        clear hb1 hf1
        have d0 := HS.out.cell 0
        simp only [List.getElem?_toArray, List.getElem?_cons_zero] at d0
        go_wp2_with fail
        clear d0
        refine (Escape_c _ true _ (HT.out.below HS.out.fr) hs0).mono ?_
        rintro e w2 ⟨rfl, hb2⟩
        replace HS := As.mk (HS.out.below hb2)
        clear hb2
        go_wp2_with fail
        refine (WriteString_c _ _ _ _ _ HS.out.bd (by simp only [List.length_append, List.length_singleton, size_sb] at *; omega) HS.out.fresh).mono ?_
        rintro e w3 ⟨rfl, hb3, hf3⟩
        replace HS := As.mk (HS.out.wrote hb3 hf3)
        clear hb3 hf3
        go_wp2_with fail
        refine (WriteByte_c _ _ _ 61 _ rfl _ HS.out.bd (by simp only [List.length_append, List.length_singleton, bs_sb] at *; omega) HS.out.fresh).mono ?_
        rintro e w4 ⟨rfl, hb4, hf4⟩
        replace HS := As.mk (HS.out.wrote hb4 hf4)
        clear hb4 hf4
        have d1 := HS.out.cell 1
        simp only [List.getElem?_toArray, List.getElem?_cons_succ, List.getElem?_cons_zero] at d1
        go_wp2_with fail
        clear d1
        refine (Escape_c _ true _ (HT.out.below HS.out.fr) hs1).mono ?_
        rintro e w5 ⟨rfl, hb5⟩
        replace HS := As.mk (HS.out.below hb5)
        clear hb5
        go_wp2_with fail
        refine (WriteString_c _ _ _ _ _ HS.out.bd (by simp only [List.length_append, List.length_singleton, size_sb, bs_sb] at *; omega) HS.out.fresh).mono ?_
        rintro e w6 ⟨rfl, hb6, hf6⟩
        replace HS := As.mk (HS.out.wrote hb6 hf6)
        clear hb6 hf6
        go_wp2
        go_roundw
        case rel => exact ⟨i+1, _, by go_num, by omega, ⟨by rw [← HA.out]; simp only [bs_sb, formP, List.append_assoc]⟩, ⟨HS.out.bd.mono (fun k _ h => h.1)⟩, ⟨HS.out.fr⟩⟩
        case measure => simp [intOf]; omega
    · have hnil : acc = form l := by
        have := HE.out
        rw [List.drop_of_length_le (by omega)] at this
        simpa [formG] using this
      have HN := hid_ hnil
      clear hnil
      go_wp2_with (go_at_call 41; refine (String_c _ w.heap.size _ _ _ HB.out (fun k hk => hk) HW.out.size).mono ?_; rintro e w' ⟨rfl, hb1⟩)
      go_ret
      exact ⟨ret_str (by rw [HN.out]), HW.out.trans hb1⟩
end Go.Proofs.YtegeijlookpgaaaDoor
