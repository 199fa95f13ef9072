/- What the methods of field.media compute. -/
import Derived.Test.YtegeijlookpgaaaDoorN2
set_option linter.unusedVariables false
set_option linter.unusedSimpArgs false
namespace Go.Proofs.YtegeijlookpgaaaDoor
open Go.RowKit Go.Proofs.YtegeijlookpgaaaDoorW.PrintWords

theorem Ob.kt {b : Nat} {w w' : World} (h : Ob b w w') (hb : b ≠ 18) (hT : KT w) : KT w' := fun m hm =>
  (World.cell?_of_block (a := ⟨18, m, none⟩) (h.block 18 (World.block_lt_of_cell? w _ (hT m hm)) (fun e => hb e.symm))).trans (hT m hm)
theorem Cu.put' {b i : Nat} {s : ByteArray} {w : World} (h : Cu b s i w) (k : Nat) (j : Int) (hj : j = k) : Cu b s k (w.setCell ⟨b, 1, none⟩ (.int .i64 j)) := hj ▸ h.put k
theorem KT.drewN {w : World} (h : KT w) (n : Nat) : KT (w.drewN n) := h

theorem meas {b i j : Nat} {s : ByteArray} {w w' : World} (h : Cu b s i w) (h' : Cu b s j w') (hij : i < j) (hj : j ≤ s.size) : s.size - atOf b w' < s.size - atOf b w := by
  rw [h.atOf, h'.atOf]; omega
/-- what a reader of a cursor's rest gives: some rest, or nothing -/
structure PQ (b : Nat) (s : ByteArray) (w : World) (o : Option (List UInt8)) (e : Ending) (w' : World) : Prop where
  ret : e = .returned (.bool o.isSome)
  at_ : ∃ j, j ≤ s.size ∧ Cu b s j w' ∧ ∀ r, o = some r → (bs s).drop j = r
  fr : Ob b w w'

set_option maxHeartbeats 4000000 in
set_option maxRecDepth 100000 in
theorem quoted_c (b i : Nat) (s : ByteArray) (w : World) (h : Cu b s i w) (hT : KT w) (hb : b ≠ 18) (hs : s.size ≤ 1099511627776) (hi : i ≤ s.size) :
    Calls Tryd.prog 116 #[.pointer (some ⟨b, 0, none⟩)] w (PQ b s w (quotedS ((bs s).drop i))) := by
  have HC := As.mk h
  have HT := As.mk hT
  clear h hT
  go_enter Tryd.func116, Tryd.ntmps116
  go_wp2
  go_loopw [] (fun wr => ∃ j : Nat, j ≤ s.size ∧ As (quotedS ((bs s).drop j) = quotedS ((bs s).drop i)) ∧ As (Cu b s j wr) ∧ As (Ob b w wr)) (fun wr => s.size - atOf b wr)
  case atStart => exact ⟨i, hi, ⟨rfl⟩, HC, ⟨Fr.refl _ _⟩⟩
  case round =>
    obtain ⟨j, hj, HQ, HJ, HO⟩ := hrel
    have HTj := As.mk (HO.out.kt hb HT.out)
    cases hd : (bs s).drop j with
    | nil =>
      have hle := drop_nil hd
      have hq : quotedS ((bs s).drop i) = none := by rw [← HQ.out, hd]; rfl
      have hdd : decide (s.size ≤ j) = true := by simpa using hle
      have HQ' := hid_ hq
      have HD := hid_ hd
      clear hd hq
      go_wp2_with (go_at_call 99; refine (end_c b j s _ HJ.out).mono ?_; rintro e w' ⟨rfl, n, rfl⟩; rw [hdd])
      go_ret
      exact ⟨by rw [HQ'.out]; rfl, ⟨j, hj, HJ.out.drewN n, fun r hr => by rw [HQ'.out] at hr; cases hr⟩, HO.out.drewN n⟩
    | cons c r =>
      obtain ⟨hlt, hc, hr⟩ := drop_cons hd
      have hdd : decide (s.size ≤ j) = false := by simpa using hlt
      have hq : quotedS ((bs s).drop i) = quotedS (c :: r) := by rw [← HQ.out, hd]
      have HQ' := hid_ hq
      have HD := hid_ hd
      have HR := hid_ hr
      have HC' := hid_ hc
      have h1 := HJ.out.c1
      have hf := HJ.out.fz 1
      have hcl := c.toNat_lt
      clear hd hq hr hc HQ
      go_wp2_with (first | (go_at_call 99; refine (end_c b j s _ HJ.out).mono ?_; rintro e w' ⟨rfl, n, rfl⟩; rw [hdd]) | (go_at_call 101; refine (next_c b j s _ (HJ.out.drewN _) hlt).mono ?_; rintro e w' ⟨rfl, m, rfl⟩; rw [HC'.out]))
      all_goals
        have hF : Cu b s (j + 1) ((wr.drewN (n + m)).setCell ⟨b, 1, none⟩ (.int .i64 ((j : Int) + 1))) := (HJ.out.drewN _).put' _ _ (by omega)
        have hG : Ob b w ((wr.drewN (n + m)).setCell ⟨b, 1, none⟩ (.int .i64 ((j : Int) + 1))) := (HO.out.drewN _).set _
        have HF := As.mk hF
        have HG := As.mk hG
        clear hF hG h1 hf
        generalize (wr.drewN (n + m)).setCell ⟨b, 1, none⟩ (.int .i64 ((j : Int) + 1)) = w2 at *
      · have hc : c = 34 := UInt8.toNat_inj.1 (by
          have : ((c.toNat : Int) == 34) = true := by assumption
          rw [beq_iff_eq] at this; show c.toNat = 34; omega)
        have hq : quotedS (c :: r) = some r := by rw [hc]; exact quoted_q r
        go_ret
        exact ⟨by rw [HQ'.out, hq]; rfl, ⟨j + 1, hlt, HF.out, fun r' hr' => by rw [HQ'.out, hq] at hr'; injection hr' with e; rw [← e]; exact HR.out⟩, HG.out⟩
      · have hc : c = 92 := UInt8.toNat_inj.1 (by
          have : ((c.toNat : Int) == 92) = true := by assumption
          rw [beq_iff_eq] at this; show c.toNat = 92; omega)
        cases r with
        | nil =>
          have hle := drop_nil HR.out
          have hdd2 : decide (s.size ≤ j + 1) = true := by simpa using hle
          have HN : As (quotedS ((bs s).drop i) = none) := ⟨by rw [HQ'.out, hc]; exact quoted_e0⟩
          refine (end_c b (j + 1) s _ HF.out).mono ?_
          rintro e w' ⟨rfl, n2, rfl⟩
          rw [hdd2]
          go_wp2
          go_ret
          exact ⟨by rw [HN.out]; rfl, ⟨j + 1, hlt, HF.out.drewN _, fun r hr => by rw [HN.out] at hr; cases hr⟩, HG.out.drewN _⟩
        | cons d r =>
          obtain ⟨hlt2, hc2, hr2⟩ := drop_cons HR.out
          have hdd2 : decide (s.size ≤ j + 1) = false := by simpa using hlt2
          have HC2 := hid_ hc2
          have HR2 := hid_ hr2
          clear hc2 hr2
          have h1 := HF.out.c1
          have hf := HF.out.fz 1
          have HT2 := As.mk (HG.out.kt hb HT.out)
          refine (end_c b (j + 1) s _ HF.out).mono ?_
          rintro e w' ⟨rfl, n2, rfl⟩
          rw [hdd2]
          cases hv : valB d
          · have HN : As (quotedS ((bs s).drop i) = none) := ⟨by
              rw [HQ'.out, hc, quoted_e, hv]; rfl⟩
            go_wp2_with (first | (go_at_call 101; refine (next_c b (j + 1) s _ (HF.out.drewN _) hlt2).mono ?_; rintro e w' ⟨rfl, m2, rfl⟩; rw [HC2.out]) | (go_at_call 100; refine (is_v d 4 (by simp) false (by rw [kind_val, hv]) _ (HT2.out.drewN _)).mono ?_; rintro e w' ⟨rfl, rfl⟩))
            go_ret
            exact ⟨by rw [HN.out]; rfl, ⟨j + 1, hlt, HF.out.drewN _, fun r hr => by rw [HN.out] at hr; cases hr⟩, HG.out.drewN _⟩
          · have HN : As (quotedS r = quotedS ((bs s).drop i)) := ⟨by
              rw [HQ'.out, hc, quoted_e, hv]; rfl⟩
            go_wp2_with (first | (go_at_call 101; refine (next_c b (j + 1) s _ (HF.out.drewN _) hlt2).mono ?_; rintro e w' ⟨rfl, m2, rfl⟩; rw [HC2.out]) | (go_at_call 100; refine (is_v d 4 (by simp) true (by rw [kind_val, hv]) _ (HT2.out.drewN _)).mono ?_; rintro e w' ⟨rfl, rfl⟩))
            have hF : Cu b s (j + 1 + 1) ((w2.drewN (n2 + m2)).setCell ⟨b, 1, none⟩ (.int .i64 ((j : Int) + 1 + 1))) := (HF.out.drewN _).put' _ _ (by omega)
            exact ⟨⟨j + 1 + 1, hlt2, ⟨by rw [HR2.out]; exact HN.out⟩, ⟨hF⟩, ⟨(HG.out.drewN _).set _⟩⟩, meas HJ.out hF (by omega) hlt2⟩
      · have h34 : c ≠ 34 := fun e => by
          have : ((c.toNat : Int) == 34) = false := by assumption
          rw [e] at this; revert this; decide
        have h92 : c ≠ 92 := fun e => by
          have : ((c.toNat : Int) == 92) = false := by assumption
          rw [e] at this; revert this; decide
        have HT2 := As.mk (HG.out.kt hb HT.out)
        cases hv : valB c
        · have HN : As (quotedS ((bs s).drop i) = none) := ⟨by rw [HQ'.out, quoted_o c r h34 h92, hv]; rfl⟩
          refine (is_v c 4 (by simp) false (by rw [kind_val, hv]) _ HT2.out).mono ?_
          rintro e w' ⟨rfl, rfl⟩
          go_wp2
          go_ret
          exact ⟨by rw [HN.out]; rfl, ⟨j + 1, hlt, HF.out, fun r hr => by rw [HN.out] at hr; cases hr⟩, HG.out⟩
        · have HN : As (quotedS r = quotedS ((bs s).drop i)) := ⟨by rw [HQ'.out, quoted_o c r h34 h92, hv]; rfl⟩
          refine (is_v c 4 (by simp) true (by rw [kind_val, hv]) _ HT2.out).mono ?_
          rintro e w' ⟨rfl, rfl⟩
          go_wp2
          exact ⟨⟨j + 1, hlt, ⟨by rw [HR.out]; exact HN.out⟩, HF, HG⟩, meas HJ.out HF.out (by omega) hlt⟩
end Go.Proofs.YtegeijlookpgaaaDoor
