/- What field.media's parameter, parameters and field.Media compute. -/
import Derived.Test.YtegeijlookpgaaaDoorN3
import Derived.Deep.DeepFit
set_option linter.unusedVariables false
set_option linter.unusedSimpArgs false
namespace Go.Proofs.YtegeijlookpgaaaDoor
open Go.RowKit Go.Proofs.YtegeijlookpgaaaDoorW.PrintWords

theorem ob_trans {b : Nat} {w w1 w2 : World} (h : Ob b w w1) (k : Ob b w1 w2) : Ob b w w2 := Fr.trans h k
/-- what run gives -/
structure RQ (b i : Nat) (s : ByteArray) (p : UInt8 → Bool) (w : World) (t : ByteArray) (j : Nat) (w' : World) : Prop where
  txt : bs t = ((bs s).drop i).takeWhile p
  lo : i ≤ j
  hi : j ≤ s.size
  rest : (bs s).drop j = ((bs s).drop i).dropWhile p
  cu : Cu b s j w'
  fr : Ob b w w'
theorem run_q (b i : Nat) (s : ByteArray) (k : Nat) (p : UInt8 → Bool) (hp : kindB k = p) (hk : k = 1 ∨ k = 2 ∨ k = 4 ∨ k = 8) (w : World) (h : Cu b s i w) (hT : KT w) (hb : b ≠ 18) (hs : s.size ≤ 1099511627776) (hi : i ≤ s.size) :
    Calls Tryd.prog 73 #[.pointer (some ⟨b, 0, none⟩), .int .u8 k] w fun e w' => ∃ t j, e = .returned (.string t) ∧ RQ b i s p w t j w' := by
  subst hp
  refine (run_c b i s k hk w h hT hb hs hi).mono ?_
  rintro e w' ⟨rfl, j, h1, h2, h3, h4, h5⟩
  exact ⟨_, j, rfl, ⟨bs_sb _, h1, h2, h3, h4, h5⟩⟩
theorem noTok_t {l : List UInt8} (h : noTok l = true) : l.takeWhile tokB = [] ∧ tokD l = l := by
  cases l with
  | nil => exact ⟨rfl, rfl⟩
  | cons c r =>
    have hc : tokB c = false := by simpa [noTok] using h
    simp [tokD, List.takeWhile_cons, List.dropWhile_cons, hc]
theorem noTok_f {l : List UInt8} (h : noTok l = false) : l.takeWhile tokB ≠ [] := by
  cases l with
  | nil => simp [noTok] at h
  | cons c r =>
    have hc : tokB c = true := by simpa [noTok] using h
    simp [List.takeWhile_cons, hc]
theorem bs_nil {t : ByteArray} (h : bs t = []) : t = ⟨#[]⟩ := by rw [← sb_bs t, h]
theorem par_none {l : List UInt8} (h : noTok l = true) : paramS l = none := by unfold paramS; rw [if_pos h]
theorem par_end {l : List UInt8} (h : ∀ r, tokD l ≠ 61 :: r) : paramS l = none := by
  unfold paramS
  split
  · rfl
  · split
    · rfl
    · rename_i c r2 hc
      rw [if_neg]
      rintro rfl
      exact h _ hc
theorem par_quote {l r : List UInt8} (h0 : noTok l = false) (h : tokD l = 61 :: 34 :: r) : paramS l = quotedS r := by
  unfold paramS
  rw [if_neg (by simp [h0]), h]
  simp
theorem par_tok {l r : List UInt8} (h0 : noTok l = false) (h : tokD l = 61 :: r) (hq : ∀ r', r ≠ 34 :: r') : paramS l = if noTok r then none else some (tokD r) := by
  unfold paramS
  rw [if_neg (by simp [h0]), h]
  cases r with
  | nil => rfl
  | cons d r3 =>
    have hd : d ≠ 34 := fun e => hq r3 (by rw [e])
    simp [hd, noTok]
    cases tokB d <;> rfl

set_option maxHeartbeats 600000 in
set_option maxRecDepth 100000 in
theorem parameter_c (b i : Nat) (s : ByteArray) (w : World) (h : Cu b s i w) (hT : KT w) (hb : b ≠ 18) (hs : s.size ≤ 1099511627776) (hi : i ≤ s.size) :
    Calls Tryd.prog 102 #[.pointer (some ⟨b, 0, none⟩)] w (PQ b s w (paramS ((bs s).drop i))) := by
  have HC := As.mk h
  have HT := As.mk hT
  clear h hT
  go_enter Tryd.func102, Tryd.ntmps102
  go_wp2_with fail
  refine (run_q b i s 1 tokB kind_tok_fun (.inl rfl) _ HC.out HT.out hb hs hi).mono ?_
  rintro e w1 ⟨t, j, rfl, hr⟩
  have HR := As.mk hr
  clear hr
  cases hn : noTok ((bs s).drop i) with
  | true =>
    have HP := hid_ (par_none hn)
    obtain rfl : t = ⟨#[]⟩ := bs_nil (by rw [HR.out.txt]; exact (noTok_t hn).1)
    clear hn
    go_wp2
    go_ret
    exact ⟨by rw [HP.out]; rfl, ⟨j, HR.out.hi, HR.out.cu, fun r hr => by rw [HP.out] at hr; cases hr⟩, HR.out.fr⟩
  | false =>
    obtain ⟨h1, h2, h3⟩ := str_some t (by rw [HR.out.txt]; exact noTok_f hn)
    have HN := hid_ hn
    clear hn
    have hj := HR.out.hi
    have HT1 := As.mk (HR.out.fr.kt hb HT.out)
    by_cases he : ∃ r, (bs s).drop j = 61 :: r
    · obtain ⟨r, he⟩ := he
      obtain ⟨hlt, _, hr1⟩ := drop_cons he
      have HE := hid_ (HR.out.rest.symm.trans he)
      have HR1 := hid_ hr1
      clear hr1
      go_wp2_with fail
      go_fit (eat_yes b j s 61 r he 61 rfl w1 HR.out.cu hs)
      rintro e w2 ⟨rfl, hc2, ho2⟩
      have HC2 := As.mk hc2
      have HO2 := As.mk (ob_trans HR.out.fr ho2)
      clear hc2 ho2
      have HT2 := As.mk (HO2.out.kt hb HT.out)
      by_cases hq : ∃ r', r = 34 :: r'
      · obtain ⟨r', rfl⟩ := hq
        obtain ⟨hlt2, _, hr2⟩ := drop_cons HR1.out
        have HR2 := hid_ hr2
        have HP := hid_ (par_quote HN.out HE.out)
        clear hr2
        go_wp2_with fail
        refine (eat_yes b (j + 1) s 34 r' HR1.out 34 rfl _ HC2.out hs).mono ?_
        rintro e w3 ⟨rfl, hc3, ho3⟩
        have HC3 := As.mk hc3
        have HO3 := As.mk (ob_trans HO2.out ho3)
        clear hc3 ho3
        go_wp2_with fail
        refine (quoted_c b (j + 1 + 1) s _ HC3.out (HO3.out.kt hb HT.out) hb hs hlt2).mono ?_
        rintro e w4 ⟨rfl, ha, hf⟩
        have HA := As.mk ha
        have HO4 := As.mk (ob_trans HO3.out hf)
        clear ha hf
        go_wp2
        go_ret
        rw [HR2.out] at HA
        exact ⟨by rw [HP.out, HR2.out]; rfl, by rw [HP.out]; exact HA.out, HO4.out⟩
      · go_wp2_with fail
        refine (eat_no b (j + 1) s 34 (fun r' h => hq ⟨r', HR1.out.symm.trans h⟩) 34 rfl _ HC2.out hs).mono ?_
        rintro e w3 ⟨rfl, n, rfl⟩
        have HP := hid_ (par_tok HN.out HE.out (fun r' h => hq ⟨r', h⟩))
        clear hq
        go_wp2_with fail
        refine (run_q b (j + 1) s 1 tokB kind_tok_fun (.inl rfl) _ (HC2.out.drewN n) (HT2.out.drewN n) hb hs hlt).mono ?_
        rintro e w4 ⟨t2, j2, rfl, hr⟩
        have HRR := As.mk hr
        have HO4 := As.mk (ob_trans (HO2.out.drewN n) hr.fr)
        clear hr
        cases hn : noTok r with
        | true =>
          have HN2 : As (paramS ((bs s).drop i) = none) := ⟨by rw [HP.out, if_pos hn]⟩
          obtain rfl : t2 = ⟨#[]⟩ := bs_nil (by rw [HRR.out.txt, HR1.out]; exact (noTok_t hn).1)
          clear hn
          go_wp2
          go_ret
          exact ⟨by rw [HN2.out]; rfl, ⟨j2, HRR.out.hi, HRR.out.cu, fun r hr => by rw [HN2.out] at hr; cases hr⟩, HO4.out⟩
        | false =>
          have HN2 : As (paramS ((bs s).drop i) = some (tokD r)) := ⟨by rw [HP.out, if_neg (by simp [hn])]⟩
          obtain ⟨h1, h2, h3⟩ := str_some t2 (by rw [HRR.out.txt, HR1.out]; exact noTok_f hn)
          clear hn
          go_wp2
          go_ret
          exact ⟨by rw [HN2.out]; rfl, ⟨j2, HRR.out.hi, HRR.out.cu, fun r' hr => by rw [HN2.out] at hr; injection hr with e; rw [← e, HRR.out.rest, HR1.out]; rfl⟩, HO4.out⟩
    · have HP := hid_ (par_end (l := (bs s).drop i) (fun r h => he ⟨r, HR.out.rest.trans h⟩))
      go_wp2_with fail
      refine (eat_no b j s 61 (fun r h => he ⟨r, h⟩) 61 rfl w1 HR.out.cu hs).mono ?_
      rintro e w2 ⟨rfl, n, rfl⟩
      clear he
      go_wp2
      go_ret
      exact ⟨by rw [HP.out]; rfl, ⟨j, HR.out.hi, HR.out.cu.drewN n, fun r hr => by rw [HP.out] at hr; cases hr⟩, HR.out.fr.drewN n⟩

set_option maxHeartbeats 1000000 in
set_option maxRecDepth 100000 in
theorem parameters_c (b i : Nat) (s : ByteArray) (w : World) (h : Cu b s i w) (hT : KT w) (hb : b ≠ 18) (hs : s.size ≤ 1099511627776) (hi : i ≤ s.size) :
    Calls Tryd.prog 75 #[.pointer (some ⟨b, 0, none⟩)] w fun e w' => e = .returned (.bool (PS ((bs s).drop i))) ∧ Ob b w w' := by
  have HC := As.mk h
  have HT := As.mk hT
  clear h hT
  go_enter Tryd.func75, Tryd.ntmps75
  go_wp2
  go_loopw [] (fun wr => ∃ j : Nat, j ≤ s.size ∧ As (PS ((bs s).drop j) = PS ((bs s).drop i)) ∧ As (Cu b s j wr) ∧ As (Ob b w wr)) (fun wr => s.size - atOf b wr)
  case atStart => exact ⟨i, hi, ⟨rfl⟩, HC, ⟨Fr.refl _ _⟩⟩
  case round =>
    obtain ⟨j, hj, HQ, HJ, HO⟩ := hrel
    have HTj := As.mk (HO.out.kt hb HT.out)
    by_cases hlt : j < s.size
    · have hdd : decide (s.size ≤ j) = false := by simpa using hlt
      have hne : (bs s).drop j ≠ [] := by rw [drop_bs s j hlt]; simp
      go_wp2_with fail
      refine (end_c b j s _ HJ.out).mono ?_
      rintro e w' ⟨rfl, n, rfl⟩
      rw [hdd]
      go_wp2_with fail
      refine (run_q b j s 8 whiteB kind_white_fun (by simp) _ (HJ.out.drewN n) (HTj.out.drewN n) hb hs hj).mono ?_
      rintro e w1 ⟨t, j1, rfl, hr⟩
      have HR := As.mk hr
      have HO1 := As.mk (ob_trans (HO.out.drewN n) hr.fr)
      have hj1 := hr.lo
      have hj1' := hr.hi
      clear hr
      go_wp2_with fail
      by_cases he : ∃ r, (bs s).drop j1 = 59 :: r
      · obtain ⟨r, he⟩ := he
        obtain ⟨hlt1, _, hr1⟩ := drop_cons he
        have HW := hid_ (HR.out.rest.symm.trans he)
        have HR1 := hid_ hr1
        have HST := hid_ (PS_step hne HW.out rfl)
        clear hr1 hne
        refine (eat_yes b j1 s 59 r he 59 rfl w1 HR.out.cu hs).mono ?_
        rintro e w2 ⟨rfl, hc2, ho2⟩
        have HC2 := As.mk hc2
        have HO2 := As.mk (ob_trans HO1.out ho2)
        clear hc2 ho2 he
        go_wp2_with fail
        refine (run_q b (j1 + 1) s 8 whiteB kind_white_fun (by simp) _ HC2.out (HO2.out.kt hb HT.out) hb hs hlt1).mono ?_
        rintro e w3 ⟨t3, j3, rfl, hr⟩
        have HR3 := As.mk hr
        have HO3 := As.mk (ob_trans HO2.out hr.fr)
        have HD3 := hid_ (hr.rest.trans (by rw [HR1.out] : _ = r.dropWhile whiteB))
        have hj3 := hr.lo
        have hj3' := hr.hi
        clear hr
        have HT3 := As.mk (HO3.out.kt hb HT.out)
        have HY3 := As.mk (end_c b j3 s _ HR3.out.cu)
        cases hd : (bs s).drop j3 with
        | nil =>
          have hle := drop_nil hd
          have hdd3 : decide (s.size ≤ j3) = true := by simpa using hle
          have HN : As (PS ((bs s).drop j3) = PS ((bs s).drop i)) := ⟨by
            have : whiteD r = [] := by rw [← hd]; exact HD3.out.symm
            rw [← HQ.out, HST.out, this, hd]; rfl⟩
          clear hd
          go_wp2_with (go_at_call 99; refine (end_c b j3 s _ HR3.out.cu).mono ?_; rintro e w' ⟨rfl, m, rfl⟩; rw [hdd3])
          exact ⟨⟨j3, hj3', HN, ⟨HR3.out.cu.drewN m⟩, ⟨HO3.out.drewN m⟩⟩, meas HJ.out (HR3.out.cu.drewN m) (by omega) hj3'⟩
        | cons c r3 =>
          obtain ⟨hlt3, hc3, hr3⟩ := drop_cons hd
          have hdd3 : decide (s.size ≤ j3) = false := by simpa using hlt3
          have HC3 := hid_ hc3
          have HWD : As (whiteD r = c :: r3) := ⟨by rw [← hd]; exact HD3.out.symm⟩
          have HD := hid_ hd
          clear hc3 hr3 hd
          cases hv : tokB c
          · have HN : As (PS ((bs s).drop j3) = PS ((bs s).drop i)) := ⟨by
              rw [← HQ.out, HST.out, HWD.out, HD.out, if_pos (by simp [noTok, hv])]⟩
            go_wp2_with (first | (go_at_call 99; refine (end_c b j3 s _ HR3.out.cu).mono ?_; rintro e w' ⟨rfl, m, rfl⟩; rw [hdd3]) | (go_at_call 101; refine (next_c b j3 s _ (HR3.out.cu.drewN _) hlt3).mono ?_; rintro e w' ⟨rfl, m2, rfl⟩; rw [HC3.out]) | (go_at_call 100; refine (is_v c 1 (by simp) false (by rw [kind_tok, hv]) _ (HT3.out.drewN _)).mono ?_; rintro e w' ⟨rfl, rfl⟩))
            exact ⟨⟨j3, hj3', HN, ⟨HR3.out.cu.drewN _⟩, ⟨HO3.out.drewN _⟩⟩, meas HJ.out (HR3.out.cu.drewN _) (by omega) hj3'⟩
          · go_wp2_with (first | (go_at_call 99; refine (end_c b j3 s _ HR3.out.cu).mono ?_; rintro e w' ⟨rfl, m, rfl⟩; rw [hdd3]) | (go_at_call 101; refine (next_c b j3 s _ (HR3.out.cu.drewN _) hlt3).mono ?_; rintro e w' ⟨rfl, m2, rfl⟩; rw [HC3.out]) | (go_at_call 100; refine (is_v c 1 (by simp) true (by rw [kind_tok, hv]) _ (HT3.out.drewN _)).mono ?_; rintro e w' ⟨rfl, rfl⟩))
            refine (parameter_c b j3 s _ (HR3.out.cu.drewN _) (HT3.out.drewN _) hb hs hj3').mono ?_
            rintro e w4 ⟨rfl, ⟨j4, hj4, hc4, ha4⟩, hf4⟩
            have HC4 := As.mk hc4
            have HO4 := As.mk (ob_trans (HO3.out.drewN _) hf4)
            have HA4 := As.mk ha4
            clear hc4 ha4 hf4
            have HST2 : As (PS ((bs s).drop i) = match paramS ((bs s).drop j3) with | none => false | some r2 => PS r2) := ⟨by
              rw [← HQ.out, HST.out, HWD.out, HD.out, if_neg (by simp [noTok, hv])]
              cases paramS (c :: r3) <;> rfl⟩
            cases hp : paramS ((bs s).drop j3) with
            | none =>
              have HN : As (PS ((bs s).drop i) = false) := ⟨by rw [HST2.out, hp]⟩
              clear hp HST2 HA4
              go_wp2
              go_ret
              exact ⟨ret_bool HN.out.symm, HO4.out⟩
            | some r2 =>
              have HN : As (PS ((bs s).drop j4) = PS ((bs s).drop i)) := ⟨by rw [HST2.out, hp, HA4.out r2 hp]⟩
              have hl4 : j3 < j4 := by
                have h1 := param_len _ _ hp
                have h2 := HA4.out r2 hp
                rw [← h2, List.length_drop, List.length_drop, bs_size] at h1
                omega
              clear hp HST2 HA4
              go_wp2
              exact ⟨⟨j4, hj4, HN, HC4, HO4⟩, meas HJ.out HC4.out (by omega) hj4⟩
      · have HN : As (PS ((bs s).drop i) = false) := ⟨by
          rw [← HQ.out]
          exact PS_no hne (fun r h => he ⟨r, HR.out.rest.trans h⟩)⟩
        refine (eat_no b j1 s 59 (fun r h => he ⟨r, h⟩) 59 rfl w1 HR.out.cu hs).mono ?_
        rintro e w2 ⟨rfl, m, rfl⟩
        clear he hne
        go_wp2
        go_ret
        exact ⟨ret_bool HN.out.symm, HO1.out.drewN m⟩
    · have hdd : decide (s.size ≤ j) = true := by simpa using hlt
      have HN : As (PS ((bs s).drop i) = true) := ⟨by rw [← HQ.out, List.drop_of_length_le (by rw [bs_size]; omega)]; rfl⟩
      go_wp2_with (go_at_call 99; refine (end_c b j s _ HJ.out).mono ?_; rintro e w' ⟨rfl, n, rfl⟩; rw [hdd])
      go_ret
      exact ⟨ret_bool HN.out.symm, HO.out.drewN n⟩
end Go.Proofs.YtegeijlookpgaaaDoor
