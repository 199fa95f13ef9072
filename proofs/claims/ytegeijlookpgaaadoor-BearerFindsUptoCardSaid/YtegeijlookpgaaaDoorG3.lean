/- What the reference's readers of a Content-Type compute. -/
import Derived.Test.YtegeijlookpgaaaDoorG2
import Derived.Test.YtegeijlookpgaaaDoorN5
set_option linter.unusedVariables false
set_option linter.unusedSimpArgs false
namespace Go.Proofs.YtegeijlookpgaaaDoor
open Go.RowKit Go.Proofs.YtegeijlookpgaaaDoorW.PrintWords

/-- a place behind what was read, or -1 -/
structure PI (s : ByteArray) (o : Option (List UInt8)) (e : Ending) : Prop where
  yes : ∀ r, o = some r → ∃ j : Nat, e = .returned (.int .i64 j) ∧ j ≤ s.size ∧ (bs s).drop j = r
  no : o = none → e = .returned (.int .i64 (-1))
theorem PI.some_ {s : ByteArray} {o : Option (List UInt8)} {r : List UInt8} {e : Ending} (j : Nat) (h : o = some r) (he : e = .returned (.int .i64 j)) (hj : j ≤ s.size) (hr : (bs s).drop j = r) : PI s o e :=
  ⟨fun r' h' => by obtain rfl : r = r' := Option.some.inj (h.symm.trans h'); exact ⟨j, he, hj, hr⟩, fun hn => absurd (h.symm.trans hn) (by simp)⟩
theorem PI.none_ {s : ByteArray} {o : Option (List UInt8)} {e : Ending} (h : o = none) (he : e = .returned (.int .i64 (-1))) : PI s o e :=
  ⟨fun r h' => absurd (h.symm.trans h') (by simp), fun _ => he⟩

set_option maxHeartbeats 2000000 in
set_option maxRecDepth 100000 in
theorem refQuoted_c (s : ByteArray) (i : Nat) (ii : Int) (hii : ii = i) (w : World) (hs : s.size ≤ 1099511627776) (hi : i < s.size) :
    Calls Tryd.prog 112 #[.string s, .int .i64 ii] w fun e w' => PI s (quotedS ((bs s).drop (i + 1))) e ∧ w' = w := by
  subst hii
  go_enter Tryd.func112, Tryd.ntmps112
  go_wp2
  go_loop [5] (fun v => ∃ j : Nat, v = .int .i64 j ∧ j ≤ s.size ∧ As (quotedS ((bs s).drop j) = quotedS ((bs s).drop (i + 1)))) (fun v => s.size - (intOf v).toNat)
  case atStart => exact ⟨i + 1, by go_num, hi, ⟨rfl⟩⟩
  case round =>
    obtain ⟨j, rfl, hj, HA⟩ := hrel
    cases hd : (bs s).drop j with
    | nil =>
      have hle := drop_nil hd
      have hlt : ¬ j < s.size := by omega
      have HN : As (quotedS ((bs s).drop (i + 1)) = none) := ⟨by rw [← HA.out, hd]; rfl⟩
      clear hd
      go_wp2
      go_ret
      exact ⟨PI.none_ HN.out rfl, rfl⟩
    | cons c r =>
      obtain ⟨hlt, hc, hr⟩ := drop_cons hd
      have HQ : As (quotedS ((bs s).drop (i + 1)) = quotedS (s[j] :: r)) := ⟨by rw [← HA.out, hd, hc]⟩
      have HR := hid_ hr
      clear hd hr HA hc
      by_cases h34 : s[j] = 34
      · have q1 : ((s[j].toNat : Int) == 34) = true := by rw [h34]; rfl
        have HN : As (quotedS ((bs s).drop (i + 1)) = some r) := ⟨by rw [HQ.out, h34, quoted_q]⟩
        clear h34 HQ
        go_wp2
        go_ret
        exact ⟨PI.some_ (j + 1) HN.out (ret_int (by omega)) hlt HR.out, rfl⟩
      · have q1 : ((s[j].toNat : Int) == 34) = false := by
          rw [beq_eq_false_iff_ne]; intro e; exact h34 (UInt8.toNat_inj.1 (by show s[j].toNat = 34; omega))
        by_cases h92 : s[j] = 92
        · have q2 : ((s[j].toNat : Int) == 92) = true := by rw [h92]; rfl
          cases r with
          | nil =>
            have hle := drop_nil HR.out
            have k1 : (s.size : Int) ≤ (j : Int) + 1 := by omega
            have HN : As (quotedS ((bs s).drop (i + 1)) = none) := ⟨by rw [HQ.out, h92]; exact quoted_e0⟩
            clear h34 h92 HQ
            go_wp2
            go_ret
            exact ⟨PI.none_ HN.out rfl, rfl⟩
          | cons d r =>
            obtain ⟨hlt2, hc2, hr2⟩ := drop_cons HR.out
            have HR2 := hid_ hr2
            have k1 : (j : Int) + 1 < (s.size : Int) := by omega
            have k2 : (0 : Int) ≤ (j : Int) + 1 := by omega
            have k3 : ((j : Int) + 1).toNat = j + 1 := by omega
            have HQ2 : As (quotedS ((bs s).drop (i + 1)) = if valB s[j + 1] then quotedS r else none) := ⟨by rw [HQ.out, h92, quoted_e, hc2]⟩
            clear h34 h92 HQ hr2 hc2
            cases hv : valB s[j + 1] with
            | false =>
              have HN : As (quotedS ((bs s).drop (i + 1)) = none) := ⟨by rw [HQ2.out, hv]; rfl⟩
              have HV := As.mk (fun w => ValueByte_v s[j + 1] false hv w)
              clear hv HQ2
              go_wp2_with (go_at_call 125; refine (HV.out _).mono ?_; rintro e w' ⟨rfl, rfl⟩)
              go_ret
              exact ⟨PI.none_ HN.out rfl, rfl⟩
            | true =>
              have HN : As (quotedS r = quotedS ((bs s).drop (i + 1))) := ⟨by rw [HQ2.out, hv]; rfl⟩
              have HV := As.mk (fun w => ValueByte_v s[j + 1] true hv w)
              clear hv HQ2
              go_wp2_with (go_at_call 125; refine (HV.out _).mono ?_; rintro e w' ⟨rfl, rfl⟩)
              exact ⟨⟨j + 1 + 1, by go_num, by omega, ⟨by rw [HR2.out]; exact HN.out⟩⟩, by simp [intOf]; omega⟩
        · have q2 : ((s[j].toNat : Int) == 92) = false := by
            rw [beq_eq_false_iff_ne]; intro e; exact h92 (UInt8.toNat_inj.1 (by show s[j].toNat = 92; omega))
          have HQ2 : As (quotedS ((bs s).drop (i + 1)) = if valB s[j] then quotedS r else none) := ⟨by rw [HQ.out, quoted_o _ _ h34 h92]⟩
          clear h34 h92 HQ
          cases hv : valB s[j] with
          | false =>
            have HN : As (quotedS ((bs s).drop (i + 1)) = none) := ⟨by rw [HQ2.out, hv]; rfl⟩
            have HV := As.mk (fun w => ValueByte_v s[j] false hv w)
            clear hv HQ2
            go_wp2_with (go_at_call 125; refine (HV.out _).mono ?_; rintro e w' ⟨rfl, rfl⟩)
            go_ret
            exact ⟨PI.none_ HN.out rfl, rfl⟩
          | true =>
            have HN : As (quotedS r = quotedS ((bs s).drop (i + 1))) := ⟨by rw [HQ2.out, hv]; rfl⟩
            have HV := As.mk (fun w => ValueByte_v s[j] true hv w)
            clear hv HQ2
            go_wp2_with (go_at_call 125; refine (HV.out _).mono ?_; rintro e w' ⟨rfl, rfl⟩)
            exact ⟨⟨j + 1, by go_num, by omega, ⟨by rw [HR.out]; exact HN.out⟩⟩, by simp [intOf]; omega⟩

theorem atEnd_same {s : ByteArray} {i j : Nat} (h : atEnd s tokB i j) (hi : i ≤ s.size) : noTok ((bs s).drop i) = decide (j = i) := by
  obtain ⟨h1, h2, h3⟩ := h
  have hl := congrArg List.length h3
  rw [List.length_drop, bs_size] at hl
  cases hn : noTok ((bs s).drop i) with
  | true =>
    have := (noTok_t hn).2
    unfold tokD at this
    rw [this, List.length_drop, bs_size] at hl
    symm; rw [decide_eq_true_eq]; omega
  | false =>
    have hne := noTok_f hn
    have h4 := congrArg List.length (List.takeWhile_append_dropWhile (p := tokB) (l := (bs s).drop i))
    rw [List.length_append, List.length_drop, bs_size] at h4
    have h5 : 0 < (((bs s).drop i).takeWhile tokB).length := List.length_pos_iff.2 hne
    symm; rw [decide_eq_false_iff_not]; omega

set_option maxHeartbeats 2000000 in
set_option maxRecDepth 100000 in
theorem refParameter_c (s : ByteArray) (i : Nat) (ii : Int) (hii : ii = i) (w : World) (hs : s.size ≤ 1099511627776) (hi : i ≤ s.size) :
    Calls Tryd.prog 90 #[.string s, .int .i64 ii] w fun e w' => PI s (paramS ((bs s).drop i)) e ∧ w' = w := by
  subst hii
  go_enter Tryd.func90, Tryd.ntmps90
  go_wp2_with fail
  refine (token_c s i _ rfl _ hs hi).mono ?_
  rintro e w' ⟨⟨j, rfl, hat⟩, rfl⟩
  have HAT := As.mk hat
  have HSM := As.mk (atEnd_same hat hi)
  obtain ⟨hij, hj, hdr⟩ := hat
  have HDR : Hid ((bs s).drop j = tokD ((bs s).drop i)) := hid_ hdr
  clear hdr
  by_cases hji : j = i
  · subst hji
    have HN : As (paramS ((bs s).drop j) = none) := ⟨par_none (by rw [HSM.out]; simp)⟩
    have q : ((j : Int) == (j : Int)) = true := by simp
    clear HSM HDR
    go_wp2
    go_ret
    exact ⟨PI.none_ HN.out rfl, rfl⟩
  · have hnt : noTok ((bs s).drop i) = false := by rw [HSM.out]; simp [hji]
    have HNT := hid_ hnt
    have q0 : ((j : Int) == (i : Int)) = false := by rw [beq_eq_false_iff_ne]; omega
    clear HSM hnt hji
    by_cases he : ∃ r, (bs s).drop j = 61 :: r
    · obtain ⟨r, he⟩ := he
      obtain ⟨hlt, hc, hr⟩ := drop_cons he
      have HE := hid_ (HDR.out.symm.trans he)
      have HR := hid_ hr
      have q1 : ((s[j].toNat : Int) != 61) = false := by rw [hc]; rfl
      clear he hr hc
      by_cases hq : ∃ r', r = 34 :: r'
      · obtain ⟨r', rfl⟩ := hq
        obtain ⟨hlt2, hc2, hr2⟩ := drop_cons HR.out
        have HP : As (paramS ((bs s).drop i) = quotedS ((bs s).drop (j + 1 + 1))) := ⟨by rw [par_quote HNT.out HE.out, hr2]⟩
        have k1 : (j : Int) + 1 < (s.size : Int) := by omega
        have k2 : (0 : Int) ≤ (j : Int) + 1 := by omega
        have k3 : ((j : Int) + 1).toNat = j + 1 := by omega
        have q2 : ((s[j + 1].toNat : Int) == 34) = true := by rw [hc2]; rfl
        clear hr2 hc2
        go_wp2_with fail
        refine (refQuoted_c s (j + 1) _ (by omega) _ hs hlt2).mono ?_
        rintro e w' ⟨hpi, rfl⟩
        rw [← HP.out] at hpi
        cases ho : paramS ((bs s).drop i) with
        | none =>
          rw [hpi.no ho]
          have HO := hid_ ho
          clear hpi ho
          go_wp2
          go_ret
          exact ⟨PI.none_ HO.out rfl, rfl⟩
        | some r2 =>
          obtain ⟨j2, he2, hj2, hd2⟩ := hpi.yes r2 ho
          have HD2 := hid_ hd2
          rw [he2]
          have HO := hid_ ho
          clear hpi ho he2 hd2
          go_wp2
          go_ret
          exact ⟨PI.some_ j2 HO.out rfl hj2 HD2.out, rfl⟩
      · have HP := hid_ (par_tok HNT.out HE.out (fun r' h => hq ⟨r', h⟩))
        have hw : (s.size ≤ j + 1) ∨ (∃ h : j + 1 < s.size, s[j + 1] ≠ 34) := by
          rcases Nat.lt_or_ge (j + 1) s.size with h | h
          · refine .inr ⟨h, fun e => hq ⟨(bs s).drop (j + 1 + 1), ?_⟩⟩
            rw [← HR.out, drop_bs s (j + 1) h, e]
          · exact .inl h
        have HTK := As.mk (fun w => token_c s (j + 1) ((j : Int) + 1) (by omega) w hs hlt)
        have HSM := As.mk (fun k (h : atEnd s tokB (j + 1) k) => atEnd_same h hlt)
        rw [HR.out] at HSM
        clear hq
        rcases hw with h | ⟨h, hc2⟩
        · have k1 : (s.size : Int) ≤ (j : Int) + 1 := by omega
          go_wp2_with fail
          refine (HTK.out _).mono ?_
          rintro e w' ⟨⟨k, rfl, hat⟩, rfl⟩
          have HAT2 := As.mk hat
          have hsm := HSM.out k hat
          by_cases hk : k = j + 1
          · have HN : As (paramS ((bs s).drop i) = none) := ⟨by rw [HP.out, hsm, if_pos (by simp [hk])]⟩
            have q3 : ((k : Int) == (j : Int) + 1) = true := by rw [beq_iff_eq]; omega
            clear hsm hat hk
            go_wp2
            go_ret
            exact ⟨PI.none_ HN.out rfl, rfl⟩
          · have HN : As (paramS ((bs s).drop i) = some (tokD r)) := ⟨by rw [HP.out, hsm, if_neg (by simp [hk])]⟩
            have q3 : ((k : Int) == (j : Int) + 1) = false := by rw [beq_eq_false_iff_ne]; omega
            clear hsm hat hk
            go_wp2
            go_ret
            exact ⟨PI.some_ k HN.out rfl HAT2.out.2.1 (by rw [HAT2.out.2.2, HR.out]; rfl), rfl⟩
        · have k1 : (j : Int) + 1 < (s.size : Int) := by omega
          have k2 : (0 : Int) ≤ (j : Int) + 1 := by omega
          have k3 : ((j : Int) + 1).toNat = j + 1 := by omega
          have q2 : ((s[j + 1].toNat : Int) == 34) = false := by
            rw [beq_eq_false_iff_ne]; intro e; exact hc2 (UInt8.toNat_inj.1 (by show s[j + 1].toNat = 34; omega))
          clear hc2
          go_wp2_with fail
          refine (HTK.out _).mono ?_
          rintro e w' ⟨⟨k, rfl, hat⟩, rfl⟩
          have HAT2 := As.mk hat
          have hsm := HSM.out k hat
          by_cases hk : k = j + 1
          · have HN : As (paramS ((bs s).drop i) = none) := ⟨by rw [HP.out, hsm, if_pos (by simp [hk])]⟩
            have q3 : ((k : Int) == (j : Int) + 1) = true := by rw [beq_iff_eq]; omega
            clear hsm hat hk
            go_wp2
            go_ret
            exact ⟨PI.none_ HN.out rfl, rfl⟩
          · have HN : As (paramS ((bs s).drop i) = some (tokD r)) := ⟨by rw [HP.out, hsm, if_neg (by simp [hk])]⟩
            have q3 : ((k : Int) == (j : Int) + 1) = false := by rw [beq_eq_false_iff_ne]; omega
            clear hsm hat hk
            go_wp2
            go_ret
            exact ⟨PI.some_ k HN.out rfl HAT2.out.2.1 (by rw [HAT2.out.2.2, HR.out]; rfl), rfl⟩
    · have HN : As (paramS ((bs s).drop i) = none) := ⟨par_end (fun r h => he ⟨r, HDR.out.trans h⟩)⟩
      have hw : (s.size ≤ j) ∨ (∃ h : j < s.size, s[j] ≠ 61) := by
        rcases Nat.lt_or_ge j s.size with h | h
        · exact .inr ⟨h, fun e => he ⟨_, by rw [drop_bs s j h, e]⟩⟩
        · exact .inl h
      clear he
      rcases hw with h | ⟨h, hc2⟩
      · have k0 : ¬ j < s.size := by omega
        go_wp2
        go_ret
        exact ⟨PI.none_ HN.out rfl, rfl⟩
      · have q1 : ((s[j].toNat : Int) != 61) = true := by
          rw [bne_iff_ne]; intro e; exact hc2 (UInt8.toNat_inj.1 (by show s[j].toNat = 61; omega))
        clear hc2
        go_wp2
        go_ret
        exact ⟨PI.none_ HN.out rfl, rfl⟩
end Go.Proofs.YtegeijlookpgaaaDoor
