/- What usherref22's letter, Text, byField, form and byText compute. -/
import Derived.Test.YtegeijlookpgaaaDoorG7
import Derived.Test.YtegeijlookpgaaaDoorG4
import Derived.Test.YtegeijlookpgaaaDoorM5
set_option linter.unusedVariables false
set_option linter.unusedSimpArgs false
namespace Go.Proofs.YtegeijlookpgaaaDoor
open Go.RowKit Go.Proofs.YtegeijlookpgaaaDoorW.PrintWords

set_option maxHeartbeats 1000000 in
set_option maxRecDepth 100000 in
theorem letter_c (c : UInt8) (w : World) : Calls Tryd.prog 62 #[.int .u8 c.toNat] w fun e w' => e = .returned (.bool (alnum c)) ∧ w' = w := by
  have hcl := c.toNat_lt
  rcases alnum_ways c with ⟨ha, h⟩ | ⟨ha, h⟩
  · have HF := hid_ ha
    clear ha
    rcases h with ⟨h1, h2⟩ | ⟨h1, h2, h3, h4⟩ | ⟨h1, h2, h3, h4⟩
    all_goals
      go_enter Tryd.func62, Tryd.ntmps62
      go_wp2
      go_ret
      exact ⟨ret_bool HF.out.symm, rfl⟩
  · have HF := hid_ ha
    clear ha
    rcases h with ⟨h1, h2, h3, h4, h5, h6⟩ | ⟨h1, h2, h3, h4, h5⟩ | ⟨h1, h2, h3, h4⟩ | ⟨h1, h2, h3⟩
    all_goals
      go_enter Tryd.func62, Tryd.ntmps62
      go_wp2
      go_ret
      exact ⟨ret_bool (by first | (rw [HF.out]; done) | (rw [HF.out]; simp; done) | (rw [HF.out]; simp; omega)), rfl⟩
theorem letter_v (c : UInt8) (v : Bool) (hv : alnum c = v) (w : World) : Calls Tryd.prog 62 #[.int .u8 c.toNat] w fun e w' => e = .returned (.bool v) ∧ w' = w := hv ▸ letter_c c w

theorem more_ways (c : UInt8) : (moreL.contains c = true ∧ ((((c.toNat : Int) != 45) = false) ∨ (((c.toNat : Int) != 45) = true ∧ ((c.toNat : Int) != 46) = false) ∨ (((c.toNat : Int) != 45) = true ∧ ((c.toNat : Int) != 46) = true ∧ ((c.toNat : Int) != 95) = false) ∨ (((c.toNat : Int) != 45) = true ∧ ((c.toNat : Int) != 46) = true ∧ ((c.toNat : Int) != 95) = true ∧ ((c.toNat : Int) != 126) = false) ∨ (((c.toNat : Int) != 45) = true ∧ ((c.toNat : Int) != 46) = true ∧ ((c.toNat : Int) != 95) = true ∧ ((c.toNat : Int) != 126) = true ∧ ((c.toNat : Int) != 43) = false) ∨ (((c.toNat : Int) != 45) = true ∧ ((c.toNat : Int) != 46) = true ∧ ((c.toNat : Int) != 95) = true ∧ ((c.toNat : Int) != 126) = true ∧ ((c.toNat : Int) != 43) = true ∧ ((c.toNat : Int) != 47) = false))) ∨
    (moreL.contains c = false ∧ ((c.toNat : Int) != 45) = true ∧ ((c.toNat : Int) != 46) = true ∧ ((c.toNat : Int) != 95) = true ∧ ((c.toNat : Int) != 126) = true ∧ ((c.toNat : Int) != 43) = true ∧ ((c.toNat : Int) != 47) = true) := by
  have h : moreL.contains c = true ↔ (c.toNat = 45 ∨ c.toNat = 46 ∨ c.toNat = 95 ∨ c.toNat = 126 ∨ c.toNat = 43 ∨ c.toNat = 47) := by
    have g : ∀ n : Fin 256, moreL.contains (UInt8.ofNat n.val) = true ↔ (n.val = 45 ∨ n.val = 46 ∨ n.val = 95 ∨ n.val = 126 ∨ n.val = 43 ∨ n.val = 47) := by decide +kernel
    have := g ⟨c.toNat, c.toNat_lt⟩
    rwa [u8_ofNat] at this
  cases hm : moreL.contains c with
  | true =>
    refine .inl ⟨rfl, ?_⟩
    have h1 := h.1 hm
    simp only [bne_iff_ne, bne_eq_false_iff_eq, ne_eq]
    omega
  | false =>
    have h0 : ¬ (c.toNat = 45 ∨ c.toNat = 46 ∨ c.toNat = 95 ∨ c.toNat = 126 ∨ c.toNat = 43 ∨ c.toNat = 47) := fun hh => by rw [h.2 hh] at hm; cases hm
    refine .inr ⟨rfl, ?_, ?_, ?_, ?_, ?_, ?_⟩ <;> rw [bne_iff_ne] <;> omega

set_option maxHeartbeats 4000000 in
set_option maxRecDepth 100000 in
theorem refText_c (s : ByteArray) (w : World) (hs : s.size ≤ 1099511627776) :
    Calls Tryd.prog 33 #[.string s] w fun e w' => e = .returned (.bool (textS (bs s))) ∧ w' = w := by
  go_enter Tryd.func33, Tryd.ntmps33
  go_wp2
  go_loop [3] (fun v => ∃ i : Nat, v = .int .i64 i ∧ i ≤ s.size ∧ As (((bs s).drop i).dropWhile okB = (bs s).dropWhile okB)) (fun v => s.size - (intOf v).toNat)
  case atStart => exact ⟨0, rfl, Nat.zero_le _, ⟨rfl⟩⟩
  case round =>
    obtain ⟨i, rfl, hi, HA⟩ := hrel
    by_cases hgo : ∃ h : i < s.size, okB s[i] = true
    · obtain ⟨hlt, hp⟩ := hgo
      have HN : As (((bs s).drop (i + 1)).dropWhile okB = (bs s).dropWhile okB) := ⟨by rw [← HA.out, drop_bs s i hlt, List.dropWhile_cons, hp]; rfl⟩
      cases hal : alnum s[i] with
      | true =>
        have HV := As.mk (fun w => letter_v s[i] true hal w)
        clear hal hp
        go_wp2_with (go_at_call 62; refine (HV.out _).mono ?_; rintro e w' ⟨rfl, rfl⟩)
        exact ⟨⟨i + 1, by go_num, by omega, HN⟩, by simp [intOf]; omega⟩
      | false =>
        have HV := As.mk (fun w => letter_v s[i] false hal w)
        have hm : moreL.contains s[i] = true := by unfold okB at hp; rw [hal] at hp; simpa using hp
        rcases more_ways s[i] with ⟨_, h⟩ | ⟨h, _⟩
        · clear hal hp hm
          go_wp2_with fail
          refine (HV.out _).mono ?_
          rintro e w' ⟨rfl, rfl⟩
          clear HV
          rcases h with h1 | ⟨h1, h2⟩ | ⟨h1, h2, h3⟩ | ⟨h1, h2, h3, h4⟩ | ⟨h1, h2, h3, h4, h5⟩ | ⟨h1, h2, h3, h4, h5, h6⟩
          all_goals
            go_wp2
            exact ⟨⟨i + 1, by go_num, by omega, HN⟩, by simp [intOf]; omega⟩
        · rw [hm] at h; cases h
    · have HE : As ((bs s).drop i = (bs s).dropWhile okB) := ⟨by
        rw [← HA.out]
        rcases Nat.lt_or_ge i s.size with h | h
        · have hp : okB s[i] = false := by
            cases hh : okB s[i]
            · rfl
            · exact absurd ⟨h, hh⟩ hgo
          rw [drop_bs s i h, List.dropWhile_cons, hp]; rfl
        · rw [List.drop_of_length_le (by rw [bs_size]; exact h)]; rfl⟩
      have HEM : As (((bs s).takeWhile okB).isEmpty = decide (i = 0)) := ⟨by
        have h1 := take_run (l := bs s) (p := okB) (i := 0) (j := i) (Nat.zero_le _) (by rw [bs_size]; exact hi) HE.out
        have h2 : (bs s).takeWhile okB = (bs s).take i := h1.symm
        rw [h2, Bool.eq_iff_iff, decide_eq_true_eq, List.isEmpty_iff]
        constructor
        · intro h
          have := congrArg List.length h
          rw [List.length_take, bs_size, List.length_nil] at this
          omega
        · rintro rfl; rfl⟩
      have HTX : As (textS (bs s) = (decide ((0 : Int) < (i : Int)) && ((bs s).drop i).all (· == 61))) := ⟨by
        unfold textS
        rw [HEM.out, HE.out]
        congr 1
        rw [Bool.eq_iff_iff]
        simp
        omega⟩
      have hways : s.size ≤ i ∨ (∃ h : i < s.size, okB s[i] = false) := by
        rcases Nat.lt_or_ge i s.size with h | h
        · refine .inr ⟨h, ?_⟩
          cases hh : okB s[i]
          · rfl
          · exact absurd ⟨h, hh⟩ hgo
        · exact .inl h
      clear hgo HA HE HEM
      rcases hways with hge | ⟨hlt, hp⟩
      · have hge2 : ¬ i < s.size := by omega
        have HTX2 : As (textS (bs s) = decide ((0 : Int) < (i : Int))) := ⟨by
          rw [HTX.out, List.drop_of_length_le (by rw [bs_size]; omega)]; simp⟩
        clear HTX
        go_wp2
        go_loop [6] (fun v => v = .int .i64 i) (fun v => s.size - (intOf v).toNat)
        case atStart => rfl
        case round =>
          obtain rfl := hrel
          go_wp2
          go_ret
          exact ⟨ret_bool (by rw [HTX2.out]; simp), rfl⟩
      · have hal : alnum s[i] = false := by
          unfold okB at hp
          rw [Bool.or_eq_false_iff] at hp
          exact hp.1
        have hm : moreL.contains s[i] = false := by
          unfold okB at hp
          rw [Bool.or_eq_false_iff] at hp
          exact hp.2
        have HV := As.mk (fun w => letter_v s[i] false hal w)
        rcases more_ways s[i] with ⟨h, _⟩ | ⟨_, h1, h2, h3, h4, h5, h6⟩
        · rw [hm] at h; cases h
        · clear hal hm hp
          go_wp2_with fail
          refine (HV.out _).mono ?_
          rintro e w' ⟨rfl, rfl⟩
          clear HV
          go_wp2
          go_loop [6] (fun v => ∃ j : Nat, v = .int .i64 j ∧ i ≤ j ∧ j ≤ s.size ∧ As (((bs s).drop i).all (· == 61) = ((bs s).drop j).all (· == 61))) (fun v => s.size - (intOf v).toNat)
          case atStart => exact ⟨i, rfl, Nat.le_refl _, hi, ⟨rfl⟩⟩
          case round =>
            obtain ⟨j, rfl, hij, hj, HA⟩ := hrel
            by_cases hlt2 : j < s.size
            · by_cases hc : s[j] = 61
              · have q : ((s[j].toNat : Int) != 61) = false := by rw [hc]; rfl
                have HN : As (((bs s).drop i).all (· == 61) = ((bs s).drop (j + 1)).all (· == 61)) := ⟨by rw [HA.out, drop_bs s j hlt2, List.all_cons, hc]; rfl⟩
                clear hc HA
                go_wp2
                exact ⟨⟨j + 1, by go_num, by omega, by omega, HN⟩, by simp [intOf]; omega⟩
              · have q : ((s[j].toNat : Int) != 61) = true := by
                  rw [bne_iff_ne]; intro e; exact hc (UInt8.toNat_inj.1 (by show s[j].toNat = 61; omega))
                have HN : As (textS (bs s) = false) := ⟨by
                  rw [HTX.out, HA.out, drop_bs s j hlt2, List.all_cons, beq_eq_false_iff_ne.2 hc]; simp⟩
                clear hc HA
                go_wp2
                go_ret
                exact ⟨ret_bool HN.out.symm, rfl⟩
            · have HN : As (textS (bs s) = decide ((0 : Int) < (i : Int))) := ⟨by
                rw [HTX.out, HA.out, List.drop_of_length_le (by rw [bs_size]; omega)]; simp⟩
              go_wp2
              go_ret
              exact ⟨ret_bool (by rw [HN.out]; simp), rfl⟩
end Go.Proofs.YtegeijlookpgaaaDoor
