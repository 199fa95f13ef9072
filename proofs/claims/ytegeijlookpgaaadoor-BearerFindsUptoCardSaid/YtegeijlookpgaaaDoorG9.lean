/- What usherref22's byField, form and byText compute. -/
import Derived.Test.YtegeijlookpgaaaDoorG8
set_option linter.unusedVariables false
set_option linter.unusedSimpArgs false
namespace Go.Proofs.YtegeijlookpgaaaDoor
open Go.RowKit Go.Proofs.YtegeijlookpgaaaDoorW.PrintWords

/-- what byField of the reference says -/
def byR (l : List UInt8) : List UInt8 × Bool := ((byF l).1, (byF l).2 == 1)
theorem blank_end (s : ByteArray) (i j : Nat) (hij : i ≤ j) (hj : j ≤ s.size) (h : (bs s).drop j = ((bs s).drop i).dropWhile (· == 32)) (hi : i ≤ s.size) : (((bs s).drop i).dropWhile (· == 32) == (bs s).drop i) = decide (j = i) := by
  rw [← h, Bool.eq_iff_iff, beq_iff_eq, decide_eq_true_eq]
  constructor
  · intro e
    have := congrArg List.length e
    rw [List.length_drop, List.length_drop, bs_size] at this
    omega
  · rintro rfl; rfl

set_option maxHeartbeats 4000000 in
set_option maxRecDepth 100000 in
theorem refByField_c (s : ByteArray) (w : World) (hs : s.size ≤ 1048576) :
    Calls Tryd.prog 32 #[.string s] w fun e w' => e = .returned (.tuple #[.string (sb (byR (bs s)).1), .bool (byR (bs s)).2]) ∧ Below w.heap.size w w' := by
  go_enter Tryd.func32, Tryd.ntmps32
  go_wp2
  go_loop [4] (fun v => ∃ i : Nat, v = .int .i64 i ∧ i ≤ s.size ∧ As (((bs s).drop i).dropWhile tokB = (bs s).dropWhile tokB)) (fun v => s.size - (intOf v).toNat)
  case atStart => exact ⟨0, rfl, Nat.zero_le _, ⟨rfl⟩⟩
  case round =>
    obtain ⟨i, rfl, hi, HA⟩ := hrel
    by_cases hgo : ∃ h : i < s.size, tokB s[i] = true
    · obtain ⟨hlt, hp⟩ := hgo
      have HN : As (((bs s).drop (i + 1)).dropWhile tokB = (bs s).dropWhile tokB) := ⟨by rw [← HA.out, drop_bs s i hlt, List.dropWhile_cons, hp]; rfl⟩
      have HV := As.mk (fun w => TokenByte_v s[i] true hp w)
      clear hp
      go_wp2_with (go_at_call 61; refine (HV.out _).mono ?_; rintro e w' ⟨rfl, rfl⟩)
      exact ⟨⟨i + 1, by go_num, by omega, HN⟩, by simp [intOf]; omega⟩
    · have HE : As ((bs s).drop i = (bs s).dropWhile tokB) := ⟨by
        rw [← HA.out]
        rcases Nat.lt_or_ge i s.size with h | h
        · have hp : tokB s[i] = false := by
            cases hh : tokB s[i]
            · rfl
            · exact absurd ⟨h, hh⟩ hgo
          rw [drop_bs s i h, List.dropWhile_cons, hp]; rfl
        · rw [List.drop_of_length_le (by rw [bs_size]; exact h)]; rfl⟩
      have hz1 : (s.extract 0 i).size ≤ 1099511627776 := by rw [ext_size s 0 i hi]; omega
      have hh : (bs s).takeWhile tokB = bs (s.extract 0 i) := by
        have h1 := take_run (l := bs s) (p := tokB) (i := 0) (j := i) (Nat.zero_le _) (by rw [bs_size]; exact hi) HE.out
        rw [extract_sb, bs_sb]; exact h1.symm
      have HB : As (byF (bs s) = if low (bs (s.extract 0 i)) == bearerL then (if ((bs s).drop i).dropWhile (· == 32) == (bs s).drop i then ([], 1) else (((bs s).drop i).dropWhile (· == 32), 1)) else ([], 0)) := ⟨by
        unfold byF
        rw [hh, HE.out]⟩
      have HTOK : As (∀ (h : i < s.size) (w : World), Calls Tryd.prog 61 #[.int .u8 (s[i].toNat : Int)] w fun e w' => e = .returned (.bool false) ∧ w' = w) := ⟨fun h w => by
        have hp : tokB s[i] = false := by
          cases hh : tokB s[i]
          · rfl
          · exact absurd ⟨h, hh⟩ hgo
        exact TokenByte_v s[i] false hp w⟩
      have HLW := As.mk (fun w => Lower_c (s.extract 0 i) w hz1)
      have htb := bs_sb (low (bs (s.extract 0 i)))
      clear hgo HE HA hh
      generalize sb (low (bs (s.extract 0 i))) = t at *
      by_cases hb : low (bs (s.extract 0 i)) = bearerL
      · obtain ⟨g1, g2⟩ := lit_eq (htb.trans hb)
        unfold bearerL at g1 g2
        rw [if_pos (by rw [beq_iff_eq]; exact hb)] at HB
        clear hb htb
        rcases Nat.lt_or_ge i s.size with hlt | hge
        all_goals
          go_wp2_with (first | (go_at_call 61; refine (HTOK.out hlt _).mono ?_; rintro e w' ⟨rfl, rfl⟩) | (go_at_call 60; refine (HLW.out _).mono ?_; rintro e w1 ⟨rfl, hb1⟩; have HB1 := As.mk hb1; clear hb1))
          go_loop [7] (fun v => ∃ j : Nat, v = .int .i64 j ∧ i ≤ j ∧ j ≤ s.size ∧ As (((bs s).drop j).dropWhile (· == 32) = ((bs s).drop i).dropWhile (· == 32))) (fun v => s.size - (intOf v).toNat)
          case atStart => exact ⟨i, rfl, Nat.le_refl _, hi, ⟨rfl⟩⟩
          case round =>
            obtain ⟨j, rfl, hij, hj, HA⟩ := hrel
            by_cases hgo : ∃ h : j < s.size, s[j] = 32
            · obtain ⟨hlt2, hp⟩ := hgo
              have q : ((s[j].toNat : Int) == 32) = true := by rw [hp]; rfl
              have HN : As (((bs s).drop (j + 1)).dropWhile (· == 32) = ((bs s).drop i).dropWhile (· == 32)) := ⟨by rw [← HA.out, drop_bs s j hlt2, List.dropWhile_cons, hp]; rfl⟩
              clear hp
              go_wp2
              exact ⟨⟨j + 1, by go_num, by omega, by omega, HN⟩, by simp [intOf]; omega⟩
            · have HE : As ((bs s).drop j = ((bs s).drop i).dropWhile (· == 32)) := ⟨by
                rw [← HA.out]
                rcases Nat.lt_or_ge j s.size with h | h
                · have hp : (s[j] == 32) = false := beq_eq_false_iff_ne.2 (fun e => hgo ⟨h, e⟩)
                  rw [drop_bs s j h, List.dropWhile_cons, hp]; rfl
                · rw [List.drop_of_length_le (by rw [bs_size]; exact h)]; rfl⟩
              have HEQ := As.mk (blank_end s i j hij hj HE.out hi)
              have hways : s.size ≤ j ∨ (∃ h : j < s.size, ((s[j].toNat : Int) == 32) = false) := by
                rcases Nat.lt_or_ge j s.size with h | h
                · refine .inr ⟨h, ?_⟩
                  rw [beq_eq_false_iff_ne]; intro e; exact hgo ⟨h, UInt8.toNat_inj.1 (by show s[j].toNat = 32; omega)⟩
                · exact .inl h
              rw [HEQ.out] at HB
              clear hgo HA HEQ
              by_cases hji : j = i
              · have HR : As (byR (bs s) = ([], true)) := ⟨by unfold byR; rw [HB.out, if_pos (by simpa using hji)]; rfl⟩
                have q2 : ((j : Int) == (i : Int)) = true := by rw [beq_iff_eq]; omega
                clear HB HE
                rcases hways with h | ⟨h, q⟩
                all_goals
                  clear hji
                  go_wp2
                  go_ret2
                  rw [HR.out]
                  exact ⟨rfl, HB1.out⟩
              · have HR : As (byR (bs s) = ((bs s).drop j, true)) := ⟨by unfold byR; rw [HB.out, if_neg (by simpa using hji), ← HE.out]; rfl⟩
                have q2 : ((j : Int) == (i : Int)) = false := by rw [beq_eq_false_iff_ne]; omega
                clear HB HE
                rcases hways with h | ⟨h, q⟩
                all_goals
                  clear hji
                  go_wp2
                  go_ret2
                  rw [HR.out, slice_from s j hj]
                  exact ⟨rfl, HB1.out⟩
      · obtain ⟨g1, g2⟩ := lit_ne (fun e => hb (htb.symm.trans e))
        unfold bearerL at g1 g2
        have HR : As (byR (bs s) = ([], false)) := ⟨by unfold byR; rw [HB.out, if_neg (by rw [beq_iff_eq]; exact hb)]; rfl⟩
        clear hb htb HB
        rcases Nat.lt_or_ge i s.size with hlt | hge
        all_goals
          go_wp2_with (first | (go_at_call 61; refine (HTOK.out hlt _).mono ?_; rintro e w' ⟨rfl, rfl⟩) | (go_at_call 60; refine (HLW.out _).mono ?_; rintro e w1 ⟨rfl, hb1⟩; have HB1 := As.mk hb1; clear hb1))
          go_ret2
          rw [HR.out]
          exact ⟨rfl, HB1.out⟩

set_option maxHeartbeats 2000000 in
set_option maxRecDepth 100000 in
theorem refForm_c2 (q : Rq) (R : Option Addr) (c : Nat) (w : World) (hq : RB q) (hr : kP.C w R q.l.length q.l) :
    Calls Tryd.prog 28 #[.agg (rqC q R c)] w fun e w' => e = .returned (.bool (hasForm q)) ∧ Below w.heap.size w w' := by
  have HQ := As.mk hq
  have HB : As (Below w.heap.size w (w.alloc (.cells (rqC q R c) 32))) := ⟨below_alloc (Below.refl _ _) _⟩
  have HR : As (kP.C (w.alloc (.cells (rqC q R c) 32)) R q.l.length q.l) := ⟨Kd.C_below hr HB.out⟩
  have hctl : low (bs ⟨#[67, 111, 110, 116, 101, 110, 116, 45, 84, 121, 112, 101]⟩) = ctL := by decide
  have HL : As (∀ w, kP.C w R q.l.length q.l → Calls Tryd.prog 31 #[.slice R q.l.length c, .string ⟨#[67, 111, 110, 116, 101, 110, 116, 45, 84, 121, 112, 101]⟩] w fun e w' => e = .returned (.tuple #[.string (lookV ctL q.l), .int .i64 (lookN ctL q.l)]) ∧ Below w.heap.size w w') := ⟨fun w hr => by
    have := refLookup_c R c q.l ⟨#[67, 111, 110, 116, 101, 110, 116, 45, 84, 121, 112, 101]⟩ w hr (by decide) (by have := HQ.out.l; omega) (fun i h => by have := HQ.out.f0 i h; omega)
    rw [hctl] at this
    exact this⟩
  clear hctl hr hq
  unfold rqC at *
  by_cases hm : bs q.m = postL
  · obtain ⟨g1, g2⟩ := lit_eq hm
    unfold postL at g1 g2
    go_enter Tryd.func28, Tryd.ntmps28
    go_wp2_with fail
    generalize w.alloc (.cells #[.string q.m, .string q.t, .int .i64 q.k, .slice R q.l.length c, .string q.b, .bool q.cl] 32) = w0 at *
    refine (HL.out w0 HR.out).mono ?_
    rintro e w1 ⟨rfl, hb1⟩
    have HB1 := As.mk (below_nx HB.out hb1)
    clear hb1 HB HL HR
    have hlv := lookV_size (nm := ctL) HQ.out.f1
    by_cases hn : lookN ctL q.l = 1
    · have q1 : ((lookN ctL q.l : Int) != 1) = false := by rw [hn]; rfl
      have HF : As (hasForm q = (mediaS (bs (lookV ctL q.l)) == some formL)) := ⟨by
        unfold hasForm
        rw [beq_iff_eq.2 hm, beq_iff_eq.2 hn]; rfl⟩
      clear hm hn
      generalize lookV ctL q.l = v at *
      go_wp2_with fail
      refine (refMedia_c v _ (by omega)).mono ?_
      rintro e w2 ⟨hy, hn, hb2⟩
      have HB2 := As.mk (below_nx HB1.out hb2)
      clear hb2 HB1
      cases hmed : mediaS (bs v) with
      | none =>
        have HN : As (hasForm q = false) := ⟨by rw [HF.out, hmed]; rfl⟩
        rw [hn hmed]
        clear hy hn hmed
        go_wp2
        go_ret
        exact ⟨ret_bool HN.out.symm, HB2.out⟩
      | some l =>
        rw [hy l hmed]
        obtain ⟨t, ht⟩ : ∃ t, t = sb l := ⟨_, rfl⟩
        rw [← ht]
        have htb : bs t = l := by rw [ht, bs_sb]
        by_cases hl : l = formL
        · obtain ⟨k1, k2⟩ := lit_eq (htb.trans hl)
          unfold formL at k1 k2
          have HN : As (hasForm q = true) := ⟨by rw [HF.out, hmed, hl]; simp⟩
          clear hy hn hmed ht htb hl
          go_wp2
          go_ret
          exact ⟨ret_bool HN.out.symm, HB2.out⟩
        · obtain ⟨k1, k2⟩ := lit_ne (fun e => hl (htb.symm.trans e))
          unfold formL at k1 k2
          have HN : As (hasForm q = false) := ⟨by
            rw [HF.out, hmed, beq_eq_false_iff_ne]
            intro h
            exact hl (Option.some.inj h)⟩
          clear hy hn hmed ht htb hl
          go_wp2
          go_ret
          exact ⟨ret_bool HN.out.symm, HB2.out⟩
    · have q1 : ((lookN ctL q.l : Int) != 1) = true := by rw [bne_iff_ne]; omega
      have HN : As (hasForm q = false) := ⟨by
        unfold hasForm
        rw [beq_eq_false_iff_ne.2 hn, Bool.and_false, Bool.false_and]⟩
      clear hm hn
      go_wp2
      go_ret
      exact ⟨ret_bool HN.out.symm, HB1.out⟩
  · obtain ⟨g1, g2⟩ := lit_ne hm
    unfold postL at g1 g2
    have HN : As (hasForm q = false) := ⟨by
      unfold hasForm
      rw [beq_eq_false_iff_ne.2 hm, Bool.false_and, Bool.false_and]⟩
    clear hm
    go_enter Tryd.func28, Tryd.ntmps28
    go_wp2
    go_ret
    exact ⟨ret_bool HN.out.symm, HB.out⟩

/-- what a form or a query shows -/
structure TQ (w : World) (o : Option (List (List UInt8 × List UInt8))) (e : Ending) (w' : World) : Prop where
  yes : ∀ ps, o = some ps → e = .returned (.tuple #[.string (getV atB (ps.map prOf)), .int .i64 (getN atB (ps.map prOf)), .int .i64 0])
  no : o = none → e = .returned (.tuple #[.string ⟨#[]⟩, .int .i64 0, .int .i64 2])
  fr : Below w.heap.size w w'
set_option maxHeartbeats 2000000 in
set_option maxRecDepth 100000 in
theorem byText_c (s : ByteArray) (w : World) (hs : s.size ≤ 1048576) :
    Calls Tryd.prog 29 #[.string s] w (TQ w (pairsS (bs s))) := by
  go_enter Tryd.func29, Tryd.ntmps29
  go_wp2_with fail
  refine (refPairs_c s _ hs).mono ?_
  rintro e w1 ⟨hy, hn, hb1⟩
  have HB1 := As.mk hb1
  cases hp : pairsS (bs s) with
  | none =>
    have HN := hid_ hp
    rcases hn hp with he | he
    all_goals
      rw [he]
      clear he
      go_wp2
      go_ret3
      exact ⟨fun ps h => absurd (HN.out.symm.trans h) (by simp), fun _ => rfl, HB1.out⟩
  | some ps =>
    have HN := hid_ hp
    obtain ⟨v, he, hpr⟩ := hy ps hp
    have hlen := (pairsS_len hp).1
    obtain ⟨A, c, rfl, hc, hr⟩ := hpr.reads
    rw [he]
    have HG : As (Calls Tryd.prog 59 #[.slice A ps.length c, .string ⟨#[97, 99, 99, 101, 115, 115, 95, 116, 111, 107, 101, 110]⟩] w1 fun e w' => e = .returned (.tuple #[.string (getV atB (ps.map prOf)), .int .i64 (getN atB (ps.map prOf))]) ∧ Below w1.heap.size w1 w') := ⟨by
      have := refGet_c A c (ps.map prOf) atB w1 hr (by rw [List.length_map]; omega)
      rw [List.length_map] at this
      exact this⟩
    clear hy hn hp hb1 he hpr hr
    go_wp2_with fail
    refine HG.out.mono ?_
    rintro e w2 ⟨rfl, hb2⟩
    have HB2 := As.mk (below_nx HB1.out hb2)
    clear hb2
    go_wp2
    go_ret3
    exact ⟨fun ps' h => by obtain rfl : ps = ps' := Option.some.inj (HN.out.symm.trans h); rfl, fun h => absurd (HN.out.symm.trans h) (by simp), HB2.out⟩
end Go.Proofs.YtegeijlookpgaaaDoor
