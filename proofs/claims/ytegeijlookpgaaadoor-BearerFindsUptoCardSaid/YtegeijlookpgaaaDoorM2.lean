/- What bearer.byField and bearer.tokenText compute. -/
import Derived.Test.YtegeijlookpgaaaDoorM1
import Derived.Lib.IndexAny
import Derived.Laws.DeepStrings4
import Derived.WalkMore
set_option linter.unusedVariables false
set_option linter.unusedSimpArgs false
namespace Go.Proofs.YtegeijlookpgaaaDoor
open Go.RowKit Go.Proofs.YtegeijlookpgaaaDoorW.PrintWords

/-- what an Authorization field shows -/
def byF (l : List UInt8) : List UInt8 × Nat :=
  if low (l.takeWhile tokB) == bearerL then
    (if (l.dropWhile tokB).dropWhile (· == 32) == l.dropWhile tokB then ([], 1) else ((l.dropWhile tokB).dropWhile (· == 32), 1)) else ([], 0)
theorem one_tok (s : ByteArray) (i : Nat) (h : i < s.size) : tokenB (s.extract i (i + 1)) = tokB s[i] := by
  have hb : bs (s.extract i (i + 1)) = [s[i]] := by
    rw [extract_sb, bs_sb, drop_bs s i h]
    rw [show i + 1 - i = 1 by omega]; rfl
  unfold tokenB
  rw [hb]; simp
theorem slice_nat (s : ByteArray) (i j : Nat) (ij : Int) (hj : ij = j) (h1 : i ≤ j) (h2 : j ≤ s.size) (w : World) :
    (Instr.slice 9 (.string s) (some (.int .i64 (i : Int))) (some (.int .i64 ij)) none).run Tryd.prog w = .ok (.string (s.extract i j)) w := by
  subst hj
  rw [run_slice_string_if w 9 s .i64 .i64 i j Tryd.underlying9, if_pos ⟨by omega, by omega⟩, if_pos ⟨by omega, by omega⟩]
  rfl
theorem ext_size (s : ByteArray) (i j : Nat) (h : j ≤ s.size) : (s.extract i j).size = j - i := by
  simp; omega

set_option maxHeartbeats 1000000 in
set_option maxRecDepth 100000 in
theorem byField_c (s : ByteArray) (w : World) (hT : KT w) (hs : s.size ≤ 1099511627776) :
    Calls Tryd.prog 25 #[.string s] w fun e w' => e = .returned (.tuple #[.string (sb (byF (bs s)).1), .int .i64 (byF (bs s)).2]) ∧ w' = w := by
  have HT := As.mk hT
  clear hT
  go_enter Tryd.func25, Tryd.ntmps25
  go_wp2
  go_loop [4] (fun v => ∃ i : Nat, v = .int .i64 i ∧ i ≤ s.size ∧ As (((bs s).drop i).dropWhile tokB = (bs s).dropWhile tokB)) (fun v => s.size - (intOf v).toNat)
  case atStart => exact ⟨0, rfl, Nat.zero_le _, ⟨rfl⟩⟩
  case round =>
    obtain ⟨i, rfl, hi, HA⟩ := hrel
    have HOUT : As (((bs s).drop i = (bs s).dropWhile tokB) → (bs s).takeWhile tokB = bs (s.extract 0 i) ∧ (bs s).dropWhile tokB = bs (s.extract i s.size)) := ⟨fun h => by
      have h1 := take_run (l := bs s) (p := tokB) (i := 0) (j := i) (Nat.zero_le _) (by rw [bs_size]; exact hi) h
      refine ⟨by rw [extract_sb, bs_sb]; exact h1.symm, ?_⟩
      rw [extract_sb, bs_sb, ← h, List.take_of_length_le (by rw [List.length_drop, bs_size]; omega)]⟩
    by_cases hgo : ∃ h : i < s.size, tokB s[i] = true
    · obtain ⟨hlt, hp⟩ := hgo
      have HN : As (((bs s).drop (i + 1)).dropWhile tokB = (bs s).dropWhile tokB) := ⟨by rw [← HA.out, drop_bs s i hlt, List.dropWhile_cons, hp]; rfl⟩
      have HP := hid_ ((one_tok s i hlt).trans hp)
      have hz := ext_size s i (i + 1) hlt
      have hz2 : (s.extract i (i + 1)).size ≤ 1099511627776 := by omega
      clear hz hp HOUT
      have hsl := slice_nat s i (i + 1) ((i : Int) + 1) (by omega) (by omega) hlt
      go_wp2_with (go_at_call 52; refine (Token_c (s.extract i (i + 1)) _ HT.out hz2).mono ?_; rintro e w' ⟨rfl, rfl⟩; rw [HP.out])
      go_round
      case rel => exact ⟨i + 1, by go_num, by omega, HN⟩
      case measure => simp [intOf]; omega
    · have HE : As ((bs s).drop i = (bs s).dropWhile tokB) := ⟨by
        rw [← HA.out]
        rcases Nat.lt_or_ge i s.size with h | h
        · have hp : tokB s[i] = false := by
            cases hh : tokB s[i]
            · rfl
            · exact absurd ⟨h, hh⟩ hgo
          rw [drop_bs s i h, List.dropWhile_cons, hp]; rfl
        · rw [List.drop_of_length_le (by rw [bs_size]; exact h)]; rfl⟩
      obtain ⟨h1, h2⟩ := HOUT.out HE.out
      have hz1 : (s.extract 0 i).size ≤ 1099511627776 := by rw [ext_size s 0 i hi]; omega
      have HB : As (byF (bs s) = if isBearer (s.extract 0 i) then (if (bs (s.extract i s.size)).dropWhile (· == 32) == bs (s.extract i s.size) then ([], 1) else ((bs (s.extract i s.size)).dropWhile (· == 32), 1)) else ([], 0)) := ⟨by
        unfold byF isBearer
        rw [h1, h2]⟩
      clear h1 h2 HE HA HOUT
      have HTOK : As (∀ (h : i < s.size) (w : World), KT w → Calls Tryd.prog 52 #[.string (s.extract i (i + 1))] w fun e w' => e = .returned (.bool false) ∧ w' = w) := ⟨fun h w hT => by
        have hp : tokB s[i] = false := by
          cases hh : tokB s[i]
          · rfl
          · exact absurd ⟨h, hh⟩ hgo
        have hz2 : (s.extract i (i + 1)).size ≤ 1099511627776 := by rw [ext_size s i (i + 1) h]; omega
        have := Token_c (s.extract i (i + 1)) w hT hz2
        rw [one_tok s i h, hp] at this
        exact this⟩
      clear hgo
      obtain ⟨t, ht⟩ : ∃ t, t = sb (Lib.trimLeftB (bs (s.extract i s.size)) 32) := ⟨_, rfl⟩
      have HTL : As (∀ w, Calls Tryd.prog 54 #[.string (s.extract i s.size), .string ⟨#[32]⟩] w fun e w' => e = .returned (.string t) ∧ w' = w) := ⟨fun w => by subst ht; exact Tryd.strings_TrimLeft_one (s.extract i s.size) 32 (by decide) w⟩
      have HTB : As ((bs (s.extract i s.size)).dropWhile (· == 32) = bs t) := ⟨by rw [ht, bs_sb]; rfl⟩
      clear ht
      have hle : i ≤ s.size := hi
      have HNM : As (∀ w, Calls Tryd.prog 53 #[.string (s.extract 0 i)] w fun e w' => e = .returned (.bool (isBearer (s.extract 0 i))) ∧ w' = w) := ⟨fun w => named_c (s.extract 0 i) w hz1⟩
      rw [HTB.out] at HB
      cases hb : isBearer (s.extract 0 i) with
      | false =>
        have HR : As (byF (bs s) = ([], 0)) := ⟨by rw [HB.out, hb]; rfl⟩
        rw [hb] at HNM
        clear hb HTL HB
        rcases Nat.lt_or_ge i s.size with hlt | hge
        · have hsl := slice_nat s i (i + 1) ((i : Int) + 1) (by omega) (by omega) hlt
          go_wp2_with (first | (go_at_call 52; refine (HTOK.out hlt _ HT.out).mono ?_; rintro e w' ⟨rfl, rfl⟩) | (go_at_call 53; refine (HNM.out _).mono ?_; rintro e w' ⟨rfl, rfl⟩))
          go_ret2
          rw [HR.out]
          exact ⟨rfl, rfl⟩
        · go_wp2_with (go_at_call 53; refine (HNM.out _).mono ?_; rintro e w' ⟨rfl, rfl⟩)
          go_ret2
          rw [HR.out]
          exact ⟨rfl, rfl⟩
      | true =>
        rw [hb] at HNM
        by_cases hq : bs t = bs (s.extract i s.size)
        · have HR : As (byF (bs s) = ([], 1)) := ⟨by rw [HB.out, hb, if_pos rfl, if_pos (by rw [beq_iff_eq]; exact hq)]⟩
          obtain ⟨g1, g2⟩ := str_eq hq
          clear hq hb HB
          rcases Nat.lt_or_ge i s.size with hlt | hge
          · have hsl := slice_nat s i (i + 1) ((i : Int) + 1) (by omega) (by omega) hlt
            go_wp2_with (first | (go_at_call 52; refine (HTOK.out hlt _ HT.out).mono ?_; rintro e w' ⟨rfl, rfl⟩) | (go_at_call 53; refine (HNM.out _).mono ?_; rintro e w' ⟨rfl, rfl⟩) | (go_at_call 54; refine (HTL.out _).mono ?_; rintro e w' ⟨rfl, rfl⟩))
            go_ret2
            rw [HR.out]
            exact ⟨rfl, rfl⟩
          · go_wp2_with (first | (go_at_call 53; refine (HNM.out _).mono ?_; rintro e w' ⟨rfl, rfl⟩) | (go_at_call 54; refine (HTL.out _).mono ?_; rintro e w' ⟨rfl, rfl⟩))
            go_ret2
            rw [HR.out]
            exact ⟨rfl, rfl⟩
        · have HR : As (byF (bs s) = (bs t, 1)) := ⟨by rw [HB.out, hb, if_pos rfl, if_neg (by rw [beq_iff_eq]; exact hq)]⟩
          obtain ⟨g1, g2⟩ := str_ne hq
          clear hq hb HB
          rcases Nat.lt_or_ge i s.size with hlt | hge
          · have hsl := slice_nat s i (i + 1) ((i : Int) + 1) (by omega) (by omega) hlt
            go_wp2_with (first | (go_at_call 52; refine (HTOK.out hlt _ HT.out).mono ?_; rintro e w' ⟨rfl, rfl⟩) | (go_at_call 53; refine (HNM.out _).mono ?_; rintro e w' ⟨rfl, rfl⟩) | (go_at_call 54; refine (HTL.out _).mono ?_; rintro e w' ⟨rfl, rfl⟩))
            go_ret2
            rw [HR.out, sb_bs]
            exact ⟨rfl, rfl⟩
          · go_wp2_with (first | (go_at_call 53; refine (HNM.out _).mono ?_; rintro e w' ⟨rfl, rfl⟩) | (go_at_call 54; refine (HTL.out _).mono ?_; rintro e w' ⟨rfl, rfl⟩))
            go_ret2
            rw [HR.out, sb_bs]
            exact ⟨rfl, rfl⟩

theorem take_all_ok (l : List UInt8) (n i : Nat) (hi : i < n) (hn : n ≤ l.length) : (l.take n).drop i = l[i] :: (l.take n).drop (i + 1) := by
  rw [List.drop_eq_getElem_cons (by rw [List.length_take]; omega)]
  rw [List.getElem_take]
theorem more_ib (c : UInt8) : decide (0 ≤ Lib.indexByte [45, 46, 95, 126, 43, 47] c) = moreL.contains c := (Lib.contains_iff_indexByte moreL c).symm
theorem alnum_iff (c : UInt8) : alnum c = true ↔ (65 ≤ c.toNat ∧ c.toNat ≤ 90) ∨ (97 ≤ c.toNat ∧ c.toNat ≤ 122) ∨ (48 ≤ c.toNat ∧ c.toNat ≤ 57) := by
  unfold alnum
  simp only [Bool.or_eq_true, Bool.and_eq_true, decide_eq_true_eq, UInt8.le_iff_toNat_le]
  constructor
  · rintro ((h | h) | h)
    · exact .inl h
    · exact .inr (.inl h)
    · exact .inr (.inr h)
  · rintro (h | h | h)
    · exact .inl (.inl h)
    · exact .inl (.inr h)
    · exact .inr h

set_option maxHeartbeats 2000000 in
set_option maxRecDepth 100000 in
theorem tokenText_c (s : ByteArray) (w : World) (hs : s.size ≤ 1099511627776) :
    Calls Tryd.prog 27 #[.string s] w fun e w' => e = .returned (.bool (textS (bs s))) ∧ w' = w := by
  obtain ⟨t, ht⟩ : ∃ t, t = sb (Lib.trimRightB (bs s) 61) := ⟨_, rfl⟩
  have HTR : As (∀ w, Calls Tryd.prog 55 #[.string s, .string ⟨#[61]⟩] w fun e w' => e = .returned (.string t) ∧ w' = w) := ⟨fun w => by subst ht; exact Tryd.strings_TrimRight_one s 61 (by decide) w (by omega)⟩
  have htl : t.size ≤ s.size := by rw [ht, ← bs_size, ← bs_size, bs_sb]; exact trim_le _ _
  have HTT : As (textS (bs s) = (((bs s).take t.size).all okB && !((bs s).take t.size).isEmpty)) := ⟨by
    rw [← text_prog, trim_take (bs s) 61, ht, ← bs_size, bs_sb]⟩
  clear ht
  go_enter Tryd.func27, Tryd.ntmps27
  go_wp2
  go_step3
  go_wp2_with fail
  refine (HTR.out _).mono ?_
  rintro e w' ⟨rfl, rfl⟩
  go_wp2
  go_step3
  go_wp2
  go_loop [10] (fun v => ∃ i : Nat, v = .int .i64 i ∧ i ≤ t.size ∧ As (((bs s).take t.size).all okB = (((bs s).take t.size).drop i).all okB)) (fun v => t.size - (intOf v).toNat)
  case atStart => exact ⟨0, rfl, Nat.zero_le _, ⟨rfl⟩⟩
  case round =>
    obtain ⟨i, rfl, hi, HA⟩ := hrel
    by_cases hlt : i < t.size
    · have hls : i < s.size := by omega
      have HD : As ((((bs s).take t.size).drop i).all okB = (okB s[i] && (((bs s).take t.size).drop (i + 1)).all okB)) := ⟨by
        rw [take_all_ok (bs s) t.size i hlt (by rw [bs_size]; omega), List.all_cons]; rfl⟩
      have hcl := (s[i]).toNat_lt
      have HIB : As (∀ w : World, Calls Tryd.prog 56 #[.string ⟨#[45, 46, 95, 126, 43, 47]⟩, .int .u8 (s[i].toNat : Int)] w fun e w' => e = .returned (.int .i64 (Lib.indexByte [45, 46, 95, 126, 43, 47] s[i])) ∧ w' = w) := ⟨fun w => by
        have := Tryd.strings_IndexByte ⟨#[45, 46, 95, 126, 43, 47]⟩ (s[i].toNat : Int) w
        simpa using this⟩
      have HAL := As.mk (alnum_iff s[i])
      cases hal : alnum s[i] with
      | true =>
        have HOK : As (okB s[i] = true) := ⟨by unfold okB; rw [hal]; rfl⟩
        rw [HOK.out, Bool.true_and] at HD
        have hw : (97 ≤ (s[i].toNat : Int) ∧ (s[i].toNat : Int) ≤ 122) ∨ ((s[i].toNat : Int) < 97 ∧ 65 ≤ (s[i].toNat : Int) ∧ (s[i].toNat : Int) ≤ 90) ∨ ((s[i].toNat : Int) < 97 ∧ (s[i].toNat : Int) < 65 ∧ 48 ≤ (s[i].toNat : Int) ∧ (s[i].toNat : Int) ≤ 57) := by
          have := HAL.out.1 hal
          omega
        clear hal HAL HIB
        rcases hw with ⟨h1, h2⟩ | ⟨h1, h2, h3⟩ | ⟨h1, h2, h3, h4⟩
        all_goals
          go_wp2
          exact ⟨⟨i + 1, by go_num, by omega, ⟨by rw [HA.out, HD.out]⟩⟩, by simp [intOf]; omega⟩
      | false =>
        have hw : (122 < (s[i].toNat : Int) ∧ 97 ≤ (s[i].toNat : Int) ∧ 65 ≤ (s[i].toNat : Int) ∧ 90 < (s[i].toNat : Int) ∧ 48 ≤ (s[i].toNat : Int) ∧ 57 < (s[i].toNat : Int))
          ∨ ((s[i].toNat : Int) < 97 ∧ 65 ≤ (s[i].toNat : Int) ∧ 90 < (s[i].toNat : Int) ∧ 48 ≤ (s[i].toNat : Int) ∧ 57 < (s[i].toNat : Int))
          ∨ ((s[i].toNat : Int) < 97 ∧ (s[i].toNat : Int) < 65 ∧ 48 ≤ (s[i].toNat : Int) ∧ 57 < (s[i].toNat : Int))
          ∨ ((s[i].toNat : Int) < 97 ∧ (s[i].toNat : Int) < 65 ∧ (s[i].toNat : Int) < 48) := by
          have h0 : ¬ ((65 ≤ s[i].toNat ∧ s[i].toNat ≤ 90) ∨ (97 ≤ s[i].toNat ∧ s[i].toNat ≤ 122) ∨ (48 ≤ s[i].toNat ∧ s[i].toNat ≤ 57)) := fun h => by rw [HAL.out.2 h] at hal; cases hal
          omega
        have HMO : As (okB s[i] = decide (0 ≤ Lib.indexByte [45, 46, 95, 126, 43, 47] s[i])) := ⟨by unfold okB; rw [hal, more_ib]; rfl⟩
        clear hal HAL
        generalize Lib.indexByte [45, 46, 95, 126, 43, 47] s[i] = ib at *
        by_cases hib : 0 ≤ ib
        · have HOK : As (okB s[i] = true) := ⟨by rw [HMO.out]; simpa using hib⟩
          rw [HOK.out, Bool.true_and] at HD
          rcases hw with ⟨h1, h2, h3, h4, h5, h6⟩ | ⟨h1, h2, h3, h4, h5⟩ | ⟨h1, h2, h3, h4⟩ | ⟨h1, h2, h3⟩
          all_goals
            go_wp2_with fail
            refine (HIB.out _).mono ?_
            rintro e w' ⟨rfl, rfl⟩
            go_wp2
            exact ⟨⟨i + 1, by go_num, by omega, ⟨by rw [HA.out, HD.out]⟩⟩, by simp [intOf]; omega⟩
        · have HOK : As (okB s[i] = false) := ⟨by rw [HMO.out]; simpa using hib⟩
          rw [HOK.out, Bool.false_and] at HD
          have hib2 : ib < 0 := by omega
          rcases hw with ⟨h1, h2, h3, h4, h5, h6⟩ | ⟨h1, h2, h3, h4, h5⟩ | ⟨h1, h2, h3, h4⟩ | ⟨h1, h2, h3⟩
          all_goals
            go_wp2_with fail
            refine (HIB.out _).mono ?_
            rintro e w' ⟨rfl, rfl⟩
            go_wp2
            rw [Exit.noGoto_ret]
            go_ret
            exact ⟨ret_bool (by rw [HTT.out, HA.out, HD.out]; rfl), rfl⟩
    · have HF : As (textS (bs s) = decide ((0 : Int) < (t.size : Int))) := ⟨by
        rw [HTT.out, HA.out, List.drop_of_length_le (by rw [List.length_take]; omega)]
        by_cases h0 : t.size = 0
        · rw [h0]; rfl
        · have h1 : ((bs s).take t.size) ≠ [] := by
            intro e
            have := congrArg List.length e
            rw [List.length_take, bs_size, List.length_nil] at this
            omega
          have h2 : ((bs s).take t.size).isEmpty = false := by simpa using h1
          rw [h2]
          have h3 : (0 : Int) < (t.size : Int) := by omega
          simp [h3]
          omega⟩
      go_wp2
      try rw [Exit.noGoto_ret]
      go_ret
      exact ⟨ret_bool (by rw [HF.out]; simp), rfl⟩
end Go.Proofs.YtegeijlookpgaaaDoor
