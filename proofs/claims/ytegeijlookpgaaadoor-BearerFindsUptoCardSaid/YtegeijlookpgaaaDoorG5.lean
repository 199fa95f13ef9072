/- What the reference's HexValue, Unescape, find and Split compute. -/
import Derived.Test.YtegeijlookpgaaaDoorG2
set_option linter.unusedVariables false
set_option linter.unusedSimpArgs false
namespace Go.Proofs.YtegeijlookpgaaaDoor
open Go.RowKit Go.Proofs.YtegeijlookpgaaaDoorW.PrintWords

def hexI (c : UInt8) : Int := if hexV c ≤ 15 then (hexV c : Int) else -1
theorem hexI_eq (c : UInt8) : hexI c = if 48 ≤ c.toNat ∧ c.toNat ≤ 57 then (c.toNat : Int) - 48 else if 65 ≤ c.toNat ∧ c.toNat ≤ 70 then (c.toNat : Int) - 55 else if 97 ≤ c.toNat ∧ c.toNat ≤ 102 then (c.toNat : Int) - 87 else -1 := by
  unfold hexI hexV
  by_cases h1 : 48 ≤ c.toNat ∧ c.toNat ≤ 57
  · rw [if_pos h1, if_pos h1, if_pos (by omega)]; omega
  · by_cases h2 : 65 ≤ c.toNat ∧ c.toNat ≤ 70
    · rw [if_neg h1, if_neg h1, if_pos h2, if_pos h2, if_pos (by omega)]; omega
    · by_cases h3 : 97 ≤ c.toNat ∧ c.toNat ≤ 102
      · rw [if_neg h1, if_neg h1, if_neg h2, if_neg h2, if_pos h3, if_pos h3, if_pos (by omega)]; omega
      · rw [if_neg h1, if_neg h1, if_neg h2, if_neg h2, if_neg h3, if_neg h3, if_neg (by omega)]
set_option maxHeartbeats 1000000 in
set_option maxRecDepth 100000 in
theorem HexValue_c (c : UInt8) (w : World) : Calls Tryd.prog 126 #[.int .u8 c.toNat] w fun e w' => e = .returned (.int .i64 (hexI c)) ∧ w' = w := by
  have hc := c.toNat_lt
  have HX := As.mk (hexI_eq c)
  go_enter Tryd.func126, Tryd.ntmps126
  go_wp2
  all_goals
    go_ret
    refine ⟨ret_int ?_, rfl⟩
    show _ = hexI c
    rw [HX.out]
    try simp only [decide_eq_true_eq, decide_eq_false_iff_not, Bool.and_eq_true, Bool.and_eq_false_iff] at *
    split <;> (try split) <;> (try split) <;> (try simp) <;> omega
/-- a text, or the number 2 -/
structure UR (w : World) (o : Option (List UInt8)) (e : Ending) (w' : World) : Prop where
  yes : ∀ l, o = some l → e = .returned (.tuple #[.string (sb l), .int .i64 0])
  no : o = none → e = .returned (.tuple #[.string ⟨#[]⟩, .int .i64 2])
  fr : Below w.heap.size w w'
theorem UR.none_ {w w' : World} {o : Option (List UInt8)} {e : Ending} (h : o = none) (he : e = .returned (.tuple #[.string ⟨#[]⟩, .int .i64 2])) (hb : Below w.heap.size w w') : UR w o e w' :=
  ⟨fun r h' => absurd (h.symm.trans h') (by simp), fun _ => he, hb⟩
theorem esc_byte2 (a b : UInt8) (ha : hexV a ≤ 15) (hb : hexV b ≤ 15) : IntKind.u8.wrap (16 * (hexV a : Int) + (hexV b : Int)) = ((UInt8.ofNat (16 * hexV a + hexV b)).toNat : Int) := by
  have h : ∀ x y : Fin 16, IntKind.u8.wrap (16 * (x.val : Int) + (y.val : Int)) = ((UInt8.ofNat (16 * x.val + y.val)).toNat : Int) := by decide +kernel
  exact h ⟨hexV a, by omega⟩ ⟨hexV b, by omega⟩

theorem esc_byte3 (a b : UInt8) (ha : hexV a ≤ 15) (hb : hexV b ≤ 15) : (16 * (hexV a : Int) + (hexV b : Int)) = ((UInt8.ofNat (16 * hexV a + hexV b)).toNat : Int) := by
  have h : ∀ x y : Fin 16, (16 * (x.val : Int) + (y.val : Int)) = ((UInt8.ofNat (16 * x.val + y.val)).toNat : Int) := by decide +kernel
  exact h ⟨hexV a, by omega⟩ ⟨hexV b, by omega⟩

set_option maxHeartbeats 2000000 in
set_option maxRecDepth 100000 in
theorem refUnescape_c (s : ByteArray) (plus : Bool) (w : World) (hs : s.size ≤ 1099511627776) :
    Calls Tryd.prog 114 #[.string s, .bool plus] w (UR w (unesc plus (bs s))) := by
  go_enter Tryd.func114, Tryd.ntmps114
  go_wp2
  go_loopw [6, 7] (fun c6 c7 wr => ∃ (i : Nat) (acc : List UInt8), c7 = .int .i64 i ∧ i ≤ s.size ∧ acc.length ≤ i ∧ As (BR w.heap.size c6 acc wr) ∧ As ((unesc plus ((bs s).drop i)).map (acc ++ ·) = unesc plus (bs s)) ∧ As (Below w.heap.size w wr)) (fun _ v _ => s.size - (intOf v).toNat)
  case atStart => exact ⟨0, [], rfl, Nat.zero_le _, Nat.zero_le _, ⟨BR.nil _ _⟩, ⟨by simp⟩, ⟨Below.refl _ _⟩⟩
  case round =>
    obtain ⟨i, acc, rfl, hi, hacc, HO, HU, HW⟩ := hrel
    have HLL : As (acc.length + 1 ≤ 140737488355328 ∧ w.heap.size ≤ wr.heap.size) := ⟨by omega, HW.out.size⟩
    cases hd : (bs s).drop i with
    | nil =>
      have hle := drop_nil hd
      have hdd : ¬ i < s.size := by omega
      have HN : As (unesc plus (bs s) = some acc) := ⟨by rw [← HU.out, hd, unesc_nil]; simp⟩
      clear hd
      go_wp2_with (refine byte_str w.heap.size rfl _ rfl u6 acc rfl HO.out ?_)
      go_ret2
      exact ⟨fun l hl => by rw [Option.some.inj (hl.symm.trans HN.out)]; rfl, fun hn => absurd (HN.out.symm.trans hn) (by simp), HW.out⟩
    | cons c r =>
      obtain ⟨hlt, hc, hr⟩ := drop_cons hd
      have HR := hid_ hr
      have HU2 : As ((unesc plus (s[i] :: r)).map (acc ++ ·) = unesc plus (bs s)) := ⟨by rw [← HU.out, hd, hc]⟩
      have hcl := (s[i]).toNat_lt
      clear hd hr HU hc
      by_cases h37 : s[i] = 37
      · have q37 : ((s[i].toNat : Int) == 37) = true := by rw [h37]; rfl
        by_cases h2 : i + 2 < s.size
        · obtain ⟨r', hrr⟩ : ∃ r', r = s[i + 1] :: s[i + 2] :: r' ∧ (bs s).drop (i + 2 + 1) = r' := ⟨_, by rw [← HR.out, drop_bs s (i + 1) (by omega), drop_bs s (i + 1 + 1) h2], rfl⟩
          obtain ⟨rfl, hr3⟩ := hrr
          have HR3 := hid_ hr3
          have k1 : (0 : Int) ≤ (i : Int) + 1 := by omega
          have k2 : (i : Int) + 1 < (s.size : Int) := by omega
          have k3 : (0 : Int) ≤ (i : Int) + 2 := by omega
          have k4 : (i : Int) + 2 < (s.size : Int) := by omega
          have k7 : ((i : Int) + 1).toNat = i + 1 := by omega
          have k8 : ((i : Int) + 2).toNat = i + 2 := by omega
          have HQ : As (unesc plus (bs s) = if hexV s[i + 1] ≤ 15 ∧ hexV s[i + 2] ≤ 15 then ((unesc plus r').map (UInt8.ofNat (16 * hexV s[i + 1] + hexV s[i + 2]) :: ·)).map (acc ++ ·) else none) := ⟨by
            rw [← HU2.out, h37, unesc_pct]
            split <;> rfl⟩
          clear hr3 HU2
          by_cases ha : hexV s[i + 1] ≤ 15
          · have HA : Hid (hexI s[i + 1] = (hexV s[i + 1] : Int)) := hid_ (if_pos ha)
            have HV1 := As.mk (fun w => HexValue_c s[i + 1] w)
            rw [HA.out] at HV1
            have ha0 : (0 : Int) ≤ (hexV s[i + 1] : Int) := by omega
            have ha1 : (hexV s[i + 1] : Int) ≤ 15 := by omega
            by_cases hb : hexV s[i + 2] ≤ 15
            · have HB : Hid (hexI s[i + 2] = (hexV s[i + 2] : Int)) := hid_ (if_pos hb)
              have HV2 := As.mk (fun w => HexValue_c s[i + 2] w)
              rw [HB.out] at HV2
              have hb0 : (0 : Int) ≤ (hexV s[i + 2] : Int) := by omega
              have hb1 : (hexV s[i + 2] : Int) ≤ 15 := by omega
              have HN := hid_ (HQ.out.trans (if_pos ⟨ha, hb⟩))
              have HY := hid_ (esc_byte2 _ _ ha hb)
              have HY2 := hid_ (esc_byte3 _ _ ha hb)
              clear HQ
              go_wp2_with fail
              refine (HV1.out _).mono ?_
              rintro e w' ⟨rfl, rfl⟩
              go_wp2_with fail
              refine (HV2.out _).mono ?_
              rintro e w' ⟨rfl, rfl⟩
              go_wp2_with (at_builtin; refine byte_app w.heap.size rfl _ _ rfl u6 acc [UInt8.ofNat (16 * hexV s[i + 1] + hexV s[i + 2])] 1 rfl rfl rfl _ (by first | exact congrArg (fun x : Int => #[Value.int .u8 x]) HY.out | exact congrArg (fun x : Int => #[Value.int .u8 x]) HY2.out) HO.out HLL.out.2 HLL.out.1 ?_; intro v1 w5 hbr hg; have HO5 := As.mk hbr; have HW5 : As (Below w.heap.size w w5) := ⟨grown_below HO.out hg HW.out (Nat.le_refl _)⟩; clear hbr hg HO HW)
              exact ⟨⟨i + 2 + 1, _, by go_num, by omega, by simp only [List.length_append, List.length_cons, List.length_nil]; omega, HO5, ⟨by rw [HN.out, HR3.out, map_app]⟩, HW5⟩, by simp [intOf]; omega⟩
            · have HB : Hid (hexI s[i + 2] = -1) := hid_ (if_neg hb)
              have HV2 := As.mk (fun w => HexValue_c s[i + 2] w)
              rw [HB.out] at HV2
              have HN := hid_ (HQ.out.trans (if_neg (fun h => hb h.2)))
              clear HQ
              go_wp2_with fail
              refine (HV1.out _).mono ?_
              rintro e w' ⟨rfl, rfl⟩
              go_wp2_with fail
              refine (HV2.out _).mono ?_
              rintro e w' ⟨rfl, rfl⟩
              go_wp2
              go_ret2
              exact UR.none_ HN.out rfl HW.out
          · have HA : Hid (hexI s[i + 1] = -1) := hid_ (if_neg ha)
            have HV1 := As.mk (fun w => HexValue_c s[i + 1] w)
            have HV2 := As.mk (fun w => HexValue_c s[i + 2] w)
            rw [HA.out] at HV1
            have HN := hid_ (HQ.out.trans (if_neg (fun h => ha h.1)))
            generalize hexI s[i + 2] = y at *
            clear HQ
            go_wp2_with fail
            refine (HV1.out _).mono ?_
            rintro e w' ⟨rfl, rfl⟩
            go_wp2_with fail
            refine (HV2.out _).mono ?_
            rintro e w' ⟨rfl, rfl⟩
            go_wp2
            go_ret2
            exact UR.none_ HN.out rfl HW.out
        · have k1 : (s.size : Int) ≤ (i : Int) + 2 := by omega
          have HN : As (unesc plus (bs s) = none) := ⟨by
            have hl := congrArg List.length HR.out
            rw [List.length_drop, bs_size] at hl
            rw [← HU2.out, h37]
            match r, hl with
            | [], _ => rw [unesc_pct0]; rfl
            | [a], _ => rw [unesc_pct1]; rfl
            | a :: b :: r', hl => simp only [List.length_cons] at hl; omega⟩
          clear HU2
          go_wp2
          go_ret2
          exact UR.none_ HN.out rfl HW.out
      · have q37 : ((s[i].toNat : Int) == 37) = false := by
          rw [beq_eq_false_iff_ne]
          intro h
          exact h37 (UInt8.toNat_inj.1 (by show s[i].toNat = 37; omega))
        by_cases hp : s[i] = 43 ∧ plus = true
        · have HN : As ((unesc plus r).map ((acc ++ [32]) ++ ·) = unesc plus (bs s)) := ⟨by
            rw [← HU2.out, ← map_app, hp.1, hp.2, unesc_plus]⟩
          have q43 : ((s[i].toNat : Int) == 43) = true := by rw [hp.1]; rfl
          have c1 : (33 : Int) ≤ (s[i].toNat : Int) := by rw [hp.1]; decide
          have c2 : (s[i].toNat : Int) ≤ 126 := by rw [hp.1]; decide
          obtain rfl : plus = true := hp.2
          clear hp h37 HU2
          go_wp2_with (at_builtin; refine byte_app w.heap.size rfl _ _ rfl u6 acc [32] 1 rfl rfl rfl _ rfl HO.out HLL.out.2 HLL.out.1 ?_; intro v1 w5 hbr hg; have HO5 := As.mk hbr; have HW5 : As (Below w.heap.size w w5) := ⟨grown_below HO.out hg HW.out (Nat.le_refl _)⟩; clear hbr hg HO HW)
          exact ⟨⟨i + 1, _, by go_num, by omega, by simp only [List.length_append, List.length_cons, List.length_nil]; omega, HO5, ⟨by rw [HR.out]; exact HN.out⟩, HW5⟩, by simp [intOf]; omega⟩
        · have HUC := unesc_char plus s[i] r h37 hp
          have q43 : plus = false ∨ (plus = true ∧ ((s[i].toNat : Int) == 43) = false) := by
            cases plus
            · exact .inl rfl
            · refine .inr ⟨rfl, ?_⟩
              rw [beq_eq_false_iff_ne]
              intro h
              exact hp ⟨UInt8.toNat_inj.1 (by show s[i].toNat = 43; omega), rfl⟩
          clear hp h37
          by_cases hr : 33 ≤ s[i].toNat ∧ s[i].toNat ≤ 126
          · have HN : As ((unesc plus r).map ((acc ++ [s[i]]) ++ ·) = unesc plus (bs s)) := ⟨by
              rw [← HU2.out, ← map_app, HUC, if_pos hr]⟩
            have c1 : (33 : Int) ≤ (s[i].toNat : Int) := by omega
            have c2 : (s[i].toNat : Int) ≤ 126 := by omega
            clear HUC HU2 hr
            rcases q43 with rfl | ⟨rfl, q43⟩
            all_goals
              go_wp2_with (at_builtin; refine byte_app w.heap.size rfl _ _ rfl u6 acc [s[i]] 1 rfl rfl rfl _ rfl HO.out HLL.out.2 HLL.out.1 ?_; intro v1 w5 hbr hg; have HO5 := As.mk hbr; have HW5 : As (Below w.heap.size w w5) := ⟨grown_below HO.out hg HW.out (Nat.le_refl _)⟩; clear hbr hg HO HW)
              exact ⟨⟨i + 1, _, by go_num, by omega, by simp only [List.length_append, List.length_cons, List.length_nil]; omega, HO5, ⟨by rw [HR.out]; exact HN.out⟩, HW5⟩, by simp [intOf]; omega⟩
          · have HN : As (unesc plus (bs s) = none) := ⟨by rw [← HU2.out, HUC, if_neg hr]; rfl⟩
            have c3 : (s[i].toNat : Int) < 33 ∨ (33 ≤ (s[i].toNat : Int) ∧ 126 < (s[i].toNat : Int)) := by omega
            clear HUC HU2 hr
            rcases c3 with c3 | ⟨c3, c4⟩
            all_goals
              go_wp2
              go_ret2
              exact UR.none_ HN.out rfl HW.out

/-- the place of the first c, or the end -/
structure FP (s : ByteArray) (c : UInt8) (j : Nat) : Prop where
  le : j ≤ s.size
  a : cutA c (bs s) = (bs s).take j
  b : j < s.size → cutB c (bs s) = (bs s).drop (j + 1) ∧ (bs s).contains c = true
  n : j = s.size → cutB c (bs s) = [] ∧ (bs s).contains c = false
theorem FP.hit {s : ByteArray} {c : UInt8} {j : Nat} (hj : j < s.size) (hc : s[j] = c) (hn : c ∉ (bs s).take j) : FP s c j := by
  have h1 : bs s = (bs s).take j ++ c :: (bs s).drop (j + 1) := by
    conv => lhs; rw [← List.take_append_drop j (bs s), drop_bs s j hj, hc]
  obtain ⟨e1, e2⟩ := cut_at c _ ((bs s).drop (j + 1)) hn
  rw [← h1] at e1 e2
  exact ⟨by omega, e1, fun _ => ⟨e2, by rw [h1]; simp⟩, fun h => by omega⟩
theorem FP.miss {s : ByteArray} {c : UInt8} (hn : c ∉ bs s) : FP s c s.size := by
  obtain ⟨e1, e2⟩ := cut_none c _ hn
  exact ⟨Nat.le_refl _, by rw [e1, take_all s _ (Nat.le_refl _)], fun h => by omega, fun _ => ⟨e2, by simpa using hn⟩⟩
theorem notin_snoc {s : ByteArray} {c : UInt8} {i : Nat} (h : i < s.size) (hn : c ∉ (bs s).take i) (hc : s[i] ≠ c) : c ∉ (bs s).take (i + 1) := by
  rw [take_snoc s i h]
  simp only [List.mem_append, List.mem_singleton, not_or]
  exact ⟨hn, fun e => hc e.symm⟩
set_option maxHeartbeats 1000000 in
set_option maxRecDepth 100000 in
theorem find_c (s : ByteArray) (c : UInt8) (ci : Int) (hci : ci = c.toNat) (w : World) (hs : s.size ≤ 1099511627776) :
    Calls Tryd.prog 113 #[.string s, .int .u8 ci] w fun e w' => (∃ j : Nat, e = .returned (.int .i64 j) ∧ FP s c j) ∧ w' = w := by
  subst hci
  go_enter Tryd.func113, Tryd.ntmps113
  go_wp2
  go_loop [5] (fun v => ∃ i : Nat, v = .int .i64 i ∧ i ≤ s.size ∧ As (c ∉ (bs s).take i)) (fun v => s.size - (intOf v).toNat)
  case atStart => exact ⟨0, rfl, Nat.zero_le _, ⟨by simp⟩⟩
  case round =>
    obtain ⟨i, rfl, hi, HA⟩ := hrel
    by_cases hlt : i < s.size
    · by_cases he : s[i] = c
      · obtain ⟨q1, q2⟩ := eq_t he
        have HF : As (FP s c i) := ⟨FP.hit hlt he HA.out⟩
        clear he HA
        go_wp2
        go_ret
        exact ⟨⟨i, rfl, HF.out⟩, rfl⟩
      · obtain ⟨q1, q2⟩ := eq_f he
        have HF : As (c ∉ (bs s).take (i + 1)) := ⟨notin_snoc hlt HA.out he⟩
        clear he HA
        go_wp2
        exact ⟨⟨i + 1, by go_num, by omega, HF⟩, by simp [intOf]; omega⟩
    · have HF : As (FP s c s.size) := ⟨FP.miss (by have := HA.out; rwa [take_all s i (by omega)] at this)⟩
      go_wp2
      go_ret
      exact ⟨⟨s.size, rfl, HF.out⟩, rfl⟩
theorem slice_to (s : ByteArray) (j : Nat) (h : j ≤ s.size) : s.extract 0 j = sb ((bs s).take j) := by rw [extract_sb]; rfl
theorem slice_from (s : ByteArray) (j : Nat) (h : j ≤ s.size) : s.extract j s.size = sb ((bs s).drop j) := by
  rw [extract_sb, List.take_of_length_le (by rw [List.length_drop, bs_size]; omega)]

set_option maxHeartbeats 1000000 in
set_option maxRecDepth 100000 in
theorem refSplit_c (s : ByteArray) (w : World) (hs : s.size ≤ 1099511627776) :
    Calls Tryd.prog 30 #[.string s] w fun e w' => e = .returned (.tuple #[.string (sb (cutA 63 (bs s))), .string (sb (cutB 63 (bs s))), .bool ((bs s).contains 63)]) ∧ Below w.heap.size w w' := by
  obtain ⟨ta, hta⟩ : ∃ ta, ta = sb (cutA 63 (bs s)) := ⟨_, rfl⟩
  obtain ⟨tb, htb⟩ : ∃ tb, tb = sb (cutB 63 (bs s)) := ⟨_, rfl⟩
  obtain ⟨h, hh⟩ : ∃ h, h = (bs s).contains 63 := ⟨_, rfl⟩
  have HTA := hid_ hta
  have HTB := hid_ htb
  have HH := hid_ hh
  rw [← hta, ← htb, ← hh]
  clear hta htb hh
  go_enter Tryd.func30, Tryd.ntmps30
  go_wp2
  go_loop [5] (fun v => ∃ i : Nat, v = .int .i64 i ∧ i ≤ s.size ∧ As ((63 : UInt8) ∉ (bs s).take i)) (fun v => s.size - (intOf v).toNat)
  case atStart => exact ⟨0, rfl, Nat.zero_le _, ⟨by simp⟩⟩
  case round =>
    obtain ⟨i, rfl, hi, HA⟩ := hrel
    by_cases hlt : i < s.size
    · by_cases he : s[i] = 63
      · have q1 : ((s[i].toNat : Int) == 63) = true := by rw [he]; rfl
        have HF : As (FP s 63 i) := ⟨FP.hit hlt he HA.out⟩
        have k1 : IntKind.i64.wrap ((i : Int) + 1) = (i : Int) + 1 := IntWalk.i64_in _ (by omega)
        have k2 : (0 : Int) ≤ (i : Int) + 1 := by omega
        have k3 : (i : Int) + 1 ≤ (s.size : Int) := by omega
        have k4 : ((i : Int) + 1).toNat = i + 1 := by omega
        have k5 : (i : Int) ≤ (s.size : Int) := by omega
        have k6 : (0 : Int) ≤ (i : Int) := by omega
        clear he HA
        go_wp2
        go_quiet (fail)
        go_wp2
        go_ret3
        have H1 : ta = s.extract 0 i ∧ tb = s.extract (i + 1) s.size ∧ h = true := by
          obtain ⟨e1, e2⟩ := HF.out.b hlt
          refine ⟨?_, ?_, by rw [HH.out, e2]⟩
          · rw [HTA.out, HF.out.a, slice_to s i hi]
          · rw [HTB.out, e1, slice_from s (i + 1) hlt]
        rw [H1.1, H1.2.1, H1.2.2]
        exact ⟨rfl, pw_below_drewN (Below.refl _ _) _⟩
      · have q1 : ((s[i].toNat : Int) == 63) = false := by
          rw [beq_eq_false_iff_ne]; intro e; exact he (UInt8.toNat_inj.1 (by show s[i].toNat = 63; omega))
        have HF : As ((63 : UInt8) ∉ (bs s).take (i + 1)) := ⟨notin_snoc hlt HA.out he⟩
        clear he HA
        go_wp2
        exact ⟨⟨i + 1, by go_num, by omega, HF⟩, by simp [intOf]; omega⟩
    · have HF : As (FP s 63 s.size) := ⟨FP.miss (by have := HA.out; rwa [take_all s i (by omega)] at this)⟩
      have H1 : As (ta = s ∧ tb = ⟨#[]⟩ ∧ h = false) := ⟨by
        obtain ⟨e1, e2⟩ := HF.out.n rfl
        refine ⟨?_, ?_, by rw [HH.out, e2]⟩
        · rw [HTA.out, HF.out.a, take_all s _ (Nat.le_refl _), sb_bs]
        · rw [HTB.out, e1]⟩
      obtain ⟨rfl, rfl, rfl⟩ := H1.out
      clear HF HTA HTB HH HA H1
      go_wp2
      go_ret3
      exact ⟨rfl, Below.refl _ _⟩
end Go.Proofs.YtegeijlookpgaaaDoor
