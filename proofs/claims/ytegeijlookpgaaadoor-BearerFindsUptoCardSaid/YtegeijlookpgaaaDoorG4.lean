/- What the reference's Media computes. -/
import Derived.Test.YtegeijlookpgaaaDoorG3
set_option linter.unusedVariables false
set_option linter.unusedSimpArgs false
namespace Go.Proofs.YtegeijlookpgaaaDoor
open Go.RowKit Go.Proofs.YtegeijlookpgaaaDoorW.PrintWords

/-- a media type, or the number 2 -/
structure MR (w : World) (o : Option (List UInt8)) (e : Ending) (w' : World) : Prop where
  yes : ∀ l, o = some l → e = .returned (.tuple #[.string (sb l), .int .i64 0])
  no : o = none → e = .returned (.tuple #[.string ⟨#[]⟩, .int .i64 2])
  fr : Below w.heap.size w w'
theorem MR.none_ {w w' : World} {o : Option (List UInt8)} {e : Ending} (h : o = none) (he : e = .returned (.tuple #[.string ⟨#[]⟩, .int .i64 2])) (hb : Below w.heap.size w w') : MR w o e w' :=
  ⟨fun r h' => absurd (h.symm.trans h') (by simp), fun _ => he, hb⟩
theorem lt_of_cons {s : ByteArray} {j : Nat} {c : UInt8} (h : ¬ ∃ r, (bs s).drop j = c :: r) : s.size ≤ j ∨ ∃ h : j < s.size, s[j] ≠ c := by
  rcases Nat.lt_or_ge j s.size with h1 | h1
  · exact .inr ⟨h1, fun e => h ⟨_, by rw [drop_bs s j h1, e]⟩⟩
  · exact .inl h1
theorem PS_noTok {l : List UInt8} (h1 : l ≠ []) (h2 : noTok l = true) (h3 : ∀ r, l ≠ 59 :: r) (h4 : whiteD l = l) : PS l = false :=
  PS_no h1 (fun r e => h3 r (h4.symm.trans e))
theorem whiteD_idem (l : List UInt8) : whiteD (whiteD l) = whiteD l := by
  unfold whiteD
  induction l with
  | nil => rfl
  | cons c r ih =>
    rw [List.dropWhile_cons]
    split
    · exact ih
    · rename_i h
      rw [List.dropWhile_cons, if_neg h]
/-- one time round, as the reference goes: behind the semicolon and the white either nothing, or another semicolon, or a parameter -/
theorem PS_ref {l r : List UInt8} (hne : l ≠ []) (hw : whiteD l = 59 :: r) :
    PS l = (match whiteD r with | [] => true | c :: t => if c = 59 then PS (c :: t) else match paramS (c :: t) with | none => false | some r2 => PS r2) := by
  rw [PS_step hne hw rfl]
  cases hr : whiteD r with
  | nil => rfl
  | cons c t =>
    by_cases hc : c = 59
    · subst hc
      rw [if_pos (by rfl)]; rfl
    · cases hn : noTok (c :: t) with
      | true =>
        have h2 : whiteD (c :: t) = c :: t := by rw [← hr]; exact whiteD_idem r
        have h3 : PS (c :: t) = false := PS_noTok (by simp) hn (fun r e => hc (by injection e)) h2
        have h4 := par_none hn
        simp only [hc, if_false, if_true, h3, h4]
      | false => simp only [hc, if_false]; rfl

set_option maxHeartbeats 4000000 in
set_option maxRecDepth 100000 in
theorem refMedia_c (s : ByteArray) (w : World) (hs : s.size ≤ 1099511627776) :
    Calls Tryd.prog 57 #[.string s] w (MR w (mediaS (bs s))) := by
  go_enter Tryd.func57, Tryd.ntmps57
  go_wp2_with fail
  refine (token_c s 0 0 rfl _ hs (Nat.zero_le _)).mono ?_
  rintro e w' ⟨⟨j, rfl, hat⟩, rfl⟩
  have HSM := As.mk (atEnd_same hat (Nat.zero_le _))
  obtain ⟨hij, hj, hdr⟩ := hat
  have HDR : Hid ((bs s).drop j = tokD (bs s)) := hid_ hdr
  clear hdr
  by_cases hji : j = 0
  · subst hji
    have HN : As (mediaS (bs s) = none) := ⟨med_none (by have := HSM.out; simpa using this)⟩
    clear HSM HDR
    go_wp2
    go_ret2
    exact MR.none_ HN.out rfl (Below.refl _ _)
  · have hnt : noTok (bs s) = false := by have := HSM.out; simpa [hji] using this
    have HNT := hid_ hnt
    have q0 : ((j : Int) == 0) = false := by rw [beq_eq_false_iff_ne]; omega
    clear HSM hnt
    by_cases he : ∃ r, (bs s).drop j = 47 :: r
    · obtain ⟨r, he⟩ := he
      obtain ⟨hlt, hc, hr⟩ := drop_cons he
      have HE := hid_ (HDR.out.symm.trans he)
      have HR := hid_ hr
      have q1 : ((s[j].toNat : Int) != 47) = false := by rw [hc]; rfl
      have HM := hid_ (med_step HNT.out HE.out)
      clear he hr hc hji
      go_wp2_with fail
      refine (token_c s (j + 1) _ (by omega) _ hs hlt).mono ?_
      rintro e w' ⟨⟨k, rfl, hat⟩, rfl⟩
      have hsm := atEnd_same hat hlt
      rw [HR.out] at hsm
      obtain ⟨hik, hk, hdr⟩ := hat
      have HDK : Hid ((bs s).drop k = tokD r) := hid_ (by rw [hdr, HR.out]; rfl)
      clear hdr
      by_cases hkj : k = j + 1
      · have HN : As (mediaS (bs s) = none) := ⟨by rw [HM.out, hsm, if_pos (by simp [hkj])]⟩
        have q3 : ((k : Int) == (j : Int) + 1) = true := by rw [beq_iff_eq]; omega
        clear hsm hkj
        go_wp2
        go_ret2
        exact MR.none_ HN.out rfl (Below.refl _ _)
      · have hlk : (bs s).length - (tokD r).length = k := by
          have := congrArg List.length HDK.out
          rw [List.length_drop, bs_size] at this
          rw [bs_size]; omega
        have HM2 : As (mediaS (bs s) = if PS ((bs s).drop k) then some (low ((bs s).take k)) else none) := ⟨by
          rw [HM.out, hsm, if_neg (by simp [hkj]), hlk, HDK.out]⟩
        have q3 : ((k : Int) == (j : Int) + 1) = false := by rw [beq_eq_false_iff_ne]; omega
        have hkk : 0 < k := by omega
        clear hsm hkj hlk HM HR HE HDR HNT
        go_wp2
        go_loop [6, 7] (fun v6 v7 => ∃ a n : Nat, v6 = .int .i64 a ∧ v7 = .int .i64 n ∧ n ≤ a ∧ k ≤ a ∧ a ≤ s.size ∧ As (PS ((bs s).drop a) = PS ((bs s).drop k))) (fun v _ => s.size - (intOf v).toNat)
        case atStart => exact ⟨k, 0, rfl, rfl, Nat.zero_le _, Nat.le_refl _, hk, ⟨rfl⟩⟩
        case round =>
          obtain ⟨a, n, rfl, rfl, hna, hka, has, HA⟩ := hrel
          have hns : n ≤ s.size := by omega
          by_cases hla : a < s.size
          · have hne : (bs s).drop a ≠ [] := by rw [drop_bs s a hla]; simp
            go_wp2_with fail
            refine (white_c s a _ rfl _ hs has).mono ?_
            rintro e w' ⟨⟨b, rfl, hatb⟩, rfl⟩
            obtain ⟨hab, hbs, hdb⟩ := hatb
            have HDB : Hid ((bs s).drop b = whiteD ((bs s).drop a)) := hid_ hdb
            clear hdb
            by_cases hse : ∃ t, (bs s).drop b = 59 :: t
            · obtain ⟨t, hse⟩ := hse
              obtain ⟨hltb, hcb, hrb⟩ := drop_cons hse
              have HPS : As (PS ((bs s).drop k) = (match whiteD t with | [] => true | c :: t => if c = 59 then PS (c :: t) else match paramS (c :: t) with | none => false | some r2 => PS r2)) := ⟨by rw [← HA.out]; exact PS_ref hne (HDB.out.symm.trans hse)⟩
              have q5 : ((s[b].toNat : Int) != 59) = false := by rw [hcb]; rfl
              have HT := hid_ hrb
              clear hse hcb hrb hne
              go_wp2_with fail
              refine (white_c s (b + 1) _ (by omega) _ hs hltb).mono ?_
              rintro e w' ⟨⟨d, rfl, hatd⟩, rfl⟩
              obtain ⟨hbd, hds, hdd⟩ := hatd
              have HDD : Hid ((bs s).drop d = whiteD t) := hid_ (by rw [hdd, HT.out]; rfl)
              clear hdd
              rcases Nat.lt_or_ge d s.size with hld | hld
              · have hcons := drop_bs s d hld
                by_cases hs59 : s[d] = 59
                · have q6 : ((s[d].toNat : Int) != 59) = false := by rw [hs59]; rfl
                  have HN : As (PS ((bs s).drop d) = PS ((bs s).drop k)) := ⟨by
                    rw [HPS.out, ← HDD.out, hcons]; simp only [hs59, if_true]⟩
                  clear hs59 hcons HPS
                  go_wp2
                  exact ⟨⟨d, n + 1, rfl, by go_num, by omega, by omega, hds, HN⟩, by simp [intOf]; omega⟩
                · have q6 : ((s[d].toNat : Int) != 59) = true := by
                    rw [bne_iff_ne]; intro e; exact hs59 (UInt8.toNat_inj.1 (by show s[d].toNat = 59; omega))
                  have HN : As (PS ((bs s).drop k) = match paramS ((bs s).drop d) with | none => false | some r2 => PS r2) := ⟨by
                    rw [HPS.out, ← HDD.out, hcons]; simp only [hs59, if_false]⟩
                  clear hs59 hcons HPS
                  go_wp2_with fail
                  refine (refParameter_c s d _ rfl _ hs hds).mono ?_
                  rintro e w' ⟨hpi, rfl⟩
                  cases ho : paramS ((bs s).drop d) with
                  | none =>
                    have HF : As (mediaS (bs s) = none) := ⟨by rw [HM2.out, HN.out, ho]; rfl⟩
                    rw [hpi.no ho]
                    clear hpi ho HN
                    go_wp2
                    go_ret2
                    exact MR.none_ HF.out rfl (Below.refl _ _)
                  | some r2 =>
                    obtain ⟨f, hef, hfs, hdf⟩ := hpi.yes r2 ho
                    have HF : As (PS ((bs s).drop f) = PS ((bs s).drop k)) := ⟨by rw [HN.out, ho, hdf]⟩
                    have hdf2 : d < f := by
                      have h1 := param_len _ _ ho
                      rw [← hdf, List.length_drop, List.length_drop, bs_size] at h1
                      omega
                    rw [hef]
                    clear hpi ho HN hef hdf
                    go_wp2
                    exact ⟨⟨f, n + 1, rfl, by go_num, by omega, by omega, hfs, HF⟩, by simp [intOf]; omega⟩
              · have hld2 : d = s.size := by omega
                have hwt : whiteD t = [] := by rw [← HDD.out, List.drop_of_length_le (by rw [bs_size]; exact hld)]
                have HN : As (PS ((bs s).drop d) = PS ((bs s).drop k)) := ⟨by
                  rw [HPS.out, hwt, HDD.out, hwt]; rfl⟩
                have hld3 : ¬ d < s.size := by omega
                clear HPS hwt hld2
                go_wp2
                exact ⟨⟨d, n + 1, rfl, by go_num, by omega, by omega, hds, HN⟩, by simp [intOf]; omega⟩
            · have HF : As (mediaS (bs s) = none) := ⟨by
                rw [HM2.out, ← HA.out, PS_no hne (fun r h => hse ⟨r, HDB.out.trans h⟩)]; rfl⟩
              have hw := lt_of_cons hse
              clear hse hne
              rcases hw with h | ⟨h, hc⟩
              · have k0 : ¬ b < s.size := by omega
                go_wp2
                go_ret2
                exact MR.none_ HF.out rfl (Below.refl _ _)
              · have q5 : ((s[b].toNat : Int) != 59) = true := by
                  rw [bne_iff_ne]; intro e; exact hc (UInt8.toNat_inj.1 (by show s[b].toNat = 59; omega))
                clear hc
                go_wp2
                go_ret2
                exact MR.none_ HF.out rfl (Below.refl _ _)
          · have HF : As (mediaS (bs s) = some (low ((bs s).take k))) := ⟨by
              rw [HM2.out, ← HA.out, List.drop_of_length_le (by rw [bs_size]; omega)]; rfl⟩
            have hz : (s.extract 0 k).size ≤ 1099511627776 := by rw [ext_size s 0 k hk]; omega
            have HX : As (bs (s.extract 0 k) = (bs s).take k) := ⟨by rw [extract_sb, bs_sb]; rfl⟩
            have hla' : s.size ≤ a := by omega
            go_wp2_with fail
            refine (Lower_c (s.extract 0 k) _ hz).mono ?_
            rintro e w2 ⟨rfl, hb2⟩
            have HB2 := As.mk hb2
            clear hb2
            go_wp2
            go_ret2
            refine ⟨fun l hl => ?_, fun hn => absurd (HF.out.symm.trans hn) (by simp), HB2.out⟩
            obtain rfl : low ((bs s).take k) = l := Option.some.inj (HF.out.symm.trans hl)
            rw [← HX.out]; rfl
    · have HN : As (mediaS (bs s) = none) := ⟨med_end (fun r h => he ⟨r, HDR.out.trans h⟩)⟩
      have hw := lt_of_cons he
      clear he hji
      rcases hw with h | ⟨h, hc2⟩
      · have k0 : ¬ j < s.size := by omega
        go_wp2
        go_ret2
        exact MR.none_ HN.out rfl (Below.refl _ _)
      · have q1 : ((s[j].toNat : Int) != 47) = true := by
          rw [bne_iff_ne]; intro e; exact hc2 (UInt8.toNat_inj.1 (by show s[j].toNat = 47; omega))
        clear hc2
        go_wp2
        go_ret2
        exact MR.none_ HN.out rfl (Below.refl _ _)
end Go.Proofs.YtegeijlookpgaaaDoor
