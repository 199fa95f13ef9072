/- What field.Media computes. -/
import Derived.Test.YtegeijlookpgaaaDoorN4
set_option linter.unusedVariables false
set_option linter.unusedSimpArgs false
namespace Go.Proofs.YtegeijlookpgaaaDoor
open Go.RowKit Go.Proofs.YtegeijlookpgaaaDoorW.PrintWords

/-- the error that lies at an address -/
abbrev ev (a : Addr) : Value := .iface 148 (.pointer (some a))
def errG : List Nat := [0, 1, 2, 3, 4, 5, 6, 7, 8, 9, 10, 11, 12]
/-- the variables of the errors, where each points -/
structure EW (A : Nat → Addr) (w : World) : Prop where
  cell : ∀ g ∈ errG, w.cell? ⟨g, 0, none⟩ = some (ev (A g))
  row : ∀ g ∈ errG, ∃ cs t, w.heap[(A g).block]? = some (.cells cs t (0, 0))
  apart : ∀ g ∈ errG, ∀ k ∈ errG, g ≠ k → A g ≠ A k
theorem EW.below {A : Nat → Addr} {w w' : World} (h : EW A w) (hb : Below w.heap.size w w') : EW A w' :=
  ⟨fun g hg => pw_cell_below hb (h.cell g hg), fun g hg => by
    obtain ⟨cs, t, hr⟩ := h.row g hg
    exact ⟨cs, t, (hb.block _ (Array.getElem?_eq_some_iff.1 hr).1).trans hr⟩, h.apart⟩
theorem KT.below {w w' : World} (h : KT w) (hb : Below w.heap.size w w') : KT w' := Tab.below h hb
theorem KT.lt {w : World} (h : KT w) : 18 < w.heap.size := World.block_lt_of_cell? w _ (h 0 (by unfold kindsInt; rw [List.length_map, kinds_len]; omega))
theorem Ob.below {b : Nat} {w0 w w' : World} (h : Ob b w w') (hb : Below w0.heap.size w0 w) (hlo : w0.heap.size ≤ b) : Below w0.heap.size w0 w' :=
  ⟨h.os.trans hb.os, h.tape.trans hb.tape, h.output.trans hb.output, Nat.le_trans hb.size h.size, fun i hi => (h.block i (Nat.lt_of_lt_of_le hi hb.size) (by omega)).trans (hb.block i hi)⟩

theorem sb_size (l : List UInt8) : (sb l).size = l.length := by show l.toArray.size = _; simp
theorem below_nx {w w1 w2 : World} (h1 : Below w.heap.size w w1) (h2 : Below w1.heap.size w1 w2) : Below w.heap.size w w2 := h1.trans (h2.mono h1.size)
/-- a media type, or ErrText -/
structure MQ (A : Nat → Addr) (w : World) (o : Option (List UInt8)) (e : Ending) (w' : World) : Prop where
  yes : ∀ l, o = some l → e = .returned (.tuple #[.string (sb l), .nilIface])
  no : o = none → e = .returned (.tuple #[.string ⟨#[]⟩, ev (A 0)])
  fr : Below w.heap.size w w'

theorem med_none {l : List UInt8} (h : noTok l = true) : mediaS l = none := by unfold mediaS; rw [if_pos h]
theorem med_end {l : List UInt8} (h : ∀ r, tokD l ≠ 47 :: r) : mediaS l = none := by
  unfold mediaS
  split
  · rfl
  · split
    · rfl
    · rename_i c r2 hc
      rw [if_neg]
      rintro rfl
      exact h _ hc
theorem med_step {l r : List UInt8} (h0 : noTok l = false) (h : tokD l = 47 :: r) : mediaS l = if noTok r then none else if PS (tokD r) then some (low (l.take (l.length - (tokD r).length))) else none := by
  unfold mediaS
  rw [if_neg (by simp [h0]), h]
  simp only [if_true]
  rfl
theorem take_two {l r : List UInt8} (h : tokD l = 47 :: r) : l.take (l.length - (tokD r).length) = l.takeWhile tokB ++ 47 :: r.takeWhile tokB := by
  have h1 := List.takeWhile_append_dropWhile (p := tokB) (l := l)
  have h2 := List.takeWhile_append_dropWhile (p := tokB) (l := r)
  have h3 : l = (l.takeWhile tokB ++ 47 :: r.takeWhile tokB) ++ tokD r := by
    conv => lhs; rw [← h1]
    show _ ++ tokD l = _
    rw [h]
    conv => lhs; rw [← h2]
    simp [tokD]
  have hl := congrArg List.length h3
  rw [List.length_append] at hl
  have hn : l.length - (tokD r).length = (l.takeWhile tokB ++ 47 :: r.takeWhile tokB).length := by omega
  rw [hn]
  generalize (l.takeWhile tokB ++ 47 :: r.takeWhile tokB) = m at *
  rw [h3, List.take_left]

theorem sb_app (l m : List UInt8) : sb (l ++ m) = sb l ++ sb m := by
  rw [← sb_bs (sb l ++ sb m)]
  simp [bs, sb]
theorem low_join (t u : List UInt8) : sb (low (t ++ 47 :: u)) = sb (low t) ++ ⟨#[47]⟩ ++ sb (low u) := by
  have h : low (t ++ 47 :: u) = low t ++ [47] ++ low u := by simp [low, lowB]
  rw [h, sb_app, sb_app]

set_option maxHeartbeats 1000000 in
set_option maxRecDepth 100000 in
theorem Media_c (A : Nat → Addr) (s : ByteArray) (w : World) (hT : KT w) (hE : EW A w) (hs : s.size ≤ 1099511627776) :
    Calls Tryd.prog 47 #[.string s] w (MQ A w (mediaS (bs s))) := by
  have HT := As.mk hT
  have HE := As.mk hE
  have hlo := hT.lt
  clear hT hE
  have HB : As (Below w.heap.size w (w.alloc (.cells #[.string s, .int .i64 0] 104))) := ⟨below_alloc (Below.refl _ _) _⟩
  have HC : As (Cu w.heap.size s 0 (w.alloc (.cells #[.string s, .int .i64 0] 104))) := ⟨heap_alloc_new w _⟩
  have hg : w.heap.size ≠ 18 := by omega
  go_enter Tryd.func47, Tryd.ntmps47
  go_wp2_with fail
  generalize w.alloc (.cells #[.string s, .int .i64 0] 104) = w0 at *
  refine (run_q w.heap.size 0 s 1 tokB kind_tok_fun (.inl rfl) _ HC.out (HT.out.below HB.out) hg hs (Nat.zero_le _)).mono ?_
  rintro e w1 ⟨t, j, rfl, hr⟩
  have HR := As.mk hr
  have HB1 := As.mk (hr.fr.below HB.out (Nat.le_refl _))
  clear hr
  have hE1 := (HE.out.below HB1.out).cell 0 (by simp [errG])
  cases hn : noTok (bs s) with
  | true =>
    have HP := hid_ (med_none hn)
    obtain rfl : t = ⟨#[]⟩ := bs_nil (by rw [HR.out.txt]; exact (noTok_t hn).1)
    clear hn
    go_wp2
    go_quiet (fail)
    go_wp2
    go_ret2
    exact ⟨fun l hl => absurd (HP.out.symm.trans hl) (by simp), fun _ => rfl, pw_below_drewN HB1.out _⟩
  | false =>
    obtain ⟨h1, h2, h3⟩ := str_some t (by rw [HR.out.txt]; exact noTok_f hn)
    have HN := hid_ hn
    clear hn
    have hj := HR.out.hi
    by_cases he : ∃ r, (bs s).drop j = 47 :: r
    · obtain ⟨r, he⟩ := he
      obtain ⟨hlt, _, hr1⟩ := drop_cons he
      have HE' : Hid (tokD (bs s) = 47 :: r) := hid_ (HR.out.rest.symm.trans he)
      have HR1 := hid_ hr1
      have HM := hid_ (med_step HN.out HE'.out)
      have HTK := hid_ (take_two HE'.out)
      clear hr1
      go_wp2_with fail
      clear hE1
      refine (eat_yes w.heap.size j s 47 r he 47 rfl w1 HR.out.cu hs).mono ?_
      rintro e w2 ⟨rfl, hc2, ho2⟩
      have HC2 := As.mk hc2
      have HB2 := As.mk (Ob.below ho2 HB1.out (Nat.le_refl _))
      clear hc2 ho2 he
      go_wp2_with fail
      refine (run_q w.heap.size (j + 1) s 1 tokB kind_tok_fun (.inl rfl) _ HC2.out (HT.out.below HB2.out) hg hs hlt).mono ?_
      rintro e w3 ⟨t3, j3, rfl, hr⟩
      have HR3 := As.mk hr
      have HB3 := As.mk (hr.fr.below HB2.out (Nat.le_refl _))
      have hj3' := hr.hi
      clear hr
      have hE3 := (HE.out.below HB3.out).cell 0 (by simp [errG])
      cases hn : noTok r with
      | true =>
        have HP : As (mediaS (bs s) = none) := ⟨by rw [HM.out, if_pos hn]⟩
        obtain rfl : t3 = ⟨#[]⟩ := bs_nil (by rw [HR3.out.txt, HR1.out]; exact (noTok_t hn).1)
        clear hn
        go_wp2
        go_quiet (fail)
        go_wp2
        go_ret2
        exact ⟨fun l hl => absurd (HP.out.symm.trans hl) (by simp), fun _ => rfl, pw_below_drewN HB3.out _⟩
      | false =>
        obtain ⟨h1, h2, h3⟩ := str_some t3 (by rw [HR3.out.txt, HR1.out]; exact noTok_f hn)
        have HD : As ((bs s).drop j3 = tokD r) := ⟨by rw [HR3.out.rest, HR1.out]; rfl⟩
        have HM2 : As (mediaS (bs s) = if PS (tokD r) then some (low (bs t ++ 47 :: bs t3)) else none) := ⟨by
          rw [HM.out, if_neg (by simp [hn]), HTK.out, HR.out.txt, HR3.out.txt, HR1.out]; rfl⟩
        have ht : t.size ≤ s.size ∧ t3.size ≤ s.size := by
          rw [← bs_size t, ← bs_size t3, ← bs_size s, HR.out.txt, HR3.out.txt]
          refine ⟨?_, ?_⟩ <;> refine Nat.le_trans (List.takeWhile_sublist _).length_le ?_ <;> rw [List.length_drop] <;> omega
        clear hn
        go_wp2_with fail
        refine (parameters_c w.heap.size j3 s _ HR3.out.cu (HT.out.below HB3.out) hg hs hj3').mono ?_
        rintro e w4 ⟨rfl, ho4⟩
        have HB4 := As.mk (Ob.below ho4 HB3.out (Nat.le_refl _))
        clear ho4 hE3
        have hE4 := (HE.out.below HB4.out).cell 0 (by simp [errG])
        rw [HD.out]
        cases hp : PS (tokD r) with
        | false =>
          have HP : As (mediaS (bs s) = none) := ⟨by rw [HM2.out, hp]; rfl⟩
          clear hp
          go_wp2
          go_quiet (fail)
          go_wp2
          go_ret2
          exact ⟨fun l hl => absurd (HP.out.symm.trans hl) (by simp), fun _ => rfl, pw_below_drewN HB4.out _⟩
        | true =>
          have HP : As (mediaS (bs s) = some (low (bs t ++ 47 :: bs t3))) := ⟨by rw [HM2.out, hp]; rfl⟩
          clear hp hE4
          go_wp2_with fail
          refine (low_c t _ (by omega)).mono ?_
          rintro e w5 ⟨rfl, hb5⟩
          have HB5 := As.mk (below_nx HB4.out hb5)
          clear hb5
          have hul : (sb (low (bs t))).size ≤ 1099511627776 := by rw [sb_size, low_len, bs_size]; omega
          generalize hu : sb (low (bs t)) = u at *
          have HU := hid_ hu
          clear hu
          go_wp2_with fail
          refine (low_c t3 _ (by omega)).mono ?_
          rintro e w6 ⟨rfl, hb6⟩
          have HB6 := As.mk (below_nx HB5.out hb6)
          clear hb6
          have hvl : (sb (low (bs t3))).size ≤ 1099511627776 := by rw [sb_size, low_len, bs_size]; omega
          generalize hv : sb (low (bs t3)) = v at *
          have HV := hid_ hv
          clear hv
          go_wp2
          go_ret2
          exact ⟨fun l hl => by
            have e1 : l = low (bs t ++ 47 :: bs t3) := (Option.some.inj (HP.out.symm.trans hl)).symm
            rw [e1, low_join, HU.out, HV.out]; rfl, fun hn => absurd (HP.out.symm.trans hn) (by simp), HB6.out⟩
    · have HP := hid_ (med_end (l := bs s) (fun r h => he ⟨r, HR.out.rest.trans h⟩))
      go_wp2_with fail
      refine (eat_no w.heap.size j s 47 (fun r h => he ⟨r, h⟩) 47 rfl w1 HR.out.cu hs).mono ?_
      rintro e w2 ⟨rfl, n, rfl⟩
      clear he
      go_wp2
      go_quiet (fail)
      go_wp2
      go_ret2
      exact ⟨fun l hl => absurd (HP.out.symm.trans hl) (by simp), fun _ => rfl, pw_below_drewN (pw_below_drewN HB1.out _) _⟩
end Go.Proofs.YtegeijlookpgaaaDoor
