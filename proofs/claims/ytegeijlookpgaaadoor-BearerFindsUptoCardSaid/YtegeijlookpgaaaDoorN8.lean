/- What pct.Unescape computes. -/
import Derived.Test.YtegeijlookpgaaaDoorN7
import Derived.Laws.MakeOwn
import Derived.Laws.Entries
import Derived.Deep.RegionLaw
import Derived.Deep.AppendLies
set_option linter.unusedVariables false
set_option linter.unusedSimpArgs false
namespace Go.Proofs.YtegeijlookpgaaaDoor
open Go.RowKit Go.Proofs.YtegeijlookpgaaaDoorW.PrintWords Go.Proofs.YtegeijlookpgaaaDoorW.PrintLast

theorem run_make_rowN {P : Program} (t e : TypeId) (i : TypeInfo) (z : Value) (ht : P.underlying t = some (.slice e)) (hi : P.info? e = some i) (hz : i.zero = some z)
    (kl kc : IntKind) (n c : Nat) (hnc : n ≤ c) (hbytes : i.bytes * c ≤ 281474976710656) (h63 : c ≤ 9223372036854775807) (w : World) :
    (Instr.makeSlice t (.int kl (n : Int)) (.int kc (c : Int))).run P w = .ok (.slice (some ⟨w.heap.size, 0, none⟩) n c) (w.alloc (.cells (madeCells z.cells (c * i.size)) e)) := by
  have hb : (i.bytes : Int) * (c : Int) ≤ 281474976710656 := by
    have h : ((i.bytes * c : Nat) : Int) ≤ 281474976710656 := by omega
    rwa [Int.natCast_mul] at h
  have hr := run_make (P := P) w t e i z ht hi hz kl kc n c (by omega) (by omega) hb (by omega)
  simp only [Int.toNat_natCast] at hr
  exact hr
section
variable {ops : Array Oper} {rest : List Oper} {o : Oper} {a : Act} {Q : Exit → Act → World → Prop}
/-- make([]byte, 0, n) -/
theorem make_bytes {w : World} (hgd : o.guard = none) (x y : Operand) (ho : o.op = .makeSlice 69 x y) (n : Nat) (hx : a.eval x = .int .i64 0) (hy : a.eval y = .int .i64 n) (hn : n ≤ 1099511627776)
    (h : ∀ v w1, BR w.heap.size v [] w1 → Below w.heap.size w w1 → wpList Tryd.prog ops Q rest (a.put o.dst v) w1) : wpList Tryd.prog ops Q (o :: rest) a w := by
  have hinfo : (Tryd.prog.info? 5).map (fun i => (i.zero, i.size, i.bytes)) = some (some (.int .u8 0), 1, 1) := by kernel_rfl
  obtain ⟨i0, hi, hzz⟩ := Option.map_eq_some_iff.1 hinfo
  simp only [Prod.mk.injEq] at hzz
  obtain ⟨hz0, hz1, hz2⟩ := hzz
  have hr := run_make_rowN (P := Tryd.prog) 69 5 i0 (.int .u8 0) Tryd.underlying69 hi hz0 .i64 .i64 0 n (Nat.zero_le _) (by rw [hz2]; omega) (by omega) w
  refine wpList_value hgd (v := .slice (some ⟨w.heap.size, 0, none⟩) 0 n) (w1 := w.alloc (.cells (madeCells (Value.int .u8 0).cells (n * i0.size)) 5)) ?_ (h _ _ ⟨rfl, .inr ⟨w.heap.size, n, _, rfl, Nat.le_refl _, heap_alloc_new w _, Nat.zero_le _, by simp only [maxLen]; omega, ?_, by simp [cells8]⟩⟩ (below_alloc (Below.refl _ _) _))
  · unfold execOp
    simp only [ho, hx, hy, Sem.run_bind]
    have e0 : (Value.int .i64 0) = .int .i64 ((0 : Nat) : Int) := rfl
    rw [e0, hr]
    simp only [Result.andThen_ok, Sem.run_pure]
  · simp [madeCells, hz1]
end

section
variable {ops : Array Oper} {o : Oper} {a : Act} {K : Act → World → Prop} {Q : Exit → Act → World → Prop} {E : Prop}
/-- append(v, bytes), as one step of a region that draws its order. -/
theorem byte_step {W : World} (B : Nat) (hgd : o.guard = none) (s x : Operand) (ho : o.op = .call { callee := .builtin .append, args := #[s, x], argTypes := #[69, 69] })
    (v : Value) (l ys : List UInt8) (n : Nat) (hn : ys.length = n) (h0 : 0 < n) (hs : a.eval s = v) (hx : a.eval x = .slice (some ⟨W.heap.size, 0, none⟩) n n) (cs : Array Value) (hcs : cs = (cells8 ys).toArray)
    (HO : BR B v l W) (hB : B ≤ W.heap.size) (hl : l.length + n ≤ 140737488355328)
    (h : ∀ v1 w1, BR B v1 (l ++ ys) w1 → W.grownBy w1 v.ownBlock → K (a.put o.dst v1) w1) :
    if Region.wanted o (yielded ops a.tmps) = true then Oper.wp Tryd.prog o a (W.alloc (.cells cs 5)) K Q else E := by
  subst hcs
  subst hn
  have hinfo : (Tryd.prog.info? 5).map (fun i => (i.zero, i.size, i.bytes)) = some (some (.int .u8 0), 1, 1) := by kernel_rfl
  obtain ⟨i0, hi, hzz⟩ := Option.map_eq_some_iff.1 hinfo
  simp only [Prod.mk.injEq] at hzz
  obtain ⟨hz0, hz1, hz2⟩ := hzz
  refine step_append_lies _ hgd s x 69 ho B 5 i0 (.int .u8 0) 1 1 Tryd.underlying69 hi hz0 hz1 hz2 rfl (by omega) v l.length (cells8 l) hs (World.ownsRow.alloc HO _) ⟨W.heap.size, 0, none⟩ ys.length ys.length (cells8 ys) hx (by simp [cells8])
    (World.news_of_block (cs := (cells8 ys).toArray) (t := 5) (fr := (0, 0)) (heap_alloc_new W _)) (by intro u hu; simp only [cells8, List.mem_map] at hu; obtain ⟨b, _, rfl⟩ := hu; rfl) h0 (by simp only [maxLen]; omega) (by omega) (by simp; omega) _ rfl ?_
  intro g cap w1 hown hg _ _
  refine h _ w1 ?_ (World.grownBy.trans (World.grownBy_alloc W _ _) hg)
  unfold BR
  rw [cells8_append, List.length_append]
  simpa using hown
end

theorem esc_byte (a b : UInt8) (ha : hexV a ≤ 15) (hb : hexV b ≤ 15) : Go.bits BinOp.or IntKind.u8 (IntKind.u8.wrap ((hexV a : Int) * 16)) (hexV b : Int) = ((UInt8.ofNat (16 * hexV a + hexV b)).toNat : Int) := by
  have h : ∀ x y : Fin 16, Go.bits BinOp.or IntKind.u8 (IntKind.u8.wrap ((x.val : Int) * 16)) (y.val : Int) = ((UInt8.ofNat (16 * x.val + y.val)).toNat : Int) := by decide +kernel
  exact h ⟨hexV a, by omega⟩ ⟨hexV b, by omega⟩

theorem map_app (o : Option (List UInt8)) (acc : List UInt8) (c : UInt8) : (o.map (c :: ·)).map (acc ++ ·) = o.map ((acc ++ [c]) ++ ·) := by cases o <;> simp

set_option maxHeartbeats 2000000 in
set_option maxRecDepth 100000 in
theorem Unescape_c (A : Nat → Addr) (s : ByteArray) (plus : Bool) (w : World) (hE : EW A w) (hs : s.size ≤ 1099511627776) :
    Calls Tryd.prog 50 #[.string s, .bool plus] w (MQ A w (unesc plus (bs s))) := by
  have HE := As.mk hE
  clear hE
  go_enter Tryd.func50, Tryd.ntmps50
  go_wp2_with (refine make_bytes rfl _ _ rfl s.size rfl rfl hs ?_; intro v w1 hbr hb; have HO := As.mk hbr; have HB := As.mk hb; clear hbr hb)
  go_loopw [6, 7] (fun c6 c7 wr => ∃ (i : Nat) (acc : List UInt8), c7 = .int .i64 i ∧ i ≤ s.size ∧ acc.length ≤ i ∧ As (BR w.heap.size c6 acc wr) ∧ As ((unesc plus ((bs s).drop i)).map (acc ++ ·) = unesc plus (bs s)) ∧ As (Below w.heap.size w wr)) (fun _ v _ => s.size - (intOf v).toNat)
  case atStart => exact ⟨0, [], rfl, Nat.zero_le _, Nat.zero_le _, HO, ⟨by simp⟩, HB⟩
  case round =>
    clear HO HB
    obtain ⟨i, acc, rfl, hi, hacc, HO, HU, HW⟩ := hrel
    have HLL : As (acc.length + 1 ≤ 140737488355328 ∧ w.heap.size ≤ wr.heap.size) := ⟨by omega, HW.out.size⟩
    have hE1 := (HE.out.below HW.out).cell 0 (by simp [errG])
    cases hd : (bs s).drop i with
    | nil =>
      have hle := drop_nil hd
      have hdd : decide (i < s.size) = false := by simpa using hle
      have HN : As (unesc plus (bs s) = some acc) := ⟨by rw [← HU.out, hd, unesc_nil]; simp⟩
      clear hd
      go_wp2_with (refine byte_str w.heap.size rfl _ rfl u6 acc rfl HO.out ?_)
      go_ret2
      exact ⟨fun l hl => by rw [Option.some.inj (hl.symm.trans HN.out)]; rfl, fun hn => absurd (HN.out.symm.trans hn) (by simp), HW.out⟩
    | cons c r =>
      obtain ⟨hlt, hc, hr⟩ := drop_cons hd
      have HD := hid_ hd
      have HR := hid_ hr
      have HC := hid_ hc
      have HU2 : As ((unesc plus (c :: r)).map (acc ++ ·) = unesc plus (bs s)) := ⟨by rw [← HU.out, hd]⟩
      have hcl := c.toNat_lt
      clear hd hr HU
      subst hc
      by_cases h37 : s[i] = 37
      · have q37 : ((s[i].toNat : Int) == 37) = true := by rw [h37]; rfl
        by_cases h2 : i + 2 < s.size
        · obtain ⟨r', hrr⟩ : ∃ r', r = s[i + 1] :: s[i + 2] :: r' ∧ (bs s).drop (i + 2 + 1) = r' := ⟨_, by rw [← HR.out, drop_bs s (i + 1) (by omega), drop_bs s (i + 1 + 1) h2], rfl⟩
          obtain ⟨rfl, hr3⟩ := hrr
          have HR3 := hid_ hr3
          have k1 : (0 : Int) ≤ (i : Int) + 1 := by omega
          have k2 : (i : Int) + 1 < (s.size : Int) := by omega
          have k3 : (0 : Int) ≤ (i : Int) + 2 := by omega
          have k4 : (i : Int) + 2 < (s.size : Int) := by omega
          have k5 : IntKind.i64.wrap ((i : Int) + 1) = (i : Int) + 1 := IntWalk.i64_in _ (by omega)
          have k6 : IntKind.i64.wrap ((i : Int) + 2) = (i : Int) + 2 := IntWalk.i64_in _ (by omega)
          have k7 : ((i : Int) + 1).toNat = i + 1 := by omega
          have k8 : ((i : Int) + 2).toNat = i + 2 := by omega
          have HQ : As (unesc plus (bs s) = if hexV s[i + 1] ≤ 15 ∧ hexV s[i + 2] ≤ 15 then ((unesc plus r').map (UInt8.ofNat (16 * hexV s[i + 1] + hexV s[i + 2]) :: ·)).map (acc ++ ·) else none) := ⟨by
            rw [← HU2.out, h37, unesc_pct]
            split <;> rfl⟩
          clear hr3 HU2 HC
          by_cases ha : hexV s[i + 1] ≤ 15
          · have ha1 : (hexV s[i + 1] : Int) ≤ 15 := by omega
            by_cases hb : hexV s[i + 2] ≤ 15
            · have hb1 : (hexV s[i + 2] : Int) ≤ 15 := by omega
              have HN := hid_ (HQ.out.trans (if_pos ⟨ha, hb⟩))
              have HY := hid_ (esc_byte _ _ ha hb)
              clear HQ hE1
              go_wp2_with (go_at_call 78; refine (digit_c _ _).mono ?_; rintro e w' ⟨rfl, rfl⟩)
              have HO2 : As (BR w.heap.size u6 acc w'.drew) := ⟨HO.out⟩
              have HW2 : As (Below w.heap.size w w'.drew) := ⟨below_drew HW.out⟩
              have HL2 : As (acc.length + 1 ≤ 140737488355328 ∧ w.heap.size ≤ w'.drew.heap.size) := ⟨HLL.out⟩
              clear HO HW HLL
              go_region_law (first | (refine goes_ Tryd.func78 (by kernel_rfl) rfl #[.int .u8 s[i + 1].toNat] (by rfl) rfl rfl (by simp only [List.map_toArray, List.map_cons, List.map_nil]; rfl) ?_; refine (digit_c _ _).mono ?_; rintro e w'' ⟨rfl, rfl⟩; refine ⟨_, rfl, ?_⟩) | (refine goes_ Tryd.func78 (by kernel_rfl) rfl #[.int .u8 s[i + 2].toNat] (by rfl) rfl rfl (by simp only [List.map_toArray, List.map_cons, List.map_nil]; rfl) ?_; refine (digit_c _ _).mono ?_; rintro e w'' ⟨rfl, rfl⟩; refine ⟨_, rfl, ?_⟩) | (refine byte_step (W := w'.drew) w.heap.size rfl _ _ rfl u6 acc [UInt8.ofNat (16 * hexV s[i + 1] + hexV s[i + 2])] 1 rfl Nat.one_pos rfl rfl _ (congrArg (fun x : Int => #[Value.int .u8 x]) HY.out) HO2.out HL2.out.2 HL2.out.1 ?_; intro v1 w5 hbr hg; have HO5 := As.mk hbr; have HW5 : As (Below w.heap.size w w5) := ⟨grown_below HO2.out hg HW2.out (Nat.le_refl _)⟩; clear hbr hg HO2 HW2))
              all_goals
                go_wp2
                exact ⟨⟨i + 2 + 1, _, by go_num, by omega, by simp only [List.length_append, List.length_cons, List.length_nil]; omega, HO5, ⟨by rw [HN.out, HR3.out, map_app]⟩, HW5⟩, by simp [intOf]; omega⟩
            · have hb1 : (15 : Int) < (hexV s[i + 2] : Int) := by omega
              have HN := hid_ (HQ.out.trans (if_neg (fun h => hb h.2)))
              clear HQ
              go_wp2_with (go_at_call 78; refine (digit_c _ _).mono ?_; rintro e w' ⟨rfl, rfl⟩)
              go_quiet (fail)
              go_wp2
              go_ret2
              exact ⟨fun l hl => absurd (HN.out.symm.trans hl) (by simp), fun _ => rfl, pw_below_drewN HW.out _⟩
          · have ha1 : (15 : Int) < (hexV s[i + 1] : Int) := by omega
            have HN := hid_ (HQ.out.trans (if_neg (fun h => ha h.1)))
            clear HQ
            go_wp2_with (go_at_call 78; refine (digit_c _ _).mono ?_; rintro e w' ⟨rfl, rfl⟩)
            go_quiet (fail)
            go_wp2
            go_ret2
            exact ⟨fun l hl => absurd (HN.out.symm.trans hl) (by simp), fun _ => rfl, pw_below_drewN HW.out _⟩
        · have k1 : (s.size : Int) ≤ (i : Int) + 2 := by omega
          have HN : As (unesc plus (bs s) = none) := ⟨by
            have hl := congrArg List.length HR.out
            rw [List.length_drop, bs_size] at hl
            rw [← HU2.out, h37]
            match r, hl with
            | [], _ => rw [unesc_pct0]; rfl
            | [a], _ => rw [unesc_pct1]; rfl
            | a :: b :: r', hl => simp only [List.length_cons] at hl; omega⟩
          clear HU2 HC
          go_wp2
          go_quiet (fail)
          go_wp2
          go_ret2
          exact ⟨fun l hl => absurd (HN.out.symm.trans hl) (by simp), fun _ => rfl, pw_below_drewN HW.out _⟩
      · have q37 : ((s[i].toNat : Int) == 37) = false := by
          rw [beq_eq_false_iff_ne]
          intro h
          exact h37 (UInt8.toNat_inj.1 (by show s[i].toNat = 37; omega))
        by_cases hp : s[i] = 43 ∧ plus = true
        · have HN : As ((unesc plus r).map ((acc ++ [32]) ++ ·) = unesc plus (bs s)) := ⟨by
            rw [← HU2.out, ← map_app, hp.1, hp.2, unesc_plus]⟩
          have q43 : ((s[i].toNat : Int) == 43) = true := by rw [hp.1]; rfl
          obtain rfl : plus = true := hp.2
          clear hp h37 HU2 HC
          go_wp2_with (at_builtin; refine byte_app (W := wr) w.heap.size rfl _ _ rfl u6 acc [32] 1 rfl rfl rfl _ rfl HO.out HLL.out.2 HLL.out.1 ?_; intro v1 w5 hbr hg; have HO5 := As.mk hbr; have HW5 : As (Below w.heap.size w w5) := ⟨grown_below HO.out hg HW.out (Nat.le_refl _)⟩; clear hbr hg HO HW)
          exact ⟨⟨i + 1, _, by go_num, by omega, by simp only [List.length_append, List.length_cons, List.length_nil]; omega, HO5, ⟨by rw [HR.out]; exact HN.out⟩, HW5⟩, by simp [intOf]; omega⟩
        · have HUC := unesc_char plus s[i] r h37 hp
          have q43 : ((s[i].toNat : Int) == 43) = false ∨ (((s[i].toNat : Int) == 43) = true ∧ plus = false) := by
            cases h : ((s[i].toNat : Int) == 43)
            · exact .inl rfl
            · refine .inr ⟨rfl, ?_⟩
              rw [beq_iff_eq] at h
              cases plus
              · rfl
              · exact absurd ⟨UInt8.toNat_inj.1 (by show s[i].toNat = 43; omega), rfl⟩ hp
          clear hp h37
          by_cases hr : 33 ≤ s[i].toNat ∧ s[i].toNat ≤ 126
          · have HN : As ((unesc plus r).map ((acc ++ [s[i]]) ++ ·) = unesc plus (bs s)) := ⟨by
              rw [← HU2.out, ← map_app, HUC, if_pos hr]⟩
            have c1 : (33 : Int) ≤ (s[i].toNat : Int) := by omega
            have c2 : (s[i].toNat : Int) ≤ 126 := by omega
            clear HUC HU2 HC hr
            rcases q43 with q43 | ⟨q43, rfl⟩
            all_goals
              go_wp2_with (at_builtin; refine byte_app (W := wr) w.heap.size rfl _ _ rfl u6 acc [s[i]] 1 rfl rfl rfl _ rfl HO.out HLL.out.2 HLL.out.1 ?_; intro v1 w5 hbr hg; have HO5 := As.mk hbr; have HW5 : As (Below w.heap.size w w5) := ⟨grown_below HO.out hg HW.out (Nat.le_refl _)⟩; clear hbr hg HO HW)
              exact ⟨⟨i + 1, _, by go_num, by omega, by simp only [List.length_append, List.length_cons, List.length_nil]; omega, HO5, ⟨by rw [HR.out]; exact HN.out⟩, HW5⟩, by simp [intOf]; omega⟩
          · have HN : As (unesc plus (bs s) = none) := ⟨by rw [← HU2.out, HUC, if_neg hr]; rfl⟩
            have c3 : (s[i].toNat : Int) < 33 ∨ (33 ≤ (s[i].toNat : Int) ∧ 126 < (s[i].toNat : Int)) := by omega
            clear HUC HU2 HC hr
            rcases q43 with q43 | ⟨q43, rfl⟩
            all_goals
              rcases c3 with c3 | ⟨c3, c4⟩
              all_goals
                go_wp2
                go_quiet (fail)
                go_wp2
                go_ret2
                exact ⟨fun l hl => absurd (HN.out.symm.trans hl) (by simp), fun _ => rfl, pw_below_drewN HW.out _⟩
end Go.Proofs.YtegeijlookpgaaaDoor
