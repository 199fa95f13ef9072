/- What the reference digest's plan computes. -/
import Derived.Test.YtegeijlookpgaaaDoorS9
set_option linter.unusedVariables false
set_option linter.unusedSimpArgs false
namespace Go.Proofs.YtegeijlookpgaaaDoor
open Go.RowKit Go.Proofs.YtegeijlookpgaaaDoorW.PrintWords Go.Proofs.YtegeijlookpgaaaDoorW.PrintLast

/-- the two blocks of plan's call: the result, the words -/
structure PS (w : World) (f : Nat → Value) (wr : World) : Prop where
  ra : AF w.heap.size 98 64 (fun _ => w32 0) wr
  sc : AF (w.heap.size + 1) 98 64 f wr
  fr : Below w.heap.size w wr
theorem PS.drewN {w : World} {f : Nat → Value} {wr : World} (h : PS w f wr) (n : Nat) : PS w f (wr.drewN n) := by
  have hh : (wr.drewN n).heap = wr.heap := by simp
  exact ⟨by unfold AF; rw [hh]; exact h.ra, by unfold AF; rw [hh]; exact h.sc, pw_below_drewN h.fr n⟩
theorem PS.drew {w : World} {f : Nat → Value} {wr : World} (h : PS w f wr) : PS w f wr.drew := ⟨h.ra, h.sc, h.fr.drew⟩
theorem PS.set {w w' w'' : World} {f f' : Nat → Value} (h : PS w f w') (hf : Fr (fun k => k = w.heap.size + 1) w' w'') (ha : AF (w.heap.size + 1) 98 64 f' w'') : PS w f' w'' :=
  ⟨(hf.block w.heap.size h.ra.lt (by omega)).trans h.ra, ha, h.fr.trans (hf.below h.fr.size (fun i hi => by omega))⟩
abbrev z98 : Array Value := #[.int .u32 0, .int .u32 0, .int .u32 0, .int .u32 0, .int .u32 0, .int .u32 0, .int .u32 0, .int .u32 0, .int .u32 0, .int .u32 0, .int .u32 0, .int .u32 0, .int .u32 0, .int .u32 0, .int .u32 0, .int .u32 0, .int .u32 0, .int .u32 0, .int .u32 0, .int .u32 0, .int .u32 0, .int .u32 0, .int .u32 0, .int .u32 0, .int .u32 0, .int .u32 0, .int .u32 0, .int .u32 0, .int .u32 0, .int .u32 0, .int .u32 0, .int .u32 0, .int .u32 0, .int .u32 0, .int .u32 0, .int .u32 0, .int .u32 0, .int .u32 0, .int .u32 0, .int .u32 0, .int .u32 0, .int .u32 0, .int .u32 0, .int .u32 0, .int .u32 0, .int .u32 0, .int .u32 0, .int .u32 0, .int .u32 0, .int .u32 0, .int .u32 0, .int .u32 0, .int .u32 0, .int .u32 0, .int .u32 0, .int .u32 0, .int .u32 0, .int .u32 0, .int .u32 0, .int .u32 0, .int .u32 0, .int .u32 0, .int .u32 0, .int .u32 0]
theorem z98_eq : z98 = af 64 (fun _ => w32 0) := by kernel_rfl
theorem u32_sum4w (a b c d : UInt32) : IntKind.u32.wrap (IntKind.u32.wrap (IntKind.u32.wrap ((a.toNat : Int) + b.toNat) + c.toNat) + d.toNat) = ((a + b + c + d).toNat : Int) := by
  simp only [IntKind.wrap_u32, UInt32.toNat_add]; omega
theorem word_int (a b c d : UInt8) : Go.bits .or .u32 (Go.bits .or .u32 (Go.bits .or .u32 ((a.toNat : Int) * 16777216 % 4294967296) ((b.toNat : Int) * 65536 % 4294967296)) ((c.toNat : Int) * 256 % 4294967296)) (d.toNat : Int)
    = ((((a.toUInt32 <<< 24) ||| (b.toUInt32 <<< 16) ||| (c.toUInt32 <<< 8) ||| d.toUInt32).toNat : Nat) : Int) := by
  have h (x : UInt8) : (x.toNat : Int) = (x.toUInt32.toNat : Int) := by rw [UInt8.toNat_toUInt32]
  rw [h a, h b, h c, h d]
  have h24 : ((a.toUInt32.toNat : Int) * (16777216 : Int)) % (4294967296 : Int) = ((a.toUInt32 <<< 24).toNat : Int) := u32_shl _ 24 (by decide)
  have h16 : ((b.toUInt32.toNat : Int) * (65536 : Int)) % (4294967296 : Int) = ((b.toUInt32 <<< 16).toNat : Int) := u32_shl _ 16 (by decide)
  have h8 : ((c.toUInt32.toNat : Int) * (256 : Int)) % (4294967296 : Int) = ((c.toUInt32 <<< 8).toNat : Int) := u32_shl _ 8 (by decide)
  rw [h24, h16, h8, u32_or, u32_or, u32_or]

set_option maxHeartbeats 4000000 in
set_option maxRecDepth 100000 in
theorem plan_c (s : ByteArray) (k : Nat) (w : World) (hk : 64 * k + 64 ≤ whole s.size) (hs : s.size ≤ 4503599627370496) :
    Calls Tryd.prog 71 #[.string s, .int .i64 (whole s.size), .int .i64 ((64 * k : Nat) : Int)] w fun e w' => e = .returned (.agg (af 64 fun t => w32 (sch (fun i => padB (bs s) (64 * k + i)) t))) ∧ Below w.heap.size w w' := by
  have HP0 : As (PS w (fun _ => w32 0) ((w.alloc (.cells z98 98)).alloc (.cells z98 98))) := ⟨by
    obtain ⟨q1, q2⟩ := alloc2 w (.cells z98 98) (.cells z98 98)
    exact ⟨by rw [AF, ← z98_eq]; exact q1, by rw [AF, ← z98_eq]; exact q2, ((Below.refl _ _).alloc (Nat.le_refl _) _).alloc (by rw [size_al]; omega) _⟩⟩
  have hw2 : whole s.size ≤ s.size + 72 := by unfold whole; omega
  have HB0 : As (∀ i, i < whole s.size → ∀ w, Calls Tryd.prog 97 #[.string s, .int .i64 (whole s.size), .int .i64 i] w fun e w' => e = .returned (.int .u32 (padB (bs s) i).toNat) ∧ w = w') := ⟨fun i hi w => byteAt_c s i w hi hs⟩
  generalize whole s.size = wh at *
  generalize hat : 64 * k = at_ at *
  obtain ⟨p, hp⟩ : ∃ p : Nat → UInt8, p = fun i => padB (bs s) (at_ + i) := ⟨_, rfl⟩
  have HB : As (∀ (x : Int) (j : Nat), x = (at_ : Int) + j → j < 64 → ∀ w, Calls Tryd.prog 97 #[.string s, .int .i64 wh, .int .i64 x] w fun e w' => e = .returned (.int .u32 (p j).toNat) ∧ w = w') := ⟨fun x j hx hj w => by
    have := HB0.out (at_ + j) (by omega) w
    rw [hp, hx]
    exact_mod_cast this⟩
  rw [← hp]
  clear hp hat HB0
  go_enter Tryd.func71, Tryd.ntmps71
  go_wp2
  go_loopw [8] (fun c wr => ∃ (t : Nat) (f : Nat → Value), c = .int .i64 t ∧ t ≤ 16 ∧ As (PS w f wr) ∧ As (∀ i, i < t → f i = w32 (sch p i))) (fun c _ => 16 - (intOf c).toNat)
  case atStart => exact ⟨0, _, rfl, by omega, HP0, ⟨fun i h => absurd h (by omega)⟩⟩
  case round =>
    clear HP0
    obtain ⟨t, f, rfl, ht, HS, HF⟩ := hrel
    by_cases hlt : t < 16
    · go_wp2_with fail
      refine (HB.out _ (4 * t) (by omega) (by omega) _).mono ?_
      rintro _ _ ⟨rfl, rfl⟩
      go_wp2_with fail
      refine (HB.out _ (4 * t + 1) (by omega) (by omega) _).mono ?_
      rintro _ _ ⟨rfl, rfl⟩
      go_wp2_with fail
      refine (HB.out _ (4 * t + 2) (by omega) (by omega) _).mono ?_
      rintro _ _ ⟨rfl, rfl⟩
      go_wp2_with fail
      refine (HB.out _ (4 * t + 3) (by omega) (by omega) _).mono ?_
      rintro _ _ ⟨rfl, rfl⟩
      have c0 : (0 : Int) ≤ (t : Int) := by omega
      have c1 : (t : Int) < 64 := by omega
      go_wp2_with (refine wpList_store_one rfl 59 _ _ rfl (w.heap.size + 1) _ rfl 98 64 _ _ rfl rfl rfl HS.out.sc (by kernel_rfl) (by omega) ?_
                   intro wa ha hfa
                   have HS2 := As.mk (HS.out.set hfa ha)
                   clear HS ha hfa)
      refine ⟨⟨t + 1, _, by go_num, by omega, HS2, ⟨fun i hi => ?_⟩⟩, by simp [intOf]; omega⟩
      show (if _ then _ else _) = _
      by_cases h : i = t
      · rw [if_pos h, h]
        have hs : sch p t = word p t := by rw [sch, dif_pos hlt]
        rw [hs, word]
        exact congrArg (Value.int .u32) (word_int _ _ _ _)
      · rw [if_neg h]; exact HF.out i (by omega)
    · go_wp2
      go_loopw [13] (fun c wr => ∃ (t : Nat) (f : Nat → Value), c = .int .i64 t ∧ 16 ≤ t ∧ t ≤ 64 ∧ As (PS w f wr) ∧ As (∀ i, i < t → f i = w32 (sch p i))) (fun c _ => 64 - (intOf c).toNat)
      case atStart => exact ⟨16, f, rfl, by omega, by omega, HS, ⟨fun i hi => HF.out i (by omega)⟩⟩
      case round =>
        clear HS HF HB
        obtain ⟨t, f, rfl, ht0, ht, HS, HF⟩ := hrel
        by_cases hlt : t < 64
        · have q15 := HS.out.sc.cell (t - 15) (by omega)
          rw [HF.out _ (by omega)] at q15
          have q2 := HS.out.sc.cell (t - 2) (by omega)
          rw [HF.out _ (by omega)] at q2
          have w1 : IntKind.i64.wrap ((t : Int) - 15) = (t : Int) - 15 := IntWalk.i64_in _ (by omega)
          have w2 : IntKind.i64.wrap ((t : Int) - 2) = (t : Int) - 2 := IntWalk.i64_in _ (by omega)
          have n1 : ((t : Int) - 15).toNat = t - 15 := by omega
          have n2 : ((t : Int) - 2).toNat = t - 2 := by omega
          have b1 : (0 : Int) ≤ (t : Int) - 15 := by omega
          have b1' : (15 : Int) ≤ (t : Int) := by omega
          have b2 : (t : Int) - 15 < 64 := by omega
          have b3 : (0 : Int) ≤ (t : Int) - 2 := by omega
          have b3' : (2 : Int) ≤ (t : Int) := by omega
          have b4 : (t : Int) - 2 < 64 := by omega
          go_wp2_with fail
          clear q15 q2 w1 w2 n1 n2 b1 b1' b2 b3 b3' b4
          refine (rot_c _ 7 (by decide) (by decide) _).mono ?_
          rintro _ _ ⟨rfl, rfl⟩
          go_wp2_with fail
          refine (rot_c _ 18 (by decide) (by decide) _).mono ?_
          rintro _ _ ⟨rfl, rfl⟩
          go_wp2_with fail
          refine (rot_c _ 17 (by decide) (by decide) _).mono ?_
          rintro _ _ ⟨rfl, rfl⟩
          go_wp2_with fail
          refine (rot_c _ 19 (by decide) (by decide) _).mono ?_
          rintro _ _ ⟨rfl, rfl⟩
          go_wp2_with fail
          have q16 := HS.out.sc.cell (t - 16) (by omega)
          rw [HF.out _ (by omega)] at q16
          have q7 := HS.out.sc.cell (t - 7) (by omega)
          rw [HF.out _ (by omega)] at q7
          have w1 : IntKind.i64.wrap ((t : Int) - 16) = (t : Int) - 16 := IntWalk.i64_in _ (by omega)
          have w7 : IntKind.i64.wrap ((t : Int) - 7) = (t : Int) - 7 := IntWalk.i64_in _ (by omega)
          have n1 : ((t : Int) - 16).toNat = t - 16 := by omega
          have n2 : ((t : Int) - 7).toNat = t - 7 := by omega
          have b1 : (0 : Int) ≤ (t : Int) - 16 := by omega
          have b1' : (16 : Int) ≤ (t : Int) := by omega
          have b2 : (t : Int) - 16 < 64 := by omega
          have b3 : (0 : Int) ≤ (t : Int) - 7 := by omega
          have b3' : (7 : Int) ≤ (t : Int) := by omega
          have b4 : (t : Int) - 7 < 64 := by omega
          have b5 : (0 : Int) ≤ (t : Int) := by omega
          have b6 : (t : Int) < 64 := by omega
          go_still_tail 15, (by kernel_rfl)
          change wpList _ _ _ _ _ wr.drew
          clear q16 q7 w1 w7 n1 n2 b1 b1' b2 b3 b3' b4 b5
          have hD2 := As.mk HS.out.drew
          generalize wr.drew = w3 at *
          clear HS
          go_wp2_with (refine wpList_store_one rfl 59 _ _ rfl (w.heap.size + 1) _ rfl 98 64 _ _ rfl rfl rfl hD2.out.sc (by kernel_rfl) (by omega) ?_
                       intro wa ha hfa
                       have HS2 := As.mk (hD2.out.set hfa ha)
                       clear hD2 ha hfa)
          refine ⟨⟨t + 1, _, by go_num, by omega, by omega, HS2, ⟨fun i hi => ?_⟩⟩, by simp [intOf]; omega⟩
          show (if _ then _ else _) = _
          by_cases h : i = t
          · rw [if_pos h, h]
            have hs : sch p t = sch p (t - 16) + s0 (sch p (t - 15)) + sch p (t - 7) + s1 (sch p (t - 2)) := by rw [sch, dif_neg (by omega)]
            rw [hs]
            refine congrArg (Value.int .u32) ?_
            rw [s0_eq, s1_eq, u32_sum4w]
          · rw [if_neg h]; exact HF.out i (by omega)
        · have HX : As (AF (w.heap.size + 1) 98 64 (fun t => w32 (sch p t)) wr) := ⟨HS.out.sc.congr (fun j hj => HF.out j (by omega))⟩
          go_wp2_with (first
            | (refine wpList_load_sub rfl 98 _ rfl (w.heap.size + 1) 0 rfl 98 _ (0, 0) _ (af 64 fun t => w32 (sch p t)).toList HX.out Tryd.underlying98 rfl (by kernel_rfl) (fun j x hx => by simpa using hx) ?_)
            | (refine wpList_store_sub rfl 98 _ _ rfl w.heap.size 0 rfl 98 _ (af 64 fun t => w32 (sch p t)).toList rfl HS.out.ra (by rw [af_len]; kernel_rfl) (by rw [af_len, af_size]; exact Nat.le_refl _) (by simp [af, w32, Value.oneCell']) ?_
               intro w4 h4 hf4
               rw [whole_store _ _ _ (af_size _ _)] at h4
               have HY := As.mk (show AF w.heap.size 98 64 (fun t => w32 (sch p t)) w4 from h4)
               have HFY : As (Below w.heap.size w w4) := ⟨below_fr HS.out.fr hf4⟩
               clear h4 hf4))
          have hr := HY.out
          refine bodyPost_ret (v := .agg (af 64 fun t => w32 (sch p t))) (results_cell_row Tryd.results71 _ _ _ 98 _ (0, 0) _ rfl hr Tryd.underlying98 rfl (by rw [af_size]; kernel_rfl)) rfl ⟨rfl, HFY.out⟩
end Go.Proofs.YtegeijlookpgaaaDoor
