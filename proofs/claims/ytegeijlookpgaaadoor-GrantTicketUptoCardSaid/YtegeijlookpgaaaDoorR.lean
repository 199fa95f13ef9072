/- What radix.write computes on 32 bytes. -/
import Derived.Test.YtegeijlookpgaaaDoorSC
import Derived.Test.YtegeijlookpgaaaDoorB
set_option linter.unusedVariables false
set_option linter.unusedSimpArgs false
namespace Go.Proofs.YtegeijlookpgaaaDoor
open Go.RowKit Go.Proofs.YtegeijlookpgaaaDoorW.PrintWords Go.Proofs.YtegeijlookpgaaaDoorW.PrintLast

/-- three bytes, as one number -/
def n3 (a b c : UInt8) : Nat := a.toNat * 65536 + b.toNat * 256 + c.toNat
def lt (A : ByteArray) (k : Nat) : UInt8 := (bs A).getD k 0
def grp (A : ByteArray) (a b c : UInt8) : List UInt8 := [lt A (n3 a b c / 2 ^ 18), lt A (n3 a b c / 2 ^ 12 % 64), lt A (n3 a b c / 2 ^ 6 % 64), lt A (n3 a b c % 64)]
def enc (A : ByteArray) (l : List UInt8) : Nat → List UInt8
  | 0 => []
  | i + 1 => enc A l i ++ grp A (l.getD (3 * i) 0) (l.getD (3 * i + 1) 0) (l.getD (3 * i + 2) 0)
theorem enc_len (A : ByteArray) (l : List UInt8) : ∀ i, (enc A l i).length = 4 * i
  | 0 => rfl
  | i + 1 => by rw [enc, List.length_append, enc_len A l i]; rfl
def url32 (A : ByteArray) (l : List UInt8) : List UInt8 :=
  enc A l 10 ++ [lt A (n3 (l.getD 30 0) (l.getD 31 0) 0 / 2 ^ 18), lt A (n3 (l.getD 30 0) (l.getD 31 0) 0 / 2 ^ 12 % 64), lt A (n3 (l.getD 30 0) (l.getD 31 0) 0 / 2 ^ 6 % 64)]

def lt3 (l : List UInt8) (i : Nat) : UInt8 × UInt8 × UInt8 := (l.getD (3 * i) 0, l.getD (3 * i + 1) 0, l.getD (3 * i + 2) 0)
theorem enc_succ (A : ByteArray) (l : List UInt8) (i : Nat) (a b c : UInt8) (h : lt3 l i = (a, b, c)) : enc A l (i + 1) = enc A l i ++ grp A a b c := by
  simp only [lt3, Prod.mk.injEq] at h
  rw [enc, h.1, h.2.1, h.2.2]
theorem n3_lt (a b c : UInt8) : n3 a b c < 16777216 := by
  have := a.toNat_lt; have := b.toNat_lt; have := c.toNat_lt
  unfold n3; omega
theorem or_add (a b k : Nat) (hb : b < 2 ^ k) : (2 ^ k * a) ||| b = 2 ^ k * a + b := (Nat.two_pow_add_eq_or_of_lt hb a).symm
theorem n3_int (a b c : UInt8) : Go.bits .or .u32 (Go.bits .or .u32 ((a.toNat : Int) % 4294967296 * 65536 % 4294967296) ((b.toNat : Int) % 4294967296 * 256 % 4294967296)) ((c.toNat : Int) % 4294967296) = ((n3 a b c : Nat) : Int) := by
  have ha := a.toNat_lt
  have hb := b.toNat_lt
  have hc := c.toNat_lt
  have e1 : ((a.toNat : Int) % 4294967296 * 65536 % 4294967296) = ((2 ^ 16 * a.toNat : Nat) : Int) := by omega
  have e2 : ((b.toNat : Int) % 4294967296 * 256 % 4294967296) = ((2 ^ 8 * b.toNat : Nat) : Int) := by omega
  have e3 : ((c.toNat : Int) % 4294967296) = ((c.toNat : Nat) : Int) := by omega
  rw [e1, e2, e3, (bits_nat .u32 32 (by decide) wraps_u32 _ _ (by omega) (by omega)).2, or_add _ _ 16 (by omega)]
  have e4 : 2 ^ 16 * a.toNat + 2 ^ 8 * b.toNat = 2 ^ 8 * (2 ^ 8 * a.toNat + b.toNat) := by omega
  rw [e4, (bits_nat .u32 32 (by decide) wraps_u32 _ _ (by omega) (by omega)).2, or_add _ _ 8 (by omega)]
  unfold n3
  omega
theorem n2_int (a b : UInt8) : Go.bits .or .u32 ((b.toNat : Int) % 4294967296 * 256 % 4294967296) ((a.toNat : Int) % 4294967296 * 65536 % 4294967296) = ((n3 a b 0 : Nat) : Int) := by
  have ha := a.toNat_lt
  have hb := b.toNat_lt
  have e1 : ((a.toNat : Int) % 4294967296 * 65536 % 4294967296) = ((2 ^ 16 * a.toNat : Nat) : Int) := by omega
  have e2 : ((b.toNat : Int) % 4294967296 * 256 % 4294967296) = ((2 ^ 8 * b.toNat : Nat) : Int) := by omega
  rw [e1, e2, (bits_nat .u32 32 (by decide) wraps_u32 _ _ (by omega) (by omega)).2, Nat.or_comm, or_add _ _ 16 (by omega)]
  have h0 : (0 : UInt8).toNat = 0 := rfl
  unfold n3
  rw [h0]
  omega
theorem and63 (n : Nat) (h : n < 2 ^ 32) : Go.bits .and .u32 (n : Int) 63 = ((n % 64 : Nat) : Int) := by
  have := (bits_nat .u32 32 (by decide) wraps_u32 n 63 h (by decide)).1
  rw [show ((63 : Nat) : Int) = 63 from rfl] at this
  rw [this, show (63 : Nat) = 2 ^ 6 - 1 from rfl, Nat.and_two_pow_sub_one_eq_mod]

set_option maxHeartbeats 4000000 in
set_option maxRecDepth 100000 in
theorem write_c (A p : ByteArray) (w : World) (hA : A.size = 64) (hp : p.size = 32) :
    Calls Tryd.prog 35 #[.string A, .string p] w fun e w' => e = .returned (.string (sb (url32 A (bs p)))) ∧ Below w.heap.size w w' := by
  have HB0 := As.mk (Bd.new (ok := fun k => w.heap.size ≤ k) w (Nat.le_refl _))
  have hA' : (A.size : Int) = 64 := by omega
  have hp' : (p.size : Int) = 32 := by omega
  go_enter Tryd.func35, Tryd.ntmps35
  go_wp2
  go_loopw [15] (fun v wr => ∃ i : Nat, v = .int .i64 i ∧ i ≤ 10 ∧ As (Bd (fun k => w.heap.size ≤ k) w.heap.size (enc A (bs p) i) wr) ∧ As (Below w.heap.size w wr)) (fun v _ => 10 - (intOf v).toNat)
  case atStart => exact ⟨0, rfl, Nat.zero_le _, HB0, ⟨(Below.refl _ _).alloc (Nat.le_refl _) _⟩⟩
  case round =>
    clear HB0
    obtain ⟨i, rfl, hi, HB, HW⟩ := hrel
    by_cases hlt : i < 10
    · have w0 : IntKind.i64.wrap (3 * (i : Int)) = 3 * (i : Int) := IntWalk.i64_in _ (by omega)
      have w1 : IntKind.i64.wrap (3 * (i : Int) + 1) = 3 * (i : Int) + 1 := IntWalk.i64_in _ (by omega)
      have w2 : IntKind.i64.wrap (3 * (i : Int) + 2) = 3 * (i : Int) + 2 := IntWalk.i64_in _ (by omega)
      have n0 : (3 * (i : Int)).toNat = 3 * i := by omega
      have n1 : (3 * (i : Int) + 1).toNat = 3 * i + 1 := by omega
      have n2 : (3 * (i : Int) + 2).toNat = 3 * i + 2 := by omega
      have b00 : (0 : Int) ≤ 3 * (i : Int) := by omega
      have b01 : 3 * (i : Int) < 32 := by omega
      have b10 : (0 : Int) ≤ 3 * (i : Int) + 1 := by omega
      have b11 : 3 * (i : Int) + 1 < 32 := by omega
      have b20 : (0 : Int) ≤ 3 * (i : Int) + 2 := by omega
      have b21 : 3 * (i : Int) + 2 < 32 := by omega
      have m0 : 3 * i < p.size := by omega
      have m1 : 3 * i + 1 < p.size := by omega
      have m2 : 3 * i + 2 < p.size := by omega
      go_wp2_with fail
      go_quiet (fail)
      have HX : As (lt3 (bs p) i = (p[3 * i], p[3 * i + 1], p[3 * i + 2])) := ⟨by rw [lt3, bs_getD p _ m0, bs_getD p _ m1, bs_getD p _ m2]⟩
      simp only [n3_int]
      generalize p[3 * i] = x0 at *
      generalize p[3 * i + 1] = x1 at *
      generalize p[3 * i + 2] = x2 at *
      clear w0 w1 w2 n0 n1 n2 b00 b01 b10 b11 b20 b21 m0 m1 m2
      have hN24 := n3_lt x0 x1 x2
      have HG : As (grp A x0 x1 x2 = [lt A (n3 x0 x1 x2 / 2 ^ 18), lt A (n3 x0 x1 x2 / 2 ^ 12 % 64), lt A (n3 x0 x1 x2 / 2 ^ 6 % 64), lt A (n3 x0 x1 x2 % 64)]) := ⟨rfl⟩
      generalize n3 x0 x1 x2 = N at *
      have e1 : Go.bits .and .u32 ((N : Int) / 4096) 63 = ((N / 4096 % 64 : Nat) : Int) := and63 (N / 4096) (by omega)
      have e2 : Go.bits .and .u32 ((N : Int) / 64) 63 = ((N / 64 % 64 : Nat) : Int) := and63 (N / 64) (by omega)
      have e3 := and63 N (by omega)
      have k0 : N / 262144 < A.size := by omega
      have k1 : N / 4096 % 64 < A.size := by omega
      have k2 : N / 64 % 64 < A.size := by omega
      have k3 : N % 64 < A.size := by omega
      have HB2 : As (Bd (fun k => w.heap.size ≤ k) w.heap.size (enc A (bs p) i) (wr.drewN nq)) := ⟨HB.out.below (pw_below_drewN (Below.refl _ _) nq)⟩
      have HW2 : As (Below w.heap.size w (wr.drewN nq)) := ⟨pw_below_drewN HW.out nq⟩
      generalize wr.drewN nq = w2 at *
      clear HB HW
      go_wp2_with fail
      refine (WriteByte_c _ _ _ (lt A (N / 262144)) _ (congrArg (fun x : UInt8 => (x.toNat : Int)) (bs_getD A _ k0).symm) _ HB2.out (by simp only [List.length_append, List.length_cons, List.length_nil, enc_len]; omega) (fun k hk => Nat.le_trans HW2.out.size hk)).mono ?_
      rintro _ w3 ⟨rfl, hb, hf⟩
      have HB3 := As.mk hb
      have HW3 : As (Below w.heap.size w w3) := ⟨HW2.out.trans (hf.below HW2.out.size (fun k hk => by omega))⟩
      clear hb hf HB2 HW2
      go_wp2_with fail
      refine (WriteByte_c _ _ _ (lt A (N / 4096 % 64)) _ (congrArg (fun x : UInt8 => (x.toNat : Int)) (bs_getD A _ k1).symm) _ HB3.out (by simp only [List.length_append, List.length_cons, List.length_nil, enc_len]; omega) (fun k hk => Nat.le_trans HW3.out.size hk)).mono ?_
      rintro _ w4 ⟨rfl, hb, hf⟩
      have HB4 := As.mk hb
      have HW4 : As (Below w.heap.size w w4) := ⟨HW3.out.trans (hf.below HW3.out.size (fun k hk => by omega))⟩
      clear hb hf HB3 HW3
      go_wp2_with fail
      refine (WriteByte_c _ _ _ (lt A (N / 64 % 64)) _ (congrArg (fun x : UInt8 => (x.toNat : Int)) (bs_getD A _ k2).symm) _ HB4.out (by simp only [List.length_append, List.length_cons, List.length_nil, enc_len]; omega) (fun k hk => Nat.le_trans HW4.out.size hk)).mono ?_
      rintro _ w5 ⟨rfl, hb, hf⟩
      have HB5 := As.mk hb
      have HW5 : As (Below w.heap.size w w5) := ⟨HW4.out.trans (hf.below HW4.out.size (fun k hk => by omega))⟩
      clear hb hf HB4 HW4
      go_wp2_with fail
      refine (WriteByte_c _ _ _ (lt A (N % 64)) _ (congrArg (fun x : UInt8 => (x.toNat : Int)) (bs_getD A _ k3).symm) _ HB5.out (by simp only [List.length_append, List.length_cons, List.length_nil, enc_len]; omega) (fun k hk => Nat.le_trans HW5.out.size hk)).mono ?_
      rintro _ w6 ⟨rfl, hb, hf⟩
      have HB6 := As.mk hb
      have HW6 : As (Below w.heap.size w w6) := ⟨HW5.out.trans (hf.below HW5.out.size (fun k hk => by omega))⟩
      clear hb hf HB5 HW5
      go_wp2
      go_roundw
      case rel => exact ⟨i + 1, by go_num, by omega, ⟨by
        rw [enc_succ A _ i x0 x1 x2 HX.out, HG.out]
        have := HB6.out
        simp only [List.append_assoc, List.cons_append, List.nil_append] at this
        exact this⟩, HW6⟩
      case measure => simp [intOf]; omega
    · have hi10 : i = 10 := by omega
      subst hi10
      have hy : (p.extract 30 32).size = 2 := by rw [ByteArray.size_extract]; omega
      obtain ⟨N, hN⟩ : ∃ N, N = n3 ((p.extract 30 32)[0]'(by omega)) ((p.extract 30 32)[1]'(by omega)) 0 := ⟨_, rfl⟩
      have HX : As (url32 A (bs p) = enc A (bs p) 10 ++ [lt A (N / 262144), lt A (N / 4096 % 64), lt A (N / 64 % 64)]) := ⟨by
        rw [hN, ByteArray.getElem_extract, ByteArray.getElem_extract, url32, bs_getD p 30 (by omega), bs_getD p 31 (by omega)]⟩
      have hN24 : N < 16777216 := by rw [hN]; exact n3_lt _ _ _
      have eN := n2_int ((p.extract 30 32)[0]'(by omega)) ((p.extract 30 32)[1]'(by omega))
      rw [← hN] at eN
      clear hN
      have e1 : Go.bits .and .u32 ((N : Int) / 4096) 63 = ((N / 4096 % 64 : Nat) : Int) := and63 (N / 4096) (by omega)
      have e2 : Go.bits .and .u32 ((N : Int) / 64) 63 = ((N / 64 % 64 : Nat) : Int) := and63 (N / 64) (by omega)
      have k0 : N / 262144 < A.size := by omega
      have k1 : N / 4096 % 64 < A.size := by omega
      have k2 : N / 64 % 64 < A.size := by omega
      go_wp2_with fail
      refine (WriteByte_c _ _ _ (lt A (N / 262144)) _ (congrArg (fun x : UInt8 => (x.toNat : Int)) (bs_getD A _ k0).symm) _ HB.out (by simp only [List.length_append, List.length_cons, List.length_nil, enc_len]; omega) (fun k hk => Nat.le_trans HW.out.size hk)).mono ?_
      rintro _ w3 ⟨rfl, hb, hf⟩
      have HB3 := As.mk hb
      have HW3 : As (Below w.heap.size w w3) := ⟨HW.out.trans (hf.below HW.out.size (fun k hk => by omega))⟩
      clear hb hf HB HW
      go_wp2_with fail
      refine (WriteByte_c _ _ _ (lt A (N / 4096 % 64)) _ (congrArg (fun x : UInt8 => (x.toNat : Int)) (bs_getD A _ k1).symm) _ HB3.out (by simp only [List.length_append, List.length_cons, List.length_nil, enc_len]; omega) (fun k hk => Nat.le_trans HW3.out.size hk)).mono ?_
      rintro _ w4 ⟨rfl, hb, hf⟩
      have HB4 := As.mk hb
      have HW4 : As (Below w.heap.size w w4) := ⟨HW3.out.trans (hf.below HW3.out.size (fun k hk => by omega))⟩
      clear hb hf HB3 HW3
      go_wp2_with fail
      refine (WriteByte_c _ _ _ (lt A (N / 64 % 64)) _ (congrArg (fun x : UInt8 => (x.toNat : Int)) (bs_getD A _ k2).symm) _ HB4.out (by simp only [List.length_append, List.length_cons, List.length_nil, enc_len]; omega) (fun k hk => Nat.le_trans HW4.out.size hk)).mono ?_
      rintro _ w5 ⟨rfl, hb, hf⟩
      have HB5 := As.mk hb
      have HW5 : As (Below w.heap.size w w5) := ⟨HW4.out.trans (hf.below HW4.out.size (fun k hk => by omega))⟩
      clear hb hf HB4 HW4
      go_wp2_with (go_at_call 41; refine (String_c _ w.heap.size _ _ _ HB5.out (fun k hk => hk) HW5.out.size).mono ?_; rintro e w' ⟨rfl, hb1⟩)
      go_ret
      exact ⟨ret_str (by rw [HX.out]), HW5.out.trans hb1⟩
end Go.Proofs.YtegeijlookpgaaaDoor
