/- What the reference digest's step computes. -/
import Derived.Test.YtegeijlookpgaaaDoorS
set_option linter.unusedVariables false
set_option linter.unusedSimpArgs false
namespace Go.Proofs.YtegeijlookpgaaaDoor
open Go.RowKit Go.Proofs.YtegeijlookpgaaaDoorW.PrintWords

structure V8 where
  a : UInt32
  b : UInt32
  c : UInt32
  d : UInt32
  e : UInt32
  f : UInt32
  g : UInt32
  h : UInt32
abbrev w32 (x : UInt32) : Value := .int .u32 (x.toNat : Int)
abbrev c8 (v : V8) : Array Value := #[w32 v.a, w32 v.b, w32 v.c, w32 v.d, w32 v.e, w32 v.f, w32 v.g, w32 v.h]
def S1 (e : UInt32) : UInt32 := rotr e 6 ^^^ rotr e 11 ^^^ rotr e 25
def S0 (a : UInt32) : UInt32 := rotr a 2 ^^^ rotr a 13 ^^^ rotr a 22
def ch (e f g : UInt32) : UInt32 := (e &&& f) ^^^ ((e ^^^ 4294967295) &&& g)
def maj (a b c : UInt32) : UInt32 := (a &&& b) ^^^ (a &&& c) ^^^ (b &&& c)
def t1 (v : V8) (k w : UInt32) : UInt32 := v.h + S1 v.e + ch v.e v.f v.g + k + w
def t2 (v : V8) : UInt32 := S0 v.a + maj v.a v.b v.c
def step8 (v : V8) (k w : UInt32) : V8 := ⟨t1 v k w + t2 v, v.a, v.b, v.c, v.d + t1 v k w, v.e, v.f, v.g⟩

theorem ff32 (x : UInt32) : Go.bits BinOp.xor IntKind.u32 (x.toNat : Int) 4294967295 = ((x ^^^ 4294967295).toNat : Int) := u32_xor x 4294967295
theorem u32_sum1 (h s c k w s0 m : UInt32) : ((h.toNat : Int) + s.toNat + c.toNat + k.toNat + w.toNat + ((s0.toNat : Int) + m.toNat)) % 4294967296 = ((h + s + c + k + w + (s0 + m)).toNat : Int) := by
  simp only [UInt32.toNat_add]; omega
theorem u32_sum2 (d h s c k w : UInt32) : ((d.toNat : Int) + ((h.toNat : Int) + s.toNat + c.toNat + k.toNat + w.toNat)) % 4294967296 = ((d + (h + s + c + k + w)).toNat : Int) := by
  simp only [UInt32.toNat_add]; omega

set_option maxHeartbeats 4000000 in
set_option maxRecDepth 100000 in
theorem refStep_c (v : V8) (k wd : UInt32) (w : World) :
    Calls Tryd.prog 72 #[.agg (c8 v), w32 k, w32 wd] w fun e w' => e = .returned (.agg (c8 (step8 v k wd))) ∧ Below w.heap.size w w' := by
  obtain ⟨a, b, c, d, e, f, g, h⟩ := v
  go_enter Tryd.func72, Tryd.ntmps72
  go_wp2_with fail
  refine (rot_c _ 6 (by decide) (by decide) _).mono ?_
  rintro _ _ ⟨rfl, rfl⟩
  go_wp2_with fail
  refine (rot_c _ 11 (by decide) (by decide) _).mono ?_
  rintro _ _ ⟨rfl, rfl⟩
  go_wp2_with fail
  refine (rot_c _ 25 (by decide) (by decide) _).mono ?_
  rintro _ _ ⟨rfl, rfl⟩
  go_wp2_with fail
  refine (rot_c _ 2 (by decide) (by decide) _).mono ?_
  rintro _ _ ⟨rfl, rfl⟩
  go_wp2_with fail
  refine (rot_c _ 13 (by decide) (by decide) _).mono ?_
  rintro _ _ ⟨rfl, rfl⟩
  go_wp2_with fail
  refine (rot_c _ 22 (by decide) (by decide) _).mono ?_
  rintro _ _ ⟨rfl, rfl⟩
  go_wp2_with fail
  simp only [ff32, u32_xor, u32_and]
  refine bodyPost_ret (v := .agg (c8 (step8 ⟨a, b, c, d, e, f, g, h⟩ k wd))) ?_ rfl ⟨rfl, ?_⟩
  · have e1 := u32_sum1 h (S1 e) (ch e f g) k wd (S0 a) (maj a b c)
    have e2 := u32_sum2 d h (S1 e) (ch e f g) k wd
    simp only [S1, ch, S0, maj] at e1 e2
    simp [results, Tryd.results72, go_sem, step8, t1, t2, S1, ch, S0, maj, -UInt32.toNat_xor, -UInt32.toNat_and, -UInt32.toNat_add, e1, e2]
  · exact (((Below.refl _ _).alloc (Nat.le_refl _) _).alloc (by simp) _).alloc (by simp; omega) _
end Go.Proofs.YtegeijlookpgaaaDoor
