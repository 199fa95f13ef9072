/- What sums.take computes: one piece of the digest. -/
import Derived.Test.YtegeijlookpgaaaDoorS2
import Derived.StillTailTactics
import Derived.Deep.QuietTactic
import Derived.BigQuiet
import Derived.LoopN
set_option linter.unusedVariables false
set_option linter.unusedSimpArgs false
namespace Go.Proofs.YtegeijlookpgaaaDoor
open Go.RowKit Go.Proofs.YtegeijlookpgaaaDoorW.PrintWords

/-- n cells by a function -/
def af (n : Nat) (f : Nat → Value) : Array Value := ((List.range n).map f).toArray
theorem af_size (n : Nat) (f : Nat → Value) : (af n f).size = n := by simp [af]
theorem af_get (n : Nat) (f : Nat → Value) (i : Nat) (h : i < n) : (af n f)[i]? = some (f i) := by simp [af, h]
/-- block b is n cells by a function -/
def AF (b T n : Nat) (f : Nat → Value) (w : World) : Prop := w.heap[b]? = some (.cells (af n f) T (0, 0))
theorem AF.cell {b T n : Nat} {f : Nat → Value} {w : World} (h : AF b T n f w) (i : Nat) (hi : i < n) : w.cell? ⟨b, i, none⟩ = some (f i) := by
  rw [Lib.cell_of_heap h, af_get n f i hi]
theorem AF.free {b T n : Nat} {f : Nat → Value} {w : World} (h : AF b T n f w) (i : Nat) : w.frozen? ⟨b, i, none⟩ = false := Lib.frozen_of_heap h i
theorem AF.lt {b T n : Nat} {f : Nat → Value} {w : World} (h : AF b T n f w) : b < w.heap.size := (Array.getElem?_eq_some_iff.1 h).1
theorem AF.set {b T n : Nat} {f : Nat → Value} {w : World} (h : AF b T n f w) (i : Nat) (v : Value) : AF b T n (fun j => if j = i then v else f j) (w.setCell ⟨b, i, none⟩ v) := by
  unfold AF at *
  simp only [World.setCell, Array.getElem?_modify, h, if_true, Option.map_some, Option.isSome_none, Bool.false_eq_true, if_false]
  have : (af n f).setIfInBounds i v = af n (fun j => if j = i then v else f j) := by
    apply Array.ext'
    simp only [af, Array.toList_setIfInBounds]
    apply List.ext_getElem
    · simp
    · intro j h1 h2
      simp only [List.getElem_set, List.getElem_map, List.getElem_range]
      by_cases hj : i = j
      · subst hj; simp
      · rw [if_neg hj, if_neg (fun e => hj e.symm)]
  rw [this]
theorem AF.far {b T n : Nat} {f : Nat → Value} {w : World} (h : AF b T n f w) {a : Addr} (v : Value) (hne : b ≠ a.block) : AF b T n f (w.setCell a v) := (Below.heap_setCell _ _ _ _ hne).trans h
theorem AF.congr {b T n : Nat} {f g : Nat → Value} {w : World} (h : AF b T n f w) (hfg : ∀ i, i < n → f i = g i) : AF b T n g w := by
  unfold AF at *
  rw [h]
  have : (List.range n).map f = (List.range n).map g := List.map_congr_left (fun i hi => hfg i (List.mem_range.1 hi))
  rw [af, af, this]

def word (p : Nat → UInt8) (t : Nat) : UInt32 := ((p (4 * t)).toUInt32 <<< 24) ||| ((p (4 * t + 1)).toUInt32 <<< 16) ||| ((p (4 * t + 2)).toUInt32 <<< 8) ||| (p (4 * t + 3)).toUInt32
def s0 (x : UInt32) : UInt32 := rotr x 7 ^^^ rotr x 18 ^^^ (x >>> 3)
def s1 (x : UInt32) : UInt32 := rotr x 17 ^^^ rotr x 19 ^^^ (x >>> 10)
def sch (p : Nat → UInt8) (t : Nat) : UInt32 :=
  if h : t < 16 then word p t else sch p (t - 16) + s0 (sch p (t - 15)) + sch p (t - 7) + s1 (sch p (t - 2))
termination_by t
decreasing_by all_goals omega
def kTab : List UInt32 := [
0x428a2f98, 0x71374491, 0xb5c0fbcf, 0xe9b5dba5, 0x3956c25b, 0x59f111f1, 0x923f82a4, 0xab1c5ed5,
0xd807aa98, 0x12835b01, 0x243185be, 0x550c7dc3, 0x72be5d74, 0x80deb1fe, 0x9bdc06a7, 0xc19bf174,
0xe49b69c1, 0xefbe4786, 0x0fc19dc6, 0x240ca1cc, 0x2de92c6f, 0x4a7484aa, 0x5cb0a9dc, 0x76f988da,
0x983e5152, 0xa831c66d, 0xb00327c8, 0xbf597fc7, 0xc6e00bf3, 0xd5a79147, 0x06ca6351, 0x14292967,
0x27b70a85, 0x2e1b2138, 0x4d2c6dfc, 0x53380d13, 0x650a7354, 0x766a0abb, 0x81c2c92e, 0x92722c85,
0xa2bfe8a1, 0xa81a664b, 0xc24b8b70, 0xc76c51a3, 0xd192e819, 0xd6990624, 0xf40e3585, 0x106aa070,
0x19a4c116, 0x1e376c08, 0x2748774c, 0x34b0bcb5, 0x391c0cb3, 0x4ed8aa4a, 0x5b9cca4f, 0x682e6ff3,
0x748f82ee, 0x78a5636f, 0x84c87814, 0x8cc70208, 0x90befffa, 0xa4506ceb, 0xbef9a3f7, 0xc67178f2]
def Tab32 (g : Nat) (zs : List UInt32) (w : World) : Prop := ∀ i : Nat, i < zs.length → w.cell? ⟨g, i, none⟩ = some (w32 (zs.getD i 0))
theorem Tab32.below {g : Nat} {zs : List UInt32} {w w' : World} (h : Tab32 g zs w) (hb : Below w.heap.size w w') : Tab32 g zs w' := fun i hi => pw_cell_below hb (h i hi)
def rounds (s : Nat → UInt32) (v : V8) : Nat → V8
  | 0 => v
  | n + 1 => step8 (rounds s v n) (kTab.getD n 0) (s n)
def add8 (v u : V8) : V8 := ⟨v.a + u.a, v.b + u.b, v.c + u.c, v.d + u.d, v.e + u.e, v.f + u.f, v.g + u.g, v.h + u.h⟩
def comp (v : V8) (p : Nat → UInt8) : V8 := add8 v (rounds (sch p) v 64)
abbrev b8 (x : UInt8) : Value := .int .u8 (x.toNat : Int)
abbrev a64 (p : Nat → UInt8) : Array Value := af 64 fun i => b8 (p i)

/-- the blocks of take's call -/
structure TS (w : World) (v u : V8) (p : Nat → UInt8) (f : Nat → Value) (wr : World) : Prop where
  st : wr.heap[w.heap.size]? = some (.cells (c8 v) 60 (0, 0))
  pc : AF (w.heap.size + 1) 61 64 (fun i => b8 (p i)) wr
  rs : wr.heap[w.heap.size + 1 + 1]? = some (.cells (c8 u) 60 (0, 0))
  sc : AF (w.heap.size + 1 + 1 + 1) 97 64 f wr
  fr : Below w.heap.size w wr
theorem TS.drew {w : World} {v u : V8} {p : Nat → UInt8} {f : Nat → Value} {wr : World} (h : TS w v u p f wr) : TS w v u p f wr.drew := ⟨h.st, h.pc, h.rs, h.sc, h.fr.drew⟩
theorem TS.set {w : World} {v u : V8} {p : Nat → UInt8} {f : Nat → Value} {wr : World} (h : TS w v u p f wr) (i : Nat) (x : Value) :
    TS w v u p (fun j => if j = i then x else f j) (wr.setCell ⟨w.heap.size + 1 + 1 + 1, i, none⟩ x) :=
  ⟨(Below.heap_setCell _ _ _ _ (by simp; omega)).trans h.st, h.pc.far _ (by simp), (Below.heap_setCell _ _ _ _ (by simp)).trans h.rs, h.sc.set i x, h.fr.setCell (by simp; omega) _⟩
theorem u8w (a : UInt8) : IntKind.u32.wrap (a.toNat : Int) = (a.toUInt32.toNat : Int) := by
  have := a.toNat_lt
  rw [IntKind.wrap_u32, UInt8.toNat_toUInt32]; omega
theorem shl24 (x : UInt32) : IntKind.u32.wrap ((x.toNat : Int) * 16777216) = ((x <<< 24).toNat : Int) := by rw [IntKind.wrap_u32]; exact u32_shl x 24 (by decide)
theorem shl16 (x : UInt32) : IntKind.u32.wrap ((x.toNat : Int) * 65536) = ((x <<< 16).toNat : Int) := by rw [IntKind.wrap_u32]; exact u32_shl x 16 (by decide)
theorem shl8 (x : UInt32) : IntKind.u32.wrap ((x.toNat : Int) * 256) = ((x <<< 8).toNat : Int) := by rw [IntKind.wrap_u32]; exact u32_shl x 8 (by decide)
theorem TS.drewN {w : World} {v u : V8} {p : Nat → UInt8} {f : Nat → Value} {wr : World} (h : TS w v u p f wr) (n : Nat) : TS w v u p f (wr.drewN n) := by
  have hh : (wr.drewN n).heap = wr.heap := by simp
  exact ⟨by rw [hh]; exact h.st, by unfold AF; rw [hh]; exact h.pc, by rw [hh]; exact h.rs, by unfold AF; rw [hh]; exact h.sc, pw_below_drewN h.fr n⟩
theorem s0_eq (x : UInt32) : Go.bits .xor .u32 (Go.bits .xor .u32 ((rotr x 7).toNat : Int) ((rotr x 18).toNat : Int)) ((x.toNat : Int) / 8) = ((s0 x).toNat : Int) := by
  have h : ((x.toNat : Int) / (8 : Int)) = ((x >>> 3).toNat : Int) := u32_shr x 3 (by decide)
  rw [h, u32_xor, u32_xor, s0]
theorem s1_eq (x : UInt32) : Go.bits .xor .u32 (Go.bits .xor .u32 ((rotr x 17).toNat : Int) ((rotr x 19).toNat : Int)) ((x.toNat : Int) / 1024) = ((s1 x).toNat : Int) := by
  have h : ((x.toNat : Int) / (1024 : Int)) = ((x >>> 10).toNat : Int) := u32_shr x 10 (by decide)
  rw [h, u32_xor, u32_xor, s1]
theorem u32_sum4 (a b c d : UInt32) : ((a.toNat : Int) + b.toNat + c.toNat + d.toNat) % 4294967296 = ((a + b + c + d).toNat : Int) := by
  simp only [UInt32.toNat_add]; omega
theorem ffm (e : UInt32) : Go.bits .xor .u32 IntKind.u32.max (e.toNat : Int) = ((e ^^^ 4294967295).toNat : Int) := by
  rw [UInt32.xor_comm]; exact u32_xor 4294967295 e
theorem step_a (u : V8) (k w : UInt32) : ((((u.h.toNat : Int) + Go.bits BinOp.xor IntKind.u32 (Go.bits BinOp.xor IntKind.u32 ((rotr u.e 6).toNat : Int) ((rotr u.e 11).toNat : Int)) ((rotr u.e 25).toNat : Int) +
      Go.bits BinOp.xor IntKind.u32 (Go.bits BinOp.and IntKind.u32 (u.e.toNat : Int) (u.f.toNat : Int)) (Go.bits BinOp.and IntKind.u32 (Go.bits BinOp.xor IntKind.u32 IntKind.u32.max (u.e.toNat : Int)) (u.g.toNat : Int)) + (k.toNat : Int) + (w.toNat : Int)) % 4294967296 +
    (Go.bits BinOp.xor IntKind.u32 (Go.bits BinOp.xor IntKind.u32 ((rotr u.a 2).toNat : Int) ((rotr u.a 13).toNat : Int)) ((rotr u.a 22).toNat : Int) +
      Go.bits BinOp.xor IntKind.u32 (Go.bits BinOp.xor IntKind.u32 (Go.bits BinOp.and IntKind.u32 (u.a.toNat : Int) (u.b.toNat : Int)) (Go.bits BinOp.and IntKind.u32 (u.a.toNat : Int) (u.c.toNat : Int))) (Go.bits BinOp.and IntKind.u32 (u.b.toNat : Int) (u.c.toNat : Int))) % 4294967296) % 4294967296)
    = ((step8 u k w).a.toNat : Int) := by
  simp only [ffm, u32_xor, u32_and]
  show _ = ((t1 u k w + t2 u).toNat : Int)
  unfold t1 t2 S1 S0 ch maj
  simp only [UInt32.toNat_add]; omega
theorem step_e (u : V8) (k w : UInt32) : (((u.d.toNat : Int) + ((u.h.toNat : Int) + Go.bits BinOp.xor IntKind.u32 (Go.bits BinOp.xor IntKind.u32 ((rotr u.e 6).toNat : Int) ((rotr u.e 11).toNat : Int)) ((rotr u.e 25).toNat : Int) +
      Go.bits BinOp.xor IntKind.u32 (Go.bits BinOp.and IntKind.u32 (u.e.toNat : Int) (u.f.toNat : Int)) (Go.bits BinOp.and IntKind.u32 (Go.bits BinOp.xor IntKind.u32 IntKind.u32.max (u.e.toNat : Int)) (u.g.toNat : Int)) + (k.toNat : Int) + (w.toNat : Int)) % 4294967296) % 4294967296)
    = ((step8 u k w).e.toNat : Int) := by
  simp only [ffm, u32_xor, u32_and]
  show _ = ((u.d + t1 u k w).toNat : Int)
  unfold t1 S1 ch
  simp only [UInt32.toNat_add]; omega
theorem ix0 (u : V8) : ∀ w, (Instr.index 60 (.agg (c8 u)) (.int .i64 0)).run Tryd.prog w = .ok (w32 u.a) w := fun _ => by kernel_rfl
theorem ix1 (u : V8) : ∀ w, (Instr.index 60 (.agg (c8 u)) (.int .i64 1)).run Tryd.prog w = .ok (w32 u.b) w := fun _ => by kernel_rfl
theorem ix2 (u : V8) : ∀ w, (Instr.index 60 (.agg (c8 u)) (.int .i64 2)).run Tryd.prog w = .ok (w32 u.c) w := fun _ => by kernel_rfl
theorem ix3 (u : V8) : ∀ w, (Instr.index 60 (.agg (c8 u)) (.int .i64 3)).run Tryd.prog w = .ok (w32 u.d) w := fun _ => by kernel_rfl
theorem ix4 (u : V8) : ∀ w, (Instr.index 60 (.agg (c8 u)) (.int .i64 4)).run Tryd.prog w = .ok (w32 u.e) w := fun _ => by kernel_rfl
theorem ix5 (u : V8) : ∀ w, (Instr.index 60 (.agg (c8 u)) (.int .i64 5)).run Tryd.prog w = .ok (w32 u.f) w := fun _ => by kernel_rfl
theorem ix6 (u : V8) : ∀ w, (Instr.index 60 (.agg (c8 u)) (.int .i64 6)).run Tryd.prog w = .ok (w32 u.g) w := fun _ => by kernel_rfl
theorem ix7 (u : V8) : ∀ w, (Instr.index 60 (.agg (c8 u)) (.int .i64 7)).run Tryd.prog w = .ok (w32 u.h) w := fun _ => by kernel_rfl
theorem TS.set0 {w : World} {v u : V8} {p : Nat → UInt8} {f : Nat → Value} {wr : World} (h : TS w v u p f wr) (x : UInt32) : TS w { v with a := x } u p f (wr.setCell ⟨w.heap.size, 0, none⟩ (w32 x)) :=
  ⟨(heap_setCell_same wr w.heap.size 0 _ _ _ h.st).trans rfl, h.pc.far _ (by simp), (Below.heap_setCell _ _ _ _ (by simp; omega)).trans h.rs, h.sc.far _ (by simp; omega), h.fr.setCell (Nat.le_refl _) _⟩
theorem TS.set1 {w : World} {v u : V8} {p : Nat → UInt8} {f : Nat → Value} {wr : World} (h : TS w v u p f wr) (x : UInt32) : TS w { v with b := x } u p f (wr.setCell ⟨w.heap.size, 1, none⟩ (w32 x)) :=
  ⟨(heap_setCell_same wr w.heap.size 1 _ _ _ h.st).trans rfl, h.pc.far _ (by simp), (Below.heap_setCell _ _ _ _ (by simp; omega)).trans h.rs, h.sc.far _ (by simp; omega), h.fr.setCell (Nat.le_refl _) _⟩
theorem TS.set2 {w : World} {v u : V8} {p : Nat → UInt8} {f : Nat → Value} {wr : World} (h : TS w v u p f wr) (x : UInt32) : TS w { v with c := x } u p f (wr.setCell ⟨w.heap.size, 2, none⟩ (w32 x)) :=
  ⟨(heap_setCell_same wr w.heap.size 2 _ _ _ h.st).trans rfl, h.pc.far _ (by simp), (Below.heap_setCell _ _ _ _ (by simp; omega)).trans h.rs, h.sc.far _ (by simp; omega), h.fr.setCell (Nat.le_refl _) _⟩
theorem TS.set3 {w : World} {v u : V8} {p : Nat → UInt8} {f : Nat → Value} {wr : World} (h : TS w v u p f wr) (x : UInt32) : TS w { v with d := x } u p f (wr.setCell ⟨w.heap.size, 3, none⟩ (w32 x)) :=
  ⟨(heap_setCell_same wr w.heap.size 3 _ _ _ h.st).trans rfl, h.pc.far _ (by simp), (Below.heap_setCell _ _ _ _ (by simp; omega)).trans h.rs, h.sc.far _ (by simp; omega), h.fr.setCell (Nat.le_refl _) _⟩
theorem TS.set4 {w : World} {v u : V8} {p : Nat → UInt8} {f : Nat → Value} {wr : World} (h : TS w v u p f wr) (x : UInt32) : TS w { v with e := x } u p f (wr.setCell ⟨w.heap.size, 4, none⟩ (w32 x)) :=
  ⟨(heap_setCell_same wr w.heap.size 4 _ _ _ h.st).trans rfl, h.pc.far _ (by simp), (Below.heap_setCell _ _ _ _ (by simp; omega)).trans h.rs, h.sc.far _ (by simp; omega), h.fr.setCell (Nat.le_refl _) _⟩
theorem TS.set5 {w : World} {v u : V8} {p : Nat → UInt8} {f : Nat → Value} {wr : World} (h : TS w v u p f wr) (x : UInt32) : TS w { v with f := x } u p f (wr.setCell ⟨w.heap.size, 5, none⟩ (w32 x)) :=
  ⟨(heap_setCell_same wr w.heap.size 5 _ _ _ h.st).trans rfl, h.pc.far _ (by simp), (Below.heap_setCell _ _ _ _ (by simp; omega)).trans h.rs, h.sc.far _ (by simp; omega), h.fr.setCell (Nat.le_refl _) _⟩
theorem TS.set6 {w : World} {v u : V8} {p : Nat → UInt8} {f : Nat → Value} {wr : World} (h : TS w v u p f wr) (x : UInt32) : TS w { v with g := x } u p f (wr.setCell ⟨w.heap.size, 6, none⟩ (w32 x)) :=
  ⟨(heap_setCell_same wr w.heap.size 6 _ _ _ h.st).trans rfl, h.pc.far _ (by simp), (Below.heap_setCell _ _ _ _ (by simp; omega)).trans h.rs, h.sc.far _ (by simp; omega), h.fr.setCell (Nat.le_refl _) _⟩
theorem TS.set7 {w : World} {v u : V8} {p : Nat → UInt8} {f : Nat → Value} {wr : World} (h : TS w v u p f wr) (x : UInt32) : TS w { v with h := x } u p f (wr.setCell ⟨w.heap.size, 7, none⟩ (w32 x)) :=
  ⟨(heap_setCell_same wr w.heap.size 7 _ _ _ h.st).trans rfl, h.pc.far _ (by simp), (Below.heap_setCell _ _ _ _ (by simp; omega)).trans h.rs, h.sc.far _ (by simp; omega), h.fr.setCell (Nat.le_refl _) _⟩
def v0 : V8 := ⟨0, 0, 0, 0, 0, 0, 0, 0⟩

set_option maxHeartbeats 4000000 in
set_option maxRecDepth 100000 in
theorem take_c (v : V8) (p : Nat → UInt8) (w : World) (hT : Tab32 17 kTab w) :
    Calls Tryd.prog 95 #[.agg (c8 v), .agg (a64 p)] w fun e w' => e = .returned (.agg (c8 (comp v p))) ∧ Below w.heap.size w w' := by
  have HT := As.mk hT
  clear hT
  go_enter Tryd.func95, Tryd.ntmps95
  go_wp2
  go_loopw [27] (fun c wr => ∃ (t : Nat) (f : Nat → Value), c = .int .i64 t ∧ t ≤ 16 ∧ As (TS w v v0 p f wr) ∧ As (∀ i, i < t → f i = w32 (sch p i))) (fun c _ => 16 - (intOf c).toNat)
  case atStart =>
    obtain ⟨h1, h2, h3, h4⟩ := alloc4 w (.cells (c8 v) 60) (.cells (a64 p) 61) (.cells (c8 v0) 60) (.cells (af 64 fun _ => w32 0) 97)
    exact ⟨0, fun _ => w32 0, rfl, by omega, ⟨h1, h2, h3, h4, ((((Below.refl _ _).alloc (Nat.le_refl _) _).alloc (by simp) _).alloc (by simp; omega) _).alloc (by simp; omega) _⟩, ⟨fun i h => absurd h (by omega)⟩⟩
  case round =>
    obtain ⟨t, f, rfl, ht, HS, HF⟩ := hrel
    by_cases hlt : t < 16
    · have q0 := HS.out.pc.cell (4 * t) (by omega)
      have q1 := HS.out.pc.cell (4 * t + 1) (by omega)
      have q2 := HS.out.pc.cell (4 * t + 2) (by omega)
      have q3 := HS.out.pc.cell (4 * t + 3) (by omega)
      have w0 : IntKind.i64.wrap (4 * (t : Int)) = 4 * (t : Int) := IntWalk.i64_in _ (by omega)
      have w1 : IntKind.i64.wrap (4 * (t : Int) + 1) = 4 * (t : Int) + 1 := IntWalk.i64_in _ (by omega)
      have w2 : IntKind.i64.wrap (4 * (t : Int) + 2) = 4 * (t : Int) + 2 := IntWalk.i64_in _ (by omega)
      have w3 : IntKind.i64.wrap (4 * (t : Int) + 3) = 4 * (t : Int) + 3 := IntWalk.i64_in _ (by omega)
      have n0 : (4 * (t : Int)).toNat = 4 * t := by omega
      have n1 : (4 * (t : Int) + 1).toNat = 4 * t + 1 := by omega
      have n2 : (4 * (t : Int) + 2).toNat = 4 * t + 2 := by omega
      have n3 : (4 * (t : Int) + 3).toNat = 4 * t + 3 := by omega
      have b0 : (0 : Int) ≤ 4 * (t : Int) ∧ 4 * (t : Int) < 64 := by omega
      have b1 : (0 : Int) ≤ 4 * (t : Int) + 1 ∧ 4 * (t : Int) + 1 < 64 := by omega
      have b2 : (0 : Int) ≤ 4 * (t : Int) + 2 ∧ 4 * (t : Int) + 2 < 64 := by omega
      have b3 : (0 : Int) ≤ 4 * (t : Int) + 3 ∧ 4 * (t : Int) + 3 < 64 := by omega
      have bt : (0 : Int) ≤ (t : Int) ∧ (t : Int) < 64 := by omega
      obtain ⟨b00, b01⟩ := b0
      obtain ⟨b10, b11⟩ := b1
      obtain ⟨b20, b21⟩ := b2
      obtain ⟨b30, b31⟩ := b3
      obtain ⟨bt0, bt1⟩ := bt
      go_wp2
      go_still_tail 31, (by kernel_rfl)
      change wpList _ _ _ _ _ wr.drew
      clear q0 q1 q2 q3 w0 w1 w2 w3 n0 n1 n2 n3 b00 b01 b10 b11 b20 b21 b30 b31
      have q4 := HS.out.drew.sc.cell t (by omega)
      have q5 := HS.out.drew.sc.free t
      have hD := As.mk HS.out.drew
      generalize wr.drew = w2 at *
      simp only [u8w, shl24, shl16, shl8, u32_or]
      go_wp2
      go_roundw
      case rel =>
        refine ⟨t + 1, _, by go_num, by omega, ⟨hD.out.set t _⟩, ⟨fun i hi => ?_⟩⟩
        by_cases h : i = t
        · subst h
          have hs : sch p i = word p i := by rw [sch, dif_pos hlt]
          rw [if_pos rfl, hs]; rfl
        · rw [if_neg h]; exact HF.out i (by omega)
      case measure => simp [intOf]; omega
    · go_wp2
      go_loopw [7] (fun c wr => ∃ (t : Nat) (f : Nat → Value), c = .int .i64 t ∧ 16 ≤ t ∧ t ≤ 64 ∧ As (TS w v v0 p f wr) ∧ As (∀ i, i < t → f i = w32 (sch p i))) (fun c _ => 64 - (intOf c).toNat)
      case atStart => exact ⟨16, f, rfl, by omega, by omega, HS, ⟨fun i hi => HF.out i (by omega)⟩⟩
      case round =>
        clear HS HF
        obtain ⟨t, f, rfl, ht0, ht, HS, HF⟩ := hrel
        by_cases hlt : t < 64
        · have q15 := HS.out.sc.cell (t - 15) (by omega)
          rw [HF.out _ (by omega)] at q15
          have q2 := HS.out.sc.cell (t - 2) (by omega)
          rw [HF.out _ (by omega)] at q2
          have w1 : IntKind.i64.wrap ((t : Int) - 15) = (t : Int) - 15 := IntWalk.i64_in _ (by omega)
          have w2 : IntKind.i64.wrap ((t : Int) - 2) = (t : Int) - 2 := IntWalk.i64_in _ (by omega)
          have n1 : ((t : Int) - 15).toNat = t - 15 := by omega
          have n2 : ((t : Int) - 2).toNat = t - 2 := by omega
          have b1 : (0 : Int) ≤ (t : Int) - 15 := by omega
          have b1' : (15 : Int) ≤ (t : Int) := by omega
          have b2 : (t : Int) - 15 < 64 := by omega
          have b3 : (0 : Int) ≤ (t : Int) - 2 := by omega
          have b3' : (2 : Int) ≤ (t : Int) := by omega
          have b4 : (t : Int) - 2 < 64 := by omega
          go_wp2
          go_quiet (fail)
          clear q15 q2 w1 w2 n1 n2 b1 b1' b2 b3 b3' b4
          have hD := As.mk (HS.out.drewN nq)
          generalize wr.drewN nq = w2 at *
          clear HS
          go_wp2_with fail
          refine (RotateLeft32_c _ 7 _ (by decide) (by decide) (by decide) _).mono ?_
          rintro _ _ ⟨rfl, rfl⟩
          go_wp2_with fail
          refine (RotateLeft32_c _ 18 _ (by decide) (by decide) (by decide) _).mono ?_
          rintro _ _ ⟨rfl, rfl⟩
          go_wp2_with fail
          refine (RotateLeft32_c _ 17 _ (by decide) (by decide) (by decide) _).mono ?_
          rintro _ _ ⟨rfl, rfl⟩
          go_wp2_with fail
          refine (RotateLeft32_c _ 19 _ (by decide) (by decide) (by decide) _).mono ?_
          rintro _ _ ⟨rfl, rfl⟩
          go_wp2_with fail
          have q16 := hD.out.sc.cell (t - 16) (by omega)
          rw [HF.out _ (by omega)] at q16
          have q7 := hD.out.sc.cell (t - 7) (by omega)
          rw [HF.out _ (by omega)] at q7
          have w1 : IntKind.i64.wrap ((t : Int) - 16) = (t : Int) - 16 := IntWalk.i64_in _ (by omega)
          have w7 : IntKind.i64.wrap ((t : Int) - 7) = (t : Int) - 7 := IntWalk.i64_in _ (by omega)
          have n1 : ((t : Int) - 16).toNat = t - 16 := by omega
          have n2 : ((t : Int) - 7).toNat = t - 7 := by omega
          have b1 : (0 : Int) ≤ (t : Int) - 16 := by omega
          have b1' : (16 : Int) ≤ (t : Int) := by omega
          have b2 : (t : Int) - 16 < 64 := by omega
          have b3 : (0 : Int) ≤ (t : Int) - 7 := by omega
          have b3' : (7 : Int) ≤ (t : Int) := by omega
          have b4 : (t : Int) - 7 < 64 := by omega
          have b5 : (0 : Int) ≤ (t : Int) := by omega
          have b6 : (t : Int) < 64 := by omega
          go_still_tail 15, (by kernel_rfl)
          change wpList _ _ _ _ _ w2.drew
          clear q16 q7 w1 w7 n1 n2 b1 b1' b2 b3 b3' b4 b5
          have q4 := hD.out.drew.sc.cell t (by omega)
          have q5 := hD.out.drew.sc.free t
          have hD2 := As.mk hD.out.drew
          generalize w2.drew = w3 at *
          clear hD
          go_wp2
          go_roundw
          case rel =>
            refine ⟨t + 1, _, by go_num, by omega, by omega, ⟨hD2.out.set t _⟩, ⟨fun i hi => ?_⟩⟩
            by_cases h : i = t
            · subst h
              have hs : sch p i = sch p (i - 16) + s0 (sch p (i - 15)) + sch p (i - 7) + s1 (sch p (i - 2)) := by rw [sch, dif_neg (by omega)]
              rw [if_pos rfl, hs, s0_eq, s1_eq, u32_sum4]
            · rw [if_neg h]; exact HF.out i (by omega)
          case measure => simp [intOf]; omega
        · have hst := HS.out.st
          have g0 : wr.cell? ⟨w.heap.size, 0, none⟩ = some (w32 v.a) := by rw [Lib.cell_of_heap hst]; rfl
          have g1 : wr.cell? ⟨w.heap.size, 1, none⟩ = some (w32 v.b) := by rw [Lib.cell_of_heap hst]; rfl
          have g2 : wr.cell? ⟨w.heap.size, 2, none⟩ = some (w32 v.c) := by rw [Lib.cell_of_heap hst]; rfl
          have g3 : wr.cell? ⟨w.heap.size, 3, none⟩ = some (w32 v.d) := by rw [Lib.cell_of_heap hst]; rfl
          have g4 : wr.cell? ⟨w.heap.size, 4, none⟩ = some (w32 v.e) := by rw [Lib.cell_of_heap hst]; rfl
          have g5 : wr.cell? ⟨w.heap.size, 5, none⟩ = some (w32 v.f) := by rw [Lib.cell_of_heap hst]; rfl
          have g6 : wr.cell? ⟨w.heap.size, 6, none⟩ = some (w32 v.g) := by rw [Lib.cell_of_heap hst]; rfl
          have g7 : wr.cell? ⟨w.heap.size, 7, none⟩ = some (w32 v.h) := by rw [Lib.cell_of_heap hst]; rfl
          clear hst
          go_wp2
          go_quiet (fail)
          clear g0 g1 g2 g3 g4 g5 g6 g7
          have hD := As.mk (HS.out.drewN nq)
          have HF64 : As (∀ i, i < 64 → f i = w32 (sch p i)) := ⟨fun i hi => HF.out i (by omega)⟩
          generalize wr.drewN nq = w2 at *
          clear HS HF
          go_wp2
          go_loopw [12, 13, 14, 15, 16, 17, 18, 19, 121] (fun c12 c13 c14 c15 c16 c17 c18 c19 c wr => ∃ (t : Nat) (u : V8), c = .int .i64 t ∧ t ≤ 64 ∧ As (u = rounds (sch p) v t) ∧ c12 = w32 u.a ∧ c13 = w32 u.b ∧ c14 = w32 u.c ∧ c15 = w32 u.d ∧ c16 = w32 u.e ∧ c17 = w32 u.f ∧ c18 = w32 u.g ∧ c19 = w32 u.h ∧ As (TS w v v0 p f wr)) (fun _ _ _ _ _ _ _ _ c _ => 64 - (intOf c).toNat)
          case atStart => exact ⟨0, v, rfl, by omega, ⟨rfl⟩, rfl, rfl, rfl, rfl, rfl, rfl, rfl, rfl, hD⟩
          case round =>
            clear hD
            obtain ⟨j, u, rfl, hj, HU, rfl, rfl, rfl, rfl, rfl, rfl, rfl, rfl, HS⟩ := hrel
            by_cases hlj : j < 64
            · go_wp2_with fail
              refine (RotateLeft32_c _ 6 _ (by decide) (by decide) (by decide) _).mono ?_
              rintro _ _ ⟨rfl, rfl⟩
              go_wp2_with fail
              refine (RotateLeft32_c _ 11 _ (by decide) (by decide) (by decide) _).mono ?_
              rintro _ _ ⟨rfl, rfl⟩
              go_wp2_with fail
              refine (RotateLeft32_c _ 25 _ (by decide) (by decide) (by decide) _).mono ?_
              rintro _ _ ⟨rfl, rfl⟩
              have q1 := HS.out.sc.cell j (by omega)
              rw [HF64.out _ (by omega)] at q1
              have q2 := (HT.out.below HS.out.fr) j (by simpa [kTab] using hlj)
              have b0 : (0 : Int) ≤ (j : Int) := by omega
              have b1 : (j : Int) < 64 := by omega
              go_wp2_with fail
              go_quiet (fail)
              clear q1 q2 b0 b1
              have hD := As.mk (HS.out.drewN nq)
              generalize wr.drewN nq = w3 at *
              clear HS
              go_wp2_with fail
              refine (RotateLeft32_c _ 2 _ (by decide) (by decide) (by decide) _).mono ?_
              rintro _ _ ⟨rfl, rfl⟩
              go_wp2_with fail
              refine (RotateLeft32_c _ 13 _ (by decide) (by decide) (by decide) _).mono ?_
              rintro _ _ ⟨rfl, rfl⟩
              go_wp2_with fail
              refine (RotateLeft32_c _ 22 _ (by decide) (by decide) (by decide) _).mono ?_
              rintro _ _ ⟨rfl, rfl⟩
              go_wp2_with fail
              go_roundw
              case rel =>
                refine ⟨j + 1, step8 u (kTab.getD j 0) (sch p j), by go_num, by omega, ⟨by rw [HU.out]; rfl⟩, ?_, rfl, rfl, rfl, ?_, rfl, rfl, rfl, hD⟩
                · rw [List.getD_eq_getElem?_getD]; exact congrArg (Value.int .u32) (step_a u _ _)
                · rw [List.getD_eq_getElem?_getD]; exact congrArg (Value.int .u32) (step_e u _ _)
              case measure => simp [intOf]; omega
            · obtain rfl : j = 64 := by omega
              have x0 := ix0 u
              have x1 := ix1 u
              have x2 := ix2 u
              have x3 := ix3 u
              have x4 := ix4 u
              have x5 := ix5 u
              have x6 := ix6 u
              have x7 := ix7 u
              have g0 : wr.cell? ⟨w.heap.size, 0, none⟩ = some (w32 v.a) := by rw [Lib.cell_of_heap HS.out.st]; rfl
              have f0 : wr.frozen? ⟨w.heap.size, 0, none⟩ = false := Lib.frozen_of_heap HS.out.st 0
              go_wp2
              refine wp_loop_rounds 9 ?_
              rw [rounds_succ]; go_wp2
              simp only [u32_add]
              clear g0 f0 x0
              replace HS := As.mk (HS.out.set0 (v.a + u.a))
              generalize wr.setCell ⟨w.heap.size, 0, none⟩ (w32 (v.a + u.a)) = wr1 at *
              have g1 : wr1.cell? ⟨w.heap.size, 1, none⟩ = some (w32 v.b) := by rw [Lib.cell_of_heap HS.out.st]; rfl
              have f1 : wr1.frozen? ⟨w.heap.size, 1, none⟩ = false := Lib.frozen_of_heap HS.out.st 1
              rw [rounds_succ]; go_wp2
              simp only [u32_add]
              clear g1 f1 x1
              replace HS := As.mk (HS.out.set1 (v.b + u.b))
              generalize wr1.setCell ⟨w.heap.size, 1, none⟩ (w32 (v.b + u.b)) = wr2 at *
              have g2 : wr2.cell? ⟨w.heap.size, 2, none⟩ = some (w32 v.c) := by rw [Lib.cell_of_heap HS.out.st]; rfl
              have f2 : wr2.frozen? ⟨w.heap.size, 2, none⟩ = false := Lib.frozen_of_heap HS.out.st 2
              rw [rounds_succ]; go_wp2
              simp only [u32_add]
              clear g2 f2 x2
              replace HS := As.mk (HS.out.set2 (v.c + u.c))
              generalize wr2.setCell ⟨w.heap.size, 2, none⟩ (w32 (v.c + u.c)) = wr3 at *
              have g3 : wr3.cell? ⟨w.heap.size, 3, none⟩ = some (w32 v.d) := by rw [Lib.cell_of_heap HS.out.st]; rfl
              have f3 : wr3.frozen? ⟨w.heap.size, 3, none⟩ = false := Lib.frozen_of_heap HS.out.st 3
              rw [rounds_succ]; go_wp2
              simp only [u32_add]
              clear g3 f3 x3
              replace HS := As.mk (HS.out.set3 (v.d + u.d))
              generalize wr3.setCell ⟨w.heap.size, 3, none⟩ (w32 (v.d + u.d)) = wr4 at *
              have g4 : wr4.cell? ⟨w.heap.size, 4, none⟩ = some (w32 v.e) := by rw [Lib.cell_of_heap HS.out.st]; rfl
              have f4 : wr4.frozen? ⟨w.heap.size, 4, none⟩ = false := Lib.frozen_of_heap HS.out.st 4
              rw [rounds_succ]; go_wp2
              simp only [u32_add]
              clear g4 f4 x4
              replace HS := As.mk (HS.out.set4 (v.e + u.e))
              generalize wr4.setCell ⟨w.heap.size, 4, none⟩ (w32 (v.e + u.e)) = wr5 at *
              have g5 : wr5.cell? ⟨w.heap.size, 5, none⟩ = some (w32 v.f) := by rw [Lib.cell_of_heap HS.out.st]; rfl
              have f5 : wr5.frozen? ⟨w.heap.size, 5, none⟩ = false := Lib.frozen_of_heap HS.out.st 5
              rw [rounds_succ]; go_wp2
              simp only [u32_add]
              clear g5 f5 x5
              replace HS := As.mk (HS.out.set5 (v.f + u.f))
              generalize wr5.setCell ⟨w.heap.size, 5, none⟩ (w32 (v.f + u.f)) = wr6 at *
              have g6 : wr6.cell? ⟨w.heap.size, 6, none⟩ = some (w32 v.g) := by rw [Lib.cell_of_heap HS.out.st]; rfl
              have f6 : wr6.frozen? ⟨w.heap.size, 6, none⟩ = false := Lib.frozen_of_heap HS.out.st 6
              rw [rounds_succ]; go_wp2
              simp only [u32_add]
              clear g6 f6 x6
              replace HS := As.mk (HS.out.set6 (v.g + u.g))
              generalize wr6.setCell ⟨w.heap.size, 6, none⟩ (w32 (v.g + u.g)) = wr7 at *
              have g7 : wr7.cell? ⟨w.heap.size, 7, none⟩ = some (w32 v.h) := by rw [Lib.cell_of_heap HS.out.st]; rfl
              have f7 : wr7.frozen? ⟨w.heap.size, 7, none⟩ = false := Lib.frozen_of_heap HS.out.st 7
              rw [rounds_succ]; go_wp2
              simp only [u32_add]
              clear g7 f7 x7
              replace HS := As.mk (HS.out.set7 (v.h + u.h))
              generalize wr7.setCell ⟨w.heap.size, 7, none⟩ (w32 (v.h + u.h)) = wr8 at *
              rw [rounds_succ]
              have hst : wr8.heap[w.heap.size]? = some (.cells (c8 (add8 v u)) 60 (0, 0)) := HS.out.st
              have hrs := HS.out.rs
              have HST := hid_ hst
              have HRS := hid_ hrs
              clear hst hrs
              go_wp2_with (first | (refine wpList_load_sub rfl 60 _ rfl w.heap.size 0 rfl 60 _ (0, 0) _ (c8 (add8 v u)).toList HST.out Tryd.underlying60 rfl (by kernel_rfl) (fun j x hx => by simpa using hx) ?_) | (refine wpList_store_sub rfl 60 _ _ rfl (w.heap.size + 1 + 1) 0 rfl 60 _ (c8 (add8 v u)).toList rfl HRS.out (by kernel_rfl) (by simp) (fun y hy => by simp at hy; rcases hy with rfl | rfl | rfl | rfl | rfl | rfl | rfl | rfl <;> rfl) ?_; intro w9 h9 hf9))
              have hr : w9.heap[w.heap.size + 1 + 1]? = some (.cells (c8 (add8 v u)) 60 (0, 0)) := h9
              refine bodyPost_ret (v := .agg (c8 (add8 v u))) (results_cell_row Tryd.results95 _ _ _ 60 _ (0, 0) _ rfl hr Tryd.underlying60 rfl (by kernel_rfl)) rfl ⟨by rw [HU.out]; rfl, HS.out.fr.trans (hf9.below HS.out.fr.size (fun k hk e => by omega))⟩
end Go.Proofs.YtegeijlookpgaaaDoor
