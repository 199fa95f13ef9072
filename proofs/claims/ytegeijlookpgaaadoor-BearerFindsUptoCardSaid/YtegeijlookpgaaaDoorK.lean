/- A pair of texts as a value of the program, and a list of them read. -/
import Derived.Test.YtegeijlookpgaaaDoorU
set_option linter.unusedVariables false
set_option linter.unusedSimpArgs false
namespace Go.Proofs.YtegeijlookpgaaaDoor
open Go.RowKit Go.Proofs.YtegeijlookpgaaaDoorW.PrintWords

theorem i9 : (Tryd.prog.info? 9).map (fun i => (i.zero, i.size, i.bytes)) = some (some (.string ⟨#[]⟩), 1, 16) := by kernel_rfl
theorem iP : (Tryd.prog.info? 29).map (fun i => (i.zero, i.size, i.bytes)) = some (some (.agg #[(.string ⟨#[]⟩), (.string ⟨#[]⟩)]), 2, 32) := by kernel_rfl
/-- api.Pair -/
structure Pr where
  f0 : ByteArray
  f1 : ByteArray
deriving Inhabited
def Pr.z : Pr := ⟨⟨#[]⟩, ⟨#[]⟩⟩
def kP : Kd Pr := Kd.iso (Kd.pair Kd.string Kd.string) (fun x : Pr => (x.f0, x.f1))
theorem kP_open {w : World} {x : Pr} {cs : List Value} (h : kP.K w x cs) : cs = [.string x.f0, .string x.f1] := by
  obtain ⟨_, _, rfl, rfl, rfl⟩ := h
  exact rfl
theorem kP_mk (w : World) (x : Pr) : kP.K w x [.string x.f0, .string x.f1] := ⟨[.string x.f0], [.string x.f1], rfl, rfl, rfl⟩
theorem kP_mkM (w : World) (base : Nat) (ok : Nat → Prop) (x : Pr) : kP.M w base ok x [.string x.f0, .string x.f1] := ⟨[.string x.f0], [.string x.f1], rfl, rfl, rfl⟩
/-- the i-th pair of a row, its two cells as the walk asks for them -/
theorem kP_at {w : World} {A : Option Addr} {l : List Pr} (h : kP.C w A l.length l) (i : Nat) (hi : i < l.length) :
    ∃ ad, A = some ad ∧ w.cell? (ad.add (i * 2)) = some (.string l[i].f0) ∧ w.cell? ⟨(ad.add (i * 2)).block, (ad.add (i * 2)).off + 1, none⟩ = some (.string l[i].f1) := by
  obtain ⟨ad, c, e, _, hK, hc0⟩ := Kd.C_get h Pr.z (i : Int) (by omega) (by omega)
  have hg : l.getD (i : Int).toNat Pr.z = l[i] := by rw [List.getD_eq_getElem?_getD]; simp [hi]
  rw [hg] at hK
  have hc : ∀ j u, c[j]? = some u → w.cell? (ad.add (i * 2 + j)) = some u := fun j u hj => hc0 j u hj
  obtain rfl := kP_open hK
  exact ⟨ad, e, hc 0 _ rfl, by rw [← add_field _ _ 1 (by omega)]; exact hc 1 _ rfl⟩
end Go.Proofs.YtegeijlookpgaaaDoor
