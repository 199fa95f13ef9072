/- What usherkit.Num computes of the errors that Find hands back. -/
import Derived.Test.YtegeijlookpgaaaDoorM5
import Derived.LaidEql
set_option linter.unusedVariables false
set_option linter.unusedSimpArgs false
namespace Go.Proofs.YtegeijlookpgaaaDoor
open Go.RowKit Go.Proofs.YtegeijlookpgaaaDoorW.PrintWords

theorem comp_ptr : (Tryd.prog.info? 148).map (·.comparable) = some true := by kernel_rfl
theorem size_str : (Tryd.prog.info? 163).map (·.size) = some 1 := by kernel_rfl
theorem ev_same (A : Nat → Addr) (g : Nat) (w : World) : (binOp .eql 35 (ev (A g)) (ev (A g))).run Tryd.prog w = .ok (.bool true) w := by
  obtain ⟨i, hi, hcmp⟩ := Option.map_eq_some_iff.1 comp_ptr
  obtain ⟨j, hj, _⟩ := Option.map_eq_some_iff.1 size_str
  exact run_eql_iface_ptr_same w (A g) Tryd.underlying35 Tryd.underlying148 hi hcmp hj
theorem ev_other {A : Nat → Addr} {w : World} (h : EW A w) {g k : Nat} (hg : g ∈ errG) (hk : k ∈ errG) (hn : g ≠ k) : (binOp .eql 35 (ev (A g)) (ev (A k))).run Tryd.prog w = .ok (.bool false) w := by
  obtain ⟨i, hi, hcmp⟩ := Option.map_eq_some_iff.1 comp_ptr
  obtain ⟨j, hj, hjs⟩ := Option.map_eq_some_iff.1 size_str
  obtain ⟨c0, t0, h0⟩ := h.row g hg
  obtain ⟨c1, t1, h1⟩ := h.row k hk
  exact run_eql_iface_ptr_other w Tryd.underlying35 Tryd.underlying148 hi hcmp hj (by rw [hjs]; decide) (h.apart g hg k hk hn) h0 h1
theorem errG_all (g : Nat) (h : g < 13) : g ∈ errG := by
  unfold errG
  simp only [List.mem_cons, List.not_mem_nil, or_false]
  omega

set_option maxHeartbeats 4000000 in
set_option maxRecDepth 100000 in
theorem more_c (A : Nat → Addr) (w : World) (hE : EW A w) :
    Calls Tryd.prog 34 #[ev (A 2)] w fun e w' => e = .returned (.int .i64 12) ∧ w' = w := by
  have c8 := hE.cell 8 (errG_all _ (by decide))
  have c9 := hE.cell 9 (errG_all _ (by decide))
  have c10 := hE.cell 10 (errG_all _ (by decide))
  have c11 := hE.cell 11 (errG_all _ (by decide))
  have c2 := hE.cell 2 (errG_all _ (by decide))
  have q8 := ev_other hE (errG_all 2 (by decide)) (errG_all 8 (by decide)) (by decide)
  have q9 := ev_other hE (errG_all 2 (by decide)) (errG_all 9 (by decide)) (by decide)
  have q10 := ev_other hE (errG_all 2 (by decide)) (errG_all 10 (by decide)) (by decide)
  have q11 := ev_other hE (errG_all 2 (by decide)) (errG_all 11 (by decide)) (by decide)
  have q2 := ev_same A 2 w
  clear hE
  go_enter Tryd.func34, Tryd.ntmps34
  go_wp2
  go_ret
  exact ⟨rfl, rfl⟩
set_option maxHeartbeats 4000000 in
set_option maxRecDepth 100000 in
theorem Num_c (A : Nat → Addr) (k : Nat) (hk : k = 0 ∨ k = 2 ∨ k = 4 ∨ k = 12) (w : World) (hE : EW A w) :
    Calls Tryd.prog 12 #[errV A k] w fun e w' => e = .returned (.int .i64 k) ∧ w' = w := by
  have HE := As.mk hE
  have c3 := hE.cell 3 (errG_all _ (by decide))
  have c0 := hE.cell 0 (errG_all _ (by decide))
  have c4 := hE.cell 4 (errG_all _ (by decide))
  have c1 := hE.cell 1 (errG_all _ (by decide))
  have c5 := hE.cell 5 (errG_all _ (by decide))
  have c6 := hE.cell 6 (errG_all _ (by decide))
  have c7 := hE.cell 7 (errG_all _ (by decide))
  rcases hk with rfl | rfl | rfl | rfl
  · clear hE
    show Calls Tryd.prog 12 #[.nilIface] w _
    go_enter Tryd.func12, Tryd.ntmps12
    go_wp2
    go_ret
    exact ⟨rfl, rfl⟩
  · have q3 := ev_other hE (errG_all 0 (by decide)) (errG_all 3 (by decide)) (by decide)
    have q0 := ev_same A 0 w
    clear hE
    show Calls Tryd.prog 12 #[ev (A 0)] w _
    go_enter Tryd.func12, Tryd.ntmps12
    go_wp2
    go_ret
    exact ⟨rfl, rfl⟩
  · have q3 := ev_other hE (errG_all 1 (by decide)) (errG_all 3 (by decide)) (by decide)
    have q0 := ev_other hE (errG_all 1 (by decide)) (errG_all 0 (by decide)) (by decide)
    have q4 := ev_other hE (errG_all 1 (by decide)) (errG_all 4 (by decide)) (by decide)
    have q1 := ev_same A 1 w
    clear hE
    show Calls Tryd.prog 12 #[ev (A 1)] w _
    go_enter Tryd.func12, Tryd.ntmps12
    go_wp2
    go_ret
    exact ⟨rfl, rfl⟩
  · have q3 := ev_other hE (errG_all 2 (by decide)) (errG_all 3 (by decide)) (by decide)
    have q0 := ev_other hE (errG_all 2 (by decide)) (errG_all 0 (by decide)) (by decide)
    have q4 := ev_other hE (errG_all 2 (by decide)) (errG_all 4 (by decide)) (by decide)
    have q1 := ev_other hE (errG_all 2 (by decide)) (errG_all 1 (by decide)) (by decide)
    have q5 := ev_other hE (errG_all 2 (by decide)) (errG_all 5 (by decide)) (by decide)
    have q6 := ev_other hE (errG_all 2 (by decide)) (errG_all 6 (by decide)) (by decide)
    have q7 := ev_other hE (errG_all 2 (by decide)) (errG_all 7 (by decide)) (by decide)
    clear hE
    show Calls Tryd.prog 12 #[ev (A 2)] w _
    go_enter Tryd.func12, Tryd.ntmps12
    go_wp2_with fail
    refine (more_c A w HE.out).mono ?_
    rintro e w' ⟨rfl, rfl⟩
    go_wp2
    go_ret
    exact ⟨rfl, rfl⟩
end Go.Proofs.YtegeijlookpgaaaDoor
