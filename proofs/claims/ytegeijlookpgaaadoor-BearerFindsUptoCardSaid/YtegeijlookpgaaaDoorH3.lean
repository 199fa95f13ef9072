/- The law BearerFinds, walked: it returns true and old memory stays. -/
import Derived.Test.YtegeijlookpgaaaDoorH1
import Derived.Test.YtegeijlookpgaaaDoorH2
import Derived.Test.YtegeijlookpgaaaDoorG10
import Derived.Deep.Heap
import Derived.BigRegion
set_option linter.unusedVariables false
set_option linter.unusedSimpArgs false
namespace Go.Proofs.YtegeijlookpgaaaDoor
open Go.RowKit Go.Proofs.YtegeijlookpgaaaDoorW.PrintWords

/-! ### the law's own list: a z behind each value -/
theorem pcs_set : ∀ (l : List Pr) (i : Nat) (p : Pr) (s : ByteArray), l[i]? = some p → (pcs l).set (2 * i + 1) (.string s) = pcs (l.set i ⟨p.f0, s⟩)
  | [], i, p, s, h => by simp at h
  | q :: r, 0, p, s, h => by
    obtain rfl : q = p := by simpa using h
    rfl
  | q :: r, i + 1, p, s, h => by
    have := pcs_set r i p s (by simpa using h)
    show (Value.string q.f0 :: Value.string q.f1 :: pcs r).set ((2 * i + 1) + 1 + 1) _ = Value.string q.f0 :: Value.string q.f1 :: pcs (r.set i _)
    rw [List.set_cons_succ, List.set_cons_succ, this]
theorem PR.set {B g cap : Nat} {l : List Pr} {w : World} (h : PR B (.slice (some ⟨g, 0, none⟩) l.length cap) l w) (i : Nat) (hi : i < l.length) (s : ByteArray) :
    PR B (.slice (some ⟨g, 0, none⟩) l.length cap) (l.set i ⟨l[i].f0, s⟩) (w.setCell ⟨g, 2 * i + 1, none⟩ (.string s)) := by
  have hs := World.ownsRow.stored h (2 * i + 1) (.string s)
  unfold PR
  rw [List.length_set, ← pcs_set l i l[i] s (List.getElem?_eq_getElem hi)]
  exact hs.1
def addZ (p : Pr) : Pr := ⟨p.f0, p.f1 ++ ⟨#[122]⟩⟩
def bump (l : List Pr) (i : Nat) : List Pr := (l.take i).map addZ ++ l.drop i
theorem bump_len (l : List Pr) (i : Nat) : (bump l i).length = l.length := by simp [bump]; omega
theorem bump_get (l : List Pr) (i : Nat) (hi : i < l.length) : (bump l i)[i]? = some l[i] := by
  have h1 : ((l.take i).map addZ).length = i := by simp; omega
  rw [bump, List.getElem?_append_right (by omega), h1, Nat.sub_self, List.getElem?_drop, Nat.add_zero, List.getElem?_eq_getElem hi]
theorem bump_succ (l : List Pr) (i : Nat) (hi : i < l.length) : (bump l i).set i (addZ l[i]) = bump l (i + 1) := by
  have h1 : ((l.take i).map addZ).length = i := by simp; omega
  rw [bump, List.set_append_right _ _ (by omega), h1, Nat.sub_self, List.drop_eq_getElem_cons hi, List.set_cons_zero, bump, List.take_add_one, List.getElem?_eq_getElem hi]
  simp only [List.map_append, List.append_assoc, Option.toList, List.map_cons, List.map_nil, List.cons_append, List.nil_append]
/-- the changed request -/
def zq (q : Rq) : Rq := { q with l := q.l.map addZ }
theorem endS_code (st : ByteArray × Nat) : (endS st).1 = 0 ∨ (endS st).1 = 2 ∨ (endS st).1 = 4 ∨ (endS st).1 = 12 := by
  unfold endS
  split
  · simp
  · split
    · simp
    · split <;> simp
theorem findS_code (q : Rq) : (findS q).1 = 0 ∨ (findS q).1 = 2 ∨ (findS q).1 = 4 ∨ (findS q).1 = 12 := by
  unfold findS
  split
  · simp
  · split
    · simp
    · unfold tailS
      split
      · simp
      · exact endS_code _

/-- the six cells of a request's box -/
theorem box6 {w : World} {b : Nat} {v0 v1 v2 v3 v4 v5 : Value} {t : TypeId} (h : w.heap[b]? = some (.cells #[v0, v1, v2, v3, v4, v5] t (0, 0))) :
    w.cell? ⟨b, 0, none⟩ = some v0 ∧ w.cell? ⟨b, 1, none⟩ = some v1 ∧ w.cell? ⟨b, 2, none⟩ = some v2 ∧ w.cell? ⟨b, 3, none⟩ = some v3 ∧ w.cell? ⟨b, 4, none⟩ = some v4 ∧ w.cell? ⟨b, 5, none⟩ = some v5 :=
  ⟨Lib.cell_of_heap h 0, Lib.cell_of_heap h 1, Lib.cell_of_heap h 2, Lib.cell_of_heap h 3, Lib.cell_of_heap h 4, Lib.cell_of_heap h 5⟩
/-- what stands while the law runs: both copies -/
structure LB (A : Nat → Addr) (m : Int) (q : Rq) (w : World) (b3 b4 : Nat) (A3 : Option Addr) (c3 : Nat) (A4 : Option Addr) (c4 : Nat) (w' : World) : Prop where
  box3 : w'.heap[b3]? = some (.cells #[.string q.m, .string q.t, .int .i64 q.k, .slice A3 q.l.length c3, .string q.b, .bool q.cl] 32 (0, 0))
  box4 : w'.heap[b4]? = some (.cells #[.string q.m, .string q.t, .int .i64 q.k, .slice A4 q.l.length c4, .string q.b, .bool q.cl] 32 (0, 0))
  pr3 : PR w.heap.size (.slice A3 q.l.length c3) q.l w'
  pr4 : PR w.heap.size (.slice A4 q.l.length c4) q.l w'
  ft : FT A m w'
  fr : Below w.heap.size w w'
theorem LB.next {A : Nat → Addr} {m : Int} {q : Rq} {w : World} {b3 b4 : Nat} {A3 : Option Addr} {c3 : Nat} {A4 : Option Addr} {c4 : Nat} {w' w'' : World} (h : LB A m q w b3 b4 A3 c3 A4 c4 w') (hb : Below w'.heap.size w' w'') : LB A m q w b3 b4 A3 c3 A4 c4 w'' :=
  ⟨(hb.block _ (Array.getElem?_eq_some_iff.1 h.box3).1).trans h.box3, (hb.block _ (Array.getElem?_eq_some_iff.1 h.box4).1).trans h.box4, h.pr3.below hb, h.pr4.below hb, h.ft.below hb, below_nx h.fr hb⟩
theorem PR.row {B : Nat} {X : Option Addr} {c n : Nat} {l : List Pr} {w : World} (hn : l.length = n) (h : PR B (.slice X n c) l w) : kP.C w X l.length l := by
  subst hn
  obtain ⟨X', c', e, _, hr⟩ := h.reads
  injection e with e1 e2 e3
  subst e1
  exact hr
set_option maxHeartbeats 8000000 in
set_option maxRecDepth 100000 in
theorem law_c (A : Nat → Addr) (m : Int) (q : Rq) (R : Option Addr) (c : Nat) (w : World) (hq : RB q) (hz : RB (zq q)) (hT : FT A m w) (hr : kP.C w R q.l.length q.l) :
    Calls Tryd.prog 4 #[.agg (rqC q R c)] w fun e w' => e = .returned (.bool true) ∧ Below w.heap.size w w' := by
  have HQ := As.mk hq
  have HZ := As.mk hz
  have hb0 : Below w.heap.size w (w.alloc (.cells (rqC q R c) 32)) := below_alloc (Below.refl _ _) _
  have HB0 := As.mk hb0
  have HX0 : As ((w.alloc (.cells (rqC q R c) 32)).heap[w.heap.size]? = some (.cells #[.string q.m, .string q.t, .int .i64 q.k, .slice R q.l.length c, .string q.b, .bool q.cl] 32 (0, 0))) := ⟨heap_alloc_new w _⟩
  have HR0 := As.mk (Kd.C_below hr hb0)
  have HT := As.mk hT
  have HS0 : As ((w.alloc (.cells (rqC q R c) 32)).heap.size = w.heap.size + 1) := ⟨size_al w _⟩
  clear hr hT hq hz hb0
  unfold rqC at *
  go_enter Tryd.func4, Tryd.ntmps4
  go_wp2_with fail
  generalize w.alloc (.cells #[.string q.m, .string q.t, .int .i64 q.k, .slice R q.l.length c, .string q.b, .bool q.cl] 32) = w0 at *
  refine (request_c q R c w0 HR0.out HQ.out.l).mono ?_
  rintro e w1 ⟨⟨A3, c3, rfl, hc3, hp3⟩, hb1⟩
  have hal := below_alloc (Below.refl w1.heap.size w1) (.cells #[.string q.m, .string q.t, .int .i64 q.k, .slice A3 q.l.length c3, .string q.b, .bool q.cl] 32)
  have HB2 := As.mk (below_nx (below_nx HB0.out hb1) hal)
  have HP3 := As.mk ((hp3.lower HB0.out.size).below hal)
  have hx := (hal.block w.heap.size (by have := hb1.size; rw [HS0.out] at this; omega)).trans ((hb1.block w.heap.size (by rw [HS0.out]; omega)).trans HX0.out)
  have HR2 := As.mk (Kd.C_below (Kd.C_below HR0.out hb1) hal)
  have HX3 : As ((w1.alloc (.cells #[.string q.m, .string q.t, .int .i64 q.k, .slice A3 q.l.length c3, .string q.b, .bool q.cl] 32)).heap[w1.heap.size]? = some (.cells #[.string q.m, .string q.t, .int .i64 q.k, .slice A3 q.l.length c3, .string q.b, .bool q.cl] 32 (0, 0))) := ⟨heap_alloc_new w1 _⟩
  obtain ⟨x0, x1, x2, x3, x4, x5⟩ := box6 hx
  clear hx hp3 hb1 HR0 HX0 HB0 hal HS0
  unfold rqC
  go_wp2_with fail
  clear x0 x1 x2 x3 x4 x5
  generalize w1.alloc (.cells #[.string q.m, .string q.t, .int .i64 q.k, .slice A3 q.l.length c3, .string q.b, .bool q.cl] 32) = w2 at *
  generalize w1.heap.size = b3 at *
  refine (request_c q R c w2 HR2.out HQ.out.l).mono ?_
  rintro e w3 ⟨⟨A4, c4, rfl, hc4, hp4⟩, hb3⟩
  have hal := below_alloc (Below.refl w3.heap.size w3) (.cells #[.string q.m, .string q.t, .int .i64 q.k, .slice A4 q.l.length c4, .string q.b, .bool q.cl] 32)
  have HG4 : As (∀ g, A4 = some ⟨g, 0, none⟩ → w.heap.size ≤ g ∧ g < w3.heap.size) := ⟨fun g e => by
    have := World.ownsRow.lt hp4 g (by rw [e]; rfl)
    exact ⟨Nat.le_trans HB2.out.size this.1, this.2⟩⟩
  have HL4 : As (LB A m q w b3 w3.heap.size A3 c3 A4 c4 (w3.alloc (.cells #[.string q.m, .string q.t, .int .i64 q.k, .slice A4 q.l.length c4, .string q.b, .bool q.cl] 32))) := ⟨by
    have hb3' := below_nx hb3 hal
    have hB := below_nx HB2.out hb3'
    exact ⟨(hb3'.block _ (Array.getElem?_eq_some_iff.1 HX3.out).1).trans HX3.out, heap_alloc_new w3 _, HP3.out.below hb3', (hp4.lower HB2.out.size).below hal, HT.out.below hB, hB⟩⟩
  obtain ⟨x0, x1, x2, x3, x4, x5⟩ := box6 HL4.out.box4
  clear hp4 hb3 HR2 HX3 HB2 hal HP3
  unfold rqC
  go_wp2_with fail
  clear x0 x1 x2 x3 x4 x5
  generalize w3.alloc (.cells #[.string q.m, .string q.t, .int .i64 q.k, .slice A4 q.l.length c4, .string q.b, .bool q.cl] 32) = w4 at *
  generalize w3.heap.size = b4 at *
  refine (Find_c A m q A4 c4 w4 HQ.out HL4.out.ft (PR.row rfl HL4.out.pr4)).mono ?_
  rintro e w5 ⟨rfl, hb5⟩
  have HL5 := As.mk (HL4.out.next hb5)
  clear HL4 hb5
  obtain ⟨x0, x1, x2, x3, x4, x5⟩ := box6 HL5.out.box3
  have HC := As.mk (findS_code q)
  have HFS : As (findS q = findS q) := ⟨rfl⟩
  go_wp2_with fail
  clear x0 x1 x2 x3 x4 x5
  refine (refFind_c q A3 c3 w5 HQ.out (PR.row rfl HL5.out.pr3)).mono ?_
  rintro e w6 ⟨rfl, hb6⟩
  have HL6 := As.mk (HL5.out.next hb6)
  clear HL5 hb6 HFS
  generalize findS q = r at *
  obtain ⟨k, tk⟩ := r
  obtain ⟨x0, x1, x2, x3, x4, x5⟩ := box6 HL6.out.box3
  obtain ⟨y0, y1, y2, y3, y4, y5⟩ := box6 HL6.out.box4
  simp only at HC
  go_wp2_with fail
  clear x0 x1 x2 x3 x4 x5 y0 y1 y2 y3 y4 y5
  refine (Num_c A k HC.out w6 HL6.out.ft.ew).mono ?_
  rintro e w' ⟨rfl, rfl⟩
  obtain ⟨x0, x1, x2, x3, x4, x5⟩ := box6 HL6.out.box3
  obtain ⟨y0, y1, y2, y3, y4, y5⟩ := box6 HL6.out.box4
  go_wp2_with fail
  clear x0 x1 x2 x3 x4 x5 y0 y1 y2 y3 y4 y5
  refine (SameRequest_c q A4 A3 c4 c3 w' (PR.row rfl HL6.out.pr4) (PR.row rfl HL6.out.pr3) hc4 hc3).mono ?_
  rintro e w7 ⟨rfl, hb7⟩
  have HL7 := As.mk (HL6.out.next hb7)
  clear HL6 hb7 HC
  go_wp2
  have HBX : As (w7.heap[b4]? = some (.cells #[.string q.m, .string q.t, .int .i64 q.k, .slice A4 q.l.length c4, .string q.b, .bool q.cl] 32 (0, 0))) := ⟨HL7.out.box4⟩
  have HV7 : As (PR w.heap.size (.slice A4 q.l.length c4) (bump q.l 0) w7) := ⟨HL7.out.pr4⟩
  go_loopw [9] (fun c9 wr => ∃ i : Nat, c9 = .int .i64 i ∧ i ≤ q.l.length ∧ As (PR w.heap.size (.slice A4 q.l.length c4) (bump q.l i) wr) ∧ As (Below w.heap.size w wr) ∧ As (wr.heap[b4]? = some (.cells #[.string q.m, .string q.t, .int .i64 q.k, .slice A4 q.l.length c4, .string q.b, .bool q.cl] 32 (0, 0)))) (fun v _ => q.l.length - (intOf v).toNat)
  case atStart => exact ⟨0, rfl, Nat.zero_le _, HV7, ⟨HL7.out.fr⟩, HBX⟩
  case round =>
    clear HV7 HBX
    obtain ⟨i, rfl, hi, HV, HW, HBX⟩ := hrel
    obtain ⟨y0, y1, y2, y3, y4, y5⟩ := box6 HBX.out
    by_cases hlt : i < q.l.length
    · obtain ⟨g, cap, cur, e1, hg, hh, hcap, hcap2, hsz, htk⟩ : ∃ g cap cur, Value.slice A4 q.l.length c4 = .slice (some ⟨g, 0, none⟩) (bump q.l i).length cap ∧ w.heap.size ≤ g ∧ wr.heap[g]? = some (.cells cur 29 (0, 0)) ∧ (bump q.l i).length ≤ cap ∧ cap ≤ maxLen ∧ cur.size = cap * 2 ∧ cur.toList.take (2 * (bump q.l i).length) = pcs (bump q.l i) := by
        rcases HV.out.form with ⟨_, e⟩ | h
        · have := congrArg List.length e
          rw [bump_len] at this
          simp only [List.length_nil] at this; omega
        · exact h
      injection e1 with e1 e2 e3
      subst e1
      rw [bump_len] at htk hcap
      have hgb : g < b4 := (HG4.out g rfl).2
      have hgt : wr.cell? ⟨g, 2 * i + 1, none⟩ = some (.string q.l[i].f1) := by
        rw [Lib.cell_of_heap hh, ← (pcs_get (bump q.l i) i q.l[i] (bump_get q.l i hlt)).2, ← htk, List.getElem?_take, if_pos (by omega), Array.getElem?_toList]
      have hfz : wr.frozen? ⟨g, 2 * i + 1, none⟩ = false := Lib.frozen_of_heap hh _
      rw [Nat.mul_comm] at hgt hfz
      have hs5 := HQ.out.f1 i hlt
      have hll := HQ.out.l
      have HBN : As (PR w.heap.size (.slice (some ⟨g, 0, none⟩) q.l.length c4) (bump q.l (i + 1)) (wr.setCell ⟨g, i * 2 + 1, none⟩ (.string (q.l[i].f1 ++ ⟨#[122]⟩)))) := ⟨by
        have hlb : i < (bump q.l i).length := by rw [bump_len]; exact hlt
        have hge : (bump q.l i)[i] = q.l[i] := by have := bump_get q.l i hlt; rw [List.getElem?_eq_getElem hlb] at this; exact Option.some.inj this
        have := PR.set (B := w.heap.size) (g := g) (cap := c4) (l := bump q.l i) (w := wr) (by rw [bump_len]; exact HV.out) i hlb (q.l[i].f1 ++ ⟨#[122]⟩)
        rw [hge, bump_len, Nat.mul_comm] at this
        rw [← bump_succ q.l i hlt]
        exact this⟩
      have HWN : As (Below w.heap.size w (wr.setCell ⟨g, i * 2 + 1, none⟩ (.string (q.l[i].f1 ++ ⟨#[122]⟩)))) := ⟨HW.out.setCell hg _⟩
      have HXN : As ((wr.setCell ⟨g, i * 2 + 1, none⟩ (.string (q.l[i].f1 ++ ⟨#[122]⟩))).heap[b4]? = some (.cells #[.string q.m, .string q.t, .int .i64 q.k, .slice (some ⟨g, 0, none⟩) q.l.length c4, .string q.b, .bool q.cl] 32 (0, 0))) := ⟨(Go.Deep.blk_setCell_other wr _ _ _ (by simp only []; omega)).trans HBX.out⟩
      clear hg hh hcap hcap2 hsz htk HV HW HBX HG4 HL7 e2 e3
      have i0 : (0 : Int) ≤ (i : Int) := by omega
      have i1 : (i : Int) < (q.l.length : Int) := by omega
      go_wp2
      go_region
      have hdr : ∀ W : World, Below W.heap.size W W.drew := fun W => below_drew (Below.refl _ _)
      generalize wr.setCell ⟨g, i * 2 + 1, none⟩ (.string (q.l[i].f1 ++ ⟨#[122]⟩)) = wn at *
      have HBN2 := As.mk (HBN.out.below (hdr wn))
      have HWN2 := As.mk (below_nx HWN.out (hdr wn))
      have HXN2 : As (wn.drew.heap[b4]? = some (.cells #[.string q.m, .string q.t, .int .i64 q.k, .slice (some ⟨g, 0, none⟩) q.l.length c4, .string q.b, .bool q.cl] 32 (0, 0))) := ⟨HXN.out⟩
      clear HBN HWN HXN hdr hgt hfz y0 y1 y2 y3 y4 y5
      generalize wn.drew = wm at *
      go_wp2
      first
        | exact ⟨⟨i + 1, by go_num, by omega, HBN2, HWN2, HXN2⟩, by simp [intOf]; omega⟩
        | (go_roundw
           case rel => exact ⟨i + 1, by go_num, by omega, HBN2, HWN2, HXN2⟩
           case measure => simp [intOf]; omega)
    · have HVE : As (PR w.heap.size (.slice A4 q.l.length c4) (q.l.map addZ) wr) := ⟨by
        have := HV.out
        rw [show i = q.l.length by omega, bump, List.take_length, List.drop_length, List.append_nil] at this
        exact this⟩
      have HTE : As (FT A m wr) := ⟨HT.out.below HW.out⟩
      have hzl : rqC (zq q) A4 c4 = #[.string q.m, .string q.t, .int .i64 q.k, .slice A4 q.l.length c4, .string q.b, .bool q.cl] := by simp [rqC, zq]
      have HF : As (∀ W, Below wr.heap.size wr W → Calls Tryd.prog 10 #[.agg #[.string q.m, .string q.t, .int .i64 q.k, .slice A4 q.l.length c4, .string q.b, .bool q.cl]] W (FD A W (findS (zq q)))) := ⟨fun W hW => by
        rw [← hzl]
        exact Find_c A m (zq q) A4 c4 W HZ.out (HTE.out.below hW) (PR.row rfl (by show PR w.heap.size (.slice A4 (q.l.map addZ).length c4) (q.l.map addZ) W; rw [List.length_map]; exact HVE.out.below hW))⟩
      have HRQ : As (∀ W, Below wr.heap.size wr W → Calls Tryd.prog 9 #[.agg #[.string q.m, .string q.t, .int .i64 q.k, .slice A4 q.l.length c4, .string q.b, .bool q.cl]] W (RqQ (zq q) W)) := ⟨fun W hW => by
        rw [← hzl]
        exact request_c (zq q) A4 c4 W (PR.row rfl (by show PR w.heap.size (.slice A4 (q.l.map addZ).length c4) (q.l.map addZ) W; rw [List.length_map]; exact HVE.out.below hW)) HZ.out.l⟩
      have HC := As.mk (findS_code (zq q))
      clear HV HVE hzl HL7 HG4
      go_wp2_with fail
      clear y0 y1 y2 y3 y4 y5
      refine (HF.out wr (Below.refl _ _)).mono ?_
      rintro e w8 ⟨rfl, hb8⟩
      have HB8 := As.mk hb8
      obtain ⟨y0, y1, y2, y3, y4, y5⟩ := box6 ((hb8.block _ (Array.getElem?_eq_some_iff.1 HBX.out).1).trans HBX.out)
      clear hb8 HF HBX
      have HFS : As (findS (zq q) = findS (zq q)) := ⟨rfl⟩
      go_wp2_with fail
      clear y0 y1 y2 y3 y4 y5
      refine (HRQ.out w8 HB8.out).mono ?_
      rintro e w9 ⟨⟨A5, c5, rfl, hc5, hp5⟩, hb9⟩
      have HB9 := As.mk (below_nx HB8.out hb9)
      have HP5 := As.mk hp5
      clear hp5 hb9 HB8 HRQ HFS
      go_wp2_with fail
      refine (refFind_c (zq q) A5 c5 w9 HZ.out (PR.row rfl HP5.out)).mono ?_
      rintro e w10 ⟨rfl, hb10⟩
      have HB10 := As.mk (below_nx HB9.out hb10)
      clear hb10 HP5 HB9
      generalize findS (zq q) = r at *
      obtain ⟨k', tk'⟩ := r
      simp only at HC
      have HT10 := As.mk (HTE.out.below HB10.out)
      go_wp2_with fail
      refine (Num_c A k' HC.out w10 HT10.out.ew).mono ?_
      rintro e w' ⟨rfl, rfl⟩
      go_wp2
      go_ret
      exact ⟨rfl, below_nx HW.out HB10.out⟩
end Go.Proofs.YtegeijlookpgaaaDoor
