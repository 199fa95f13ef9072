/- What bearer.form and terms.Split compute. -/
import Derived.Test.YtegeijlookpgaaaDoorM3
set_option linter.unusedVariables false
set_option linter.unusedSimpArgs false
namespace Go.Proofs.YtegeijlookpgaaaDoor
open Go.RowKit Go.Proofs.YtegeijlookpgaaaDoorW.PrintWords

/-- a request -/
structure Rq where
  m : ByteArray
  t : ByteArray
  k : Int
  l : List Pr
  b : ByteArray
  cl : Bool
def rqC (q : Rq) (A : Option Addr) (c : Nat) : Array Value := #[.string q.m, .string q.t, .int .i64 q.k, .slice A q.l.length c, .string q.b, .bool q.cl]
/-- its bounds -/
structure RB (q : Rq) : Prop where
  m : q.m.size ≤ 1048576
  t : q.t.size ≤ 1048576
  b : q.b.size ≤ 1048576
  l : q.l.length ≤ 1048576
  f0 : ∀ i (h : i < q.l.length), q.l[i].f0.size ≤ 1048576
  f1 : ∀ i (h : i < q.l.length), q.l[i].f1.size ≤ 1048576
/-- what the readers want of the world -/
structure FT (A : Nat → Addr) (m : Int) (w : World) : Prop where
  kt : KT w
  ew : EW A w
  mx : w.cell? ⟨19, 0, none⟩ = some (.int .i64 m)
theorem FT.below {A : Nat → Addr} {m : Int} {w w' : World} (h : FT A m w) (hb : Below w.heap.size w w') : FT A m w' := ⟨h.kt.below hb, h.ew.below hb, pw_cell_below hb h.mx⟩

def ctL : List UInt8 := [99, 111, 110, 116, 101, 110, 116, 45, 116, 121, 112, 101]
def postL : List UInt8 := [80, 79, 83, 84]
def formL : List UInt8 := [97, 112, 112, 108, 105, 99, 97, 116, 105, 111, 110, 47, 120, 45, 119, 119, 119, 45, 102, 111, 114, 109, 45, 117, 114, 108, 101, 110, 99, 111, 100, 101, 100]
/-- has the request a form? -/
def hasForm (q : Rq) : Bool := bs q.m == postL && lookN ctL q.l == 1 && mediaS (bs (lookV ctL q.l)) == some formL
def formS (q : Rq) : Option (List (List UInt8 × List UInt8)) := if hasForm q then pairsS (bs q.b) else some []
theorem lookV_size {nm : List UInt8} {l : List Pr} (h : ∀ i (h : i < l.length), l[i].f1.size ≤ 1048576) : (lookV nm l).size ≤ 1048576 := by
  unfold lookV
  split
  · rename_i p hp
    obtain ⟨i, hi, e⟩ := List.mem_iff_getElem.1 (List.mem_of_find?_eq_some hp)
    rw [← e]; exact h i hi
  · decide
theorem PR.drewN {B : Nat} {v : Value} {l : List Pr} {w : World} (h : PR B v l w) (n : Nat) : PR B v l (w.drewN n) := h.below (pw_below_drewN (Below.refl _ _) n)
theorem PR.lower {B B' : Nat} {v : Value} {l : List Pr} {w : World} (h : PR B v l w) (hb : B' ≤ B) : PR B' v l w := by
  refine ⟨h.1, ?_⟩
  rcases h.2 with h0 | ⟨g, cap, cur, e1, e2, e3⟩
  · exact .inl h0
  · exact .inr ⟨g, cap, cur, e1, Nat.le_trans hb e2, e3⟩

theorem lit_eq {u : ByteArray} {l : List UInt8} (h : bs u = l) : (u.toList == l) = true ∧ (!(u.toList == l)) = false := by
  have : (u.toList == l) = true := by rw [ByteArray.toList_eq]; simpa using h
  rw [this]; exact ⟨rfl, rfl⟩
theorem lit_ne {u : ByteArray} {l : List UInt8} (h : bs u ≠ l) : (u.toList == l) = false ∧ (!(u.toList == l)) = true := by
  have : (u.toList == l) = false := by rw [ByteArray.toList_eq]; simpa using h
  rw [this]; exact ⟨rfl, rfl⟩
theorem FQ.none_ {A : Nat → Addr} {w w' : World} {o : Option (List (List UInt8 × List UInt8))} {e : Ending} (h : o = some []) (he : e = .returned (.tuple #[.slice none 0 0, .nilIface])) (hb : Below w.heap.size w w') : FQ A w o e w' :=
  ⟨fun ps hp => by
    obtain rfl : [] = ps := Option.some.inj (h.symm.trans hp)
    exact ⟨_, he, PR.nil _ _⟩, fun hn => absurd (h.symm.trans hn) (by simp), hb⟩

set_option maxHeartbeats 2000000 in
set_option maxRecDepth 100000 in
theorem form_c (A : Nat → Addr) (m : Int) (q : Rq) (R : Option Addr) (c : Nat) (w : World) (hq : RB q) (hT : FT A m w) (hr : kP.C w R q.l.length q.l) :
    Calls Tryd.prog 21 #[.agg (rqC q R c)] w (FQ A w (formS q)) := by
  have HT := As.mk hT
  have HQ := As.mk hq
  have HB : As (Below w.heap.size w (w.alloc (.cells (rqC q R c) 32))) := ⟨below_alloc (Below.refl _ _) _⟩
  have HR : As (kP.C (w.alloc (.cells (rqC q R c) 32)) R q.l.length q.l) := ⟨Kd.C_below hr HB.out⟩
  have HX : As ((w.alloc (.cells (rqC q R c) 32)).heap[w.heap.size]? = some (.cells (rqC q R c) 32 (0, 0))) := ⟨heap_alloc_new w _⟩
  have hctl : low (bs ⟨#[99, 111, 110, 116, 101, 110, 116, 45, 116, 121, 112, 101]⟩) = ctL := by decide
  have HL : As (∀ w, kP.C w R q.l.length q.l → Calls Tryd.prog 24 #[.slice R q.l.length c, .string ⟨#[99, 111, 110, 116, 101, 110, 116, 45, 116, 121, 112, 101]⟩] w fun e w' => e = .returned (.tuple #[.string (lookV ctL q.l), .int .i64 (lookN ctL q.l)]) ∧ Below w.heap.size w w') := ⟨fun w hr => by
    have := Lookup_c R c q.l ⟨#[99, 111, 110, 116, 101, 110, 116, 45, 116, 121, 112, 101]⟩ w hr (by decide) (by have := HQ.out.l; omega) (fun i h => by have := HQ.out.f0 i h; omega)
    rw [hctl] at this
    exact this⟩
  clear hctl hr hT hq
  unfold rqC at *
  go_enter Tryd.func21, Tryd.ntmps21
  go_wp2_with fail
  generalize w.alloc (.cells #[.string q.m, .string q.t, .int .i64 q.k, .slice R q.l.length c, .string q.b, .bool q.cl] 32) = w0 at *
  refine (HL.out w0 HR.out).mono ?_
  rintro e w1 ⟨rfl, hb1⟩
  have HX1 : As (w1.heap[w.heap.size]? = some (.cells #[.string q.m, .string q.t, .int .i64 q.k, .slice R q.l.length c, .string q.b, .bool q.cl] 32 (0, 0))) := ⟨(hb1.block _ (Array.getElem?_eq_some_iff.1 HX.out).1).trans HX.out⟩
  have HB1 := As.mk (below_nx HB.out hb1)
  clear hb1 HB HX HL HR
  have d0 : w1.cell? ⟨w.heap.size, 0, none⟩ = some (.string q.m) := by rw [Lib.cell_of_heap HX1.out]; rfl
  have hlv := lookV_size (nm := ctL) HQ.out.f1
  have hln := Nat.le_trans (lookN_le ctL q.l) HQ.out.l
  by_cases hm : bs q.m = postL
  · obtain ⟨g1, g2⟩ := lit_eq hm
    unfold postL at g1 g2
    by_cases hn : lookN ctL q.l = 1
    · have q1 : ((lookN ctL q.l : Int) != 1) = false := by rw [hn]; rfl
      have HF : As (hasForm q = (mediaS (bs (lookV ctL q.l)) == some formL)) := ⟨by
        unfold hasForm
        rw [beq_iff_eq.2 hm, beq_iff_eq.2 hn]; rfl⟩
      clear hm hn
      generalize lookV ctL q.l = v at *
      go_wp2_with fail
      clear d0
      refine (Media_c A v _ (HT.out.below HB1.out).kt (HT.out.below HB1.out).ew (by omega)).mono ?_
      rintro e w2 ⟨hy, hn, hb2⟩
      have HX2 : As (w2.heap[w.heap.size]? = some (.cells #[.string q.m, .string q.t, .int .i64 q.k, .slice R q.l.length c, .string q.b, .bool q.cl] 32 (0, 0))) := ⟨(hb2.block _ (Array.getElem?_eq_some_iff.1 HX1.out).1).trans HX1.out⟩
      have HB2 := As.mk (below_nx HB1.out hb2)
      clear hb2 HB1 HX1
      cases hmed : mediaS (bs v) with
      | none =>
        have HN : As (formS q = some []) := ⟨by unfold formS; rw [HF.out, hmed]; rfl⟩
        rw [hn hmed]
        clear hy hn hmed
        go_wp2
        go_ret2
        exact FQ.none_ HN.out rfl HB2.out
      | some l =>
        rw [hy l hmed]
        obtain ⟨t, ht⟩ : ∃ t, t = sb l := ⟨_, rfl⟩
        rw [← ht]
        have htb : bs t = l := by rw [ht, bs_sb]
        by_cases hl : l = formL
        · obtain ⟨k1, k2⟩ := lit_eq (htb.trans hl)
          unfold formL at k1 k2
          have HN : As (formS q = pairsS (bs q.b)) := ⟨by unfold formS; rw [HF.out, hmed, hl, if_pos (by simp)]⟩
          have d4 : w2.cell? ⟨w.heap.size, 4, none⟩ = some (.string q.b) := by rw [Lib.cell_of_heap HX2.out]; rfl
          clear hy hn hmed ht htb hl
          go_wp2_with fail
          clear d4
          refine (Pairs_c A q.b m _ (HT.out.below HB2.out).ew (HT.out.below HB2.out).mx HQ.out.b).mono ?_
          rintro e w3 ⟨hy, hn, hb3⟩
          have HB3 := As.mk (below_nx HB2.out hb3)
          cases hp : pairsS (bs q.b) with
          | none =>
            have HN2 : As (formS q = none) := ⟨HN.out.trans hp⟩
            obtain ⟨g, hg, he⟩ := hn hp
            have HG := hid_ hg
            rw [he]
            clear hy hn hp hb3 he hg
            go_wp2
            go_ret2
            exact ⟨fun ps hps => absurd (HN2.out.symm.trans hps) (by simp), fun _ => ⟨g, HG.out, rfl⟩, HB3.out⟩
          | some ps =>
            have HN2 : As (formS q = some ps) := ⟨HN.out.trans hp⟩
            obtain ⟨v3, he, hpr⟩ := hy ps hp
            have HPR : As (PR w.heap.size v3 (ps.map prOf) w3) := ⟨hpr.lower HB2.out.size⟩
            rw [he]
            clear hy hn hp hb3 he hpr
            go_wp2
            go_ret2
            refine ⟨fun ps' hps => ⟨_, rfl, ?_⟩, fun hps => absurd (HN2.out.symm.trans hps) (by simp), HB3.out⟩
            obtain rfl : ps = ps' := Option.some.inj (HN2.out.symm.trans hps)
            exact HPR.out
        · obtain ⟨k1, k2⟩ := lit_ne (fun e => hl (htb.symm.trans e))
          unfold formL at k1 k2
          have HN : As (formS q = some []) := ⟨by
            unfold formS
            rw [HF.out, hmed, if_neg]
            intro h
            exact hl (Option.some.inj (beq_iff_eq.1 h))⟩
          clear hy hn hmed ht htb hl
          go_wp2
          go_ret2
          exact FQ.none_ HN.out rfl HB2.out
    · have q1 : ((lookN ctL q.l : Int) != 1) = true := by rw [bne_iff_ne]; omega
      have HN : As (formS q = some []) := ⟨by
        unfold formS hasForm
        rw [if_neg]
        simp only [Bool.and_eq_true, beq_iff_eq]
        rintro ⟨⟨_, h⟩, _⟩
        exact hn h⟩
      clear hm hn
      go_wp2
      go_ret2
      exact FQ.none_ HN.out rfl HB1.out
  · obtain ⟨g1, g2⟩ := lit_ne hm
    unfold postL at g1 g2
    have HN : As (formS q = some []) := ⟨by
      unfold formS hasForm
      rw [if_neg]
      simp only [Bool.and_eq_true, beq_iff_eq]
      rintro ⟨⟨h, _⟩, _⟩
      exact hm h⟩
    clear hm
    go_wp2
    go_ret2
    exact FQ.none_ HN.out rfl HB1.out

set_option maxRecDepth 100000 in
theorem Split_c (s : ByteArray) (m : Int) (w : World) (hs : s.size ≤ 1048576) (hm : w.cell? ⟨19, 0, none⟩ = some (.int .i64 m)) :
    Calls Tryd.prog 22 #[.string s] w fun e w' => e = .returned (.tuple #[.string (sb (cutA 63 (bs s))), .string (sb (cutB 63 (bs s))), .bool ((bs s).contains 63)]) ∧ ∃ n, w' = w.drewN n := by
  have HM := hid_ hm
  obtain ⟨ta, hta⟩ : ∃ ta, ta = sb (cutA 63 (bs s)) := ⟨_, rfl⟩
  obtain ⟨tb, htb⟩ : ∃ tb, tb = sb (cutB 63 (bs s)) := ⟨_, rfl⟩
  obtain ⟨h, hh⟩ : ∃ h, h = (bs s).contains 63 := ⟨_, rfl⟩
  have HC := As.mk (cut_c s 63 m w hs hm)
  rw [← hta, ← htb, ← hh] at HC ⊢
  clear hm hta htb hh
  go_enter Tryd.func22, Tryd.ntmps22
  go_wp2_with fail
  refine HC.out.mono ?_
  rintro e w1 ⟨rfl, n, rfl⟩
  go_wp2
  go_ret3
  exact ⟨rfl, n, rfl⟩
end Go.Proofs.YtegeijlookpgaaaDoor
