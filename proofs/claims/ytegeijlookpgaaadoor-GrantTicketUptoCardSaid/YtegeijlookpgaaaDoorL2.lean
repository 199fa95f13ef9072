/- What both Tickets compute: the same text. -/
import Derived.Test.YtegeijlookpgaaaDoorR5
import Derived.Test.YtegeijlookpgaaaDoorF2
import Derived.Test.YtegeijlookpgaaaDoorL1
set_option linter.unusedVariables false
set_option linter.unusedSimpArgs false
namespace Go.Proofs.YtegeijlookpgaaaDoor
open Go.RowKit Go.Proofs.YtegeijlookpgaaaDoorW.PrintWords Go.Proofs.YtegeijlookpgaaaDoorW.PrintLast

/-- the tables of the law -/
structure GT (w : World) : Prop where
  un : Tab 16 .u32 unresTab w
  sh : ShaT w
  rf : RefT w
theorem GT.below {w w' : World} (h : GT w) (hb : Below w.heap.size w w') : GT w' := ⟨h.un.below hb, h.sh.below hb, h.rf.below hb⟩
def tkt (sid : ByteArray) (l : List Pr) : ByteArray := sb (url32 urlA (bs (sb (macL sid (sb (form l))))))
theorem mac_size (a b : ByteArray) : (sb (macL a b)).size = 32 := by rw [sb_size, macL, shaL_len]

set_option maxHeartbeats 4000000 in
set_option maxRecDepth 100000 in
theorem Ticket_c (sid : ByteArray) (A : Option Addr) (c : Nat) (l : List Pr) (w : World) (hr : kP.C w A l.length l) (hT : GT w) (hl : (form l).length ≤ 268435456) (hs : sid.size ≤ 268435456) :
    Calls Tryd.prog 6 #[.string sid, .slice A l.length c] w fun e w' => e = .returned (.string (tkt sid l)) ∧ Below w.heap.size w w' := by
  have HT := As.mk hT
  have HR := As.mk hr
  clear hT hr
  go_enter Tryd.func6, Tryd.ntmps6
  go_wp2_with fail
  refine (Form_c A c l w HR.out HT.out.un hl).mono ?_
  rintro _ w1 ⟨rfl, hb1⟩
  have HB1 := As.mk hb1
  clear hb1
  go_wp2_with fail
  refine (Mac_c sid (sb (form l)) w1 (HT.out.below HB1.out).sh (by omega) (by rw [sb_size]; omega)).mono ?_
  rintro _ w2 ⟨rfl, hb2⟩
  have HB2 := As.mk (below_next HB1.out hb2)
  clear hb2 HB1
  go_wp2_with fail
  refine (Url_c _ w2 (mac_size _ _)).mono ?_
  rintro _ w3 ⟨rfl, hb3⟩
  have HB3 := As.mk (below_next HB2.out hb3)
  clear hb3 HB2
  go_wp2
  go_ret
  exact ⟨rfl, HB3.out⟩
set_option maxHeartbeats 4000000 in
set_option maxRecDepth 100000 in
theorem refTicket_c (sid : ByteArray) (A : Option Addr) (c : Nat) (l : List Pr) (w : World) (hr : kP.C w A l.length l) (hT : GT w) (hl : (form l).length ≤ 268435456) (hs : sid.size ≤ 268435456) :
    Calls Tryd.prog 8 #[.string sid, .slice A l.length c] w fun e w' => e = .returned (.string (tkt sid l)) ∧ Below w.heap.size w w' := by
  have HT := As.mk hT
  have HR := As.mk hr
  clear hT hr
  go_enter Tryd.func8, Tryd.ntmps8
  go_wp2_with fail
  refine (refForm_c A c l w HR.out hl).mono ?_
  rintro _ w1 ⟨rfl, hb1⟩
  have HB1 := As.mk hb1
  clear hb1
  go_wp2_with fail
  refine (refMac_c sid (sb (form l)) w1 (HT.out.below HB1.out).rf (by omega) (by rw [sb_size]; omega)).mono ?_
  rintro _ w2 ⟨rfl, hb2⟩
  have HB2 := As.mk (below_next HB1.out hb2)
  clear hb2 HB1
  go_wp2_with fail
  refine (refUrl_c _ w2 (mac_size _ _)).mono ?_
  rintro _ w3 ⟨rfl, hb3⟩
  have HB3 := As.mk (below_next HB2.out hb3)
  clear hb3 HB2
  go_wp2
  go_ret
  exact ⟨rfl, HB3.out⟩

/-! ### the law's own list: an x behind each value -/
theorem pcs_set : ∀ (l : List Pr) (i : Nat) (p : Pr) (s : ByteArray), l[i]? = some p → (pcs l).set (2 * i + 1) (.string s) = pcs (l.set i ⟨p.f0, s⟩)
  | [], i, p, s, h => by simp at h
  | q :: r, 0, p, s, h => by
    obtain rfl : q = p := by simpa using h
    rfl
  | q :: r, i + 1, p, s, h => by
    have := pcs_set r i p s (by simpa using h)
    show (Value.string q.f0 :: Value.string q.f1 :: pcs r).set ((2 * i + 1) + 1 + 1) _ = Value.string q.f0 :: Value.string q.f1 :: pcs (r.set i _)
    rw [List.set_cons_succ, List.set_cons_succ, this]
theorem PR.set {B g cap : Nat} {l : List Pr} {w : World} (h : PR B (.slice (some ⟨g, 0, none⟩) l.length cap) l w) (i : Nat) (hi : i < l.length) (s : ByteArray) :
    PR B (.slice (some ⟨g, 0, none⟩) l.length cap) (l.set i ⟨l[i].f0, s⟩) (w.setCell ⟨g, 2 * i + 1, none⟩ (.string s)) := by
  have hs := World.ownsRow.stored h (2 * i + 1) (.string s)
  unfold PR
  rw [List.length_set, ← pcs_set l i l[i] s (List.getElem?_eq_getElem hi)]
  exact hs.1
def addX (p : Pr) : Pr := ⟨p.f0, p.f1 ++ ⟨#[120]⟩⟩
def bump (l : List Pr) (i : Nat) : List Pr := (l.take i).map addX ++ l.drop i
theorem bump_len (l : List Pr) (i : Nat) : (bump l i).length = l.length := by simp [bump]; omega
theorem bump_get (l : List Pr) (i : Nat) (hi : i < l.length) : (bump l i)[i]? = some l[i] := by
  have h1 : ((l.take i).map addX).length = i := by simp; omega
  rw [bump, List.getElem?_append_right (by omega), h1, Nat.sub_self, List.getElem?_drop, Nat.add_zero, List.getElem?_eq_getElem hi]
theorem bump_succ (l : List Pr) (i : Nat) (hi : i < l.length) : (bump l i).set i (addX l[i]) = bump l (i + 1) := by
  have h1 : ((l.take i).map addX).length = i := by simp; omega
  rw [bump, List.set_append_right _ _ (by omega), h1, Nat.sub_self, List.drop_eq_getElem_cons hi, List.set_cons_zero, bump, List.take_add_one, List.getElem?_eq_getElem hi]
  simp only [List.map_append, List.append_assoc, Option.toList, List.map_cons, List.map_nil, List.cons_append, List.nil_append]
end Go.Proofs.YtegeijlookpgaaaDoor
