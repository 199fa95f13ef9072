/- strings.Builder: what WriteByte, WriteString and String do. -/
import Derived.Test.YtegeijlookpgaaaDoorU
import Derived.Test.YtegeijlookpgaaaDoorShelf
set_option linter.unusedVariables false
set_option linter.unusedSimpArgs false
namespace Go.Proofs.YtegeijlookpgaaaDoor
open Go.RowKit Go.Proofs.YtegeijlookpgaaaDoorW.PrintWords

/-- A strings.Builder at block b that holds l; it and its buffer are ok. -/
def Bd (ok : Nat → Prop) (b : Nat) (l : List UInt8) (w : World) : Prop :=
  ok b ∧ ∃ p v, (p = .pointer none ∨ p = .pointer (some ⟨b, 0, none⟩)) ∧ w.heap[b]? = some (.cells #[p, v] 71 (0, 0)) ∧ w.ownsRow 0 5 1 v l.length (cells8 l) ∧ ∀ k, v.ownBlock = some k → ok k
theorem Bd.mono {ok ok' : Nat → Prop} {b : Nat} {l : List UInt8} {w : World} (h : Bd ok b l w) (hm : ∀ k, k < w.heap.size → ok k → ok' k) : Bd ok' b l w := by
  obtain ⟨h0, p, v, hp, hb, ho, hk⟩ := h
  exact ⟨hm _ (Array.getElem?_eq_some_iff.1 hb).1 h0, p, v, hp, hb, ho, fun k e => hm _ (own_lt ho k e) (hk k e)⟩
theorem Bd.move {ok : Nat → Prop} {b : Nat} {l : List UInt8} {w w' : World} (h : Bd ok b l w) (hm : ∀ k, k < w.heap.size → ok k → w'.heap[k]? = w.heap[k]?) : Bd ok b l w' := by
  obtain ⟨h0, p, v, hp, hb, ho, hk⟩ := h
  exact ⟨h0, p, v, hp, (hm _ (Array.getElem?_eq_some_iff.1 hb).1 h0).trans hb, own_move ho (fun k e => hm _ (own_lt ho k e) (hk k e)), hk⟩
theorem Bd.below {ok : Nat → Prop} {b : Nat} {l : List UInt8} {w w' : World} (h : Bd ok b l w) (hb : Below w.heap.size w w') : Bd ok b l w' := h.move fun k hk _ => hb.block k hk
theorem Bd.new {ok : Nat → Prop} (w : World) (hok : ok w.heap.size) : Bd ok w.heap.size [] (w.alloc (.cells #[.pointer none, .slice none 0 0] 71)) :=
  ⟨hok, _, _, .inl rfl, heap_alloc_new w _, own_nil _ _ _ _, fun k hk => by simp [Value.ownBlock] at hk⟩
theorem Bd.shelf {ok : Nat → Prop} {b B : Nat} {l : List UInt8} {w : World} (h : Bd ok b l w) (hB : ∀ k, ok k → B ≤ k) : Lib.IsBuilder 71 5 B b (Lib.byteCells l) w := by
  obtain ⟨h0, p, v, hp, hb, ho, hk⟩ := h
  have ho' : w.ownsRow B 5 1 v (Lib.byteCells l).length (Lib.byteCells l) := by
    rw [Lib.byteCells_length]
    refine ⟨by simp [Lib.byteCells], ?_⟩
    rcases ho.2 with h1 | ⟨g, cap, cur, rfl, _, r⟩
    · exact .inl h1
    · exact .inr ⟨g, cap, cur, rfl, hB _ (hk g (by simp [Value.ownBlock])), r⟩
  have hne := Lib.ownBlock_ne ho hb (by decide)
  rcases hp with rfl | rfl
  · exact .inl ⟨hB _ h0, v, hb, ho', hne⟩
  · exact .inr ⟨hB _ h0, v, hb, ho', hne⟩

theorem i71 : (Tryd.prog.info? 71).map (·.size) = some 2 := by kernel_rfl
theorem lies71 : liesAt Tryd.prog Tryd.prog.depth 71 (2 / Tryd.prog.cellsOf 71) 0 71 1 = true := by kernel_rfl

set_option maxRecDepth 100000 in
theorem copyCheck_c (ok : Nat → Prop) (b : Nat) (l : List UInt8) (w : World) (h : Bd ok b l w) :
    Calls Tryd.prog 67 #[.pointer (some ⟨b, 0, none⟩)] w fun e w' => e = .returned (.tuple #[]) ∧
      ∃ v, w'.heap[b]? = some (.cells #[.pointer (some ⟨b, 0, none⟩), v] 71 (0, 0)) ∧ w'.ownsRow 0 5 1 v l.length (cells8 l) ∧ (∀ k, v.ownBlock = some k → ok k) ∧ Fr ok w w' := by
  obtain ⟨j, hj, hjs⟩ := Option.map_eq_some_iff.1 i71
  obtain ⟨hok, p, v, hp, hb, ho, hk⟩ := h
  have hne := Lib.ownBlock_ne ho hb (by decide)
  have hfz : w.frozen? ⟨b, 0, none⟩ = false := Lib.frozen_of_heap hb 0
  have hsh : w.shape? b = some (71, 2) := by simp [World.shape?, hb]
  rcases hp with rfl | rfl
  · have c0 : w.cell? ⟨b, 0, none⟩ = some (.pointer none) := by rw [Lib.cell_of_heap hb]; rfl
    have H : Calls Tryd.prog 67 #[.pointer (some ⟨b, 0, none⟩)] w fun e w' => e = .returned (.tuple #[]) ∧ w' = w.setCell ⟨b, 0, none⟩ (.pointer (some ⟨b, 0, none⟩)) := by
      clear hb ho hk hne
      go_enter Tryd.func67, Tryd.ntmps67
      go_wp2
      rw [Lib.run_to_unsafe w ⟨b, 0, none⟩ Tryd.underlying68 Tryd.underlying121 hj (by rw [hjs]; decide) hsh (Nat.zero_lt_succ 1)]
      simp only [Result.andThen]
      rw [Oper.upon_value]
      go_wp2
      rw [run_callFunc_extern Tryd.func96 (by kernel_rfl) (by kernel_rfl) (by kernel_rfl) (e := Extern.AbiNoEscape.same) (by kernel_rfl)]
      rw [Lib.run_noEscape]
      simp only [Result.andThen]
      rw [Oper.upon_value]
      go_wp2
      rw [Lib.run_from_unsafe w ⟨b, 0, none⟩ Tryd.underlying121 Tryd.underlying68 hj hsh lies71]
      simp only [Result.andThen]
      rw [Oper.upon_value]
      go_wp2
      go_end0
      exact ⟨rfl, rfl⟩
    refine H.mono ?_
    rintro e w' ⟨rfl, rfl⟩
    refine ⟨rfl, v, by simp [World.setCell, Array.getElem?_modify, hb], ?_, hk, ⟨rfl, rfl, rfl, by simp [World.setCell], fun i hi hn => Below.heap_setCell _ _ _ _ (fun e => hn (e ▸ hok))⟩⟩
    exact own_move ho (fun k e => Below.heap_setCell _ _ _ _ (fun e' => hne (by rw [e, e'])))
  · have c0 : w.cell? ⟨b, 0, none⟩ = some (.pointer (some ⟨b, 0, none⟩)) := by rw [Lib.cell_of_heap hb]; rfl
    have H : Calls Tryd.prog 67 #[.pointer (some ⟨b, 0, none⟩)] w fun e w' => e = .returned (.tuple #[]) ∧ w' = w := by
      clear hb ho hk hne
      go_enter Tryd.func67, Tryd.ntmps67
      go_wp2
      rw [Lib.run_neq_ptr_same w _ Tryd.underlying68 hj]
      go_wp2
      go_end0
      exact ⟨rfl, rfl⟩
    refine H.mono ?_
    rintro e w' ⟨rfl, rfl⟩
    exact ⟨rfl, v, hb, ho, hk, Fr.refl _ _⟩

theorem i5 : (Tryd.prog.info? 5).map (fun i => (i.zero, i.size, i.bytes)) = some (some (.int .u8 0), 1, 1) := by kernel_rfl

/-- The new buffer laid into the field. -/
theorem Bd.put {ok : Nat → Prop} {b : Nat} {w0 w1 w2 : World} {v v' : Value} {l' : List UInt8} (hok : ok b) (hk : ∀ k, v.ownBlock = some k → ok k) (hfresh : ∀ k, w0.heap.size ≤ k → ok k) (hfr : Fr ok w0 w1)
    (hb : w1.heap[b]? = some (.cells #[.pointer (some ⟨b, 0, none⟩), v] 71 (0, 0))) (ho : w1.ownsRow 0 5 1 v (l'.length - (l'.length - v.ownBlock.toList.length)) [] ∨ True) (hne : v.ownBlock ≠ some b)
    (hown : w2.ownsRow 0 5 1 v' l'.length (cells8 l')) (hg : ∀ k, k < w1.heap.size → v.ownBlock ≠ some k → w2.heap[k]? = w1.heap[k]?) (hos : w2.os = w1.os) (htp : w2.tape = w1.tape) (hout : w2.output = w1.output) (hsz : w1.heap.size ≤ w2.heap.size)
    (hat : v'.ownBlock = v.ownBlock ∨ ∃ k, v'.ownBlock = some k ∧ w1.heap.size ≤ k) :
    Bd ok b l' (w2.setCell ⟨b, 1, none⟩ v') ∧ Fr ok w0 (w2.setCell ⟨b, 1, none⟩ v') := by
  have hlt : b < w1.heap.size := (Array.getElem?_eq_some_iff.1 hb).1
  have hb2 : w2.heap[b]? = some (.cells #[.pointer (some ⟨b, 0, none⟩), v] 71 (0, 0)) := (hg b hlt hne).trans hb
  have hne' := Lib.ownBlock_ne hown hb2 (by decide)
  refine ⟨⟨hok, _, v', .inr rfl, by simp [World.setCell, Array.getElem?_modify, hb2], own_move hown (fun k e => Below.heap_setCell _ _ _ _ (fun e' => hne' (by rw [e, e']))), fun k e => ?_⟩, ?_⟩
  · rcases hat with hat | ⟨k', hk', hle⟩
    · exact hk k (hat ▸ e)
    · rw [hk'] at e
      injection e with e
      subst e
      exact hfresh _ (Nat.le_trans hfr.size hle)
  · refine hfr.trans ⟨hos, htp, hout, by simpa [World.setCell] using hsz, fun i hi hn => ?_⟩
    rw [Below.heap_setCell _ _ _ _ (fun e => hn (by rw [e]; exact hok))]
    exact hg i hi (fun e => hn (hk i e))

set_option maxHeartbeats 2000000 in
set_option maxRecDepth 100000 in
theorem WriteByte_c (ok : Nat → Prop) (b : Nat) (l : List UInt8) (c : UInt8) (ci : Int) (hci : ci = c.toNat) (w : World) (h : Bd ok b l w) (hlen : l.length < 1073741824) (hfresh : ∀ k, w.heap.size ≤ k → ok k) :
    Calls Tryd.prog 38 #[.pointer (some ⟨b, 0, none⟩), .int .u8 ci] w fun e w' => e = .returned .nilIface ∧ Bd ok b (l ++ [c]) w' ∧ Fr ok w w' := by
  subst hci
  have hokb := h.1
  go_enter Tryd.func38, Tryd.ntmps38
  go_wp2_with (go_at_call 67; refine (copyCheck_c ok b l _ h).mono ?_)
  rintro e w1 ⟨rfl, v, hb, ho, hk, hfr⟩
  have hne := Lib.ownBlock_ne ho hb (by decide)
  have c0 : w1.cell? ⟨b, 0, none⟩ = some (.pointer (some ⟨b, 0, none⟩)) := by rw [Lib.cell_of_heap hb]; rfl
  have c1 : w1.cell? ⟨b, 1, none⟩ = some v := by rw [Lib.cell_of_heap hb]; rfl
  have ho' : w1.ownsRow 0 5 1 v (cells8 l).length (cells8 l) := by rw [cells8_length]; exact ho
  have Hb := hid_ hb
  have Hne := hid_ hne
  have Hk := hid_ hk
  have Hfr := As.mk hfr
  have Hh := As.mk h
  have Hfresh := hid_ hfresh
  clear hb hne hk hfr h hfresh ho
  go_wp2_with (at_builtin; refine print_append (w0 := w1) 0 rfl _ _ 69 5 (.int .u8 0) 1 rfl Tryd.underlying69 i5 rfl (by decide) v (cells8 l) (.int .u8 c.toNat) rfl rfl rfl ho' ((Below.refl w1.heap.size w1).mono (Nat.zero_le _)) (Nat.zero_le _) ?c4 ?_)
  case c4 => rw [cells8_length]; omega
  intro v' w2 hown _ hg hat
  have hown2 : w2.ownsRow 0 5 1 v' (l ++ [c]).length (cells8 (l ++ [c])) := by
    rw [cells8_append, List.length_append, ← cells8_length l]; exact hown
  obtain ⟨A', n', c', rfl⟩ : ∃ A n c, v' = .slice A n c := by obtain ⟨A, c, rfl⟩ := own_slice hown; exact ⟨_, _, _, rfl⟩
  have hlt : b < w1.heap.size := (Array.getElem?_eq_some_iff.1 Hb.out).1
  have hb2 : w2.heap[b]? = some (.cells #[.pointer (some ⟨b, 0, none⟩), v] 71 (0, 0)) := (hg.block b hlt (fun e => Hne.out e.symm)).trans Hb.out
  have d1 : w2.cell? ⟨b, 1, none⟩ = some v := by rw [Lib.cell_of_heap hb2]; rfl
  have f1 : w2.frozen? ⟨b, 1, none⟩ = false := Lib.frozen_of_heap hb2 1
  have HP := hid_ (Bd.put (ok := ok) hokb Hk.out Hfresh.out Hfr.out Hb.out (.inr trivial) Hne.out hown2 (fun k hk hn => hg.block k hk (fun e => hn e.symm)) hg.os hg.tape hg.output hg.size hat)
  clear hown hown2 hat hg ho' c0 c1 Hb Hne Hk Hfr Hfresh Hh hb2 hlt
  go_wp2
  go_ret
  exact ⟨rfl, HP.out⟩


set_option maxHeartbeats 2000000 in
set_option maxRecDepth 100000 in
theorem WriteString_c (ok : Nat → Prop) (b : Nat) (l : List UInt8) (s : ByteArray) (w : World) (h : Bd ok b l w) (hlen : l.length + s.size ≤ 1073741824) (hfresh : ∀ k, w.heap.size ≤ k → ok k) :
    Calls Tryd.prog 39 #[.pointer (some ⟨b, 0, none⟩), .string s] w fun e w' => e = .returned (.tuple #[.int .i64 s.size, .nilIface]) ∧ Bd ok b (l ++ bs s) w' ∧ Fr ok w w' := by
  have hokb := h.1
  go_enter Tryd.func39, Tryd.ntmps39
  go_wp2_with (go_at_call 67; refine (copyCheck_c ok b l _ h).mono ?_)
  rintro e w1 ⟨rfl, v, hb, ho, hk, hfr⟩
  have hne := Lib.ownBlock_ne ho hb (by decide)
  have c0 : w1.cell? ⟨b, 0, none⟩ = some (.pointer (some ⟨b, 0, none⟩)) := by rw [Lib.cell_of_heap hb]; rfl
  have c1 : w1.cell? ⟨b, 1, none⟩ = some v := by rw [Lib.cell_of_heap hb]; rfl
  have Hb := hid_ hb
  have Hne := hid_ hne
  have Hk := hid_ hk
  have Hfr := As.mk hfr
  have Hh := As.mk h
  have Hfresh := hid_ hfresh
  clear hb hne hk hfr h hfresh
  go_wp2_with (at_builtin; refine append_str rfl _ _ 69 9 5 rfl Tryd.underlying69 Tryd.underlying9 i5 v l.length (cells8 l) s rfl rfl ho ?c4 ?_)
  case c4 => omega
  intro v' w2 hown hg hat
  have hl2 : (l ++ bs s).length = l.length + s.size := by rw [List.length_append, bs_size]
  have hown2 : w2.ownsRow 0 5 1 v' (l ++ bs s).length (cells8 (l ++ bs s)) := by rw [hl2, cells8_append]; exact hown
  obtain ⟨A', n', c', rfl⟩ : ∃ A n c, v' = .slice A n c := by obtain ⟨A, c, rfl⟩ := own_slice hown; exact ⟨_, _, _, rfl⟩
  have hlt : b < w1.heap.size := (Array.getElem?_eq_some_iff.1 Hb.out).1
  have hb2 : w2.heap[b]? = some (.cells #[.pointer (some ⟨b, 0, none⟩), v] 71 (0, 0)) := (hg.block b hlt (fun e => Hne.out e.symm)).trans Hb.out
  have d1 : w2.cell? ⟨b, 1, none⟩ = some v := by rw [Lib.cell_of_heap hb2]; rfl
  have f1 : w2.frozen? ⟨b, 1, none⟩ = false := Lib.frozen_of_heap hb2 1
  have HP := hid_ (Bd.put (ok := ok) hokb Hk.out Hfresh.out Hfr.out Hb.out (.inr trivial) Hne.out hown2 (fun k hk hn => hg.block k hk (fun e => hn e.symm)) hg.os hg.tape hg.output hg.size hat)
  clear hown hown2 hat hg ho c0 c1 Hb Hne Hk Hfr Hfresh Hh hb2 hlt hl2
  go_wp2
  go_ret2
  exact ⟨rfl, HP.out⟩

theorem String_c (ok : Nat → Prop) (B b : Nat) (l : List UInt8) (w : World) (h : Bd ok b l w) (hB : ∀ k, ok k → B ≤ k) (hBw : B ≤ w.heap.size) :
    Calls Tryd.prog 41 #[.pointer (some ⟨b, 0, none⟩)] w fun e w' => e = .returned (.string (sb l)) ∧ Below B w w' :=
  Tryd.Builder_String_any B b l w (h.shelf hB) hBw
/-- A builder of one's own, and a block beside it that stays as it is. -/
structure BS (w0 : World) (b g : Nat) (o : Obj) (acc : List UInt8) (W : World) : Prop where
  bd : Bd (fun k => w0.heap.size ≤ k ∧ k ≠ g) b acc W
  lt : g < W.heap.size
  keep : W.heap[g]? = some o
  fr : Below w0.heap.size w0 W
theorem BS.fresh {w0 : World} {b g : Nat} {o : Obj} {acc : List UInt8} {W : World} (h : BS w0 b g o acc W) : ∀ k, W.heap.size ≤ k → w0.heap.size ≤ k ∧ k ≠ g :=
  fun k hk => ⟨Nat.le_trans h.fr.size hk, fun e => by have := h.lt; omega⟩
theorem BS.below {w0 : World} {b g : Nat} {o : Obj} {acc : List UInt8} {W W' : World} (h : BS w0 b g o acc W) (hb : Below W.heap.size W W') : BS w0 b g o acc W' :=
  ⟨h.bd.below hb, Nat.lt_of_lt_of_le h.lt hb.size, (hb.block _ h.lt).trans h.keep, h.fr.trans (hb.mono h.fr.size)⟩
theorem BS.wrote {w0 : World} {b g : Nat} {o : Obj} {acc acc' : List UInt8} {W W' : World} (h : BS w0 b g o acc W) (hb : Bd (fun k => w0.heap.size ≤ k ∧ k ≠ g) b acc' W') (hf : Fr (fun k => w0.heap.size ≤ k ∧ k ≠ g) W W') : BS w0 b g o acc' W' :=
  ⟨hb, Nat.lt_of_lt_of_le h.lt hf.size, (hf.block _ h.lt (fun h => h.2 rfl)).trans h.keep, h.fr.trans (hf.below h.fr.size (fun k hk h => by omega))⟩
theorem BS.cell {w0 : World} {b g : Nat} {cs : Array Value} {t : TypeId} {acc : List UInt8} {W : World} (h : BS w0 b g (.cells cs t (0, 0)) acc W) (j : Nat) : W.cell? ⟨g, j, none⟩ = cs[j]? := Lib.cell_of_heap h.keep j

end Go.Proofs.YtegeijlookpgaaaDoor
