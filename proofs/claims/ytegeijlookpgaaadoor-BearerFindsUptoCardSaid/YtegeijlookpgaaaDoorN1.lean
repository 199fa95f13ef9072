/- What the cursor's methods of package field compute. -/
import Derived.Test.YtegeijlookpgaaaDoorC
import Derived.Test.YtegeijlookpgaaaDoorPF
import Derived.Test.YtegeijlookpgaaaDoorWLast
import Derived.StillTailTactics
import Derived.Deep.QuietTactic
import Derived.BigQuiet
set_option linter.unusedVariables false
set_option linter.unusedSimpArgs false
namespace Go.Proofs.YtegeijlookpgaaaDoor
open Go.RowKit Go.Proofs.YtegeijlookpgaaaDoorW.PrintWords

/-- the cursor at block b: its text, its place -/
def Cu (b : Nat) (s : ByteArray) (i : Nat) (w : World) : Prop := w.heap[b]? = some (.cells #[.string s, .int .i64 i] 104 (0, 0))
theorem Cu.c0 {b i : Nat} {s : ByteArray} {w : World} (h : Cu b s i w) : w.cell? ⟨b, 0, none⟩ = some (.string s) := by rw [Lib.cell_of_heap h]; rfl
theorem Cu.c1 {b i : Nat} {s : ByteArray} {w : World} (h : Cu b s i w) : w.cell? ⟨b, 1, none⟩ = some (.int .i64 i) := by rw [Lib.cell_of_heap h]; rfl
theorem Cu.fz {b i : Nat} {s : ByteArray} {w : World} (h : Cu b s i w) (j : Nat) : w.frozen? ⟨b, j, none⟩ = false := Lib.frozen_of_heap h j
theorem Cu.drewN {b i : Nat} {s : ByteArray} {w : World} (h : Cu b s i w) (n : Nat) : Cu b s i (w.drewN n) := h
theorem Cu.put {b i : Nat} {s : ByteArray} {w : World} (h : Cu b s i w) (j : Nat) : Cu b s j (w.setCell ⟨b, 1, none⟩ (.int .i64 j)) := by
  unfold Cu at *
  simp [World.setCell, Array.getElem?_modify, h]
/-- only block b may have turned -/
abbrev Ob (b : Nat) (w w' : World) : Prop := Fr (fun k => k = b) w w'
theorem Ob.drewN {b : Nat} {w w' : World} (h : Ob b w w') (n : Nat) : Ob b w (w'.drewN n) := ⟨h.os, h.tape, h.output, h.size, h.block⟩
theorem Ob.set {b j : Nat} {w w' : World} (h : Ob b w w') (v : Value) : Ob b w (w'.setCell ⟨b, j, none⟩ v) :=
  ⟨h.os, h.tape, h.output, by simpa [World.setCell] using h.size, fun i hi hn => (Below.heap_setCell _ _ _ _ (fun e => hn e)).trans (h.block i hi hn)⟩

/-- the table of the kinds -/
def kindsInt : List Int := kindsTab.map Int.ofNat
def KT (w : World) : Prop := Tab 18 .u8 kindsInt w
theorem kinds_len : kindsTab.length = 256 := by decide +kernel
theorem KT.cell {w : World} (h : KT w) (c : UInt8) : w.cell? ⟨18, c.toNat, none⟩ = some (.int .u8 ((kindsTab.getD c.toNat 0 : Nat) : Int)) := by
  have hc := c.toNat_lt
  have h2 : c.toNat < kindsTab.length := by rw [kinds_len]; omega
  have h1 := h c.toNat (by unfold kindsInt; rw [List.length_map]; exact h2)
  rw [h1]
  unfold kindsInt
  rw [List.getD_eq_getElem?_getD, List.getElem?_map, List.getElem?_eq_getElem h2, List.getD_eq_getElem?_getD, List.getElem?_eq_getElem h2]
  rfl

theorem kind_bits (k : Nat) (hk : k = 1 ∨ k = 2 ∨ k = 4 ∨ k = 8) (c : UInt8) : (!(Go.bits BinOp.and IntKind.u8 ((kindsTab.getD c.toNat 0 : Nat) : Int) (k : Int) == 0)) = kindB k c := by
  have h : ∀ n : Fin 256, ∀ k : Nat, k = 1 ∨ k = 2 ∨ k = 4 ∨ k = 8 → (!(Go.bits BinOp.and IntKind.u8 ((kindsTab.getD n.val 0 : Nat) : Int) (k : Int) == 0)) = (kindsTab.getD n.val 0 &&& k != 0) := by
    have g : ∀ n : Fin 256, ∀ j : Fin 4, (!(Go.bits BinOp.and IntKind.u8 ((kindsTab.getD n.val 0 : Nat) : Int) ((2 ^ j.val : Nat) : Int) == 0)) = (kindsTab.getD n.val 0 &&& (2 ^ j.val) != 0) := by decide +kernel
    intro n k hk
    rcases hk with rfl | rfl | rfl | rfl
    · exact g n 0
    · exact g n 1
    · exact g n 2
    · exact g n 3
  exact h ⟨c.toNat, c.toNat_lt⟩ k hk

set_option maxRecDepth 100000 in
theorem is_c (c : UInt8) (k : Nat) (hk : k = 1 ∨ k = 2 ∨ k = 4 ∨ k = 8) (w : World) (hT : KT w) :
    Calls Tryd.prog 100 #[.int .u8 c.toNat, .int .u8 k] w fun e w' => e = .returned (.bool (kindB k c)) ∧ w' = w := by
  have hc := c.toNat_lt
  have hcell := hT.cell c
  have HB := hid_ (kind_bits k hk c)
  clear hT
  go_enter Tryd.func100, Tryd.ntmps100
  go_wp2
  go_ret
  exact ⟨ret_bool HB.out, rfl⟩

theorem is_v (c : UInt8) (k : Nat) (hk : k = 1 ∨ k = 2 ∨ k = 4 ∨ k = 8) (v : Bool) (hv : kindB k c = v) (w : World) (hT : KT w) :
    Calls Tryd.prog 100 #[.int .u8 c.toNat, .int .u8 k] w fun e w' => e = .returned (.bool v) ∧ w' = w := hv ▸ is_c c k hk w hT

set_option maxRecDepth 100000 in
theorem end_c (b i : Nat) (s : ByteArray) (w : World) (h : Cu b s i w) :
    Calls Tryd.prog 99 #[.pointer (some ⟨b, 0, none⟩)] w fun e w' => e = .returned (.bool (decide (s.size ≤ i))) ∧ ∃ n, w' = w.drewN n := by
  have h0 := h.c0
  have h1 := h.c1
  clear h
  go_enter Tryd.func99, Tryd.ntmps99
  go_wp2
  go_quiet (fail)
  go_wp2
  go_ret
  exact ⟨ret_bool (by simp), _, rfl⟩

set_option maxRecDepth 100000 in
theorem next_c (b i : Nat) (s : ByteArray) (w : World) (h : Cu b s i w) (hi : i < s.size) :
    Calls Tryd.prog 101 #[.pointer (some ⟨b, 0, none⟩)] w fun e w' => e = .returned (.int .u8 (s[i].toNat)) ∧ ∃ n, w' = w.drewN n := by
  have HC := hid_ h
  have hd : decide (s.size ≤ i) = false := by simpa using hi
  have h0 := h.c0
  have h1 := h.c1
  clear h
  go_enter Tryd.func101, Tryd.ntmps101
  go_wp2_with (go_at_call 99; refine (end_c b i s _ HC.out).mono ?_; rintro e w' ⟨rfl, n0, rfl⟩)
  go_quiet (fail)
  go_wp2
  go_ret
  exact ⟨rfl, _, World.drewN_drewN _ _ _⟩

/-- the place that the cursor at b stands at -/
def atOf (b : Nat) (w : World) : Nat := match w.cell? ⟨b, 1, none⟩ with | some (.int _ n) => n.toNat | _ => 0
theorem Cu.atOf {b i : Nat} {s : ByteArray} {w : World} (h : Cu b s i w) : atOf b w = i := by unfold Go.Proofs.YtegeijlookpgaaaDoor.atOf; rw [h.c1]; simp

theorem drop_cons {s : ByteArray} {i : Nat} {c : UInt8} {r : List UInt8} (h : (bs s).drop i = c :: r) : ∃ hi : i < s.size, s[i] = c ∧ (bs s).drop (i + 1) = r := by
  have hi : i < s.size := by
    rcases Nat.lt_or_ge i s.size with h1 | h1
    · exact h1
    · rw [List.drop_of_length_le (by rw [bs_size]; exact h1)] at h; cases h
  rw [drop_bs s i hi] at h
  injection h with h1 h2
  exact ⟨hi, h1, h2⟩
theorem drop_nil {s : ByteArray} {i : Nat} (h : (bs s).drop i = []) : s.size ≤ i := by
  have := congrArg List.length h
  rw [List.length_drop, bs_size, List.length_nil] at this
  omega

set_option maxHeartbeats 1000000 in
set_option maxRecDepth 100000 in
theorem eat_yes (b i : Nat) (s : ByteArray) (c : UInt8) (r : List UInt8) (hr : (bs s).drop i = c :: r) (ci : Int) (hci : ci = c.toNat) (w : World) (h : Cu b s i w) (hs : s.size ≤ 1099511627776) :
    Calls Tryd.prog 74 #[.pointer (some ⟨b, 0, none⟩), .int .u8 ci] w fun e w' => e = .returned (.bool true) ∧ Cu b s (i + 1) w' ∧ Ob b w w' := by
  subst hci
  obtain ⟨hi, hc, _⟩ := drop_cons hr
  have HC := hid_ h
  have h0 := h.c0
  have h1 := h.c1
  have hf := h.fz 1
  clear h hr
  have hq : ((s[i].toNat : Int) == (c.toNat : Int)) = true := by rw [hc]; simp
  have hq' : ((s[i].toNat : Int) != (c.toNat : Int)) = false := by rw [hc]; simp
  clear hc
  go_enter Tryd.func74, Tryd.ntmps74
  go_wp2
  go_quiet ((go_at_call 99; exact Calls.quiet_of (by simpa [hi] using end_c b i s _ (HC.out.drewN _))))
  go_wp2
  go_ret
  exact ⟨rfl, (HC.out.drewN _).put _, (Ob.drewN (Fr.refl _ _) _).set _⟩

set_option maxHeartbeats 1000000 in
set_option maxRecDepth 100000 in
theorem eat_no (b i : Nat) (s : ByteArray) (c : UInt8) (hr : ∀ r, (bs s).drop i ≠ c :: r) (ci : Int) (hci : ci = c.toNat) (w : World) (h : Cu b s i w) (hs : s.size ≤ 1099511627776) :
    Calls Tryd.prog 74 #[.pointer (some ⟨b, 0, none⟩), .int .u8 ci] w fun e w' => e = .returned (.bool false) ∧ ∃ n, w' = w.drewN n := by
  subst hci
  have HC := hid_ h
  have h0 := h.c0
  have h1 := h.c1
  clear h
  by_cases hi : i < s.size
  · have hc : s[i] ≠ c := fun e => hr _ (by rw [drop_bs s i hi, e])
    have hn : s[i].toNat ≠ c.toNat := fun e => hc (UInt8.toNat_inj.1 e)
    have hq : ((s[i].toNat : Int) == (c.toNat : Int)) = false := by rw [beq_eq_false_iff_ne]; omega
    have hq' : ((s[i].toNat : Int) != (c.toNat : Int)) = true := by rw [bne_iff_ne]; omega
    clear hr hc hn
    go_enter Tryd.func74, Tryd.ntmps74
    go_wp2
    go_quiet ((go_at_call 99; exact Calls.quiet_of (by simpa [hi] using end_c b i s _ (HC.out.drewN _))))
    go_wp2
    go_ret
    exact ⟨rfl, _, rfl⟩
  · have hi' : s.size ≤ i := by omega
    clear hr
    go_enter Tryd.func74, Tryd.ntmps74
    go_wp2
    go_quiet ((go_at_call 99; exact Calls.quiet_of (by simpa [hi'] using end_c b i s _ (HC.out.drewN _))))
    go_wp2
    go_ret
    exact ⟨rfl, _, rfl⟩

theorem sb_bs (s : ByteArray) : sb (bs s) = s := by
  cases s; simp [bs, sb]
theorem extract_sb (s : ByteArray) (i j : Nat) : s.extract i j = sb (((bs s).drop i).take (j - i)) := by
  have h : bs (s.extract i j) = ((bs s).drop i).take (j - i) := by
    simp [bs, List.drop_take]
  rw [← h, sb_bs]
theorem take_run {l : List UInt8} {p : UInt8 → Bool} {i j : Nat} (hij : i ≤ j) (hj : j ≤ l.length) (h : l.drop j = (l.drop i).dropWhile p) : (l.drop i).take (j - i) = (l.drop i).takeWhile p := by
  have h1 := List.takeWhile_append_dropWhile (p := p) (l := l.drop i)
  rw [← h] at h1
  have h2 := congrArg List.length h1
  rw [List.length_append, List.length_drop, List.length_drop] at h2
  conv => lhs; rw [← h1]
  rw [List.take_append_of_le_length (by omega), List.take_of_length_le (by omega)]

set_option maxHeartbeats 1000000 in
set_option maxRecDepth 100000 in
theorem run_c (b i : Nat) (s : ByteArray) (k : Nat) (hk : k = 1 ∨ k = 2 ∨ k = 4 ∨ k = 8) (w : World) (h : Cu b s i w) (hT : KT w) (hb : b ≠ 18) (hs : s.size ≤ 1099511627776) (hi : i ≤ s.size) :
    Calls Tryd.prog 73 #[.pointer (some ⟨b, 0, none⟩), .int .u8 k] w fun e w' => e = .returned (.string (sb (((bs s).drop i).takeWhile (kindB k)))) ∧ ∃ j, i ≤ j ∧ j ≤ s.size ∧ (bs s).drop j = ((bs s).drop i).dropWhile (kindB k) ∧ Cu b s j w' ∧ Ob b w w' := by
  have HC := As.mk h
  have HT := As.mk hT
  have h0 := h.c0
  have h1 := h.c1
  clear h hT
  go_enter Tryd.func73, Tryd.ntmps73
  go_wp2
  clear h0 h1
  go_loopw [] (fun wr => ∃ j : Nat, i ≤ j ∧ j ≤ s.size ∧ As (((bs s).drop j).dropWhile (kindB k) = ((bs s).drop i).dropWhile (kindB k)) ∧ As (Cu b s j wr) ∧ As (Ob b w wr)) (fun wr => s.size - atOf b wr)
  case atStart => exact ⟨i, Nat.le_refl _, hi, ⟨rfl⟩, HC, ⟨Fr.refl _ _⟩⟩
  case round =>
    obtain ⟨j, hij, hj, HD, HJ, HO⟩ := hrel
    have h0 := HJ.out.c0
    have h1 := HJ.out.c1
    have hf := HJ.out.fz 1
    have HTj : As (∀ n, KT (wr.drewN n)) := ⟨fun n m hm => (World.cell?_of_block (a := ⟨18, m, none⟩) (HO.out.block 18 (World.block_lt_of_cell? w _ (HT.out m hm)) (fun e => hb e.symm))).trans (HT.out m hm)⟩
    by_cases hlt : j < s.size
    · have hd : decide (s.size ≤ j) = false := by simpa using hlt
      have hmono := hij
      cases hp : kindB k s[j]
      · have HX : As ((bs s).drop j = ((bs s).drop i).dropWhile (kindB k)) := ⟨by rw [← HD.out, drop_bs s j hlt, List.dropWhile_cons, hp]; rfl⟩
        go_wp2
        go_quiet (first | (go_at_call 99; exact Calls.quiet_of (by simpa [hlt] using end_c b j s _ (HJ.out.drewN _))) | (go_at_call 100; exact Calls.quiet_of_same (is_v s[j] k hk _ hp _ (HTj.out _))))
        clear hp
        go_wp2
        go_quiet (fail)
        go_wp2
        go_ret
        exact ⟨ret_str (by rw [extract_sb, take_run hij (by rw [bs_size]; exact hj) HX.out]), j, hij, hj, HX.out, (HJ.out.drewN _).drewN _, (HO.out.drewN _).drewN _⟩
      · have HX : As (((bs s).drop (j + 1)).dropWhile (kindB k) = ((bs s).drop i).dropWhile (kindB k)) := ⟨by rw [← HD.out, drop_bs s j hlt, List.dropWhile_cons, hp]; rfl⟩
        go_wp2
        go_quiet (first | (go_at_call 99; exact Calls.quiet_of (by simpa [hlt] using end_c b j s _ (HJ.out.drewN _))) | (go_at_call 100; exact Calls.quiet_of_same (is_v s[j] k hk _ hp _ (HTj.out _))))
        clear hp
        go_wp2
        have HCn := (HJ.out.drewN nq).put (j + 1)
        refine ⟨⟨j + 1, by omega, by omega, HX, ⟨HCn⟩, ⟨(HO.out.drewN _).set _⟩⟩, ?_⟩
        have e1 := HCn.atOf
        have e2 := HJ.out.atOf
        rw [e2]
        show s.size - atOf b ((wr.drewN nq).setCell ⟨b, 1, none⟩ (.int .i64 ((j + 1 : Nat) : Int))) < s.size - j
        rw [e1]
        omega
    · have hd : decide (s.size ≤ j) = true := by simpa using hlt
      have hle : s.size ≤ j := by omega
      go_wp2
      go_quiet (first | (go_at_call 99; exact Calls.quiet_of (by simpa [hle] using end_c b j s _ (HJ.out.drewN _))))
      go_wp2
      go_quiet (fail)
      go_wp2
      go_ret
      have HX : (bs s).drop j = ((bs s).drop i).dropWhile (kindB k) := by
        rw [← HD.out, List.drop_of_length_le (by rw [bs_size]; exact hle)]; rfl
      exact ⟨ret_str (by rw [extract_sb, take_run hij (by rw [bs_size]; exact hj) HX]), j, hij, hj, HX, (HJ.out.drewN _).drewN _, (HO.out.drewN _).drewN _⟩
end Go.Proofs.YtegeijlookpgaaaDoor
