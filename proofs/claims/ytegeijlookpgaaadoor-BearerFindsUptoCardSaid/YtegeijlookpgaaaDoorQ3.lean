/- The law's contract: for every request of the bound, over the variables that the row lists. -/
import Derived.Test.YtegeijlookpgaaaDoorCards
import Derived.Test.YtegeijlookpgaaaDoorTie
import Derived.Test.YtegeijlookpgaaaDoorP2
import Derived.WalkKit
import Derived.ProofKit
import Derived.OpenShut
import Derived.Deep.DeepHandedRow
import Derived.Lib.LaidTab
import Derived.LaidSub
import Derived.LaidLaws
import Derived.Stop.LaidErr
import Derived.Shelf.Vars
set_option linter.unusedVariables false
set_option linter.unusedSimpArgs false
namespace Go.Proofs.YtegeijlookpgaaaDoor
open Go.ChangeShapes Go.WideShapes Go.ChangeAt Go.RowKit Go.Proofs.YtegeijlookpgaaaDoorW.PrintWords

theorem own_ : ownKnob Tryd.prog.godebug = none := by kernel_rfl
theorem cells5 : Tryd.prog.cellsOf 5 = 1 := by kernel_rfl
theorem cells163 : Tryd.prog.cellsOf 163 = 1 := by kernel_rfl

theorem kn_g : Tryd.prog.globalNamed "usher/field.kinds" = some 18 := by kernel_rfl
theorem kn_ty : (Tryd.prog.globals[18]?).map (·.type) = some 137 := by kernel_rfl
theorem kn_n : Tryd.prog.cellsOf 137 = 256 := by kernel_rfl
theorem kn_tab {W : World} (h : laidMetH Tryd.prog Rows.bearerFindsUptoRow.laid W) : Lib.TabIs Tryd.prog W "usher/field.kinds" .u8 kindsInt := by
  have h1 := (laidMetH_iff.1 (h.filter fun x => x.1 == "usher/field.kinds")).1
  have e : ((Rows.bearerFindsUptoRow.laid.filter fun x => x.1 == "usher/field.kinds").filter fun x => x.2.handleName?.isNone) = [("usher/field.kinds", Lib.tabData .u8 kindsInt)] := by kernel_rfl
  rw [e] at h1
  exact Lib.tabIs_of_head (rest := []) kn_g kn_ty Tryd.underlying137 Tryd.underlying5 cells5 kn_n h1

/-- the sentinels, as the row lists them: name, variable, text -/
def sents : List (String × Nat × List UInt8) := [("usher/api.ErrArg", 3, [97, 114, 103, 117, 109, 101, 110, 116]), ("usher/api.ErrText", 0, [116, 101, 120, 116]), ("usher/api.ErrMany", 4, [109, 97, 110, 121]), ("usher/api.ErrTwice", 1, [116, 119, 105, 99, 101]), ("usher/api.ErrScheme", 5, [115, 99, 104, 101, 109, 101]), ("usher/api.ErrShort", 6, [115, 104, 111, 114, 116]), ("usher/api.ErrDry", 7, [100, 114, 121]), ("usher/api.ErrTaken", 8, [116, 97, 107, 101, 110]), ("usher/api.ErrFull", 9, [102, 117, 108, 108]), ("usher/api.ErrDead", 10, [100, 101, 97, 100]), ("usher/api.ErrLog", 11, [108, 111, 103]), ("usher/api.ErrLost", 2, [108, 111, 115, 116]), ("usher/api.ErrDenied", 12, [100, 101, 110, 105, 101, 100])]
def sentL (x : String × Nat × List UInt8) : String × DataW Unit := (x.1, .iface "*errors.errorString" (.ptr (.agg [.lit (.string x.2.2)])))
theorem sent_g : ∀ x ∈ sents, Tryd.prog.globalNamed x.1 = some x.2.1 := by
  intro x hx
  simp only [sents, List.mem_cons, List.not_mem_nil, or_false] at hx
  rcases hx with rfl | rfl | rfl | rfl | rfl | rfl | rfl | rfl | rfl | rfl | rfl | rfl | rfl <;> kernel_rfl
theorem sent_ty : ∀ x ∈ sents, (Tryd.prog.globals[x.2.1]?).map (·.type) = some 35 := by
  intro x hx
  simp only [sents, List.mem_cons, List.not_mem_nil, or_false] at hx
  rcases hx with rfl | rfl | rfl | rfl | rfl | rfl | rfl | rfl | rfl | rfl | rfl | rfl | rfl <;> kernel_rfl
theorem star_ : "*" ++ "errors.errorString" = "*errors.errorString" := by decide
theorem row148 (u : TypeId) (h : Tryd.prog.typeName? 3 u = some "*errors.errorString") : u = 148 :=
  typeName_ptr_named (nm := "errors.errorString") (by rw [star_]; kernel_rfl) (by kernel_rfl) (by decide) u (by rw [star_]; exact h)
set_option maxRecDepth 100000 in
/-- each listed sentinel: its variable points at a cell of its own -/
theorem sents_met {W : World} : ∀ (ns : List (String × Nat × List UInt8)) (ps : List MemPlace), (∀ x ∈ ns, x ∈ sents) → DataW.LaidVars Tryd.prog W (ns.map sentL) ps → ps.Nodup →
    (∀ b off, MemPlace.cell b off ∈ ps → (∃ c t, W.heap[b]? = some (.cells c t (0, 0))) ∧ ∀ u v, W.cell? ⟨b, off, none⟩ = some (.iface u v) → Value.okWide Tryd.prog W .any 0 u v) →
    ∃ l : List Addr, l.length = ns.length ∧ l.Nodup ∧ (∀ a ∈ l, MemPlace.cell a.block a.off ∈ ps) ∧ ∀ (i : Nat) (a : Addr) (x : String × Nat × List UInt8), l[i]? = some a → ns[i]? = some x → W.cell? ⟨x.2.1, 0, none⟩ = some (ev a)
  | [], ps, _, _, _, _ => ⟨[], rfl, List.nodup_nil, (fun a h => (List.not_mem_nil h).elim), (fun i a x h _ => absurd h (by simp))⟩
  | n :: ns, ps, hm, hL, hnd, hrows => by
    obtain ⟨g0, t0, cs0, f0, p0, q0, hg0, ht0, hv0, hd0, hq0, e0⟩ := hL
    obtain rfl := Option.some.inj ((sent_g n (hm n (by simp))).symm.trans hg0)
    obtain rfl := Option.some.inj ((sent_ty n (hm n (by simp))).symm.trans ht0)
    subst e0
    obtain ⟨l0⟩ := cs0
    have ok0 : ∀ u v, l0 = [.iface u v] → Value.okWide Tryd.prog W .any 0 u v := fun u v e => by
      subst e
      exact (hrows n.2.1 0 (by simp [MemPlace.row])).2 u v (by simpa using World.var?_cell hg0 hv0 0)
    obtain ⟨a0, s0, rfl, hc0, hs0, hz0, rfl⟩ := errorString_of_trod Tryd.underlying35 row148 Tryd.underlying148 Tryd.underlying163 rfl rfl Tryd.underlying9 cells163 cells9 hd0 ok0
    obtain ⟨l, h1, h2, h3, h4⟩ := sents_met ns q0 (fun x hx => hm x (List.mem_cons_of_mem _ hx)) hq0 (List.Nodup.sublist (List.sublist_append_right _ _) hnd) (fun b off hb => hrows b off (List.mem_append_right _ hb))
    have hmem : MemPlace.cell a0.block a0.off ∈ MemPlace.row a0 1 := by simp [MemPlace.row]
    refine ⟨a0 :: l, by simp [h1], List.nodup_cons.2 ⟨fun ha => ?_, h2⟩, fun a ha => ?_, fun i a x hi hx => ?_⟩
    · have := (List.nodup_append.1 hnd).2.2 _ (List.mem_append_right _ hmem) _ (h3 a0 ha)
      exact this rfl
    · rcases List.mem_cons.1 ha with rfl | ha
      · exact List.mem_append_left _ (List.mem_append_right _ hmem)
      · exact List.mem_append_right _ (h3 a ha)
    · match i with
      | 0 =>
        obtain rfl : a0 = a := by simpa using hi
        obtain rfl : n = x := by simpa using hx
        simpa using World.var?_cell hg0 hv0 0
      | i + 1 => exact h4 i a x (by simpa using hi) (by simpa using hx)
/-- where in the list a variable stands -/
def place : Nat → Nat
  | 3 => 0 | 0 => 1 | 4 => 2 | 1 => 3 | 5 => 4 | 6 => 5 | 7 => 6 | 8 => 7 | 9 => 8 | 10 => 9 | 11 => 10 | 2 => 11 | _ => 12
theorem place_lt : ∀ g ∈ errG, place g < 13 := by decide
theorem place_inj : ∀ g ∈ errG, ∀ k ∈ errG, place g = place k → g = k := by decide
theorem place_get : ∀ g ∈ errG, (sents[place g]?).map (fun x => x.2.1) = some g := by decide
theorem ew_of_laid {W : World} (h : laidMetH Tryd.prog Rows.bearerFindsUptoRow.laid W) : ∃ A, EW A W := by
  have h1 := (laidMetH_iff.1 (h.filter fun x => (sents.map (·.1)).contains x.1)).1
  have e : ((Rows.bearerFindsUptoRow.laid.filter fun x => (sents.map (·.1)).contains x.1).filter fun x => x.2.handleName?.isNone) = sents.map sentL := by kernel_rfl
  rw [e] at h1
  obtain ⟨ps, hL, hnd, hrows⟩ := h1
  obtain ⟨l, h1, h2, h3, h4⟩ := sents_met sents ps (fun x hx => hx) hL hnd hrows
  have hlen : l.length = 13 := h1
  have hget : ∀ g ∈ errG, l[place g]? = some (l.getD (place g) default) := fun g hg => by
    have := place_lt g hg
    rw [List.getD_eq_getElem?_getD, List.getElem?_eq_getElem (by omega), Option.getD_some]
  refine ⟨fun g => l.getD (place g) default, ⟨fun g hg => ?_, fun g hg => ?_, fun g hg k hk hn he => ?_⟩⟩
  · have hp := place_get g hg
    obtain ⟨x, hx, hxe⟩ := Option.map_eq_some_iff.1 hp
    have := h4 (place g) _ x (hget g hg) hx
    rw [hxe] at this
    exact this
  · exact (hrows _ _ (h3 _ (List.mem_of_getElem? (hget g hg)))).1
  · have h1 := place_lt g hg
    have h2' := place_lt k hk
    refine hn (place_inj g hg k hk ?_)
    have e1 := hget g hg
    have e2 := hget k hk
    have he' : l.getD (place g) default = l.getD (place k) default := he
    rw [he'] at e1
    exact (List.getElem?_inj (by rw [hlen]; exact h1) h2).1 (e1.trans e2.symm)
theorem mx_of_shape {W : World} (h : W.ShapedOpen Tryd.prog) : ∃ m, W.cell? ⟨19, 0, none⟩ = some (.int .i64 m) :=
  Go.Proofs.cell_of_shapedOpen_int (zero := #[.int .i64 0]) (t := 3) h (of_decide_eq_true (by kernel_rfl)) (by kernel_rfl) rfl (by kernel_rfl) (by kernel_rfl) Tryd.underlying3
theorem ft_of_laid {W : World} (h : laidMetH Tryd.prog Rows.bearerFindsUptoRow.laid W) (hs : W.ShapedOpen Tryd.prog) : ∃ A m, FT A m W := by
  obtain ⟨A, hA⟩ := ew_of_laid h
  obtain ⟨m, hm⟩ := mx_of_shape hs
  exact ⟨A, m, ⟨fun i hi => (kn_tab h).cell kn_g i hi, hA, hm⟩⟩

/-- old memory is as it was: the post -/
theorem post_of_below {H : Type} {enc : TypeId × Value → H} {P : Program} {f : Func} {s : ChangeSpec} {apart fresh handsOn again : Bool} {W W' : World} {args : Array Value} {v : Value} {ds gs : List (DataW H)} {before pa pv : List MemPlace}
    (hW : DataW.Whole enc P f.params.toList s.vars apart W args.toList ds gs before)
    (hres : ∀ (b : Nat) (sp : Nat → Bool) (hd : Bool), DataW.TrodAll enc P W' b sp hd f.resultTypes.toList (v.resultList f.resultTypes.size) (s.fn H (ds ++ gs)).results [])
    (hargs : ∀ sp : Nat → Bool, (∀ p ∈ before, sp p.block = true) → DataW.TrodAll enc P W' 0 sp true f.params.toList args.toList (s.fn H (ds ++ gs)).args pa)
    (hvars : ∀ sp : Nat → Bool, (∀ p ∈ before, sp p.block = true) → DataW.TrodVars enc P W' sp s.vars (s.fn H (ds ++ gs)).vars pv)
    (hps : before = pa ++ pv) (hb : Below W.heap.size W W')
    (hok : ∀ (j : Nat) (t : TypeId) (r : Value), f.resultTypes[j]? = some t → (v.resultList f.resultTypes.size)[j]? = some r → Value.okWide P W' .any 0 t r) :
    s.post enc P f apart fresh handsOn again W args v W' := by
  have hold : ∀ p ∈ before, (fun b => decide (b < W.heap.size)) p.block = true := fun p hp => by simpa using hW.lt p hp
  have hlt : ∀ p ∈ before, p.block < W.heap.size := fun p hp => hW.lt p hp
  refine ⟨ds, gs, before, [], pa, pv, hW, hres _ _ _, hargs _ hold, hvars _ hold, World.keptBut_mono (fun p hp => ⟨hp, ?_⟩) (hb.frame (· ∈ before)), fun _ => ?_⟩
  · rw [hps, List.mem_append] at hp
    exact Or.inr hp
  · obtain ⟨_, _, _, _, _, hz, hn⟩ := hW
    refine ⟨hok, _, _, ([] ++ pa) ++ pv, ⟨[] ++ pa, pv, trodAll_append (hargs _ (fun _ _ => rfl)) (hres _ _ _), hvars _ (fun _ _ => rfl), rfl, ?_, ?_⟩, ?_⟩
    · intro b off hp
      have hp' : MemPlace.cell b off ∈ before := by rw [hps]; simpa using hp
      rw [hb.frozen (show b < W.heap.size from hlt _ hp')]
      exact hz b off hp'
    · intro ha
      have := hn ha
      rw [hps] at this
      simpa using this
    · intro p hp _
      rw [hps]
      simpa using hp

theorem laid_out : laidOutB Tryd.prog = true := by kernel_rfl
set_option maxRecDepth 100000 in
/-- every request of the bound, in every world that holds the variables: true, and the request reads as it did -/
theorem contract (H : Type) (enc : TypeId × Value → H) (W : World) (base : Nat) (args : Array Value) (ds gs : List (DataW H)) (before : List MemPlace)
    (hval : ∀ (j : Nat) t v, Tryd.f4.params[j]? = some t → args[j]? = some v → Value.okWide Tryd.prog W .any base t v)
    (hW : DataW.Whole enc Tryd.prog Tryd.f4.params.toList Rows.bearerFindsSpec.vars false W args.toList ds gs before) (hk : Rows.uptoSmall H (ds ++ gs) = true) (hL : laidMetH Tryd.prog Rows.bearerFindsUptoRow.laid W) (hsh : W.ShapedOpen Tryd.prog) :
    Calls Tryd.prog 4 args W fun e W' => ∃ v, e = .returned v ∧ Rows.bearerFindsSpec.post enc Tryd.prog Tryd.f4 false true false false W args v W' := by
  have hW' := hW
  obtain ⟨p, q, hA0, hV, rfl, hfz, hnd⟩ := hW
  have hA : DataW.TrodAll enc Tryd.prog W 0 (fun _ => true) true Tryd.f4.params.toList args.toList ds p := hA0
  rw [Tryd.params4] at hA hval
  obtain ⟨v0, vs0, d0, ds0, p0, q0, hargs, rfl, rfl, h0, r0⟩ := trodAll_cons hA
  obtain ⟨rfl, rfl, rfl⟩ := trodAll_nil r0
  obtain rfl : args = #[v0] := by cases args; simp_all
  obtain ⟨rfl, rfl⟩ := trodVars_none hV
  obtain ⟨r, A, c, rfl, hc, hr, hbulk⟩ := open_request (hval 0 32 v0 rfl rfl) h0
  have hB := bulks.bound hk
  have hB1 : r.m.size + r.t.size + r.b.size + tot r.l ≤ 1048576 := by
    have h1 : Rows.uptoBulk d0 ≤ Rows.uptoBulkAll ([d0] ++ []) := bulks.part_le (by simp)
    exact Nat.le_trans hbulk (Nat.le_trans h1 hB)
  obtain ⟨hb1, hb2⟩ := rb_of r hB1
  obtain ⟨E, m, hF⟩ := ft_of_laid hL hsh
  have walk := law_c E m r A c W hb1 hb2 hF hr
  clear hA0
  simp only [List.append_nil] at hW'
  refine walk.mono fun e W' ⟨he, hb⟩ => ?_
  subst he
  have hlt : ∀ x ∈ p0, x.block < W.heap.size := fun x hx => hW'.lt x hx
  exact ⟨_, rfl, post_of_below (pa := p0) (pv := []) hW' (fun _ _ _ => trodAll_cons_mk (shut_bool Tryd.underlying4 _) trodAll_mk0)
    (fun sp hsp => trodAll_mk1 (WideElems.Trod_stays laid_out (by kernel_rfl) (of_decide_eq_true (by kernel_rfl)) h0 (fun x hx => hb.same (hlt x hx)) (fun x hx => hsp x hx))) (fun _ _ => rfl) (by simp)
    hb (ok_one (by kernel_rfl) rfl (okWide_bool_mk Tryd.underlying4 _))⟩
end Go.Proofs.YtegeijlookpgaaaDoor
