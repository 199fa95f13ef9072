/- The law's contract: for every argument of the bound, over the tables that the row lists. -/
import Derived.Test.YtegeijlookpgaaaDoorCards
import Derived.Test.YtegeijlookpgaaaDoorTie
import Derived.Test.YtegeijlookpgaaaDoorL3
import Derived.Test.YtegeijlookpgaaaDoorP1
import Derived.WalkKit
import Derived.ProofKit
import Derived.OpenShut
import Derived.Deep.DeepHandedRow
import Derived.Lib.LaidTab
import Derived.LaidSub
import Derived.LaidLaws
set_option linter.unusedVariables false
set_option linter.unusedSimpArgs false
namespace Go.Proofs.YtegeijlookpgaaaDoor
open Go.ChangeShapes Go.WideShapes Go.ChangeAt Go.RowKit Go.Proofs.YtegeijlookpgaaaDoorW.PrintWords

theorem own_ : ownKnob Tryd.prog.godebug = none := by kernel_rfl
theorem cells59 : Tryd.prog.cellsOf 59 = 1 := by kernel_rfl

theorem un_g : Tryd.prog.globalNamed "usher/pct.unreserved" = some 16 := by kernel_rfl
theorem un_ty : (Tryd.prog.globals[16]?).map (·.type) = some 123 := by kernel_rfl
theorem un_n : Tryd.prog.cellsOf 123 = 4 := by kernel_rfl
theorem un_tab {W : World} (h : laidMetH Tryd.prog Rows.grantTicketUptoRow.laid W) : Lib.TabIs Tryd.prog W "usher/pct.unreserved" .u32 [0, 67067904, 2281701374, 1207959550] := by
  have h1 := (laidMetH_iff.1 (h.filter fun x => x.1 == "usher/pct.unreserved")).1
  have e : ((Rows.grantTicketUptoRow.laid.filter fun x => x.1 == "usher/pct.unreserved").filter fun x => x.2.handleName?.isNone) = [("usher/pct.unreserved", Lib.tabData .u32 [0, 67067904, 2281701374, 1207959550])] := by kernel_rfl
  rw [e] at h1
  exact Lib.tabIs_of_head (rest := []) un_g un_ty Tryd.underlying123 Tryd.underlying59 cells59 un_n h1

theorem fw_g : Tryd.prog.globalNamed "usher/sums.firstWords" = some 15 := by kernel_rfl
theorem fw_ty : (Tryd.prog.globals[15]?).map (·.type) = some 60 := by kernel_rfl
theorem fw_n : Tryd.prog.cellsOf 60 = 8 := by kernel_rfl
theorem fw_tab {W : World} (h : laidMetH Tryd.prog Rows.grantTicketUptoRow.laid W) : Lib.TabIs Tryd.prog W "usher/sums.firstWords" .u32 [1779033703, 3144134277, 1013904242, 2773480762, 1359893119, 2600822924, 528734635, 1541459225] := by
  have h1 := (laidMetH_iff.1 (h.filter fun x => x.1 == "usher/sums.firstWords")).1
  have e : ((Rows.grantTicketUptoRow.laid.filter fun x => x.1 == "usher/sums.firstWords").filter fun x => x.2.handleName?.isNone) = [("usher/sums.firstWords", Lib.tabData .u32 [1779033703, 3144134277, 1013904242, 2773480762, 1359893119, 2600822924, 528734635, 1541459225])] := by kernel_rfl
  rw [e] at h1
  exact Lib.tabIs_of_head (rest := []) fw_g fw_ty Tryd.underlying60 Tryd.underlying59 cells59 fw_n h1

theorem rw__g : Tryd.prog.globalNamed "usher/sums.roundWords" = some 17 := by kernel_rfl
theorem rw__ty : (Tryd.prog.globals[17]?).map (·.type) = some 97 := by kernel_rfl
theorem rw__n : Tryd.prog.cellsOf 97 = 64 := by kernel_rfl
theorem rw__tab {W : World} (h : laidMetH Tryd.prog Rows.grantTicketUptoRow.laid W) : Lib.TabIs Tryd.prog W "usher/sums.roundWords" .u32 [1116352408, 1899447441, 3049323471, 3921009573, 961987163, 1508970993, 2453635748, 2870763221, 3624381080, 310598401, 607225278, 1426881987, 1925078388, 2162078206, 2614888103, 3248222580, 3835390401, 4022224774, 264347078, 604807628, 770255983, 1249150122, 1555081692, 1996064986, 2554220882, 2821834349, 2952996808, 3210313671, 3336571891, 3584528711, 113926993, 338241895, 666307205, 773529912, 1294757372, 1396182291, 1695183700, 1986661051, 2177026350, 2456956037, 2730485921, 2820302411, 3259730800, 3345764771, 3516065817, 3600352804, 4094571909, 275423344, 430227734, 506948616, 659060556, 883997877, 958139571, 1322822218, 1537002063, 1747873779, 1955562222, 2024104815, 2227730452, 2361852424, 2428436474, 2756734187, 3204031479, 3329325298] := by
  have h1 := (laidMetH_iff.1 (h.filter fun x => x.1 == "usher/sums.roundWords")).1
  have e : ((Rows.grantTicketUptoRow.laid.filter fun x => x.1 == "usher/sums.roundWords").filter fun x => x.2.handleName?.isNone) = [("usher/sums.roundWords", Lib.tabData .u32 [1116352408, 1899447441, 3049323471, 3921009573, 961987163, 1508970993, 2453635748, 2870763221, 3624381080, 310598401, 607225278, 1426881987, 1925078388, 2162078206, 2614888103, 3248222580, 3835390401, 4022224774, 264347078, 604807628, 770255983, 1249150122, 1555081692, 1996064986, 2554220882, 2821834349, 2952996808, 3210313671, 3336571891, 3584528711, 113926993, 338241895, 666307205, 773529912, 1294757372, 1396182291, 1695183700, 1986661051, 2177026350, 2456956037, 2730485921, 2820302411, 3259730800, 3345764771, 3516065817, 3600352804, 4094571909, 275423344, 430227734, 506948616, 659060556, 883997877, 958139571, 1322822218, 1537002063, 1747873779, 1955562222, 2024104815, 2227730452, 2361852424, 2428436474, 2756734187, 3204031479, 3329325298])] := by kernel_rfl
  rw [e] at h1
  exact Lib.tabIs_of_head (rest := []) rw__g rw__ty Tryd.underlying97 Tryd.underlying59 cells59 rw__n h1

theorem rf_g : Tryd.prog.globalNamed "usher/usherref1.first" = some 13 := by kernel_rfl
theorem rf_ty : (Tryd.prog.globals[13]?).map (·.type) = some 60 := by kernel_rfl
theorem rf_n : Tryd.prog.cellsOf 60 = 8 := by kernel_rfl
theorem rf_tab {W : World} (h : laidMetH Tryd.prog Rows.grantTicketUptoRow.laid W) : Lib.TabIs Tryd.prog W "usher/usherref1.first" .u32 [1779033703, 3144134277, 1013904242, 2773480762, 1359893119, 2600822924, 528734635, 1541459225] := by
  have h1 := (laidMetH_iff.1 (h.filter fun x => x.1 == "usher/usherref1.first")).1
  have e : ((Rows.grantTicketUptoRow.laid.filter fun x => x.1 == "usher/usherref1.first").filter fun x => x.2.handleName?.isNone) = [("usher/usherref1.first", Lib.tabData .u32 [1779033703, 3144134277, 1013904242, 2773480762, 1359893119, 2600822924, 528734635, 1541459225])] := by kernel_rfl
  rw [e] at h1
  exact Lib.tabIs_of_head (rest := []) rf_g rf_ty Tryd.underlying60 Tryd.underlying59 cells59 rf_n h1

theorem rr_g : Tryd.prog.globalNamed "usher/usherref1.round" = some 14 := by kernel_rfl
theorem rr_ty : (Tryd.prog.globals[14]?).map (·.type) = some 97 := by kernel_rfl
theorem rr_n : Tryd.prog.cellsOf 97 = 64 := by kernel_rfl
theorem rr_tab {W : World} (h : laidMetH Tryd.prog Rows.grantTicketUptoRow.laid W) : Lib.TabIs Tryd.prog W "usher/usherref1.round" .u32 [1116352408, 1899447441, 3049323471, 3921009573, 961987163, 1508970993, 2453635748, 2870763221, 3624381080, 310598401, 607225278, 1426881987, 1925078388, 2162078206, 2614888103, 3248222580, 3835390401, 4022224774, 264347078, 604807628, 770255983, 1249150122, 1555081692, 1996064986, 2554220882, 2821834349, 2952996808, 3210313671, 3336571891, 3584528711, 113926993, 338241895, 666307205, 773529912, 1294757372, 1396182291, 1695183700, 1986661051, 2177026350, 2456956037, 2730485921, 2820302411, 3259730800, 3345764771, 3516065817, 3600352804, 4094571909, 275423344, 430227734, 506948616, 659060556, 883997877, 958139571, 1322822218, 1537002063, 1747873779, 1955562222, 2024104815, 2227730452, 2361852424, 2428436474, 2756734187, 3204031479, 3329325298] := by
  have h1 := (laidMetH_iff.1 (h.filter fun x => x.1 == "usher/usherref1.round")).1
  have e : ((Rows.grantTicketUptoRow.laid.filter fun x => x.1 == "usher/usherref1.round").filter fun x => x.2.handleName?.isNone) = [("usher/usherref1.round", Lib.tabData .u32 [1116352408, 1899447441, 3049323471, 3921009573, 961987163, 1508970993, 2453635748, 2870763221, 3624381080, 310598401, 607225278, 1426881987, 1925078388, 2162078206, 2614888103, 3248222580, 3835390401, 4022224774, 264347078, 604807628, 770255983, 1249150122, 1555081692, 1996064986, 2554220882, 2821834349, 2952996808, 3210313671, 3336571891, 3584528711, 113926993, 338241895, 666307205, 773529912, 1294757372, 1396182291, 1695183700, 1986661051, 2177026350, 2456956037, 2730485921, 2820302411, 3259730800, 3345764771, 3516065817, 3600352804, 4094571909, 275423344, 430227734, 506948616, 659060556, 883997877, 958139571, 1322822218, 1537002063, 1747873779, 1955562222, 2024104815, 2227730452, 2361852424, 2428436474, 2756734187, 3204031479, 3329325298])] := by kernel_rfl
  rw [e] at h1
  exact Lib.tabIs_of_head (rest := []) rr_g rr_ty Tryd.underlying97 Tryd.underlying59 cells59 rr_n h1

theorem whole8_of_tab {W : World} {name : String} {g : Nat} (hg : Tryd.prog.globalNamed name = some g) (h : Lib.TabIs Tryd.prog W name .u32 [1779033703, 3144134277, 1013904242, 2773480762, 1359893119, 2600822924, 528734635, 1541459225]) : Whole8 g vInit W := by
  unfold Lib.TabIs at h
  simp only [World.var?, hg, Option.bind_some] at h
  split at h
  · rename_i cs t fr hh
    have : cs = c8 vInit := (Option.some.inj h).trans (by kernel_rfl)
    subst this
    exact ⟨t, fr, hh⟩
  · cases h
theorem k_get (i : Nat) (hi : i < 64) : (.int .u32 ([1116352408, 1899447441, 3049323471, 3921009573, 961987163, 1508970993, 2453635748, 2870763221, 3624381080, 310598401, 607225278, 1426881987, 1925078388, 2162078206, 2614888103, 3248222580, 3835390401, 4022224774, 264347078, 604807628, 770255983, 1249150122, 1555081692, 1996064986, 2554220882, 2821834349, 2952996808, 3210313671, 3336571891, 3584528711, 113926993, 338241895, 666307205, 773529912, 1294757372, 1396182291, 1695183700, 1986661051, 2177026350, 2456956037, 2730485921, 2820302411, 3259730800, 3345764771, 3516065817, 3600352804, 4094571909, 275423344, 430227734, 506948616, 659060556, 883997877, 958139571, 1322822218, 1537002063, 1747873779, 1955562222, 2024104815, 2227730452, 2361852424, 2428436474, 2756734187, 3204031479, 3329325298].getD i 0) : Value) = w32 (kTab.getD i 0) := by
  have h : ∀ n : Fin 64, ([1116352408, 1899447441, 3049323471, 3921009573, 961987163, 1508970993, 2453635748, 2870763221, 3624381080, 310598401, 607225278, 1426881987, 1925078388, 2162078206, 2614888103, 3248222580, 3835390401, 4022224774, 264347078, 604807628, 770255983, 1249150122, 1555081692, 1996064986, 2554220882, 2821834349, 2952996808, 3210313671, 3336571891, 3584528711, 113926993, 338241895, 666307205, 773529912, 1294757372, 1396182291, 1695183700, 1986661051, 2177026350, 2456956037, 2730485921, 2820302411, 3259730800, 3345764771, 3516065817, 3600352804, 4094571909, 275423344, 430227734, 506948616, 659060556, 883997877, 958139571, 1322822218, 1537002063, 1747873779, 1955562222, 2024104815, 2227730452, 2361852424, 2428436474, 2756734187, 3204031479, 3329325298] : List Int).getD n.val 0 = ((kTab.getD n.val 0).toNat : Int) := by decide
  exact congrArg (Value.int .u32) (h ⟨i, hi⟩)
theorem tab32_of_tab {W : World} {name : String} {g : Nat} (hg : Tryd.prog.globalNamed name = some g) (h : Lib.TabIs Tryd.prog W name .u32 [1116352408, 1899447441, 3049323471, 3921009573, 961987163, 1508970993, 2453635748, 2870763221, 3624381080, 310598401, 607225278, 1426881987, 1925078388, 2162078206, 2614888103, 3248222580, 3835390401, 4022224774, 264347078, 604807628, 770255983, 1249150122, 1555081692, 1996064986, 2554220882, 2821834349, 2952996808, 3210313671, 3336571891, 3584528711, 113926993, 338241895, 666307205, 773529912, 1294757372, 1396182291, 1695183700, 1986661051, 2177026350, 2456956037, 2730485921, 2820302411, 3259730800, 3345764771, 3516065817, 3600352804, 4094571909, 275423344, 430227734, 506948616, 659060556, 883997877, 958139571, 1322822218, 1537002063, 1747873779, 1955562222, 2024104815, 2227730452, 2361852424, 2428436474, 2756734187, 3204031479, 3329325298]) : Tab32 g kTab W := by
  intro i hi
  have hi64 : i < 64 := by simpa [kTab] using hi
  rw [← k_get i hi64]
  exact h.cell hg i (by simpa using hi64)
theorem gt_of_laid {W : World} (h : laidMetH Tryd.prog Rows.grantTicketUptoRow.laid W) : GT W := by
  have h17 : 17 < W.heap.size := by
    have := (rw__tab h).cell rw__g 0 (by decide)
    exact World.block_lt_of_cell? W _ this
  exact ⟨fun i hi => (un_tab h).cell un_g i hi, ⟨whole8_of_tab fw_g (fw_tab h), tab32_of_tab rw__g (rw__tab h), h17⟩, ⟨whole8_of_tab rf_g (rf_tab h), tab32_of_tab rr_g (rr_tab h), h17⟩⟩

/-- old memory is as it was: the post -/
theorem post_of_below {H : Type} {enc : TypeId × Value → H} {P : Program} {f : Func} {s : ChangeSpec} {apart fresh handsOn again : Bool} {W W' : World} {args : Array Value} {v : Value} {ds gs : List (DataW H)} {before pa pv : List MemPlace}
    (hW : DataW.Whole enc P f.params.toList s.vars apart W args.toList ds gs before)
    (hres : ∀ (b : Nat) (sp : Nat → Bool) (hd : Bool), DataW.TrodAll enc P W' b sp hd f.resultTypes.toList (v.resultList f.resultTypes.size) (s.fn H (ds ++ gs)).results [])
    (hargs : ∀ sp : Nat → Bool, (∀ p ∈ before, sp p.block = true) → DataW.TrodAll enc P W' 0 sp true f.params.toList args.toList (s.fn H (ds ++ gs)).args pa)
    (hvars : ∀ sp : Nat → Bool, (∀ p ∈ before, sp p.block = true) → DataW.TrodVars enc P W' sp s.vars (s.fn H (ds ++ gs)).vars pv)
    (hps : before = pa ++ pv) (hb : Below W.heap.size W W')
    (hok : ∀ (j : Nat) (t : TypeId) (r : Value), f.resultTypes[j]? = some t → (v.resultList f.resultTypes.size)[j]? = some r → Value.okWide P W' .any 0 t r) :
    s.post enc P f apart fresh handsOn again W args v W' := by
  have hold : ∀ p ∈ before, (fun b => decide (b < W.heap.size)) p.block = true := fun p hp => by simpa using hW.lt p hp
  have hlt : ∀ p ∈ before, p.block < W.heap.size := fun p hp => hW.lt p hp
  refine ⟨ds, gs, before, [], pa, pv, hW, hres _ _ _, hargs _ hold, hvars _ hold, World.keptBut_mono (fun p hp => ⟨hp, ?_⟩) (hb.frame (· ∈ before)), fun _ => ?_⟩
  · rw [hps, List.mem_append] at hp
    exact Or.inr hp
  · obtain ⟨_, _, _, _, _, hz, hn⟩ := hW
    refine ⟨hok, _, _, ([] ++ pa) ++ pv, ⟨[] ++ pa, pv, trodAll_append (hargs _ (fun _ _ => rfl)) (hres _ _ _), hvars _ (fun _ _ => rfl), rfl, ?_, ?_⟩, ?_⟩
    · intro b off hp
      have hp' : MemPlace.cell b off ∈ before := by rw [hps]; simpa using hp
      rw [hb.frozen (show b < W.heap.size from hlt _ hp')]
      exact hz b off hp'
    · intro ha
      have := hn ha
      rw [hps] at this
      simpa using this
    · intro p hp _
      rw [hps]
      simpa using hp

theorem laid_out : laidOutB Tryd.prog = true := by kernel_rfl
set_option maxRecDepth 100000 in
/-- every argument of the bound, in every world that holds the tables: true, and the argument reads as it did -/
theorem contract (H : Type) (enc : TypeId × Value → H) (W : World) (base : Nat) (args : Array Value) (ds gs : List (DataW H)) (before : List MemPlace)
    (hval : ∀ (j : Nat) t v, Tryd.f3.params[j]? = some t → args[j]? = some v → Value.okWide Tryd.prog W .any base t v)
    (hW : DataW.Whole enc Tryd.prog Tryd.f3.params.toList Rows.grantTicketSpec.vars false W args.toList ds gs before) (hk : Rows.uptoSmall H (ds ++ gs) = true) (hL : laidMetH Tryd.prog Rows.grantTicketUptoRow.laid W) :
    Calls Tryd.prog 3 args W fun e W' => ∃ v, e = .returned v ∧ Rows.grantTicketSpec.post enc Tryd.prog Tryd.f3 false true false false W args v W' := by
  have hW' := hW
  obtain ⟨p, q, hA0, hV, rfl, hfz, hnd⟩ := hW
  have hA : DataW.TrodAll enc Tryd.prog W 0 (fun _ => true) true Tryd.f3.params.toList args.toList ds p := hA0
  rw [Tryd.params3] at hA hval
  obtain ⟨v0, vs0, d0, ds0, p0, q0, hargs, rfl, rfl, h0, r0⟩ := trodAll_cons hA
  obtain ⟨rfl, rfl, rfl⟩ := trodAll_nil r0
  obtain rfl : args = #[v0] := by cases args; simp_all
  obtain ⟨rfl, rfl⟩ := trodVars_none hV
  obtain ⟨sid, A, c, l, rfl, hc, hr, hbulk⟩ := open_signed (hval 0 24 v0 rfl rfl) h0
  have hB := bulks.bound hk
  have hB1 : sid.size + tot l ≤ 1048576 := by
    have h1 : Rows.uptoBulk d0 ≤ Rows.uptoBulkAll ([d0] ++ []) := bulks.part_le (by simp)
    exact Nat.le_trans hbulk (Nat.le_trans h1 hB)
  have hl := tot_len l
  have walk := law_c sid A c l W hr hc (gt_of_laid hL) (by omega) (by have := form_le l; omega) (by have := form_le (l.map addX); rw [tot_addX] at this; omega) (by omega) (fun i h => by have := tot_get l i h; omega)
  clear hA0
  simp only [List.append_nil] at hW'
  refine walk.mono fun e W' ⟨he, hb⟩ => ?_
  subst he
  have hlt : ∀ x ∈ p0, x.block < W.heap.size := fun x hx => hW'.lt x hx
  exact ⟨_, rfl, post_of_below (pa := p0) (pv := []) hW' (fun _ _ _ => trodAll_cons_mk (shut_bool Tryd.underlying4 _) trodAll_mk0)
    (fun sp hsp => trodAll_mk1 (WideElems.Trod_stays laid_out (by kernel_rfl) (of_decide_eq_true (by kernel_rfl)) h0 (fun x hx => hb.same (hlt x hx)) (fun x hx => hsp x hx))) (fun _ _ => rfl) (by simp)
    hb (ok_one (by kernel_rfl) rfl (okWide_bool_mk Tryd.underlying4 _))⟩
end Go.Proofs.YtegeijlookpgaaaDoor
