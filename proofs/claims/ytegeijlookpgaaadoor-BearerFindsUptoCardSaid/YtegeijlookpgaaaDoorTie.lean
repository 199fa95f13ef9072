/-
  DERIVED. GIVEN WITH THE SEED: THE PROGRAM's TIES (one call each: nine closed facts by the kernel) AND EACH ROW's TIE, after the 31st guide's Derived/Test/Toyas{Tie, Card}.lean. No idea stands in it: it is a product of the set-up. Laid BY PROGRAM, IN A SANDBOX (cutbox-door.mjs). By AI agents, Wed Nov 11 2026. No macro, syntax, notation, axiom, sorry.
-/
import Derived.Test.YtegeijlookpgaaaDoorRows
import Derived.LaidByTextLater
import Derived.SevenTiedAt
import Derived.LaidSub
import Derived.LaidOnce
namespace Go.Proofs.YtegeijlookpgaaaDoor
open Go
set_option maxRecDepth 100000
theorem seatTie1 : Tryd.prog.laidByTextLater [("usher/pct.unreserved", Rows.laid_usher_pct_unreserved), ("usher/sums.firstWords", Rows.laid_usher_sums_firstWords), ("usher/sums.roundWords", Rows.laid_usher_sums_roundWords), ("usher/usherref1.first", Rows.laid_usher_usherref1_first), ("usher/usherref1.round", Rows.laid_usher_usherref1_round)] [.data, .data, .data, .data, .data] true :=
  Program.laidByTextLater_by_one 296 8 257 (by kernel_rfl) (by kernel_rfl) (by kernel_rfl) (by kernel_rfl) (by kernel_rfl) (by kernel_rfl) (fun _ _ => by kernel_rfl)
theorem seatTie2 : Tryd.prog.laidByTextLater [("unicode/utf8.acceptRanges", Rows.laid_unicode_utf8_acceptRanges), ("usher/api.ErrArg", Rows.laid_usher_api_ErrArg), ("usher/api.ErrText", Rows.laid_usher_api_ErrText), ("usher/api.ErrMany", Rows.laid_usher_api_ErrMany), ("usher/api.ErrTwice", Rows.laid_usher_api_ErrTwice), ("usher/api.ErrScheme", Rows.laid_usher_api_ErrScheme), ("usher/api.ErrShort", Rows.laid_usher_api_ErrShort), ("usher/api.ErrDry", Rows.laid_usher_api_ErrDry), ("usher/api.ErrTaken", Rows.laid_usher_api_ErrTaken), ("usher/api.ErrFull", Rows.laid_usher_api_ErrFull), ("usher/api.ErrDead", Rows.laid_usher_api_ErrDead), ("usher/api.ErrLog", Rows.laid_usher_api_ErrLog), ("usher/api.ErrLost", Rows.laid_usher_api_ErrLost), ("usher/api.ErrDenied", Rows.laid_usher_api_ErrDenied), ("usher/field.kinds", Rows.laid_usher_field_kinds)] [.data, .sentinel, .sentinel, .sentinel, .sentinel, .sentinel, .sentinel, .sentinel, .sentinel, .sentinel, .sentinel, .sentinel, .sentinel, .sentinel, .data] true :=
  Program.laidByTextLater_by_one 296 8 257 (by kernel_rfl) (by kernel_rfl) (by kernel_rfl) (by kernel_rfl) (by kernel_rfl) (by kernel_rfl) (fun _ _ => by kernel_rfl)
theorem pin_laid_unicode_utf8_first : Tryd.pinned.checked.prog.pinnedFits "unicode/utf8.first" = true := by kernel_rfl
theorem noOwnUnsafe : Tryd.pinned.checked.prog.headLifts.contains "ownunsafe" = false := by kernel_rfl
theorem tie : Tryd.prog.laidByTextLater [("usher/pct.unreserved", Rows.laid_usher_pct_unreserved), ("usher/sums.firstWords", Rows.laid_usher_sums_firstWords), ("usher/sums.roundWords", Rows.laid_usher_sums_roundWords), ("usher/usherref1.first", Rows.laid_usher_usherref1_first), ("usher/usherref1.round", Rows.laid_usher_usherref1_round)] [.data, .data, .data, .data, .data] true :=
  Program.laidByTextLater.sub seatTie1 ["usher/pct.unreserved", "usher/sums.firstWords", "usher/sums.roundWords", "usher/usherref1.first", "usher/usherref1.round"] (by kernel_rfl) (by kernel_rfl)
theorem grantTicket_row_tie : Rows.grantTicketRow.laidByTextAt .later Tryd.pinned [.data, .data, .data, .data, .data] true :=
  OpenClaim.laidByTextAt_later rfl rfl tie noOwnUnsafe
theorem fits2 : Tryd.pinned.checked.prog.listedFits [("unicode/utf8.acceptRanges", Rows.laid_unicode_utf8_acceptRanges), ("usher/api.ErrArg", Rows.laid_usher_api_ErrArg), ("usher/api.ErrText", Rows.laid_usher_api_ErrText), ("usher/api.ErrMany", Rows.laid_usher_api_ErrMany), ("usher/api.ErrTwice", Rows.laid_usher_api_ErrTwice), ("usher/api.ErrScheme", Rows.laid_usher_api_ErrScheme), ("usher/api.ErrShort", Rows.laid_usher_api_ErrShort), ("usher/api.ErrDry", Rows.laid_usher_api_ErrDry), ("usher/api.ErrTaken", Rows.laid_usher_api_ErrTaken), ("usher/api.ErrFull", Rows.laid_usher_api_ErrFull), ("usher/api.ErrDead", Rows.laid_usher_api_ErrDead), ("usher/api.ErrLog", Rows.laid_usher_api_ErrLog), ("usher/api.ErrLost", Rows.laid_usher_api_ErrLost), ("usher/api.ErrDenied", Rows.laid_usher_api_ErrDenied), ("usher/field.kinds", Rows.laid_usher_field_kinds), ("unicode/utf8.first", Rows.laid_unicode_utf8_first)] = true := by
  unfold Program.listedFits
  rw [noOwnUnsafe]
  kernel_rfl
theorem tie2 : Tryd.prog.laidByTextLater [("unicode/utf8.acceptRanges", Rows.laid_unicode_utf8_acceptRanges), ("usher/api.ErrArg", Rows.laid_usher_api_ErrArg), ("usher/api.ErrText", Rows.laid_usher_api_ErrText), ("usher/api.ErrMany", Rows.laid_usher_api_ErrMany), ("usher/api.ErrTwice", Rows.laid_usher_api_ErrTwice), ("usher/api.ErrScheme", Rows.laid_usher_api_ErrScheme), ("usher/api.ErrShort", Rows.laid_usher_api_ErrShort), ("usher/api.ErrDry", Rows.laid_usher_api_ErrDry), ("usher/api.ErrTaken", Rows.laid_usher_api_ErrTaken), ("usher/api.ErrFull", Rows.laid_usher_api_ErrFull), ("usher/api.ErrDead", Rows.laid_usher_api_ErrDead), ("usher/api.ErrLog", Rows.laid_usher_api_ErrLog), ("usher/api.ErrLost", Rows.laid_usher_api_ErrLost), ("usher/api.ErrDenied", Rows.laid_usher_api_ErrDenied), ("usher/field.kinds", Rows.laid_usher_field_kinds)] [.data, .sentinel, .sentinel, .sentinel, .sentinel, .sentinel, .sentinel, .sentinel, .sentinel, .sentinel, .sentinel, .sentinel, .sentinel, .sentinel, .data] true :=
  Program.laidByTextLater.sub seatTie2 ["unicode/utf8.acceptRanges", "usher/api.ErrArg", "usher/api.ErrText", "usher/api.ErrMany", "usher/api.ErrTwice", "usher/api.ErrScheme", "usher/api.ErrShort", "usher/api.ErrDry", "usher/api.ErrTaken", "usher/api.ErrFull", "usher/api.ErrDead", "usher/api.ErrLog", "usher/api.ErrLost", "usher/api.ErrDenied", "usher/field.kinds"] (by kernel_rfl) (by kernel_rfl)
theorem bearerFinds_row_tie : Rows.bearerFindsRow.laidByTextAt .later Tryd.pinned [.data, .sentinel, .sentinel, .sentinel, .sentinel, .sentinel, .sentinel, .sentinel, .sentinel, .sentinel, .sentinel, .sentinel, .sentinel, .sentinel, .data, .pinned] true :=
  OpenClaim.laidByTextAt_pinned rfl rfl tie2 rfl rfl rfl rfl (fun y hy _e => by
    simp only [Rows.bearerFindsRow, List.zip_cons_cons, List.zip_nil_right, List.mem_cons, List.mem_nil_iff, or_false] at hy
    rcases hy with rfl | rfl | rfl | rfl | rfl | rfl | rfl | rfl | rfl | rfl | rfl | rfl | rfl | rfl | rfl | rfl
    · cases _e
    · cases _e
    · cases _e
    · cases _e
    · cases _e
    · cases _e
    · cases _e
    · cases _e
    · cases _e
    · cases _e
    · cases _e
    · cases _e
    · cases _e
    · cases _e
    · cases _e
    · exact ⟨pin_laid_unicode_utf8_first, by kernel_rfl⟩) fits2
theorem grantTicketUpto_row_tie : Rows.grantTicketUptoRow.laidByTextAt .later Tryd.pinned [.data, .data, .data, .data, .data] true :=
  OpenClaim.laidByTextAt_later rfl rfl tie noOwnUnsafe
theorem bearerFindsUpto_row_tie : Rows.bearerFindsUptoRow.laidByTextAt .later Tryd.pinned [.data, .sentinel, .sentinel, .sentinel, .sentinel, .sentinel, .sentinel, .sentinel, .sentinel, .sentinel, .sentinel, .sentinel, .sentinel, .sentinel, .data, .pinned] true :=
  OpenClaim.laidByTextAt_pinned rfl rfl tie2 rfl rfl rfl rfl (fun y hy _e => by
    simp only [Rows.bearerFindsUptoRow, List.zip_cons_cons, List.zip_nil_right, List.mem_cons, List.mem_nil_iff, or_false] at hy
    rcases hy with rfl | rfl | rfl | rfl | rfl | rfl | rfl | rfl | rfl | rfl | rfl | rfl | rfl | rfl | rfl | rfl
    · cases _e
    · cases _e
    · cases _e
    · cases _e
    · cases _e
    · cases _e
    · cases _e
    · cases _e
    · cases _e
    · cases _e
    · cases _e
    · cases _e
    · cases _e
    · cases _e
    · cases _e
    · exact ⟨pin_laid_unicode_utf8_first, by kernel_rfl⟩) fits2
end Go.Proofs.YtegeijlookpgaaaDoor
