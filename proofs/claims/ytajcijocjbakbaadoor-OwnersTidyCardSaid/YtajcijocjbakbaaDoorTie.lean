/-
  DERIVED. GIVEN WITH THE SEED: THE PROGRAM's TIES (one call each: nine closed facts by the kernel) AND EACH ROW's TIE, after the 31st guide's Derived/Test/Toyas{Tie, Card}.lean. No idea stands in it: it is a product of the set-up. Laid BY PROGRAM, IN A SANDBOX (cutbox-door.mjs). By AI agents, Wed Nov 11 2026. No macro, syntax, notation, axiom, sorry.
-/
import Derived.Test.YtajcijocjbakbaaDoorRows
import Derived.LaidByTextLater
import Derived.SevenTiedAt
import Derived.LaidSub
import Derived.LaidOnce
namespace Go.Proofs.YtajcijocjbakbaaDoor
open Go
set_option maxRecDepth 100000
theorem seatTie1 : Tryd.prog.laidByTextLater [("layby/programs.uses", Rows.laid_layby_programs_uses), ("layby/owners.asks", Rows.laid_layby_owners_asks)] [.data, .data] true :=
  Program.laidByTextLater_by_one 76 8 183 (by kernel_rfl) (by kernel_rfl) (by kernel_rfl) (by kernel_rfl) (by kernel_rfl) (by kernel_rfl) (fun _ _ => by kernel_rfl)
theorem seatTie2 : Tryd.prog.laidByTextLater [("layby/programs.uses", Rows.laid_layby_programs_uses), ("layby/programs.gives", Rows.laid_layby_programs_gives), ("layby/owners.asks", Rows.laid_layby_owners_asks)] [.data, .data, .data] true :=
  Program.laidByTextLater_by_one 76 8 183 (by kernel_rfl) (by kernel_rfl) (by kernel_rfl) (by kernel_rfl) (by kernel_rfl) (by kernel_rfl) (fun _ _ => by kernel_rfl)
theorem noOwnUnsafe : Tryd.pinned.checked.prog.headLifts.contains "ownunsafe" = false := by kernel_rfl
theorem tie : Tryd.prog.laidByTextLater [("layby/programs.uses", Rows.laid_layby_programs_uses), ("layby/owners.asks", Rows.laid_layby_owners_asks)] [.data, .data] true :=
  Program.laidByTextLater.sub seatTie1 ["layby/programs.uses", "layby/owners.asks"] (by kernel_rfl) (by kernel_rfl)
theorem ownersOnce_row_tie : Rows.ownersOnceRow.laidByTextAt .later Tryd.pinned [.data, .data] true :=
  OpenClaim.laidByTextAt_later rfl rfl tie noOwnUnsafe
theorem tie2 : Tryd.prog.laidByTextLater [("layby/programs.uses", Rows.laid_layby_programs_uses), ("layby/programs.gives", Rows.laid_layby_programs_gives), ("layby/owners.asks", Rows.laid_layby_owners_asks)] [.data, .data, .data] true :=
  Program.laidByTextLater.sub seatTie2 ["layby/programs.uses", "layby/programs.gives", "layby/owners.asks"] (by kernel_rfl) (by kernel_rfl)
theorem ownersTidy_row_tie : Rows.ownersTidyRow.laidByTextAt .later Tryd.pinned [.data, .data, .data] true :=
  OpenClaim.laidByTextAt_later rfl rfl tie2 noOwnUnsafe
theorem ownersOnceUpto_row_tie : Rows.ownersOnceUptoRow.laidByTextAt .later Tryd.pinned [.data, .data] true :=
  OpenClaim.laidByTextAt_later rfl rfl tie noOwnUnsafe
theorem ownersTidyUpto_row_tie : Rows.ownersTidyUptoRow.laidByTextAt .later Tryd.pinned [.data, .data, .data] true :=
  OpenClaim.laidByTextAt_later rfl rfl tie2 noOwnUnsafe
end Go.Proofs.YtajcijocjbakbaaDoor
