import Derived.Test.YtajcijocjbakbaaRhC
import Derived.Test.YtajcijocjbakbaaRhJ
namespace Go.Proofs.Ytajcijocjbakbaa
open Go.RowKit

theorem info93 : (Try.prog.info? 93).map (fun i => (i.zero, i.size, i.bytes)) = some (some (.slice none 0 0), 1, 24) := by kernel_rfl
theorem hds_snoc (hs : List Hd) (h : Hd) : hds (hs ++ [h]) = hds hs ++ [h.V] := by simp [hds]
end Go.Proofs.Ytajcijocjbakbaa
