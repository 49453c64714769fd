/-
  Contracts of the functions over lists of bools: copies, comparisons, valid coverages.
-/
import Derived.Test.YtbnfnloaomjjbaaInts
namespace Go.Proofs.Ytbnfnloaomjjbaa
open Go.RowKit

theorem info_bool : (Try.prog.info? 4).map (fun i => (i.zero, i.size, i.bytes)) = some (some (.bool false), 1, 1) := by kernel_rfl

end Go.Proofs.Ytbnfnloaomjjbaa
