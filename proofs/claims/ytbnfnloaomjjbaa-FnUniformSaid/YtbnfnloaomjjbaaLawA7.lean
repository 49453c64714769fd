/-
  The laws on transforms of beams of drawn weights and coverages; uniform weights.
-/
import Derived.Test.YtbnfnloaomjjbaaLawA6
namespace Go.Proofs.Ytbnfnloaomjjbaa
open Go.RowKit

end Go.Proofs.Ytbnfnloaomjjbaa
