/-
  Contracts of the functions that mark a list (write into it) and look whether the marks are held.
-/
import Derived.Test.YtpabcpiiolfakaaBools
namespace Go.Proofs.Ytpabcpiiolfakaa
open Go.RowKit

end Go.Proofs.Ytpabcpiiolfakaa
