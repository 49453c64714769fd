/-
  Contracts of the functions that mark a list (write into it) and look whether the marks are held.
-/
import Derived.Test.YtbnfnloaomjjbaaBools
namespace Go.Proofs.Ytbnfnloaomjjbaa
open Go.RowKit

end Go.Proofs.Ytbnfnloaomjjbaa
