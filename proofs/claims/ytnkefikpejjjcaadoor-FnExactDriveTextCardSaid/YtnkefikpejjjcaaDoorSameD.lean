/-
  The contracts of the reference that compare desks. Own work.
-/
import Derived.Test.YtnkefikpejjjcaaDoorEnv
import Derived.Test.YtnkefikpejjjcaaDoorEnXz
import Derived.Test.YtnkefikpejjjcaaDoorSameC
set_option linter.unusedVariables false
set_option linter.unusedSimpArgs false
set_option maxRecDepth 100000
namespace Go.En
open Go.Proofs
theorem ieqF {a b : Int} (h : std.ine a b = true) : std.ieq a b = false := by
  have h : (a != b) = true := h
  show (a == b) = false
  simpa using h
theorem ieqT {a b : Int} (h : std.ine a b = false) : std.ieq a b = true := by
  have h : (a != b) = false := h
  show (a == b) = true
  simpa using h
end Go.En
