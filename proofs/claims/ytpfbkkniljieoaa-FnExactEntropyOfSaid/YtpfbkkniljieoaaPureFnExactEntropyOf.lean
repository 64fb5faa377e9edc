/- What the program's law FnExactEntropyOf computes is true, for every list: of the conditions only the list's length is looked at. -/
import Derived.Test.YtpfbkkniljieoaaEnt
namespace Go.Proofs.Ytpfbkkniljieoaa.Pure
open Go.Proofs.Ytpfbkkniljieoaa.PFnExactEntropyOf
theorem FnExactEntropyOf : laws_FnExactEntropyOf.Pure := entropyOf_true
end Go.Proofs.Ytpfbkkniljieoaa.Pure
