-- Written by a turned copy of the kit's printer (wip/pf).
import Derived.Test.YtpngjpiodhpbnaaWInv
import Derived.Test.YtpngjpiodhpbnaaWFootNe
namespace Go.Proofs.YtpngjpiodhpbnaaW.PrintWords
open Go.RowKit
end Go.Proofs.YtpngjpiodhpbnaaW.PrintWords
namespace Go.Proofs.YtpngjpiodhpbnaaW.PrintLast
section
variable {ops : Array Oper} {a : Act} {o og : Oper} {g : Nat} {t : Tmp} {u : Bool}
end
end Go.Proofs.YtpngjpiodhpbnaaW.PrintLast
