/- What B of wire's Enc answers. -/
import Derived.Test.YtafdnalanmbcpaaWire3
set_option linter.unusedSimpArgs false
set_option linter.unusedVariables false
namespace Go.Proofs.Ytafdnalanmbcpaa
open Go.RowKit
set_option maxHeartbeats 1000000

end Go.Proofs.Ytafdnalanmbcpaa
