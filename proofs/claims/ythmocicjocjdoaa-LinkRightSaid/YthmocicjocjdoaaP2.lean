/- Printed by the evaluator. -/
import Derived.Test.YthmocicjocjdoaaP1
namespace Go.Proofs.Ythmocicjocjdoaa.V
open Go
open AV (int lst agg str bool ref clo)
open List (map)
set_option linter.unusedVariables false
set_option linter.unusedSimpArgs false
abbrev actL (l : List (Int × Int × List UInt8)) : List AV := l.map fun a => actV a.1 a.2.1 a.2.2


end Go.Proofs.Ythmocicjocjdoaa.V
