import Derived.Test.YtminnekeekhjcaaWkDo1
namespace Go.Proofs.Ytminnekeekhjcaa
open Go.Sx Go.Sy
set_option maxRecDepth 100000
theorem FnExactDefaultOps_plain : laws_FnExactDefaultOps.f 600 = some true := by decide +kernel
end Go.Proofs.Ytminnekeekhjcaa
