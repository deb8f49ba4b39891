/- ZipfmtSpoils: an archive that is cut short or has a byte more is refused. Conditions: names that Go can hold. -/
import Derived.Test.YthehocmfpoglgaaJebboal
namespace Go.Proofs.Ythehocmfpoglgaa
open Go.RowKit
set_option maxRecDepth 100000
end Go.Proofs.Ythehocmfpoglgaa
