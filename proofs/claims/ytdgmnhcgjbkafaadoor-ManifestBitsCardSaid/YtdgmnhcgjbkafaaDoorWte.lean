/- Water marks: read (the document's). -/
import Derived.Test.YtdgmnhcgjbkafaaDoorWtd
namespace Go.Proofs.YtdgmnhcgjbkafaaDoor
open Go.RowKit Go.Sort Go.Lib

end Go.Proofs.YtdgmnhcgjbkafaaDoor
