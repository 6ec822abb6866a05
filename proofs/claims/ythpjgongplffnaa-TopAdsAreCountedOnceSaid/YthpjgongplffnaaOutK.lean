/- kit.Out and the reference's within. -/
import Derived.Test.YthpjgongplffnaaLib
namespace Go.Proofs.Ythpjgongplffnaa
open Go.RowKit

end Go.Proofs.Ythpjgongplffnaa
