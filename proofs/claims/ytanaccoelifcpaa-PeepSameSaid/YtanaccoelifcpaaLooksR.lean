/- shuntref6.Kids. -/
import Derived.Test.YtanaccoelifcpaaNamesR
namespace Go.Proofs.Ytanaccoelifcpaa
open Go.RowKit

end Go.Proofs.Ytanaccoelifcpaa
