/- identifiers, plain -/
import Derived.Test.YtbkheiilcfhfpaaDoorLexPure
namespace Go.Proofs.YtbkheiilcfhfpaaDoor

def wordsB (l : List UInt8) : Bool := l.all (fun b => [3, 4, 5].contains (cls b))
def nameB (l : List UInt8) : Bool := wordsB l && decide (0 < l.length ∧ l.length ≤ 24) && decide (atC l 0 = 3)
end Go.Proofs.YtbkheiilcfhfpaaDoor
