/- unit: the statement UnitErrors, as the frame takes it -/
import Derived.Test.YtmfoincmjpogmaaDoorUnitLaw1
import Derived.Test.YtmfoincmjpogmaaDoorUnitOpen
namespace Go.Proofs.YtmfoincmjpogmaaDoor
open Go.RowKit
theorem errors_fin (a b : U) (w : World) (_h0 : UnitWf a) (_h1 : UnitWf b) (hL : LayU w) :
    Calls Tryd.prog 7 #[uV a, uV b] w fun e w' => e = .returned (.bool true) ∧ Below w.heap.size w w' := errors_walk a b w hL
end Go.Proofs.YtmfoincmjpogmaaDoor
