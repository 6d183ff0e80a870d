import Derived.Test.YtlikkplipofghaaDoorCalLaw1
namespace Go.Proofs.YtlikkplipofghaaDoor
open Go.RowKit
theorem turns_fin (m : Int) (w : World) (_h0 : (Lit.int .i64 m).wf = true) (hL : Lay w) :
    Calls Tryd.prog 5 #[.int .i64 m] w fun e w' => e = .returned (.bool true) ∧ Below w.heap.size w w' :=
  turns_walk m w hL
end Go.Proofs.YtlikkplipofghaaDoor
