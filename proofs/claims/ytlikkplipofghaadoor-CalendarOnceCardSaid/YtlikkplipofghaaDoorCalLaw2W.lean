import Derived.Test.YtlikkplipofghaaDoorCalLaw2
namespace Go.Proofs.YtlikkplipofghaaDoor
open Go.RowKit
theorem once_fin (n m a : Int) (w : World) (_h0 : (Lit.int .i64 n).wf = true) (_h1 : (Lit.int .i64 m).wf = true) (_h2 : (Lit.int .i64 a).wf = true) (hL : Lay w) :
    Calls Tryd.prog 6 #[.int .i64 n, .int .i64 m, .int .i64 a] w fun e w' => e = .returned (.bool true) ∧ Below w.heap.size w w' :=
  once_walk n m a w hL
end Go.Proofs.YtlikkplipofghaaDoor
