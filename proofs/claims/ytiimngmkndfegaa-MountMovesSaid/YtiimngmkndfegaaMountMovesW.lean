import Derived.Test.YtiimngmkndfegaaMountLaw
import Derived.Test.YtiimngmkndfegaaLib2
namespace Go.Proofs.Ytiimngmkndfegaa
open Go.RowKit
theorem moves_fin (raw c o : Int) (w : World) (h0 : (Lit.int .u8 raw).wf = true) (h1 : (Lit.int .u8 c).wf = true) (_h2 : (Lit.int .u8 o).wf = true) :
    Calls Try.prog 4 #[.int .u8 raw, .int .u8 c, .int .u8 o] w fun e w' => e = .returned (.bool true) ∧ Below w.heap.size w w' :=
  moves_walk raw c o w (u8_bd h0).1 (u8_bd h0).2 (u8_bd h1).1 (u8_bd h1).2
end Go.Proofs.Ytiimngmkndfegaa
