import Derived.Test.YtgelhndjdngdnaaAirLaw6
namespace Go.Proofs.Ytgelhndjdngdnaa
open Go.RowKit
theorem wins_fin (s t n o u : Int) (w : World) (_h0 : (Lit.int .i64 s).wf = true) (_h1 : (Lit.int .i64 t).wf = true) (_h2 : (Lit.int .i64 n).wf = true) (_h3 : (Lit.int .i64 o).wf = true) (_h4 : (Lit.int .i64 u).wf = true) :
    Calls Try.prog 8 #[.int .i64 s, .int .i64 t, .int .i64 n, .int .i64 o, .int .i64 u] w fun e w' => e = .returned (.bool true) ∧ Below w.heap.size w w' :=
  wins_walk s t n o u w
end Go.Proofs.Ytgelhndjdngdnaa
