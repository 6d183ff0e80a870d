import Derived.Test.YtgelhndjdngdnaaAirLaw3
namespace Go.Proofs.Ytgelhndjdngdnaa
open Go.RowKit
theorem heights_fin (s o t m n : Int) (w : World) (_h0 : (Lit.int .i64 s).wf = true) (_h1 : (Lit.int .i64 o).wf = true) (_h2 : (Lit.int .i64 t).wf = true) (_h3 : (Lit.int .i64 m).wf = true) (_h4 : (Lit.int .i64 n).wf = true) :
    Calls Try.prog 5 #[.int .i64 s, .int .i64 o, .int .i64 t, .int .i64 m, .int .i64 n] w fun e w' => e = .returned (.bool true) ∧ Below w.heap.size w w' :=
  heights_walk s o t m n w
theorem transits_fin (s t n : Int) (w : World) (_h0 : (Lit.int .i64 s).wf = true) (_h1 : (Lit.int .i64 t).wf = true) (_h2 : (Lit.int .i64 n).wf = true) :
    Calls Try.prog 9 #[.int .i64 s, .int .i64 t, .int .i64 n] w fun e w' => e = .returned (.bool true) ∧ Below w.heap.size w w' :=
  transits_walk s t n w
end Go.Proofs.Ytgelhndjdngdnaa
