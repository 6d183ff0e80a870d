import Derived.Test.YtgelhndjdngdnaaAirLaw1
namespace Go.Proofs.Ytgelhndjdngdnaa
open Go.RowKit
theorem matches_fin (c m s t h n l : Int) (w : World) (_h0 : (Lit.int .i64 c).wf = true) (_h1 : (Lit.int .i64 m).wf = true) (_h2 : (Lit.int .i64 s).wf = true) (_h3 : (Lit.int .i64 t).wf = true) (_h4 : (Lit.int .i64 h).wf = true) (_h5 : (Lit.int .i64 n).wf = true) (_h6 : (Lit.int .i64 l).wf = true) :
    Calls Try.prog 3 #[.int .i64 c, .int .i64 m, .int .i64 s, .int .i64 t, .int .i64 h, .int .i64 n, .int .i64 l] w fun e w' => e = .returned (.bool true) ∧ Below w.heap.size w w' :=
  matches_walk c m s t h n l w
theorem falls_fin (a b : Int) (w : World) (_h0 : (Lit.int .i64 a).wf = true) (_h1 : (Lit.int .i64 b).wf = true) :
    Calls Try.prog 7 #[.int .i64 a, .int .i64 b] w fun e w' => e = .returned (.bool true) ∧ Below w.heap.size w w' :=
  falls_walk a b w
end Go.Proofs.Ytgelhndjdngdnaa
