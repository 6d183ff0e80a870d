import Derived.Test.YtgelhndjdngdnaaAirLaw2
namespace Go.Proofs.Ytgelhndjdngdnaa
open Go.RowKit
theorem hours_fin (c m : Int) (w : World) (_h0 : (Lit.int .i64 c).wf = true) (_h1 : (Lit.int .i64 m).wf = true) :
    Calls Try.prog 4 #[.int .i64 c, .int .i64 m] w fun e w' => e = .returned (.bool true) ∧ Below w.heap.size w w' :=
  hours_walk c m w
theorem angles_fin (s t m n : Int) (w : World) (_h0 : (Lit.int .i64 s).wf = true) (_h1 : (Lit.int .i64 t).wf = true) (_h2 : (Lit.int .i64 m).wf = true) (_h3 : (Lit.int .i64 n).wf = true) :
    Calls Try.prog 6 #[.int .i64 s, .int .i64 t, .int .i64 m, .int .i64 n] w fun e w' => e = .returned (.bool true) ∧ Below w.heap.size w w' :=
  angles_walk s t m n w
end Go.Proofs.Ytgelhndjdngdnaa
