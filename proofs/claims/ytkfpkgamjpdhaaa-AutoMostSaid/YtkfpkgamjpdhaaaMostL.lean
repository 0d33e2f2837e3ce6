/- AutoMost's walk, its letters in the row's order. Conditions: those that the contract names. -/
import Derived.Test.YtkfpkgamjpdhaaaMost
namespace Go.Proofs.Ytkfpkgamjpdhaaa.Au
open Go.RowKit
theorem most_row (n0 : Int) (E : Option Addr) (en ec : Nat) (es : List Int) (F : Option Addr) (fn fc : Nat) (fs : List Int) (c0 : Int) (w : World) (hE : IsInts w E en es) (hen : en ≤ 9223372036854775807) (hF : IsInts w F fn fs) (hfn : fn ≤ 9223372036854775807) :
    Calls Try.prog 5 #[.int .i64 n0, .slice E en ec, .slice F fn fc, .int .i64 c0] w fun e w' => e = .returned (.bool true) ∧ Below w.heap.size w w' :=
  most_law n0 E en ec F fn fc c0 es fs w hE hF hen hfn
end Go.Proofs.Ytkfpkgamjpdhaaa.Au
