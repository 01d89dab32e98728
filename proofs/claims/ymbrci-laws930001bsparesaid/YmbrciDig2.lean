/-
  zzs930001bdigit at a place that is reckoned.
-/
import Derived.Test.YmbrciDig
namespace Go.Proofs.Ymbrci
open Go.RowKit
theorem bdigit_at (x : Int) (i n : Nat) (I : Int) (w : World) (hI : (i : Int) = I) (h0 : 0 ≤ x) (h1 : x ≤ 18446744073709551615) (hn : (E x).length = n) (hi : i < n) :
    Calls Ycim.prog 21 #[.int .u64 x, .int .i64 I, .int .i64 (n : Int)] w fun e w' => e = .returned (.int .u8 (el (E x) i)) ∧ w' = w := by
  subst hI
  exact bdigit_any x i n w h0 h1 hn hi
end Go.Proofs.Ymbrci
