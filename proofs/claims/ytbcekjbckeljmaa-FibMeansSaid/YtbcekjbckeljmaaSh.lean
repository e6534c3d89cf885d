/- The library's contracts under my names. -/
import Derived.Test.YtbcekjbckeljmaaShelf
import Derived.Below
namespace Go.Proofs.Ytbcekjbckeljmaa
theorem lz_any (x : Int) (w : World) (h0 : 0 ≤ x) (h1 : x ≤ 4294967295) : Calls Try.prog 67 #[.int .u32 x] w fun e w' => e = .returned (.int .i64 (32 - (Lib.bitLen x.toNat : Int))) ∧ w' = w := Try.bits_LeadingZeros32 x w h0 h1
end Go.Proofs.Ytbcekjbckeljmaa
