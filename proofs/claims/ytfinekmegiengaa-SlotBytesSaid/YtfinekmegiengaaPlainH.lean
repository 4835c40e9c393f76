/- Plain laws of layer 7: the key and the block of noughts. -/
import Derived.Test.YtfinekmegiengaaPlnB
namespace Nep
def zeroE : List Nat := encF (flatL (List.replicate 32 0)) (List.replicate 16 0) 14
theorem zeroE_first : zeroE.getD 0 0 = 220 ∧ zeroE.getD 15 0 = 135 := by decide +kernel
end Nep
