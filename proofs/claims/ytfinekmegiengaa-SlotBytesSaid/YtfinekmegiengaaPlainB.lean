/- What the definition of layer 6 puts for each byte is what the table says: 256 cases, reckoned by the kernel. -/
import Derived.Test.YtfinekmegiengaaPlainA
namespace Nep
theorem rsub_eq : ∀ a, a < 256 → rsub a = sb a := by decide +kernel
#print axioms rsub_eq
end Nep
