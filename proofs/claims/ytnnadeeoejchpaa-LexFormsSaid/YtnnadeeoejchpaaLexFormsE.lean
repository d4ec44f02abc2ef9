/- 'LexForms', evaluated by the kernel. -/
import Derived.Test.YtnnadeeoejchpaaLexFormsK
import Derived.KernelRfl
set_option linter.all false
namespace Go.Lm.LexForms
theorem done : evCall prgK 200 (vFn 16 []) [] ⟨.nl, 0⟩ (fun v _ => chk (Nat.beq v.t 1) (some (vT, ⟨.nl, 0⟩))) = some (vT, ⟨.nl, 0⟩) := by kernel_rfl
end Go.Lm.LexForms
