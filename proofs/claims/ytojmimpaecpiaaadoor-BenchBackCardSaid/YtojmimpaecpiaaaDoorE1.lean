/- awake's four lines. -/
import Derived.Test.YtojmimpaecpiaaaDoorD2
import Derived.KernelRfl
namespace Go.Proofs.YtojmimpaecpiaaaDoor
open Go.RowKit
theorem cut_line : parseF { data := #[99, 117, 116, 32, 48, 32, 49] } = .ok ⟨7, 0, 0, 1, true, 0, 0, [], []⟩ := by kernel_rfl
theorem join_line : parseF { data := #[106, 111, 105, 110, 32, 48, 32, 49] } = .ok ⟨7, 0, 0, 1, false, 0, 0, [], []⟩ := by kernel_rfl
theorem tick_line : parseF { data := #[116, 105, 99, 107] } = .error 2 := by kernel_rfl
theorem x_line : parseF { data := #[120] } = .error 6 := by kernel_rfl
end Go.Proofs.YtojmimpaecpiaaaDoor
