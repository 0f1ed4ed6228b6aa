/- The chapter's instance, reckoned. -/
import Derived.Test.YtinkieogcpidkaaDoorPriW
namespace Go.Proofs.YtinkieogcpidkaaDoor

def twoL : List (List Offer) := [[(1, 6), (3, 9)], [(2, 5)]]
theorem two_inst : instE 2 twoL = 0 := by kernel_rfl
theorem two_bound : boundE 2 twoL [5, 4] = (11, 0) := by kernel_rfl
theorem two_desc : (descD 2 twoL).2 = 11 := by kernel_rfl
theorem two_sup : supE 2 twoL [0, 0] [5, 4] = (true, 0) := by kernel_rfl
end Go.Proofs.YtinkieogcpidkaaDoor
