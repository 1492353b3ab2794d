/- The numbers of the law's waking test. -/
import Derived.Test.YtfaciljklligeaaAm
import Derived.Test.YtfaciljklligeaaPk
namespace Go.Proofs.Ytfaciljklligeaa.Ct
open Go.ChangeShapes Go.WideShapes Go.RowKit Mm
def L1234 : List Nat := [4607182418800017408, 4611686018427387904, 4613937818241073152, 4616189618054758400]
theorem mean1234 : meanP L1234 = 4612811918334230528 := by kernel_rfl
theorem spread1234 : spreadP L1234 = 4608308318706860032 := by kernel_rfl
theorem apartT : apartP [10, 20] [13, 16] = 4623226492472524800 := by kernel_rfl
theorem peakT : pkK [10, 20] [13, 16] 2 = 4 := by kernel_rfl
theorem alikeT : alikeP [10, 20] [10, 20] 2 1 1 = 4607182418800017408 := by kernel_rfl
theorem pairT : pairE 2 1 1 2 2 1 1 2 = 0 := by kernel_rfl
end Go.Proofs.Ytfaciljklligeaa.Ct
