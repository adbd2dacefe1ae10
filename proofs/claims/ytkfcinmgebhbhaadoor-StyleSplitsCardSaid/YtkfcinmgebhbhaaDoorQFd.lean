import Derived.Test.YtkfcinmgebhbhaaDoorQFc
import Derived.KernelRfl
namespace Go.Fn
theorem base_c : (foliolaw06_same_c 9 (1,2,3,()) (1,2,3,())) = some true := by kernel_rfl
theorem awake_c : foliolaw06_awake_c 60 = some true := by kernel_rfl
theorem awake : foliolaw06_awake = some true := foliolaw06_awake_le 60 _ awake_c
end Go.Fn
