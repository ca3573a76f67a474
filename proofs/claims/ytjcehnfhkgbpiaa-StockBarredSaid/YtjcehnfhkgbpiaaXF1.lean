/-
  Each function's abstract code is what 'compF' makes of the loaded function.
-/
import Derived.Test.YtjcehnfhkgbpiaaProg
import Derived.Test.YtjcehnfhkgbpiaaXMA
import Derived.Test.YtjcehnfhkgbpiaaXF0
import Derived.KernelRfl
namespace Go.Ax
open Go.Proofs
theorem cf9 : compF Try.prog Try.f9 = some af9 := by kernel_rfl
theorem cf15 : compF Try.prog Try.f15 = some af15 := by kernel_rfl
theorem cf16 : compF Try.prog Try.f16 = some af16 := by kernel_rfl
theorem cf17 : compF Try.prog Try.f17 = some af17 := by kernel_rfl
theorem cf18 : compF Try.prog Try.f18 = some af18 := by kernel_rfl
theorem cf19 : compF Try.prog Try.f19 = some af19 := by kernel_rfl
theorem cf20 : compF Try.prog Try.f20 = some af20 := by kernel_rfl
theorem cf21 : compF Try.prog Try.f21 = some af21 := by kernel_rfl
theorem cf22 : compF Try.prog Try.f22 = some af22 := by kernel_rfl
theorem cf23 : compF Try.prog Try.f23 = some af23 := by kernel_rfl
theorem cf24 : compF Try.prog Try.f24 = some af24 := by kernel_rfl
theorem cf25 : compF Try.prog Try.f25 = some af25 := by kernel_rfl
theorem cf26 : compF Try.prog Try.f26 = some af26 := by kernel_rfl
theorem cf27 : compF Try.prog Try.f27 = some af27 := by kernel_rfl
theorem cf28 : compF Try.prog Try.f28 = some af28 := by kernel_rfl
theorem cf29 : compF Try.prog Try.f29 = some af29 := by kernel_rfl
theorem cf30 : compF Try.prog Try.f30 = some af30 := by kernel_rfl
theorem cf31 : compF Try.prog Try.f31 = some af31 := by kernel_rfl
theorem cf32 : compF Try.prog Try.f32 = some af32 := by kernel_rfl
theorem cf33 : compF Try.prog Try.f33 = some af33 := by kernel_rfl
theorem cf34 : compF Try.prog Try.f34 = some af34 := by kernel_rfl
theorem cf35 : compF Try.prog Try.f35 = some af35 := by kernel_rfl
theorem cf36 : compF Try.prog Try.f36 = some af36 := by kernel_rfl
theorem cf37 : compF Try.prog Try.f37 = some af37 := by kernel_rfl
theorem cf38 : compF Try.prog Try.f38 = some af38 := by kernel_rfl
theorem cf39 : compF Try.prog Try.f39 = some af39 := by kernel_rfl
theorem cf40 : compF Try.prog Try.f40 = some af40 := by kernel_rfl
theorem cf41 : compF Try.prog Try.f41 = some af41 := by kernel_rfl
theorem cf42 : compF Try.prog Try.f42 = some af42 := by kernel_rfl
theorem cf43 : compF Try.prog Try.f43 = some af43 := by kernel_rfl
theorem cf44 : compF Try.prog Try.f44 = some af44 := by kernel_rfl
theorem cf45 : compF Try.prog Try.f45 = some af45 := by kernel_rfl
theorem cf46 : compF Try.prog Try.f46 = some af46 := by kernel_rfl
theorem cf47 : compF Try.prog Try.f47 = some af47 := by kernel_rfl
theorem cf48 : compF Try.prog Try.f48 = some af48 := by kernel_rfl
theorem cf49 : compF Try.prog Try.f49 = some af49 := by kernel_rfl
theorem cf50 : compF Try.prog Try.f50 = some af50 := by kernel_rfl
theorem cf51 : compF Try.prog Try.f51 = some af51 := by kernel_rfl
theorem cf52 : compF Try.prog Try.f52 = some af52 := by kernel_rfl
theorem cf53 : compF Try.prog Try.f53 = some af53 := by kernel_rfl
theorem cf54 : compF Try.prog Try.f54 = some af54 := by kernel_rfl
theorem cf55 : compF Try.prog Try.f55 = some af55 := by kernel_rfl
theorem cf56 : compF Try.prog Try.f56 = some af56 := by kernel_rfl
theorem cf57 : compF Try.prog Try.f57 = some af57 := by kernel_rfl
theorem cf58 : compF Try.prog Try.f58 = some af58 := by kernel_rfl
theorem cf59 : compF Try.prog Try.f59 = some af59 := by kernel_rfl
theorem cf60 : compF Try.prog Try.f60 = some af60 := by kernel_rfl
theorem cf61 : compF Try.prog Try.f61 = some af61 := by kernel_rfl
theorem cf62 : compF Try.prog Try.f62 = some af62 := by kernel_rfl
theorem cf63 : compF Try.prog Try.f63 = some af63 := by kernel_rfl
theorem cf64 : compF Try.prog Try.f64 = some af64 := by kernel_rfl
theorem cf65 : compF Try.prog Try.f65 = some af65 := by kernel_rfl
theorem cf66 : compF Try.prog Try.f66 = some af66 := by kernel_rfl
theorem cf67 : compF Try.prog Try.f67 = some af67 := by kernel_rfl
theorem cf68 : compF Try.prog Try.f68 = some af68 := by kernel_rfl
theorem cf69 : compF Try.prog Try.f69 = some af69 := by kernel_rfl
theorem cf70 : compF Try.prog Try.f70 = some af70 := by kernel_rfl
theorem cf71 : compF Try.prog Try.f71 = some af71 := by kernel_rfl
theorem cf72 : compF Try.prog Try.f72 = some af72 := by kernel_rfl
theorem cf73 : compF Try.prog Try.f73 = some af73 := by kernel_rfl
theorem cf74 : compF Try.prog Try.f74 = some af74 := by kernel_rfl
theorem cf75 : compF Try.prog Try.f75 = some af75 := by kernel_rfl
theorem cf76 : compF Try.prog Try.f76 = some af76 := by kernel_rfl
theorem cf77 : compF Try.prog Try.f77 = some af77 := by kernel_rfl
theorem cf78 : compF Try.prog Try.f78 = some af78 := by kernel_rfl
theorem cf79 : compF Try.prog Try.f79 = some af79 := by kernel_rfl
theorem cf80 : compF Try.prog Try.f80 = some af80 := by kernel_rfl
theorem cf81 : compF Try.prog Try.f81 = some af81 := by kernel_rfl
theorem cf82 : compF Try.prog Try.f82 = some af82 := by kernel_rfl
theorem cf83 : compF Try.prog Try.f83 = some af83 := by kernel_rfl
theorem cf84 : compF Try.prog Try.f84 = some af84 := by kernel_rfl
theorem cf85 : compF Try.prog Try.f85 = some af85 := by kernel_rfl
theorem cf86 : compF Try.prog Try.f86 = some af86 := by kernel_rfl
end Go.Ax
