/- CellsFolded: the law's function and its primitive. -/
import Derived.Test.YtdjancoknephnaaDoorVcCfS
import Derived.Test.YtdjancoknephnaaDoorVcInsW
namespace Go.Proofs.YtdjancoknephnaaDoorVc
theorem pm_sound : Sound Go.Proofs.Tryd.prog Pm := ins_sound
end Go.Proofs.YtdjancoknephnaaDoorVc
