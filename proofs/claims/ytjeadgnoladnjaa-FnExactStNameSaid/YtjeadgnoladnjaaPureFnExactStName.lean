/-  StName: the walk (HFnExactStName) comes to true for every number. -/
import Derived.Test.YtjeadgnoladnjaaSpecFnExactStName
namespace Go.Proofs.Ytjeadgnoladnjaa.Pure
theorem FnExactStName : SFnExactStName.Pure := fun _ _ => rfl
end Go.Proofs.Ytjeadgnoladnjaa.Pure
