/- Contracts of Go functions: what each returns, as a class of words, whatever the world. -/
import Derived.Test.YtmbadnaclpboiaaLaw
import Derived.Test.YtmbadnaclpboiaaProg
import Derived.BigQuiet
import Derived.Deep.QuietTactic
import Derived.Deep.RegionHeld3
import Derived.Deep.DeepFit
import Derived.WalkSpells
import Derived.Lib.Hide
import Derived.WalkSmall
namespace Go.Proofs.Ytmbadnaclpboiaa
open Go.RowKit Go.Fl

-- @has FnExactConstants
theorem walk_FnExactConstants (w : World) : Calls Try.prog 3 #[] w fun e w' => e = .returned (.bool true) ∧ Below w.heap.size w w' := by
  go_enter Try.func3, Try.ntmps3
  go_wp2
  go_ret
  exact ⟨rfl, Below.refl _ _⟩

end Go.Proofs.Ytmbadnaclpboiaa
