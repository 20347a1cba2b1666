/- A slice of bytes made a string, over this program. -/
import Derived.Test.YtcilabemglbhbaaPurOctet
import Derived.Deep.RegionWith
namespace Go.Proofs.Ytcilabemglbhbaa
open Go Go.RowKit Go.Pur

theorem run_strP {w : World} {B : Nat} {v : Value} {l : Bytes} (h : Byt w B v l) : (convert 29 9 v).run Try.prog w = .ok (.string (strB l)) w :=
  run_str h _ _ 5 Try.underlying29 Try.underlying5 Try.underlying9

theorem beqB (a b : Bytes) : ((strB a).toList == (strB b).toList) = decide (a = b) := by
  rw [strB_toList, strB_toList]
  rw [Bool.eq_iff_iff]
  simp
end Go.Proofs.Ytcilabemglbhbaa
