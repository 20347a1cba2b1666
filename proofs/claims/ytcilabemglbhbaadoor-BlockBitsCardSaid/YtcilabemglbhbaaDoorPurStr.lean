/- A slice of bytes made a string, over this program. -/
import Derived.Test.YtcilabemglbhbaaDoorPurOctet
import Derived.Deep.RegionWith
namespace Go.Proofs.YtcilabemglbhbaaDoor
open Go Go.RowKit Go.Pur

theorem run_strP {w : World} {B : Nat} {v : Value} {l : Bytes} (h : Byt w B v l) : (convert 27 9 v).run Tryd.prog w = .ok (.string (strB l)) w :=
  run_str h _ _ 5 Tryd.underlying27 Tryd.underlying5 Tryd.underlying9

theorem beqB (a b : Bytes) : ((strB a).toList == (strB b).toList) = decide (a = b) := by
  rw [strB_toList, strB_toList]
  rw [Bool.eq_iff_iff]
  simp
end Go.Proofs.YtcilabemglbhbaaDoor
