/-
  The walks of bytes.Equal and slices.Clone at bytes. Conditions: the slices read as lists, not longer than memory bears.
-/
import Derived.Test.YtdjcifeoplgkpaaScanText
import Derived.Test.YtdjcifeoplgkpaaCodec
import Derived.Test.YtdjcifeoplgkpaaStd
namespace Go.Proofs.Ytdjcifeoplgkpaa
open Go.RowKit

set_option maxRecDepth 100000 in
set_option maxHeartbeats 400000 in
theorem bytesEqual_any (A1 A2 : Option Addr) (n1 n2 c1 c2 B1 B2 : Nat) (l1 l2 : List UInt8) (w : World) (h1 : RdB w B1 A1 n1 l1) (h2 : RdB w B2 A2 n2 l2) :
    Calls Try.prog 18 #[.slice A1 n1 c1, .slice A2 n2 c2] w (ResEq w (l1 = l2)) := by
  have hl1 := h1.len
  have hl2 := h2.len
  subst hl1 hl2
  have q1 := run_conv_bs (P := Try.prog) (w := w) Try.underlying27 Try.underlying5 Try.underlying9 h1 c1
  have q2 := run_conv_bs (P := Try.prog) (w := w) Try.underlying27 Try.underlying5 Try.underlying9 h2 c2
  clear h1 h2
  go_enter Try.func18, Try.ntmps18
  go_wp2_with fail
  go_ret
  exact ⟨_, rfl, beq_iff_eq, 0, rfl⟩

end Go.Proofs.Ytdjcifeoplgkpaa
