/-
  The walks of bytes.Equal and slices.Clone at bytes. Conditions: the slices read as lists, not longer than memory bears.
-/
import Derived.Test.YtdjcifeoplgkpaaGreatScanText
import Derived.Test.YtdjcifeoplgkpaaGreatCodec
import Derived.Test.YtdjcifeoplgkpaaGreatStd
namespace Go.Proofs.YtdjcifeoplgkpaaGreat
open Go.RowKit

set_option maxRecDepth 100000 in
set_option maxHeartbeats 400000 in
theorem bytesEqual_any (A1 A2 : Option Addr) (n1 n2 c1 c2 B1 B2 : Nat) (l1 l2 : List UInt8) (w : World) (h1 : RdB w B1 A1 n1 l1) (h2 : RdB w B2 A2 n2 l2) :
    Calls Tryz.prog 19 #[.slice A1 n1 c1, .slice A2 n2 c2] w (ResEq w (l1 = l2)) := by
  have hl1 := h1.len
  have hl2 := h2.len
  subst hl1 hl2
  have q1 := run_conv_bs (P := Tryz.prog) (w := w) Tryz.underlying47 Tryz.underlying5 Tryz.underlying9 h1 c1
  have q2 := run_conv_bs (P := Tryz.prog) (w := w) Tryz.underlying47 Tryz.underlying5 Tryz.underlying9 h2 c2
  clear h1 h2
  go_enter Tryz.func19, Tryz.ntmps19
  go_wp2_with fail
  go_ret
  exact ⟨_, rfl, beq_iff_eq, 0, rfl⟩

set_option maxRecDepth 100000 in
set_option maxHeartbeats 400000 in
theorem cloneBytes_any (A : Option Addr) (n cap B : Nat) (l : List UInt8) (w : World) (hB : B ≤ w.heap.size) (hb : n ≤ 35184372088832) (hr : RdB w B A n l) :
    Calls Tryz.prog 16 #[.slice A n cap] w (ResB w l) := by
  obtain ⟨i0, hi0, hz0, hz1, hz2⟩ := info_parts Tryz.infoByte
  have hl := hr.len
  cases A with
  | none =>
    have hn : n = 0 := by
      by_cases h0 : n = 0
      · exact h0
      · obtain ⟨b, off, h, _⟩ := hr.2 (by omega)
        cases h
    subst hn
    obtain rfl : l = [] := List.length_eq_zero_iff.1 hl
    have hq := fun W : World => eql_nil (P := Tryz.prog) W 47 _ none 0 cap Tryz.underlying47
    go_enter Tryz.func16, Tryz.ntmps16
    go_wp2_with fail
    go_ret
    exact ⟨none, 0, rfl, World.ownsRow_nil _ _ _ _, Below.refl _ _⟩
  | some a =>
    have HN := Lib.hid (own_new w #[] 5 0 1 rfl (by unfold maxLen; omega) w.heap.size (Nat.le_refl _))
    have HR : Hid (RdB (w.alloc (.cells #[] 5)) B (some a) n l) := Lib.hid (Rd.alloc hr _ hB (Nat.le_refl _))
    have HL := Lib.hid hl
    clear hl hr
    have hq := fun W : World => eql_nil (P := Tryz.prog) W 47 _ (some a) n cap Tryz.underlying47
    go_enter Tryz.func16, Tryz.ntmps16
    go_wp2_with (at_builtin; refine wpList_app _ rfl (.tmp 5) (.tmp 6) _ rfl w.heap.size 5 i0 _ 1 1 Tryz.underlying47 hi0 hz0 hz1 hz2 rfl (by omega) _ _ _ _ rfl HN.out B _ _ _ _ rfl HR.out (u8v_oneCell _) (by unfold maxLen; omega) (by omega) (by simp) ?_; intro A2 c2 w2 hown2 hg2 _)
    go_ret
    rw [List.nil_append, Nat.zero_add] at hown2
    exact ⟨A2, c2, by rw [HL.out]; rfl, by rw [HL.out]; exact hown2, below_app ((Below.refl _ _).alloc (Nat.le_refl _) _) HN.out hg2 (by simp)⟩
end Go.Proofs.YtdjcifeoplgkpaaGreat
