/-
  The walks of wire.Text and of the references' Digits, Number, Text: bytes behind bytes. Conditions: what comes in reads as a list, not longer than memory bears.
-/
import Derived.Test.YtdjcifeoplgkpaaNumber
namespace Go.Proofs.Ytdjcifeoplgkpaa
open Go.RowKit

theorem strCells_map (s : ByteArray) : Lib.strCells s = s.data.toList.map u8v := rfl
section
variable {P : Program} (w : World)
/-- append(b, s...) at the operation. -/
theorem wpList_app_str {ops : Array Oper} {rest : List Oper} {o : Oper} {a : Act} {Q : Exit → Act → World → Prop} (hgd : o.guard = none) (sl x : Operand) (t u : TypeId)
    (ho : o.op = .call { callee := .builtin .append, args := #[sl, x], argTypes := #[t, u] })
    (base : Nat) (e : TypeId) (i : TypeInfo) (ht : P.underlying t = some (.slice e)) (hu : P.underlying u = some .string) (hi : P.info? e = some i) (hz : i.zero = some (.int .u8 0))
    (hsize : i.size = 1) (hby : i.bytes = 1)
    (A0 : Option Addr) (c0 : Nat) (l : List UInt8) (hs : a.eval sl = .slice A0 l.length c0) (hown : w.ownsRow base e 1 (.slice A0 l.length c0) l.length (l.map u8v)) (s : ByteArray) (hx : a.eval x = .string s)
    (h63 : l.length + s.size ≤ maxLen) (hbytes : l.length + s.size ≤ 140737488355328) (hbase : base ≤ w.heap.size)
    (h : ∀ A' c' w', w'.ownsRow base e 1 (.slice A' (l ++ s.data.toList).length c') (l ++ s.data.toList).length ((l ++ s.data.toList).map u8v) → w.grownBy w' (A0.map (·.block)) →
      wpList P ops Q rest (a.put o.dst (.slice A' (l ++ s.data.toList).length c')) w') : wpList P ops Q (o :: rest) a w := by
  refine Lib.wpList_append_own_string w hgd sl x t u ho base e i ht hu hi hz hsize hby _ l.length _ hs hown s hx h63 hbytes hbase ?_
  intro v' w' h2 h3 _
  have hlen : l.length + s.size = (l ++ s.data.toList).length := by simp
  rw [hlen, strCells_map, ← List.map_append] at h2
  have ob : ∀ (A : Option Addr) (k c : Nat), Value.ownBlock (.slice A k c) = A.map (·.block) := by intro A k c; cases A <;> rfl
  rw [ob] at h3
  rcases h2.2 with ⟨rfl, hnm⟩ | ⟨g, cap, cur, rfl, _⟩
  · have := h none 0 w'
    rw [hnm] at this h2
    exact this h2 h3
  · exact h _ _ w' h2 h3
end

set_option maxRecDepth 100000 in
set_option maxHeartbeats 400000 in
theorem text_any (A : Option Addr) (m cap B : Nat) (l : List UInt8) (s : ByteArray) (w : World) (hB : B ≤ w.heap.size) (hbig : m ≤ 35184372088832) (hs : s.size ≤ 35184372088832) (hr : RdB w B A m l) :
    Calls Try.prog 36 #[.slice A m cap, .string s] w (ResB w (l ++ digits s.size ++ s.data.toList)) := by
  obtain ⟨i0, hi0, hz0, hz1, hz2⟩ := info_parts Try.infoByte
  have hl := hr.len
  have hd := digits_len (n := s.size) (by omega)
  have hl2 : (l ++ digits s.size).length ≤ 35184372088900 := by rw [List.length_append]; omega
  have HL := Lib.hid hl
  clear hl hd
  go_enter Try.func36, Try.ntmps36
  go_wp2_with fail
  refine (number_nat _ _ _ _ _ _ _ hB hbig (by omega) hr).mono ?_
  rintro e w1 ⟨A1, c1, rfl, hown, hb⟩
  generalize hL1 : l ++ digits s.size = L1 at *
  have HL1 := Lib.hid hL1
  have HO := Lib.hid hown
  clear hown hL1
  go_wp2_with (at_builtin; refine wpList_app_str _ rfl (.tmp 8) (.tmp 9) _ _ rfl w.heap.size 5 i0 Try.underlying27 Try.underlying9 hi0 hz0 hz1 hz2 _ _ _ rfl HO.out _ rfl (by unfold maxLen; omega) (by omega) hb.size ?_; intro A2 c2 w2 hown2 hg2; generalize L1 ++ s.data.toList = L2 at *)
  go_ret
  exact ⟨A2, c2, rfl, hown2, below_app hb HO.out hg2 hb.size⟩

end Go.Proofs.Ytdjcifeoplgkpaa
