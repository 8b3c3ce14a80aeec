/-
  The walks of wire.Text and of the references' Digits, Number, Text: bytes behind bytes. Conditions: what comes in reads as a list, not longer than memory bears.
-/
import Derived.Test.YtgdhbklgcmcdeaaNumber
namespace Go.Proofs.Ytgdhbklgcmcdeaa
open Go.RowKit

theorem strCells_map (s : ByteArray) : Lib.strCells s = s.data.toList.map u8v := rfl
section
variable {P : Program} (w : World)
/-- append(b, s...) at the operation. -/
theorem wpList_app_str {ops : Array Oper} {rest : List Oper} {o : Oper} {a : Act} {Q : Exit → Act → World → Prop} (hgd : o.guard = none) (sl x : Operand) (t u : TypeId)
    (ho : o.op = .call { callee := .builtin .append, args := #[sl, x], argTypes := #[t, u] })
    (base : Nat) (e : TypeId) (i : TypeInfo) (ht : P.underlying t = some (.slice e)) (hu : P.underlying u = some .string) (hi : P.info? e = some i) (hz : i.zero = some (.int .u8 0))
    (hsize : i.size = 1) (hby : i.bytes = 1)
    (A0 : Option Addr) (c0 : Nat) (l : List UInt8) (hs : a.eval sl = .slice A0 l.length c0) (hown : w.ownsRow base e 1 (.slice A0 l.length c0) l.length (l.map u8v)) (s : ByteArray) (hx : a.eval x = .string s)
    (h63 : l.length + s.size ≤ maxLen) (hbytes : l.length + s.size ≤ 140737488355328) (hbase : base ≤ w.heap.size)
    (h : ∀ A' c' w', w'.ownsRow base e 1 (.slice A' (l ++ s.data.toList).length c') (l ++ s.data.toList).length ((l ++ s.data.toList).map u8v) → w.grownBy w' (A0.map (·.block)) →
      wpList P ops Q rest (a.put o.dst (.slice A' (l ++ s.data.toList).length c')) w') : wpList P ops Q (o :: rest) a w := by
  refine Lib.wpList_append_own_string w hgd sl x t u ho base e i ht hu hi hz hsize hby _ l.length _ hs hown s hx h63 hbytes hbase ?_
  intro v' w' h2 h3 _
  have hlen : l.length + s.size = (l ++ s.data.toList).length := by simp
  rw [hlen, strCells_map, ← List.map_append] at h2
  have ob : ∀ (A : Option Addr) (k c : Nat), Value.ownBlock (.slice A k c) = A.map (·.block) := by intro A k c; cases A <;> rfl
  rw [ob] at h3
  rcases h2.2 with ⟨rfl, hnm⟩ | ⟨g, cap, cur, rfl, _⟩
  · have := h none 0 w'
    rw [hnm] at this h2
    exact this h2 h3
  · exact h _ _ w' h2 h3
end

set_option maxRecDepth 100000 in
set_option maxHeartbeats 400000 in
theorem text_any (A : Option Addr) (m cap B : Nat) (l : List UInt8) (s : ByteArray) (w : World) (hB : B ≤ w.heap.size) (hbig : m ≤ 35184372088832) (hs : s.size ≤ 35184372088832) (hr : RdB w B A m l) :
    Calls Try.prog 49 #[.slice A m cap, .string s] w (ResB w (l ++ digits s.size ++ s.data.toList)) := by
  obtain ⟨i0, hi0, hz0, hz1, hz2⟩ := info_parts Try.infoByte
  have hl := hr.len
  have hd := digits_len (n := s.size) (by omega)
  have hl2 : (l ++ digits s.size).length ≤ 35184372088900 := by rw [List.length_append]; omega
  have HL := Lib.hid hl
  clear hl hd
  go_enter Try.func49, Try.ntmps49
  go_wp2_with fail
  refine (number_nat _ _ _ _ _ _ _ hB hbig (by omega) hr).mono ?_
  rintro e w1 ⟨A1, c1, rfl, hown, hb⟩
  generalize hL1 : l ++ digits s.size = L1 at *
  have HL1 := Lib.hid hL1
  have HO := Lib.hid hown
  clear hown hL1
  go_wp2_with (at_builtin; refine wpList_app_str _ rfl (.tmp 8) (.tmp 9) _ _ rfl w.heap.size 5 i0 Try.underlying30 Try.underlying9 hi0 hz0 hz1 hz2 _ _ _ rfl HO.out _ rfl (by unfold maxLen; omega) (by omega) hb.size ?_; intro A2 c2 w2 hown2 hg2; generalize L1 ++ s.data.toList = L2 at *)
  go_ret
  exact ⟨A2, c2, rfl, hown2, below_app hb HO.out hg2 hb.size⟩

set_option maxRecDepth 100000 in
set_option maxHeartbeats 400000 in
theorem digits_calls (k : Nat) : ∀ (N : Nat) (w : World), N < 128 ^ (k + 1) → N ≤ 9223372036854775807 →
    Calls Try.prog 50 #[.int .i64 N] w (ResB w (digits N)) := by
  induction k with
  | zero =>
    intro N w hN _
    have h1 : N < 128 := by simpa using hN
    have h2 : digits N = [UInt8.ofNat N] := by simp [digits, show N / 128 = 0 by omega, dhi_zero, show N % 128 = N by omega]
    rw [h2]
    clear hN h2
    go_enter Try.func50, Try.ntmps50
    go_wp2_with fail
    go_ret
    refine ⟨_, _, rfl, ?_, (Below.refl _ _).alloc (Nat.le_refl _) _⟩
    have ho := own_new w #[.int .u8 N] 5 1 1 rfl (by unfold maxLen; omega) w.heap.size (Nat.le_refl _)
    have hm : [UInt8.ofNat N].map u8v = [.int .u8 (N : Int)] := by simp [u8v]; omega
    rw [hm]
    exact ho
  | succ k ih =>
    intro N w hN hN2
    by_cases h1 : N < 128
    · have h2 : digits N = [UInt8.ofNat N] := by simp [digits, show N / 128 = 0 by omega, dhi_zero, show N % 128 = N by omega]
      rw [h2]
      clear hN h2 ih
      go_enter Try.func50, Try.ntmps50
      go_wp2_with fail
      go_ret
      refine ⟨_, _, rfl, ?_, (Below.refl _ _).alloc (Nat.le_refl _) _⟩
      have ho := own_new w #[.int .u8 N] 5 1 1 rfl (by unfold maxLen; omega) w.heap.size (Nat.le_refl _)
      have hm : [UInt8.ofNat N].map u8v = [.int .u8 (N : Int)] := by simp [u8v]; omega
      rw [hm]
      exact ho
    · obtain ⟨i0, hi0, hz0, hz1, hz2⟩ := info_parts Try.infoByte
      have hlt : N / 128 < 128 ^ (k + 1) := by rw [Nat.div_lt_iff_lt_mul (by omega)]; rw [Nat.pow_succ] at hN; exact hN
      have IH := Lib.hid (ih (N / 128))
      have hdl := digits_len (n := N / 128) (by omega)
      have hset : dhi (N / 128) = dhi (N / 128 / 128) ++ [UInt8.ofNat (N / 128 % 128 + 128)] := dhi_pos (by omega)
      have HD : Hid (digits N = dhi (N / 128) ++ [UInt8.ofNat (N % 128)]) := Lib.hid rfl
      have HE : Hid (digits (N / 128) = dhi (N / 128 / 128) ++ [UInt8.ofNat (N / 128 % 128)]) := Lib.hid rfl
      have HS := Lib.hid hset
      have HLT := Lib.hid hlt
      clear ih hset hN hlt
      go_enter Try.func50, Try.ntmps50
      go_wp2_with fail
      rw [show ((N : Int) / 128) = ((N / 128 : Nat) : Int) from by omega]
      refine (IH.out _ HLT.out (by omega)).mono ?_
      rintro e w1 ⟨A1, c1, rfl, hown, hb⟩
      rw [HE.out] at hown ⊢
      generalize hpre : dhi (N / 128 / 128) = pre at *
      have hv128 : N / 128 % 128 < 128 := by omega
      generalize hv : N / 128 % 128 = v at *
      have hlen : (pre ++ [UInt8.ofNat v]).length = pre.length + 1 := by simp
      rw [hlen] at hown ⊢
      obtain ⟨g, rfl, hg1, hg2⟩ := own_form hown (by omega)
      have hcell : w1.cell? ⟨g, pre.length, none⟩ = some (.int .u8 (v : Int)) := by
        rw [hown.cellAt pre.length (by omega)]
        simp [u8v]; omega
      have hfr := hown.frozenAt pre.length
      have hst := hown.stored pre.length (.int .u8 ((v : Int) + 128))
      have hb1 := hb.setCell (p := ⟨g, pre.length, none⟩) hg1 (.int .u8 ((v : Int) + 128))
      rw [show ((pre ++ [UInt8.ofNat v]).map u8v).set pre.length (.int .u8 ((v : Int) + 128)) = (dhi (N / 128)).map u8v from by
        rw [HS.out]; simp [u8v]; omega] at hst
      have HST := Lib.hid hst.1
      have HPL : Hid ((dhi (N / 128)).length = pre.length + 1) := Lib.hid (by rw [HS.out]; simp)
      have hsz := hb.size
      have hpl : pre.length ≤ 9 := by have := hdl.2; rw [HE.out] at this; simp at this; omega
      have HR : Hid ((dhi (N / 128)).map u8v ++ [.int .u8 ((N : Int) % 128)] = (digits N).map u8v) := Lib.hid (by rw [HD.out]; simp [u8v]; omega)
      have HDL : Hid ((digits N).length = pre.length + 1 + 1) := Lib.hid (by rw [HD.out, List.length_append, HPL.out]; rfl)
      clear hst hown hlen hpre hv hdl
      go_wp2_with (at_builtin; refine wpList_app _ rfl (.tmp 21) (.tmp 25) _ rfl w.heap.size 5 i0 _ 1 1 Try.underlying30 hi0 hz0 hz1 hz2 rfl (by omega) _ _ _ _ rfl (HST.out.alloc _) (w1.heap.size + 1) _ 1 _ [.int .u8 ((N : Int) % 128)] rfl (Rd.new (by simp) (by simp) (by simp)) (by simp [Value.oneCell']) (by unfold maxLen; omega) (by omega) (by simp; omega) ?_; intro A2 c2 w2 hown2 hg2 _)
      go_ret
      rw [HR.out, ← HDL.out] at hown2
      exact ⟨A2, c2, by rw [HDL.out]; rfl, hown2, below_app (hb1.alloc (by simp; omega) _) (HST.out.alloc _) hg2 (by simp; omega)⟩

theorem digits_any (N : Nat) (w : World) (hN : N ≤ 9223372036854775807) : Calls Try.prog 50 #[.int .i64 N] w (ResB w (digits N)) := digits_calls 8 N w (by omega) hN
end Go.Proofs.Ytgdhbklgcmcdeaa
