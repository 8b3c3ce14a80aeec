/-
  The walk of wire.Join: all parts, one behind the other, in new memory. Conditions: the parts read as lists, together not longer than memory bears.
  The walk of wire.Number: it puts a number's groups behind bytes. Conditions: the bytes read as a list, not longer than memory bears; the number is an int.
  The walks of wire.Text and of the references' Digits, Number, Text: bytes behind bytes. Conditions: what comes in reads as a list, not longer than memory bears.
-/
import Derived.Test.YtempkjnaahgbhaaGreatDoorRows
import Derived.Test.YtempkjnaahgbhaaGreatDoorBase
import Derived.Test.YtempkjnaahgbhaaGreatDoorSpanRow
import Derived.Laws.BitsAllLaws
namespace Go.Proofs.YtempkjnaahgbhaaGreatDoor
open Go.RowKit

/-- A slice of slices of bytes: its cells, and what each leads to. -/
structure Part where
  A : Option Addr
  n : Nat
  c : Nat
  l : List UInt8
def Part.val (p : Part) : Value := .slice p.A p.n p.c
def RdP (w : World) (B : Nat) (A : Option Addr) (n : Nat) (ps : List Part) : Prop := Rd w B 1 A n (ps.map Part.val) ∧ ∀ p ∈ ps, RdB w B p.A p.n p.l
def total (ps : List Part) : Nat := (ps.map fun p => p.l.length).sum
def joined (ps : List Part) : List UInt8 := ps.flatMap (·.l)
theorem total_take_succ (ps : List Part) (k : Nat) (h : k < ps.length) : total (ps.take (k + 1)) = total (ps.take k) + ps[k].l.length := by
  rw [List.take_succ_eq_append_getElem h]; simp only [total, List.map_append, List.sum_append, List.map_cons, List.map_nil, List.sum_cons, List.sum_nil, Nat.add_zero]
theorem joined_take_succ (ps : List Part) (k : Nat) (h : k < ps.length) : joined (ps.take (k + 1)) = joined (ps.take k) ++ ps[k].l := by
  rw [List.take_succ_eq_append_getElem h]; simp only [joined, List.flatMap_append, List.flatMap_cons, List.flatMap_nil, List.append_nil]
theorem total_take_le (ps : List Part) (k : Nat) : total (ps.take k) ≤ total ps := by
  have h : total ps = total (ps.take k) + total (ps.drop k) := by
    conv => lhs; rw [← List.take_append_drop k ps]
    simp only [total, List.map_append, List.sum_append]
  omega
theorem joined_length (ps : List Part) : (joined ps).length = total ps := by
  simp [joined, total, List.length_flatMap]

theorem Tryz.infoByte : (Tryz.prog.info? 5).map (fun i => (i.zero, i.size, i.bytes)) = some (some (.int .u8 0), 1, 1) := by kernel_rfl

set_option maxRecDepth 100000 in
set_option maxHeartbeats 1000000 in
theorem join_any (A : Option Addr) (n cap B : Nat) (ps : List Part) (w : World) (hB : B ≤ w.heap.size) (hbig : total ps ≤ 70368744177664) (hnb : n ≤ 140737488355328) (hr : RdP w B A n ps) :
    Calls Tryz.prog 101 #[.slice A n cap] w (ResB w (joined ps)) := by
  obtain ⟨i0, hi0, hz0, hz1, hz2⟩ := info_parts Tryz.infoByte
  have hl : ps.length = n := by simpa using hr.1.1
  subst hl
  go_enter Tryz.func101, Tryz.ntmps101
  go_wp2_with fail
  go_loop [3, 11] (fun s i => ∃ k : Nat, k ≤ ps.length ∧ i = .int .i64 k ∧ s = .int .i64 (total (ps.take k) : Nat)) (fun _ i => ps.length - (intOf i).toNat)
  case atStart => exact ⟨0, by omega, rfl, by simp [total]⟩
  case round =>
    obtain ⟨k, hk, rfl, rfl⟩ := hrel
    by_cases hlt : k < ps.length
    · obtain ⟨b, off, rfl, _, hcell⟩ := hr.1.at_ (k := k) hlt (by simpa using hlt)
      rw [List.getElem_map] at hcell
      have hlen := (hr.2 _ (List.getElem_mem hlt)).len
      have hstep := total_take_succ ps k hlt
      have hle := total_take_le ps (k + 1)
      rw [hlen] at hstep
      have HS := Lib.hid hstep
      have hle2 : (total (ps.take k) : Int) + (ps[k].n : Int) ≤ 70368744177664 := by omega
      clear hstep hle hlen hr
      unfold Part.val at hcell
      go_wp2
      go_round
      case rel => exact ⟨k + 1, by omega, by go_num, by rw [HS.out]; go_num⟩
      case measure => simp [intOf]; omega
    · have hle := total_take_le ps k
      go_wp2
      refine upon_make0 w.heap.size 32 5 i0 _ 1 Tryz.underlying32 hi0 hz0 hz1 (by rw [hz2]; omega) (by unfold maxLen; omega) (Nat.le_refl _) ?_
      intro w1 hown1 hg1
      have hb1 := below_none hg1 (Nat.le_refl _)
      clear hg1 hle
      go_wp2_with fail
      go_loopw [6, 24] (fun v i wr => ∃ k : Nat, k ≤ ps.length ∧ i = .int .i64 k ∧ ∃ A' c, v = .slice A' (joined (ps.take k)).length c ∧
          wr.ownsRow w.heap.size 5 1 (.slice A' (joined (ps.take k)).length c) (joined (ps.take k)).length ((joined (ps.take k)).map u8v) ∧ Below w.heap.size w wr) (fun _ i _ => ps.length - (intOf i).toNat)
      case atStart => exact ⟨0, by omega, rfl, _, _, rfl, hown1, hb1⟩
      case round =>
        obtain ⟨k, hk, rfl, A', c, rfl, hown, hb⟩ := hrel
        by_cases hlt : k < ps.length
        · obtain ⟨b, off, rfl, hbB, hcell⟩ := hr.1.at_ (k := k) hlt (by simpa using hlt)
          rw [List.getElem_map, ← hb.cell (by show b < w.heap.size; omega)] at hcell
          have hrp := (hr.2 _ (List.getElem_mem hlt)).below' hb hB (Nat.le_refl _)
          have hlen := (hr.2 _ (List.getElem_mem hlt)).len
          have hstep := total_take_succ ps k hlt
          have hle := total_take_le ps (k + 1)
          have hj := joined_length (ps.take k)
          have hjs := joined_take_succ ps k hlt
          have hsum : (joined (ps.take k)).length + ps[k].n ≤ 70368744177664 := by omega
          have HJ := Lib.hid hjs
          have HL := Lib.hid hlen
          clear hstep hle hlen hr hj hjs
          unfold Part.val at hcell
          go_wp2_with (at_builtin; refine wpList_app _ rfl (.tmp 28) (.tmp 29) _ rfl w.heap.size 5 i0 _ 1 1 Tryz.underlying32 hi0 hz0 hz1 hz2 rfl (by omega) _ _ _ _ rfl hown B _ _ _ _ rfl hrp (u8v_oneCell _) (by unfold maxLen; omega) (by omega) hb.size ?_; intro A2 c2 w2 hown2 hg2 _)
          have hb2 := below_app hb hown hg2 hb.size
          go_roundw
          case rel => exact ⟨k + 1, by omega, by go_num, A2, c2, by rw [HJ.out, List.length_append, HL.out], by rw [HJ.out, List.length_append, HL.out, List.map_append]; exact hown2, hb2⟩
          case measure => simp [intOf]; omega
        · have e : ps.take k = ps := List.take_of_length_le (by omega)
          rw [e] at hown
          have HE := Lib.hid e; clear e
          go_wp2_with fail
          go_ret
          exact ⟨A', c, by rw [HE.out]; rfl, hown, hb⟩
end Go.Proofs.YtempkjnaahgbhaaGreatDoor
namespace Go.Proofs.YtempkjnaahgbhaaGreatDoor
open Go.RowKit

theorem ofInt_i64 (a : Nat) (ha : a < 9223372036854775808) : (BitVec.ofInt 64 (a : Int)).toNat = a := by
  rw [BitVec.ofInt_natCast, BitVec.toNat_ofNat]; exact Nat.mod_eq_of_lt (by omega)
theorem and127 (a : Nat) (ha : a < 9223372036854775808) : bits .and .i64 (a : Int) 127 = ((a % 128 : Nat) : Int) := by
  have h2 : (BitVec.ofInt 64 (127 : Int)).toNat = 127 := by decide
  have e : a &&& 127 = a % 128 := Nat.and_two_pow_sub_one_eq_mod a 7
  show IntKind.i64.wrap ((BitVec.ofInt 64 (a : Int) &&& BitVec.ofInt 64 (127 : Int)).toNat : Int) = _
  rw [BitVec.toNat_and, ofInt_i64 a ha, h2, e, IntKind.wrap_i64]
  omega
theorem or128 (a : Nat) (ha : a < 128) : bits .or .u8 (a : Int) 128 = (a : Int) + 128 := by
  have e : a ||| 128 = a + 128 := by
    have h : 128 + a = 128 ||| a := Nat.two_pow_add_eq_or_of_lt (i := 7) (b := a) (by omega) 1
    rw [Nat.or_comm]; omega
  rw [show (128 : Int) = ((128 : Nat) : Int) from rfl, u8_or_nat a 128 (by omega) (by omega), e]; omega
theorem or128' (a : Nat) : bits .or .u8 ((a : Int) % 128) 128 = (a : Int) % 128 + 128 := by
  have := or128 (a % 128) (by omega)
  rwa [Int.natCast_emod] at this

set_option maxRecDepth 100000 in
set_option maxHeartbeats 1000000 in
theorem number_nat (A : Option Addr) (m cap B : Nat) (l : List UInt8) (N : Nat) (w : World) (hB : B ≤ w.heap.size) (hbig : m ≤ 35184372088832) (hn2 : N ≤ 9223372036854775807) (hr : RdB w B A m l) :
    Calls Tryz.prog 52 #[.slice A m cap, .int .i64 N] w (ResB w (l ++ digits N)) := by
  have h7 := and127 N (by omega)
  have HN : Hid (digits N = dhi (N / 128) ++ [UInt8.ofNat (N % 128)]) := Lib.hid rfl
  go_enter Tryz.func52, Tryz.ntmps52
  go_wp2_with fail
  go_loopw [1, 6] (fun c i wr => ∃ (cur at_ : Nat) (L : List UInt8) (cs : Array Value), c = .int .i64 cur ∧ i = .int .i64 at_ ∧ at_ ≤ 8 ∧ cur ≤ N ∧ cur < 128 ^ at_ ∧ digits N = dhi cur ++ L ∧ L.length = 9 - at_ ∧
      wr.heap[w.heap.size]? = some (.cells cs 155 (0, 0)) ∧ cs.size = 9 ∧ cs.toList.drop at_ = L.map u8v ∧ Below w.heap.size w wr) (fun c _ _ => (intOf c).toNat)
  case atStart =>
    refine ⟨N / 128, 8, [UInt8.ofNat (N % 128)], _, by go_num, rfl, by omega, by omega, by omega, HN.out, rfl, heap_alloc_new w _, rfl, ?_, (Below.refl _ _).alloc (Nat.le_refl _) _⟩
    simp [u8v, Nat.mod_eq_of_lt (show N % 128 < 256 by omega)]
  case round =>
    obtain ⟨cur, at_, L, cs, rfl, rfl, hat, hcn, hlt, hd, hL, hblk, hcs, hdrop, hb⟩ := hrel
    by_cases h0 : 0 < cur
    · obtain ⟨q, rfl⟩ : ∃ q, at_ = q + 1 := by
        refine ⟨at_ - 1, ?_⟩
        rcases Nat.eq_zero_or_pos at_ with h | h
        · subst h; simp at hlt; omega
        · omega
      have hcell : ∃ v0, wr.cell? ⟨w.heap.size, q, none⟩ = some v0 := ⟨_, by rw [cell_of_row wr _ _ _ _ _ hblk]; exact Array.getElem?_eq_getElem (by omega)⟩
      obtain ⟨v0, hcell⟩ := hcell
      have hfr : wr.frozen? ⟨w.heap.size, q, none⟩ = false := by simp [World.frozen?, hblk]
      have h7 := and127 cur (by omega)
      have h8 := or128' cur
      have hset := drop_set (v := Value.int .u8 ((cur : Int) % 128 + 128)) (by omega) hdrop
      have hd' : digits N = dhi (cur / 128) ++ (UInt8.ofNat (cur % 128 + 128) :: L) := by rw [hd, dhi_pos h0]; simp
      have HD := Lib.hid hd'
      have HS := Lib.hid hset
      have HL := Lib.hid hL
      have HC := Lib.hid hcs
      have HB := Lib.hid (blk_set hblk q (Value.int .u8 ((cur : Int) % 128 + 128)))
      clear hd hd' hset hL hdrop hcs hblk hr HN
      go_wp2_with fail
      have hp : cur / 128 < 128 ^ q := by rw [Nat.div_lt_iff_lt_mul (by omega)]; rw [Nat.pow_succ] at hlt; exact hlt
      refine ⟨⟨cur / 128, q, UInt8.ofNat (cur % 128 + 128) :: L, _, by go_num, rfl, by omega, by omega, hp, HD.out, by rw [List.length_cons, HL.out]; omega, HB.out, by rw [Array.size_setIfInBounds]; exact HC.out, ?_, hb.setCell (Nat.le_refl _) _⟩, ?_⟩
      · rw [HS.out, List.map_cons]
        congr 1
        simp [u8v, Nat.mod_eq_of_lt (show cur % 128 + 128 < 256 by omega)]
      · simp [intOf]; omega
    · obtain rfl : cur = 0 := by omega
      rw [dhi_zero, List.nil_append] at hd
      subst hd
      have hi1 : (0 : Int) ≤ (at_ : Int) := by omega
      have hi2 : (at_ : Int) ≤ 9 := by omega
      have HL := Lib.hid hL
      have HD := Lib.hid hdrop
      have HC := Lib.hid hcs
      have HB := Lib.hid hblk
      clear hL hdrop hcs hblk
      go_wp2_with fail
      have hp : RdP (wr.alloc (.cells #[.slice A m cap, .slice (some ⟨w.heap.size, at_, none⟩) (9 - at_) (9 - at_)] 32)) (wr.heap.size + 1) (some ⟨wr.heap.size, 0, none⟩) 2
          [⟨A, m, cap, l⟩, ⟨some ⟨w.heap.size, at_, none⟩, 9 - at_, 9 - at_, digits N⟩] := by
        refine ⟨Rd.new rfl (by simp) (by simp [Part.val]), fun p hp => ?_⟩
        simp only [List.mem_cons, List.not_mem_nil, or_false] at hp
        have hs := hb.size
        rcases hp with rfl | rfl
        · exact Rd.alloc (Rd.below' hr hb hB (Nat.le_refl _)) _ (by omega) (by omega)
        · refine Rd.alloc (B := w.heap.size + 1) (Rd.of_off HB.out (by omega) (by rw [List.length_map, HL.out]; simp) HD.out) _ ?_ ?_
          · have := (Array.getElem?_eq_some_iff.1 HB.out).1; omega
          · have := (Array.getElem?_eq_some_iff.1 HB.out).1; omega
      have hlen : l.length = m := RdB.len hr
      refine (join_any _ _ _ _ _ _ (by simp) (by simp [total, HL.out]; omega) (by omega) hp).mono ?_
      rintro e w2 ⟨A2, c2, rfl, hown, hb2⟩
      have hj : (joined [⟨A, m, cap, l⟩, ⟨some ⟨w.heap.size, at_, none⟩, 9 - at_, 9 - at_, digits N⟩]) = l ++ digits N := by simp [joined]
      rw [hj] at hown ⊢
      generalize hL2 : l ++ digits N = L2 at hown ⊢
      have HL2 := Lib.hid hL2
      have HO := Lib.hid hown
      have HB2 : Below w.heap.size w w2 := (hb.alloc hb.size _).trans (hb2.mono (by simp; have := hb.size; omega))
      clear hown hp hj hb2 hL2
      go_wp2_with fail
      go_ret
      rw [HL2.out]
      exact ⟨A2, c2, rfl, own_le HO.out (by simp; have := hb.size; omega), HB2⟩
end Go.Proofs.YtempkjnaahgbhaaGreatDoor
namespace Go.Proofs.YtempkjnaahgbhaaGreatDoor
open Go.RowKit

theorem strCells_map (s : ByteArray) : Lib.strCells s = s.data.toList.map u8v := rfl
section
variable {P : Program} (w : World)
/-- append(b, s...) at the operation. -/
theorem wpList_app_str {ops : Array Oper} {rest : List Oper} {o : Oper} {a : Act} {Q : Exit → Act → World → Prop} (hgd : o.guard = none) (sl x : Operand) (t u : TypeId)
    (ho : o.op = .call { callee := .builtin .append, args := #[sl, x], argTypes := #[t, u] })
    (base : Nat) (e : TypeId) (i : TypeInfo) (ht : P.underlying t = some (.slice e)) (hu : P.underlying u = some .string) (hi : P.info? e = some i) (hz : i.zero = some (.int .u8 0))
    (hsize : i.size = 1) (hby : i.bytes = 1)
    (A0 : Option Addr) (c0 : Nat) (l : List UInt8) (hs : a.eval sl = .slice A0 l.length c0) (hown : w.ownsRow base e 1 (.slice A0 l.length c0) l.length (l.map u8v)) (s : ByteArray) (hx : a.eval x = .string s)
    (h63 : l.length + s.size ≤ maxLen) (hbytes : l.length + s.size ≤ 140737488355328) (hbase : base ≤ w.heap.size)
    (h : ∀ A' c' w', w'.ownsRow base e 1 (.slice A' (l ++ s.data.toList).length c') (l ++ s.data.toList).length ((l ++ s.data.toList).map u8v) → w.grownBy w' (A0.map (·.block)) →
      wpList P ops Q rest (a.put o.dst (.slice A' (l ++ s.data.toList).length c')) w') : wpList P ops Q (o :: rest) a w := by
  refine Lib.wpList_append_own_string w hgd sl x t u ho base e i ht hu hi hz hsize hby _ l.length _ hs hown s hx h63 hbytes hbase ?_
  intro v' w' h2 h3 _
  have hlen : l.length + s.size = (l ++ s.data.toList).length := by simp
  rw [hlen, strCells_map, ← List.map_append] at h2
  have ob : ∀ (A : Option Addr) (k c : Nat), Value.ownBlock (.slice A k c) = A.map (·.block) := by intro A k c; cases A <;> rfl
  rw [ob] at h3
  rcases h2.2 with ⟨rfl, hnm⟩ | ⟨g, cap, cur, rfl, _⟩
  · have := h none 0 w'
    rw [hnm] at this h2
    exact this h2 h3
  · exact h _ _ w' h2 h3
end

set_option maxRecDepth 100000 in
set_option maxHeartbeats 400000 in
theorem text_any (A : Option Addr) (m cap B : Nat) (l : List UInt8) (s : ByteArray) (w : World) (hB : B ≤ w.heap.size) (hbig : m ≤ 35184372088832) (hs : s.size ≤ 35184372088832) (hr : RdB w B A m l) :
    Calls Tryz.prog 54 #[.slice A m cap, .string s] w (ResB w (l ++ digits s.size ++ s.data.toList)) := by
  obtain ⟨i0, hi0, hz0, hz1, hz2⟩ := info_parts Tryz.infoByte
  have hl := hr.len
  have hd := digits_len (n := s.size) (by omega)
  have hl2 : (l ++ digits s.size).length ≤ 35184372088900 := by rw [List.length_append]; omega
  have HL := Lib.hid hl
  clear hl hd
  go_enter Tryz.func54, Tryz.ntmps54
  go_wp2_with fail
  refine (number_nat _ _ _ _ _ _ _ hB hbig (by omega) hr).mono ?_
  rintro e w1 ⟨A1, c1, rfl, hown, hb⟩
  generalize hL1 : l ++ digits s.size = L1 at *
  have HL1 := Lib.hid hL1
  have HO := Lib.hid hown
  clear hown hL1
  go_wp2_with (at_builtin; refine wpList_app_str _ rfl (.tmp 8) (.tmp 9) _ _ rfl w.heap.size 5 i0 Tryz.underlying32 Tryz.underlying9 hi0 hz0 hz1 hz2 _ _ _ rfl HO.out _ rfl (by unfold maxLen; omega) (by omega) hb.size ?_; intro A2 c2 w2 hown2 hg2; generalize L1 ++ s.data.toList = L2 at *)
  go_ret
  exact ⟨A2, c2, rfl, hown2, below_app hb HO.out hg2 hb.size⟩

end Go.Proofs.YtempkjnaahgbhaaGreatDoor
