/-
  The walk of the law StoreForm: the Go text answers true. Condition: the bytes read as a list.
-/
import Derived.Test.YtdjcifeoplgkpaaLoad07
import Derived.Test.YtdjcifeoplgkpaaActs07
import Derived.Test.YtdjcifeoplgkpaaStdB
namespace Go.Proofs.Ytdjcifeoplgkpaa
open Go Go.RowKit Go.Maps

theorem loadA_img {l : List UInt8} {T : List Tr} (h : loadA l = some T) : imgT T = l := by
  unfold loadA at h
  generalize loadL l (scNum l 0 0).1 [] (scNum l 0 0).2.1 (scNum l 0 0).2.2 = r at h
  cases r with
  | none => cases h
  | some t =>
    obtain ⟨T2, a, e⟩ := t
    simp only [loadFin] at h
    by_cases hc : scEnd l a e = 0 ∧ imgT T2 = l
    · rw [if_pos hc] at h; cases h; exact hc.2
    · rw [if_neg hc] at h; cases h
theorem run_eql_ptr_nil (W : World) (s : Nat) : (binOp .eql 25 (.pointer (some ⟨s, 0, none⟩)) (.pointer none)).run Try.prog W = .ok (.bool false) W := by go_simp

set_option maxRecDepth 100000 in
set_option maxHeartbeats 2000000 in
theorem storeForm_any (A : Option Addr) (n cap B : Nat) (l : List UInt8) (w : World) (hB : B ≤ w.heap.size) (hr : RdB w B A n l) :
    Calls Try.prog 9 #[.slice A n cap] w fun e w' => e = .returned (.bool true) ∧ Below w.heap.size w w' := by
  have hlen := hr.len
  subst hlen
  have HR := Lib.hid hr
  clear hr
  by_cases hbig : (65536 : Int) < (l.length : Int)
  · go_enter Try.func9, Try.ntmps9
    go_wp2_with fail
    refine (awake7_any _).mono ?_
    rintro e w2 ⟨rfl, hb2⟩
    go_wp2_with fail
    go_ret
    exact ⟨rfl, hb2⟩
  · have HL := Lib.hid (load_any A l.length cap B l w hB (by omega) HR.out)
    go_enter Try.func9, Try.ntmps9
    go_wp2_with fail
    refine HL.out.mono ?_
    rintro e w1 ⟨hb1, hres⟩
    have HB1 := Lib.hid hb1
    clear hb1 HL
    cases hla : loadA l with
    | none =>
      rw [hla] at hres
      obtain rfl : e = .returned (.tuple #[.pointer none, .int .i64 70]) := hres
      clear hla
      go_wp2_with fail
      refine (awake7_any _).mono ?_
      rintro e w2 ⟨rfl, hb2⟩
      go_wp2_with fail
      go_ret
      exact ⟨rfl, below_via HB1.out hb2 HB1.out.size⟩
    | some T =>
      rw [hla] at hres
      obtain ⟨s, m, he, hst⟩ : ∃ s m, e = .returned (.tuple #[.pointer (some ⟨s, 0, none⟩), .int .i64 0]) ∧ St w1 s m T (fun k => w.heap.size ≤ k ∧ k < w1.heap.size) := hres
      subst he
      have HST := Lib.hid hst
      have himg := image_any hst
      rw [loadA_img hla] at himg
      have HIM := Lib.hid himg
      clear hst hla himg
      go_wp2_with fail
      refine HIM.out.mono ?_
      rintro e w2 ⟨A2, c2, rfl, hown2, hb2⟩
      have HO2 := Lib.hid hown2
      have HB2 : Hid (Below w.heap.size w w2) := Lib.hid (HB1.out.trans (hb2.mono HB1.out.size))
      have HR2 : Hid (RdB w2 B A l.length l) := Lib.hid (Rd.below' HR.out HB2.out hB (Nat.le_refl _))
      clear hown2 hb2
      go_wp2_with fail
      refine (bytesEqual_any _ _ _ _ _ _ _ _ l l _ (Rd.of_own HO2.out) HR2.out).mono ?_
      rintro e w3 ⟨q, rfl, hq, m3, rfl⟩
      obtain rfl : q = true := hq.2 rfl
      clear hq
      go_wp2_with fail
      refine (awake7_any _).mono ?_
      rintro e w4 ⟨rfl, hb4⟩
      go_wp2_with fail
      go_ret
      exact ⟨rfl, below_via (below_dN HB2.out m3) hb4 HB2.out.size⟩
end Go.Proofs.Ytdjcifeoplgkpaa
