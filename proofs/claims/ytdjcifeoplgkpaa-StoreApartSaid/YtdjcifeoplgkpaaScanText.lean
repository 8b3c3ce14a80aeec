/-
  The walks of a Scan's Text and End, and of Over. Conditions: the Scan lies in memory as Over made it.
-/
import Derived.Test.YtdjcifeoplgkpaaScanNum
namespace Go.Proofs.Ytdjcifeoplgkpaa
open Go.RowKit

/-- string(b) of a slice that reads as l. -/
theorem run_conv_bs {P : Program} {w : World} {src dst e : TypeId} (hs : P.underlying src = some (.slice e)) (he : P.underlying e = some (.int .u8)) (hd : P.underlying dst = some .string) {B n : Nat} {A : Option Addr} {l : List UInt8} (h : RdB w B A n l) (c : Nat) :
    (convert src dst (.slice A n c)).run P w = .ok (.string ⟨l.toArray⟩) w := by
  have hl := h.len
  subst hl
  rcases A with _ | a
  · have h0 : l.length = 0 := by
      rcases Nat.eq_zero_or_pos l.length with h0 | h0
      · exact h0
      · obtain ⟨b, off, e, _⟩ := h.2 h0; cases e
    obtain rfl : l = [] := List.eq_nil_of_length_eq_zero h0
    rw [run_convert_bytes_string w src dst e _ _ _ hs he hd]
    simp [Conv.bytesToString, Sem.run_pure]
    rfl
  · refine run_convert_bytes_back w src dst e a c l hs he hd fun j hj => ?_
    obtain ⟨b, off, e, _, hc⟩ := h.2 (by omega)
    injection e with e
    subst e
    rw [Addr.add_lit, hc j (by simpa using hj), List.getElem_map]
    rfl

/-- A Scan's state behind a call of Text. -/
def scText (most : Nat) (l : List UInt8) (at_ : Nat) (err : Int) : List UInt8 × Nat × Int :=
  if (scNum l at_ err).2.2 ≠ 0 then ([], at_, (scNum l at_ err).2.2)
  else if most < (scNum l at_ err).1 then ([], at_, 4)
  else if l.length - (scNum l at_ err).2.1 < (scNum l at_ err).1 then ([], at_, 2)
  else ((l.drop (scNum l at_ err).2.1).take (scNum l at_ err).1, (scNum l at_ err).2.1 + (scNum l at_ err).1, 0)
theorem scText_eq (most : Nat) (l : List UInt8) (at_ : Nat) (err : Int) : scText most l at_ err = if (scNum l at_ err).2.2 ≠ 0 then ([], at_, (scNum l at_ err).2.2)
  else if most < (scNum l at_ err).1 then ([], at_, 4)
  else if l.length - (scNum l at_ err).2.1 < (scNum l at_ err).1 then ([], at_, 2)
  else ((l.drop (scNum l at_ err).2.1).take (scNum l at_ err).1, (scNum l at_ err).2.1 + (scNum l at_ err).1, 0) := rfl
theorem scNum_stay {l : List UInt8} {at_ : Nat} {err : Int} (h : (scNum l at_ err).2.2 ≠ 0) : (scNum l at_ err).1 = 0 ∧ (scNum l at_ err).2.1 = at_ := by
  unfold scNum at h ⊢
  by_cases he : err = 0
  · rw [if_pos he] at h ⊢
    have := (rdNum_bound (l.drop at_) 0 0 (by simp) (by omega)).2.2.2 h
    exact ⟨this.1, by simp [this.2]⟩
  · rw [if_neg he]; exact ⟨rfl, rfl⟩
theorem scNum_bound (l : List UInt8) (at_ : Nat) (err : Int) : (scNum l at_ err).1 < 9223372036854775808 := by
  unfold scNum
  by_cases he : err = 0
  · rw [if_pos he]; exact (rdNum_bound (l.drop at_) 0 0 (by simp) (by omega)).1
  · rw [if_neg he]; simp

set_option maxRecDepth 100000 in
set_option maxHeartbeats 1000000 in
theorem scanText_any {w : World} {sb pb c at_ : Nat} {A : Option Addr} {l : List UInt8} {err : Int} (most : Nat) (hmost : most ≤ 1000000000000) (h : ScanAt w sb pb A c l at_ err) :
    Calls Try.prog 53 #[.pointer (some ⟨sb, 0, none⟩), .int .i64 most] w (ResSc w sb pb A c l (.string ⟨(scText most l at_ err).1.toArray⟩) (scText most l at_ err).2.1 (scText most l at_ err).2.2) := by
  have hc := blk_cell h.sc
  have hct := blk_cell h.st
  have hst := @scNum_stay l at_ err
  have hbd := scNum_bound l at_ err
  have HT := Lib.hid (scText_eq most l at_ err)
  have hle0 := h.le
  have HH := Lib.hid h
  clear h
  go_enter Try.func53, Try.ntmps53
  go_wp2_with (go_at_call 66; refine (made_any HH.out).mono ?_; rintro e w' ⟨rfl, rfl⟩)
  refine (scanNumber_any HH.out).mono ?_
  rintro e w1 ⟨rfl, hs1, hf1⟩
  clear hc hct
  generalize scNum l at_ err = q at *
  obtain ⟨n, at1, e1⟩ := q
  simp only at hst hbd HT hs1 ⊢
  have HS1 := Lib.hid hs1
  have hc1 := blk_cell hs1.sc
  have hct1 := blk_cell hs1.st
  have hfz := blk_frozen hs1.st 1
  have hle1 := hs1.le
  clear hs1
  by_cases he : e1 = 0
  · subst he
    by_cases h1 : most < n
    · have h1i : (most : Int) < (n : Int) := by omega
      have HH1 := Lib.hid h1
      clear h1 hst
      go_wp2_with fail
      refine (err_any HS1.out).mono ?_
      rintro e w' ⟨rfl, rfl⟩
      go_wp2_with fail
      refine (fail_any _ (HS1.out.setAt at_ hle0)).mono ?_
      rintro e w' ⟨rfl, rfl⟩
      go_wp2_with fail
      go_ret
      rw [HT.out, if_neg (by simp), if_pos HH1.out]
      exact ⟨rfl, (HS1.out.setAt at_ hle0).setErr 4 (by omega), (hf1.setCell (.inr rfl) _).setCell (.inl rfl) _⟩
    · have h1i : ¬ (most : Int) < (n : Int) := by omega
      have HH1 := Lib.hid h1
      clear h1 hst
      by_cases h2 : l.length - at1 < n
      · have HH2 := Lib.hid h2
        go_wp2_with fail
        refine (err_any HS1.out).mono ?_
        rintro e w' ⟨rfl, rfl⟩
        go_wp2_with fail
        refine (left_any HS1.out).mono ?_
        rintro e w' ⟨rfl, nq, rfl⟩
        have h2i : ((l.length - at1 : Nat) : Int) < (n : Int) := by omega
        have HD := Lib.hid (HS1.out.drewN nq)
        have hc2 : ∀ j, (w1.drewN nq).cell? ⟨sb, j, none⟩ = _ := blk_cell HD.out.sc
        have hct2 : ∀ j, (w1.drewN nq).cell? ⟨pb, j, none⟩ = _ := blk_cell HD.out.st
        have hfz2 := blk_frozen HD.out.st 1
        have hf2 := hf1.drewN nq
        clear h2 hc1 hct1 hfz
        generalize w1.drewN nq = w2 at *
        go_wp2_with fail
        refine (fail_any _ (HD.out.setAt at_ hle0)).mono ?_
        rintro e w' ⟨rfl, rfl⟩
        go_wp2_with fail
        go_ret
        rw [HT.out, if_neg (by simp), if_neg HH1.out, if_pos HH2.out]
        exact ⟨rfl, (HD.out.setAt at_ hle0).setErr 2 (by omega), (hf2.setCell (.inr rfl) _).setCell (.inl rfl) _⟩
      · have HH2 := Lib.hid h2
        go_wp2_with fail
        refine (err_any HS1.out).mono ?_
        rintro e w' ⟨rfl, rfl⟩
        go_wp2_with fail
        refine (left_any HS1.out).mono ?_
        rintro e w' ⟨rfl, nq, rfl⟩
        have h2i : ¬ ((l.length - at1 : Nat) : Int) < (n : Int) := by omega
        have HD := Lib.hid (HS1.out.drewN nq)
        have hc2 : ∀ j, (w1.drewN nq).cell? ⟨sb, j, none⟩ = _ := blk_cell HD.out.sc
        have hct2 : ∀ j, (w1.drewN nq).cell? ⟨pb, j, none⟩ = _ := blk_cell HD.out.st
        have hfz2 := blk_frozen HD.out.st 1
        have hf2 := hf1.drewN nq
        have hsum : (at1 : Int) + (n : Int) ≤ 70368744177664 := by have := HS1.out.len; omega
        clear h2 hc1 hct1 hfz
        generalize w1.drewN nq = w2 at *
        go_wp2_with fail
        have HD3 := HD.out.setAt (at1 + n) (by omega)
        rw [show (((at1 + n : Nat)) : Int) = (at1 : Int) + (n : Int) by omega] at HD3
        have hf3 := hf2.setCell (p := ⟨pb, 1, none⟩) (.inr rfl) (.int .i64 ((at1 : Int) + (n : Int)))
        clear hc2 hct2 hfz2 hf2
        generalize w2.setCell ⟨pb, 1, none⟩ (.int .i64 ((at1 : Int) + (n : Int))) = w3 at *
        have hc3 : ∀ j, w3.cell? ⟨sb, j, none⟩ = _ := blk_cell HD3.sc
        have hct3 : ∀ j, w3.cell? ⟨pb, j, none⟩ = _ := blk_cell HD3.st
        have hrd : RdB w3 pb (cutA A c at1 1) n ((l.drop at1).take n) := by
          have h1 := (Rd.cut HD3.rd hle1 HD3.cap).take (k := n) (by omega)
          rw [RdB, List.map_take, List.map_drop]
          simpa [cutA] using h1
        have hcv := fun (k : Nat) => run_conv_bs (P := Try.prog) (w := w3.drewN k) Try.underlying27 Try.underlying5 Try.underlying9 (show RdB (w3.drewN k) pb _ n _ from hrd) (c - at1)
        have hb1 : (0 : Int) ≤ (at1 : Int) := by omega
        have hb2 : (at1 : Int) ≤ (at1 : Int) + (n : Int) := by omega
        have hb3 : (at1 : Int) + (n : Int) ≤ (c : Int) := by have := HD3.cap; omega
        have HD4 := Lib.hid HD3
        clear HD3 hrd
        by_cases hca : c = at1
        · have hcu : cutA A c at1 1 = A := by simp [cutA, hca]
          rw [hcu] at hcv
          subst hca
          obtain rfl : n = 0 := by omega
          simp only [Nat.sub_self] at hcv
          go_quiet (fail)
          go_wp2_with fail
          go_ret
          rw [HT.out, if_neg (by simp), if_neg HH1.out, if_neg HH2.out]
          exact ⟨rfl, HD4.out.drewN _, hf3.drewN _⟩
        · have hcu : cutA A c at1 1 = A.map (·.add at1) := by simp [cutA, hca]
          rw [hcu] at hcv
          go_quiet (fail)
          go_wp2_with fail
          go_ret
          rw [HT.out, if_neg (by simp), if_neg HH1.out, if_neg HH2.out]
          exact ⟨rfl, HD4.out.drewN _, hf3.drewN _⟩
  · have hb : (e1 != 0) = true := by simpa using he
    obtain ⟨rfl, rfl⟩ := hst he
    have HE := Lib.hid he
    clear he hst
    go_wp2_with (go_at_call 51; refine (err_any HS1.out).mono ?_; rintro e w' ⟨rfl, rfl⟩)
    go_ret
    rw [HT.out, if_pos HE.out]
    exact ⟨rfl, HS1.out, hf1⟩

/-- A Scan's error behind a call of End. -/
def scEnd (l : List UInt8) (at_ : Nat) (err : Int) : Int := if err = 0 ∧ at_ < l.length then 3 else err
set_option maxRecDepth 100000 in
set_option maxHeartbeats 1000000 in
theorem scanEnd_any {w : World} {sb pb c at_ : Nat} {A : Option Addr} {l : List UInt8} {err : Int} (h : ScanAt w sb pb A c l at_ err) :
    Calls Try.prog 54 #[.pointer (some ⟨sb, 0, none⟩)] w (ResSc w sb pb A c l (.int .i64 (scEnd l at_ err)) at_ (scEnd l at_ err)) := by
  have HH := Lib.hid h
  have hlen := h.len
  clear h
  by_cases he : err = 0
  · subst he
    by_cases hlt : at_ < l.length
    · have HS : Hid (scEnd l at_ 0 = 3) := Lib.hid (by simp [scEnd, hlt])
      have hi : (0 : Int) < ((l.length - at_ : Nat) : Int) := by omega
      go_enter Try.func54, Try.ntmps54
      go_wp2_with fail
      refine (err_any HH.out).mono ?_
      rintro e w' ⟨rfl, rfl⟩
      go_wp2_with fail
      refine (left_any HH.out).mono ?_
      rintro e w' ⟨rfl, nq, rfl⟩
      have HD := Lib.hid (HH.out.drewN nq)
      have hf2 := (Fr.refl (SP sb pb) w).drewN nq
      generalize w.drewN nq = w2 at *
      go_wp2_with fail
      refine (fail_any _ HD.out).mono ?_
      rintro e w' ⟨rfl, rfl⟩
      go_wp2_with fail
      refine (err_any (HD.out.setErr 3 (by omega))).mono ?_
      rintro e w' ⟨rfl, rfl⟩
      go_wp2_with fail
      go_ret
      rw [ResSc, HS.out]
      exact ⟨rfl, HD.out.setErr 3 (by omega), hf2.setCell (.inl rfl) _⟩
    · have HS : Hid (scEnd l at_ 0 = 0) := Lib.hid (by simp [scEnd, hlt])
      have hi : ((l.length - at_ : Nat) : Int) = 0 := by omega
      go_enter Try.func54, Try.ntmps54
      go_wp2_with fail
      refine (err_any HH.out).mono ?_
      rintro e w' ⟨rfl, rfl⟩
      go_wp2_with fail
      refine (left_any HH.out).mono ?_
      rw [hi]
      clear hi
      rintro e w' ⟨rfl, nq, rfl⟩
      have HD := Lib.hid (HH.out.drewN nq)
      have hf2 := (Fr.refl (SP sb pb) w).drewN nq
      generalize w.drewN nq = w2 at *
      go_wp2_with fail
      refine (err_any HD.out).mono ?_
      rintro e w' ⟨rfl, rfl⟩
      go_wp2_with fail
      go_ret
      rw [ResSc, HS.out]
      exact ⟨rfl, HD.out, hf2⟩
  · have HS : Hid (scEnd l at_ err = err) := Lib.hid (by simp [scEnd, he])
    have hb : (err == 0) = false := by simpa using he
    clear he
    go_enter Try.func54, Try.ntmps54
    go_wp2_with fail
    refine (err_any HH.out).mono ?_
    rintro e w' ⟨rfl, rfl⟩
    go_wp2_with fail
    refine (err_any HH.out).mono ?_
    rintro e w' ⟨rfl, rfl⟩
    go_wp2_with fail
    go_ret
    rw [ResSc, HS.out]
    exact ⟨rfl, HH.out, Fr.refl _ _⟩

/-- What Over leaves. -/
def ResOver (w : World) (l : List UInt8) (e : Ending) (w' : World) : Prop :=
  ∃ sb pb A c, e = .returned (.pointer (some ⟨sb, 0, none⟩)) ∧ w.heap.size ≤ pb ∧ ScanAt w' sb pb A c l 0 0 ∧ Below w.heap.size w w'
theorem own_cap {w : World} {base : Nat} {e : TypeId} {size n c : Nat} {A : Option Addr} {xs : List Value} (h : w.ownsRow base e size (.slice A n c) n xs) : n ≤ c := by
  rcases h.2 with ⟨h0, h1⟩ | ⟨g, cap, cur, hv, _, _, hc, _⟩
  · omega
  · injection hv; omega
set_option maxRecDepth 100000 in
set_option maxHeartbeats 1000000 in
theorem over_any (A : Option Addr) (n cap B : Nat) (l : List UInt8) (w : World) (hB : B ≤ w.heap.size) (hbig : n ≤ 70368744177664) (hr : RdB w B A n l) :
    Calls Try.prog 49 #[.slice A n cap] w (ResOver w l) := by
  have hlen := hr.len
  subst hlen
  go_enter Try.func49, Try.ntmps49
  go_wp2_with fail
  have hp : RdP (w.alloc (.cells #[.slice A l.length cap] 27)) (w.heap.size + 1) (some ⟨w.heap.size, 0, none⟩) 1 [⟨A, l.length, cap, l⟩] := by
    refine ⟨Rd.new rfl (by simp) (by simp [Part.val]), fun p hp => ?_⟩
    simp only [List.mem_cons, List.not_mem_nil, or_false] at hp
    subst hp
    exact Rd.alloc hr _ hB (by omega)
  refine (join_any _ _ _ _ _ _ (by simp) (by simp [total]; omega) (by omega) hp).mono ?_
  rintro e w2 ⟨A2, c2, rfl, hown, hb2⟩
  rw [show joined [⟨A, l.length, cap, l⟩] = l from by simp [joined]] at hown ⊢
  have hb1 : Below w.heap.size w w2 := ((Below.refl _ _).alloc (Nat.le_refl _) _).trans (hb2.mono (by simp))
  have HO := Lib.hid hown
  have HP := Lib.hid (RdB.of_own hown)
  have hsz := hb1.size
  clear hown hp hb2 hr
  go_wp2_with fail
  go_ret
  refine ⟨w2.heap.size + 1, w2.heap.size, A2, c2, rfl, hsz, ⟨heap_at (by simp), ?_, by omega, own_cap HO.out, ?_, by omega, by omega, by omega⟩, (hb1.alloc hsz _).alloc (by simp; omega) _⟩
  · exact blk_below ((Below.refl _ _).alloc (Nat.le_refl _) _) (by simp) (heap_alloc_new w2 _)
  · exact (Rd.alloc HP.out _ (Nat.le_refl _) (Nat.le_refl _)).alloc _ (by simp) (Nat.le_refl _)
end Go.Proofs.Ytdjcifeoplgkpaa
