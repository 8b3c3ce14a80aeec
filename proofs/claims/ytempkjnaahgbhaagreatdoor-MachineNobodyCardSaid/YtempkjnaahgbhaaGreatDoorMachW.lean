/-
  The walks of a machine's New and Lookup. Conditions: voters that read as a list; the machine lies in memory as New made it.
-/
import Derived.Test.YtempkjnaahgbhaaGreatDoorMachM
import Derived.Test.YtempkjnaahgbhaaGreatDoorForest6
import Derived.Test.YtempkjnaahgbhaaGreatDoorStoreB
namespace Go.Proofs.YtempkjnaahgbhaaGreatDoor
open Go Go.RowKit Go.Maps

/-- What New leaves. -/
def ResNew (w : World) (vo : List Int) (e : Ending) (w' : World) : Prop :=
  (okV vo = true ∧ ∃ b, e = .returned (.tuple #[.pointer (some ⟨b, 0, none⟩), .int .i64 0]) ∧ MaAt w' b (fun k => w.heap.size ≤ k ∧ k < w'.heap.size) (Ma.new vo) ∧ Below w.heap.size w w') ∨
  (okV vo = false ∧ e = .returned (.tuple #[.pointer none, .int .i64 1]) ∧ Below w.heap.size w w')
set_option maxRecDepth 100000 in
set_option maxHeartbeats 2000000 in
theorem mnew_any (A : Option Addr) (n cap B : Nat) (vo : List Int) (w : World) (hB : B ≤ w.heap.size) (hbig : n ≤ 140737488355328) (hr : RdI w B A n vo) :
    Calls Tryz.prog 42 #[.slice A n cap] w (ResNew w vo) := by
  have hl := hr.len
  have HC : Hid (Calls Tryz.prog 60 #[.agg #[.int .i64 1, .int .i64 1, .slice A n cap, .slice none 0 0]] w fun e w' => e = .returned (.int .i64 (if okV vo then 0 else 60)) ∧ Below w.heap.size w w') := Lib.hid (vcheck1_any A n cap B vo w hB hbig hr)
  have HR := Lib.hid hr
  have HL := Lib.hid hl
  have HB0 := Lib.hid hB
  clear hr hl hB
  cases hok : okV vo with
  | false =>
    have HOK := Lib.hid hok
    have hc := HC.out
    rw [hok, if_neg Bool.false_ne_true] at hc
    have HC2 := Lib.hid hc
    clear hc hok
    go_enter Tryz.func42, Tryz.ntmps42
    go_wp2_with fail
    refine HC2.out.mono ?_
    rintro e w1 ⟨rfl, hb1⟩
    have HB1 := Lib.hid hb1
    clear hb1
    go_wp2_with fail
    go_ret2
    exact .inr ⟨HOK.out, rfl, HB1.out⟩
  | true =>
    have HOK := Lib.hid hok
    have hc := HC.out
    rw [hok, if_pos rfl] at hc
    have HC2 := Lib.hid hc
    have hvl := okV_len hok
    obtain ⟨b0, off, hA⟩ : ∃ b off, A = some ⟨b, off, none⟩ := by
      obtain ⟨x, y, h, _, _⟩ := HR.out.at_ (k := 0) (by omega)
      exact ⟨x, y, h⟩
    subst hA
    have hvp : 0 < vo.length := by omega
    have hvn : vo.length ≤ 7 := hvl.2
    obtain rfl : vo.length = n := HL.out
    clear hc hok hvl
    go_enter Tryz.func42, Tryz.ntmps42
    go_wp2_with fail
    refine HC2.out.mono ?_
    rintro e w1 ⟨rfl, hb1⟩
    have HB1 := Lib.hid hb1
    clear hb1
    go_wp2_with fail
    refine (snew_any w1).mono ?_
    rintro e w2 ⟨s, sm, rfl, hst2, hb2⟩
    have HST2 := Lib.hid hst2
    have HB2 := Lib.hid hb2
    clear hst2 hb2
    go_wp2_with fail
    refine (tnew_any w2).mono ?_
    rintro e w3 ⟨t, tm, rfl, htb3, ht3, htm3, hb3⟩
    have HTB3 := Lib.hid htb3
    have HB3 := Lib.hid hb3
    clear htb3 hb3
    have HB13 : Hid (Below w.heap.size w w3) := Lib.hid ((HB1.out.trans (HB2.out.mono HB1.out.size)).trans (HB3.out.mono (Nat.le_trans HB1.out.size HB2.out.size)))
    go_wp2_with fail
    refine (cloneInts_any ⟨b0, off, none⟩ vo.length cap B vo w3 (by have := HB13.out.size; have := HB0.out; omega) (by omega) (Rd.below' HR.out HB13.out HB0.out (Nat.le_refl _))).mono ?_
    rintro e w4 ⟨A2, c2, rfl, hown4, hb4⟩
    obtain ⟨g, rfl, hg1, hg2⟩ := own_form hown4 hvp
    have HO4 := Lib.hid hown4
    have HB4 := Lib.hid hb4
    clear hown4 hb4
    go_wp2_with fail
    go_ret2
    have h1 := HB1.out.size
    have h2 := HB2.out.size
    have h3 := HB3.out.size
    have h4 := HB4.out.size
    have hlt := HST2.out.lt
    have htl := HTB3.out.lt
    have html := HTB3.out.ltm
    have hb5 : Below w4.heap.size w4 (w4.alloc (.cells #[.pointer (some ⟨s, 0, none⟩), .pointer (some ⟨t, 0, none⟩), .int .i64 0, .int .i64 0, .slice (some ⟨g, 0, none⟩) vo.length c2] 92 (0, 0))) := (Below.refl _ _).alloc (Nat.le_refl _) _
    have hb35 : Below w3.heap.size w3 (w4.alloc (.cells #[.pointer (some ⟨s, 0, none⟩), .pointer (some ⟨t, 0, none⟩), .int .i64 0, .int .i64 0, .slice (some ⟨g, 0, none⟩) vo.length c2] 92 (0, 0))) := HB4.out.trans (hb5.mono h4)
    have hb25 : Below w2.heap.size w2 (w4.alloc (.cells #[.pointer (some ⟨s, 0, none⟩), .pointer (some ⟨t, 0, none⟩), .int .i64 0, .int .i64 0, .slice (some ⟨g, 0, none⟩) vo.length c2] 92 (0, 0))) := HB3.out.trans (hb35.mono h3)
    refine .inl ⟨HOK.out, w4.heap.size, rfl, ⟨s, sm, t, tm, g, c2, fun k => w1.heap.size ≤ k ∧ k < w2.heap.size, ⟨heap_at rfl, HST2.out.below hb25 (Nat.le_refl _), HTB3.out.below hb35 (Nat.le_refl _), Rd.below' (Rd.of_own HO4.out) hb5 (Nat.le_refl _) (by simp), GrM.new HOK.out, ⟨by omega, by omega, by omega, by omega, by omega⟩, ⟨by omega, by omega, by omega, by omega⟩, ?_, ?_, fun k hk => hk.2⟩⟩, HB13.out.trans ((HB4.out.trans (hb5.mono h4)).mono HB13.out.size)⟩
    · simp only [World.size_alloc]
      omega
    · intro k hk
      simp only [World.size_alloc]
      omega

set_option maxRecDepth 100000 in
theorem mlook_any {w : World} {b : Nat} {S : Nat → Prop} {M : Ma} (h : MaAt w b S M) (x : Int) (hx : wfI x) :
    Calls Tryz.prog 48 #[.pointer (some ⟨b, 0, none⟩), .int .i64 x] w (ResBr w (lookT M.T x)) := by
  have HM := Lib.hid h
  obtain ⟨s, sm, t, tm, vb, c, SS, h⟩ := h
  have hc := blk_cell h.hp
  have HL := Lib.hid (lookup_any h.st x hx)
  clear h
  go_enter Tryz.func48, Tryz.ntmps48
  go_wp2_with fail
  refine (mmade_any HM.out).mono ?_
  rintro e w1 ⟨rfl, rfl⟩
  go_wp2_with fail
  refine HL.out.mono ?_
  rintro e w1 ⟨A, c1, rfl, hown, hb⟩
  go_wp2_with fail
  go_ret
  exact ⟨A, c1, rfl, hown, hb⟩
set_option maxRecDepth 100000 in
theorem mmadeNil_any (w : World) : Calls Tryz.prog 76 #[.pointer none] w fun e w' => e = .returned (.bool false) ∧ w = w' := by
  go_enter Tryz.func76, Tryz.ntmps76
  go_wp2_with fail
  go_ret
  exact ⟨rfl, rfl⟩
set_option maxRecDepth 100000 in
theorem mlookNil_any (w : World) (x : Int) :
    Calls Tryz.prog 48 #[.pointer none, .int .i64 x] w (ResBr w []) := by
  go_enter Tryz.func48, Tryz.ntmps48
  go_wp2_with fail
  refine (mmadeNil_any w).mono ?_
  rintro e w1 ⟨rfl, rfl⟩
  go_wp2_with fail
  go_ret
  exact ⟨none, 0, rfl, World.ownsRow_nil _ _ _ _, Below.refl _ _⟩
end Go.Proofs.YtempkjnaahgbhaaGreatDoor
