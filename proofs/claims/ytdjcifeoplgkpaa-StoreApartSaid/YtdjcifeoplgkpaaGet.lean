/-
  The walk of span.Get: the spans of which some bytes are. Condition: the bytes read as a list of at most 2^32.
-/
import Derived.Test.YtdjcifeoplgkpaaTake
import Derived.Test.YtdjcifeoplgkpaaPut
namespace Go.Proofs.Ytdjcifeoplgkpaa
open Go.RowKit

/-- The spans that are read one behind the other. -/
def getLoop (l : List UInt8) : Nat → List Sp → Nat → Int → Option (List Sp × Nat × Int)
  | 0, acc, at_, err => some (acc, at_, err)
  | k + 1, acc, at_, err =>
    if (scTake l at_ err).2.2 = 0 ∧ (scTake l at_ err).1.ok = true then getLoop l k (acc ++ [(scTake l at_ err).1]) (scTake l at_ err).2.1 (scTake l at_ err).2.2 else none
def getFin (l : List UInt8) : Option (List Sp × Nat × Int) → List Sp × Int
  | none => ([], 30)
  | some (sps, at_, err) => if scEnd l at_ err = 0 then (sps, 0) else ([], 30)
/-- The answer of Get. -/
def getAns (l : List UInt8) : List Sp × Int := getFin l (getLoop l (scNum l 0 0).1 [] (scNum l 0 0).2.1 (scNum l 0 0).2.2)

theorem rdNum_pos : ∀ (l : List UInt8) (i n : Nat), (rdNum i n l).2.2 = 0 → 1 ≤ (rdNum i n l).2.1 := by
  intro l
  induction l with
  | nil => intro i n h; simp [rdNum] at h
  | cons x r ih =>
    intro i n h
    rw [rdNum] at h ⊢
    by_cases h1 : i = 0 ∧ x.toNat = 128
    · rw [if_pos h1] at h; simp at h
    · rw [if_neg h1] at h ⊢
      by_cases h2 : i = 9
      · rw [if_pos h2] at h; simp at h
      · rw [if_neg h2] at h ⊢
        by_cases h3 : x.toNat < 128
        · rw [if_pos h3]; simp
        · rw [if_neg h3] at h ⊢; exact ih _ _ h
theorem scNum_err {l : List UInt8} {at_ : Nat} {err : Int} (h : (scNum l at_ err).2.2 = 0) : err = 0 ∧ at_ + 1 ≤ (scNum l at_ err).2.1 := by
  unfold scNum at h ⊢
  by_cases he : err = 0
  · rw [if_pos he] at h ⊢
    have := rdNum_pos _ _ _ h
    exact ⟨he, by simp; omega⟩
  · rw [if_neg he] at h; exact absurd h he
theorem scText_err {most : Nat} {l : List UInt8} {at_ : Nat} {err : Int} (h : (scText most l at_ err).2.2 = 0) : (scNum l at_ err).2.2 = 0 ∧ at_ + 1 ≤ (scText most l at_ err).2.1 := by
  rw [scText_eq] at h ⊢
  by_cases h1 : (scNum l at_ err).2.2 ≠ 0
  · rw [if_pos h1] at h; exact absurd h h1
  · rw [if_neg h1] at h ⊢
    by_cases h2 : most < (scNum l at_ err).1
    · rw [if_pos h2] at h; simp at h
    · rw [if_neg h2] at h ⊢
      by_cases h3 : l.length - (scNum l at_ err).2.1 < (scNum l at_ err).1
      · rw [if_pos h3] at h; simp at h
      · rw [if_neg h3]
        have := scNum_err (l := l) (at_ := at_) (err := err) (by simpa using h1)
        exact ⟨by simpa using h1, by simp; omega⟩
theorem scText_len (most : Nat) (l : List UInt8) (at_ : Nat) (err : Int) : (scText most l at_ err).1.length ≤ most := by
  rw [scText_eq]
  by_cases h1 : (scNum l at_ err).2.2 ≠ 0
  · rw [if_pos h1]; simp
  · rw [if_neg h1]
    by_cases h2 : most < (scNum l at_ err).1
    · rw [if_pos h2]; simp
    · rw [if_neg h2]
      by_cases h3 : l.length - (scNum l at_ err).2.1 < (scNum l at_ err).1
      · rw [if_pos h3]; simp
      · rw [if_neg h3]; simp; omega
theorem scTake_err {l : List UInt8} {at_ : Nat} {err : Int} (h : (scTake l at_ err).2.2 = 0) : err = 0 ∧ at_ + 1 ≤ (scTake l at_ err).2.1 := by
  simp only [scTake] at h ⊢
  have h6 := scText_err h
  have h5 := scNum_err h6.1
  have h5' := scNum_err h5.1
  have h4 := scNum_err h5'.1
  have h3 := scNum_err h4.1
  have h2 := scNum_err h3.1
  have h1 := scNum_err h2.1
  exact ⟨h1.1, by omega⟩
theorem scTake_nm (l : List UInt8) (at_ : Nat) (err : Int) : (scTake l at_ err).1.nm.size ≤ 32 := by
  have h : ∀ a e, (⟨(scText 32 l a e).1.toArray⟩ : ByteArray).size ≤ 32 := fun a e => by
    have := scText_len 32 l a e
    simpa [ByteArray.size] using this
  exact h _ _

theorem own_fr {S : Nat → Prop} {w w' : World} {base : Nat} {e : TypeId} {size : Nat} {v : Value} {n : Nat} {xs : List Value} (h : w.ownsRow base e size v n xs) (hf : Fr S w w') (hS : ∀ k, S k → k < base) : w'.ownsRow base e size v n xs := by
  refine ⟨h.1, ?_⟩
  rcases h.2 with hn | ⟨g, cap, cur, hv, hb, hg, rest⟩
  · exact .inl hn
  · exact .inr ⟨g, cap, cur, hv, hb, (hf.block g (Array.getElem?_eq_some_iff.1 hg).1 (fun hs => by have := hS g hs; omega)).trans hg, rest⟩
/-- What a call leaves that answers spans and an error. -/
def ResSE (w : World) (r : List Sp × Int) (e : Ending) (w' : World) : Prop :=
  ∃ A c, e = .returned (.tuple #[.slice A r.1.length c, .int .i64 r.2]) ∧ w'.ownsRow w.heap.size 35 6 (.slice A r.1.length c) r.1.length (r.1.flatMap Sp.cells) ∧ Below w.heap.size w w'

set_option maxRecDepth 100000 in
set_option maxHeartbeats 1000000 in
theorem Get_any (A : Option Addr) (n cap B : Nat) (l : List UInt8) (w : World) (hB : B ≤ w.heap.size) (hbig : n ≤ 4294967296) (hr : RdB w B A n l) :
    Calls Try.prog 52 #[.slice A n cap] w (ResSE w (getAns l)) := by
  obtain ⟨i0, hi0, hz0, hz1, hz2⟩ := info_parts Try.infoSpan
  have hlen := hr.len
  subst hlen
  have HG : Hid (getAns l = getFin l (getLoop l (scNum l 0 0).1 [] (scNum l 0 0).2.1 (scNum l 0 0).2.2)) := Lib.hid rfl
  go_enter Try.func52, Try.ntmps52
  go_wp2_with fail
  refine (over_any _ _ _ _ _ _ hB (by omega) hr).mono ?_
  rintro e w1 ⟨sb, pb, A1, c1, rfl, hpb, hs1, hb1⟩
  have HS1 := Lib.hid hs1
  have hsb : pb < sb := hs1.lt
  clear hs1
  go_wp2_with fail
  refine (scanNumber_any HS1.out).mono ?_
  rintro e w2 ⟨rfl, hs2, hf2⟩
  have hb2 : Below w.heap.size w w2 := hb1.trans (hf2.below hb1.size (fun k hk => by rcases hk with rfl | rfl <;> omega))
  have hNb := scNum_bound l 0 0
  generalize scNum l 0 0 = q at *
  obtain ⟨N, a2, e2⟩ := q
  dsimp only at hs2 HG hNb ⊢
  have HS2 := Lib.hid hs2
  clear hs2 hf2 hb1 HS1 hr
  go_wp2_with fail
  go_loopw [6, 13] (fun v i wr => ∃ (k : Nat) (acc : List Sp) (at_ : Nat) (err : Int) (A' : Option Addr) (c : Nat), k ≤ N ∧ i = .int .i64 k ∧ v = .slice A' acc.length c ∧
      wr.ownsRow (sb + 1) 35 6 (.slice A' acc.length c) acc.length (acc.flatMap Sp.cells) ∧ ScanAt wr sb pb A1 c1 l at_ err ∧ Below w.heap.size w wr ∧ getLoop l N [] a2 e2 = getLoop l (N - k) acc at_ err ∧ acc.length ≤ at_) (fun _ i _ => N - (intOf i).toNat)
  case atStart => exact ⟨0, [], a2, e2, none, 0, by omega, rfl, rfl, World.ownsRow_nil _ _ _ _, HS2.out, hb2, rfl, by simp⟩
  case round =>
    obtain ⟨k, acc, at_, err, A', c, hk, rfl, rfl, hown, hs, hb, hg, hacc⟩ := hrel
    have HG2 := Lib.hid hg
    have HO := Lib.hid hown
    have hal := hs.le
    have HS := Lib.hid hs
    have hsz := hb.size
    have hsbw := hs.sb_lt
    clear hg hown hs hb2 HS2
    by_cases hlt : k < N
    · obtain ⟨m, hm⟩ : ∃ m, N - k = m + 1 := ⟨N - k - 1, by omega⟩
      have hstep : getLoop l (N - k) acc at_ err = if (scTake l at_ err).2.2 = 0 ∧ (scTake l at_ err).1.ok = true then getLoop l m (acc ++ [(scTake l at_ err).1]) (scTake l at_ err).2.1 (scTake l at_ err).2.2 else none := by rw [hm]; rfl
      have hterr := @scTake_err l at_ err
      have hnm := scTake_nm l at_ err
      have hmk : N - (k + 1) = m := by omega
      go_wp2_with fail
      refine (take_any HS.out).mono ?_
      rintro e w3 ⟨rfl, hs3, hf3⟩
      generalize scTake l at_ err = t at *
      obtain ⟨s, a3, e3⟩ := t
      dsimp only at hs3 hstep hterr hnm ⊢
      have HS3 := Lib.hid hs3
      have HST := Lib.hid hstep
      have hb3 : Below w.heap.size w w3 := hb.trans (hf3.below hsz (fun k hk => by rcases hk with rfl | rfl <;> omega))
      have HO3 := Lib.hid (own_fr HO.out hf3 (fun k hk => by rcases hk with rfl | rfl <;> omega))
      have hsz3 := hb3.size
      have hsb3 := hs3.sb_lt
      have HE := Lib.hid hterr
      have HM := Lib.hid hmk
      have HM2 := Lib.hid hm
      clear hs3 hstep hf3 HS HO hterr hmk hm
      go_wp2_with fail
      have hs4 := HS3.out.below ((Below.refl w3.heap.size w3).alloc (Nat.le_refl _) (.cells #[.int .i64 s.tr, .int .i64 s.id, .int .i64 s.pa, .int .i64 s.st, .int .i64 s.en, .string s.nm] 35)) hsb3
      have HS4 := Lib.hid hs4
      clear hs4
      refine (err_any HS4.out).mono ?_
      rintro e w' ⟨rfl, rfl⟩
      by_cases he3 : e3 = 0
      · subst he3
        go_wp2_with fail
        refine (check_any s _ (by omega)).mono ?_
        rintro e w4 ⟨rfl, hb4⟩
        have hB4 := blk_cell (blk_below hb4 (by simp) (heap_alloc_new w3 _))
        have hb4' : Below w3.heap.size w3 w4 := ((Below.refl _ _).alloc (Nat.le_refl _) _).trans (hb4.mono (by simp))
        have hz4 : w3.heap.size < w4.heap.size := by have := hb4.size; simp at this; omega
        have hsb4 : sb < w4.heap.size := by omega
        have HS5 := Lib.hid (HS3.out.below hb4' hsb3)
        have HO5 := Lib.hid (own_below HO3.out hb4')
        have hb5 := hb3.trans (hb4'.mono hsz3)
        have hsz5 := hb5.size
        have HEE := Lib.hid (HE.out (by trivial))
        have hacc2 : acc.length + 1 ≤ 4294967297 := by omega
        have hal3 := HS3.out.le
        clear hb4 hb4' HS4
        cases hok : s.ok
        · have HF : Hid (getLoop l (N - k) acc at_ err = none) := Lib.hid (by rw [HST.out, if_neg (by simp [hok])])
          rw [Sp.check_f hok]
          clear hok
          go_wp2_with fail
          go_ret2
          rw [HG.out, HG2.out, HF.out]
          exact ⟨none, 0, rfl, World.ownsRow_nil _ _ _ _, hb5⟩
        · have HF : Hid (getLoop l (N - k) acc at_ err = getLoop l m (acc ++ [s]) a3 0) := Lib.hid (by rw [HST.out, if_pos ⟨by trivial, hok⟩])
          rw [Sp.check_t hok]
          clear hok
          go_wp2_with (at_builtin; refine wpList_app _ rfl (.tmp 25) (.tmp 27) _ rfl (sb + 1) 35 i0 _ 6 56 Try.underlying31 hi0 hz0 hz1 hz2 rfl (by omega) _ _ _ _ rfl (HO5.out.alloc _) (w4.heap.size + 1) _ 1 _ s.cells rfl (Rd.new (by simp) rfl (by intro j hj; simp [Sp.cells] at hj; match j, hj with | 0, _ => rfl | 1, _ => rfl | 2, _ => rfl | 3, _ => rfl | 4, _ => rfl | 5, _ => rfl)) (by have := cells_oneCell [s]; simpa using this) (by unfold maxLen; omega) (by omega) (by simp; omega) ?_; intro A6 c6 w6 hown6 hg6 _)
          have hs5 := HS5.out.below ((Below.refl w4.heap.size w4).alloc (Nat.le_refl _) (.cells #[.int .i64 s.tr, .int .i64 s.id, .int .i64 s.pa, .int .i64 s.st, .int .i64 s.en, .string s.nm] 35)) hsb4
          have hB6 := below_app (Below.refl (sb + 1) _) (HO5.out.alloc _) hg6 (by simp; omega)
          have hW6 := below_app (b := w.heap.size) (hb5.alloc hsz5 _) (own_le (HO5.out.alloc _) (by omega)) hg6 (by simp; omega)
          have hcl : (acc ++ [s]).flatMap Sp.cells = acc.flatMap Sp.cells ++ s.cells := by simp
          have hln : (acc ++ [s]).length = acc.length + 1 := by simp
          go_roundw
          case rel =>
            refine ⟨k + 1, acc ++ [s], a3, 0, A6, c6, by omega, by go_num, by rw [hln], ?_, hs5.below hB6 (by omega), hW6, by rw [HG2.out, HF.out, HM.out], by have := HEE.out.2; rw [hln]; omega⟩
            rw [hln, hcl]; exact hown6
          case measure => simp [intOf]; omega
      · have hbe : (e3 != 0) = true := by simpa using he3
        have HF : Hid (getLoop l (N - k) acc at_ err = none) := Lib.hid (by rw [HST.out, if_neg (by simp [he3])])
        clear he3
        go_wp2_with fail
        go_ret2
        rw [HG.out, HG2.out, HF.out]
        exact ⟨none, 0, rfl, World.ownsRow_nil _ _ _ _, hb3.alloc hsz3 _⟩
    · have hk0 : N - k = 0 := by omega
      have HF : Hid (getLoop l (N - k) acc at_ err = some (acc, at_, err)) := Lib.hid (by rw [hk0]; rfl)
      clear hk0
      go_wp2_with fail
      refine (scanEnd_any HS.out).mono ?_
      rintro e w3 ⟨rfl, hs3, hf3⟩
      have hb3 : Below w.heap.size w w3 := hb.trans (hf3.below hsz (fun k hk => by rcases hk with rfl | rfl <;> omega))
      have HO3 := Lib.hid (own_fr HO.out hf3 (fun k hk => by rcases hk with rfl | rfl <;> omega))
      have HFin : Hid (getAns l = if scEnd l at_ err = 0 then (acc, 0) else ([], 30)) := Lib.hid (by rw [HG.out, HG2.out, HF.out]; rfl)
      generalize scEnd l at_ err = ee at *
      clear hs3 hf3 HS HO
      by_cases he : ee = 0
      · subst he
        go_wp2_with fail
        go_ret2
        rw [HFin.out, if_pos (by trivial)]
        exact ⟨A', c, rfl, own_le HO3.out (by omega), hb3⟩
      · have hbe : (ee != 0) = true := by simpa using he
        have HN := Lib.hid he
        clear he
        go_wp2_with fail
        go_ret2
        rw [HFin.out, if_neg HN.out]
        exact ⟨none, 0, rfl, World.ownsRow_nil _ _ _ _, hb3⟩
end Go.Proofs.Ytdjcifeoplgkpaa
