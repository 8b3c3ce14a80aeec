/-
  The walk of span.take: a span is read. Condition: the Scan lies in memory as Over made it.
  The walk of span.Get: the spans of which some bytes are. Condition: the bytes read as a list of at most 2^32.
  The plain law of the spans' bytes: what is put reads back, and what reads is what was put. Condition: numbers below 2^63.
-/
import Derived.Test.YtempkjnaahgbhaaGreatDoorScanText
import Derived.Test.YtempkjnaahgbhaaGreatDoorPut
import Derived.IntWalk
namespace Go.Proofs.YtempkjnaahgbhaaGreatDoor
open Go.RowKit

/-- A span that is read, the place behind it, the error. -/
def scTake (l : List UInt8) (at_ : Nat) (err : Int) : Sp × Nat × Int :=
  let q1 := scNum l at_ err
  let q2 := scNum l q1.2.1 q1.2.2
  let q3 := scNum l q2.2.1 q2.2.2
  let q4 := scNum l q3.2.1 q3.2.2
  let q5 := scNum l q4.2.1 q4.2.2
  let t := scText 32 l q5.2.1 q5.2.2
  (⟨q1.1, q2.1, q3.1, q4.1, if (1099511627776 : Int) < q5.1 then -1 else wrap64 (q4.1 + q5.1), ⟨t.1.toArray⟩⟩, t.2.1, t.2.2)
def sp0 : Array Value := #[.int .i64 0, .int .i64 0, .int .i64 0, .int .i64 0, .int .i64 0, .string ⟨#[]⟩]

theorem scTake_of {l tx : List UInt8} {at_ n1 n2 n3 n4 n5 a1 a2 a3 a4 a5 a6 : Nat} {err e1 e2 e3 e4 e5 e6 : Int} (h1 : scNum l at_ err = (n1, a1, e1)) (h2 : scNum l a1 e1 = (n2, a2, e2)) (h3 : scNum l a2 e2 = (n3, a3, e3)) (h4 : scNum l a3 e3 = (n4, a4, e4))
    (h5 : scNum l a4 e4 = (n5, a5, e5)) (ht : scText 32 l a5 e5 = (tx, a6, e6)) :
    scTake l at_ err = (⟨n1, n2, n3, n4, if (1099511627776 : Int) < n5 then -1 else wrap64 (n4 + n5), ⟨tx.toArray⟩⟩, a6, e6) := by
  simp only [scTake, h1, h2, h3, h4, h5, ht]
theorem fr_keep {S : Nat → Prop} {w w1 : World} {g : Nat} {o : Obj} (hf : Fr S w w1) (h : w.heap[g]? = some o) (hS : ¬ S g) : w1.heap[g]? = some o := (hf.block g (Array.getElem?_eq_some_iff.1 h).1 hS).trans h

set_option maxRecDepth 100000 in
set_option maxHeartbeats 1000000 in
theorem take_any {w : World} {sb pb c at_ : Nat} {A : Option Addr} {l : List UInt8} {err : Int} (h : ScanAt w sb pb A c l at_ err) :
    Calls Tryz.prog 111 #[.pointer (some ⟨sb, 0, none⟩)] w (ResSc w sb pb A c l (scTake l at_ err).1.val (scTake l at_ err).2.1 (scTake l at_ err).2.2) := by
  have hsb := h.sb_lt
  have hpb := h.lt
  have hz0 := h.below ((Below.refl w.heap.size w).alloc (Nat.le_refl _) (.cells sp0 30)) hsb
  have HZ0 := Lib.hid hz0
  have hnS : ¬ SP sb pb w.heap.size := by rintro (h | h) <;> omega
  clear hz0 h
  go_enter Tryz.func111, Tryz.ntmps111
  go_wp2_with fail
  refine (scanNumber_any HZ0.out).mono ?_
  rintro e w1 ⟨rfl, hs1, hf1⟩
  generalize hq1 : scNum l at_ err = q1 at hs1 ⊢
  obtain ⟨n1, a1, e1⟩ := q1
  dsimp only at hs1 ⊢
  have hb1 := scNum_bound l at_ err
  rw [hq1] at hb1
  have HQ1 := Lib.hid hq1
  have HS1 := Lib.hid hs1
  clear hq1 hs1
  go_wp2_with fail
  refine (scanNumber_any HS1.out).mono ?_
  rintro e w2 ⟨rfl, hs2, hf2⟩
  generalize hq2 : scNum l a1 e1 = q2 at hs2 ⊢
  obtain ⟨n2, a2, e2⟩ := q2
  dsimp only at hs2 ⊢
  have hb2 := scNum_bound l a1 e1
  rw [hq2] at hb2
  have HQ2 := Lib.hid hq2
  have HS2 := Lib.hid hs2
  clear hq2 hs2
  go_wp2_with fail
  refine (scanNumber_any HS2.out).mono ?_
  rintro e w3 ⟨rfl, hs3, hf3⟩
  generalize hq3 : scNum l a2 e2 = q3 at hs3 ⊢
  obtain ⟨n3, a3, e3⟩ := q3
  dsimp only at hs3 ⊢
  have hb3 := scNum_bound l a2 e2
  rw [hq3] at hb3
  have HQ3 := Lib.hid hq3
  have HS3 := Lib.hid hs3
  clear hq3 hs3
  go_wp2_with fail
  refine (scanNumber_any HS3.out).mono ?_
  rintro e w4 ⟨rfl, hs4, hf4⟩
  generalize hq4 : scNum l a3 e3 = q4 at hs4 ⊢
  obtain ⟨n4, a4, e4⟩ := q4
  dsimp only at hs4 ⊢
  have hb4 := scNum_bound l a3 e3
  rw [hq4] at hb4
  have HQ4 := Lib.hid hq4
  have HS4 := Lib.hid hs4
  clear hq4 hs4
  go_wp2_with fail
  have hf04 : Fr (SP sb pb) (w.alloc (.cells sp0 30)) w4 := ((hf1.trans hf2).trans hf3).trans hf4
  have hsz4 := hf04.size
  simp only [World.size_alloc] at hsz4
  have hR4 : w4.heap[w.heap.size]? = some (.cells sp0 30 (0, 0)) := fr_keep hf04 (heap_alloc_new w _) hnS
  have hsb4 : sb < w4.heap.size := HS4.out.sb_lt
  have hz4 := HS4.out.below ((Below.refl w4.heap.size w4).alloc (Nat.le_refl _) (.cells #[.int .i64 n1, .int .i64 n2, .int .i64 n3, .int .i64 n4, .int .i64 0, .string ⟨#[]⟩] 30)) hsb4
  refine (scanNumber_any hz4).mono ?_
  rintro e w5 ⟨rfl, hs5, hf5⟩
  generalize hq5 : scNum l a4 e4 = q5 at hs5 ⊢
  obtain ⟨n5, a5, e5⟩ := q5
  dsimp only at hs5 ⊢
  have hb5 := scNum_bound l a4 e4
  rw [hq5] at hb5
  have HQ5 := Lib.hid hq5
  have HS5 := Lib.hid hs5
  have hnS4 : ¬ SP sb pb w4.heap.size := by rintro (h | h) <;> omega
  have hB5 := fr_keep hf5 (heap_alloc_new w4 _) hnS4
  have hR5 := fr_keep hf5 (blk_below ((Below.refl w4.heap.size w4).alloc (Nat.le_refl _) _) (by omega) hR4) hnS
  have hfw5 : Fr (fun k => SP sb pb k) w w5 := by
    have h1 : Fr (SP sb pb) w (w.alloc (.cells sp0 30)) := Fr.of_below ((Below.refl _ _).alloc (Nat.le_refl _) _)
    exact ((h1.trans hf04).trans (Fr.of_below ((Below.refl w4.heap.size w4).alloc (Nat.le_refl _) _))).trans hf5
  have hsz5 := hf5.size
  simp only [World.size_alloc] at hsz5
  clear hq5 hs5 hf1 hf2 hf3 hf4 hf04 hf5 hz4 hR4 HS1 HS2 HS3 HS4 HZ0
  have hc5 := blk_cell hB5
  have hfz5 := fun j => blk_frozen hB5 j
  have HB5 := Lib.hid hB5
  have HR5 := Lib.hid hR5
  clear hB5 hR5
  go_wp2_with fail
  · have h5 : (1099511627776 : Int) < (n5 : Int) := by assumption
    have hB6 : ((w5.setCell ⟨w4.heap.size, 4, none⟩ (.int .i64 (wrap64 (n4 + n5)))).setCell ⟨w4.heap.size, 4, none⟩ (.int .i64 (-1))).heap[w4.heap.size]? = some (.cells #[.int .i64 n1, .int .i64 n2, .int .i64 n3, .int .i64 n4, .int .i64 (-1), .string ⟨#[]⟩] 30 (0, 0)) := blk_set (blk_set HB5.out 4 _) 4 _
    have hR6 : ((w5.setCell ⟨w4.heap.size, 4, none⟩ (.int .i64 (wrap64 (n4 + n5)))).setCell ⟨w4.heap.size, 4, none⟩ (.int .i64 (-1))).heap[w.heap.size]? = some (.cells sp0 30 (0, 0)) := (Below.heap_setCell _ _ _ _ (by simp; omega)).trans ((Below.heap_setCell _ _ _ _ (by simp; omega)).trans HR5.out)
    have hF6 : Fr (SP sb pb) w ((w5.setCell ⟨w4.heap.size, 4, none⟩ (.int .i64 (wrap64 (n4 + n5)))).setCell ⟨w4.heap.size, 4, none⟩ (.int .i64 (-1))) := (hfw5.setNew (by simp; omega) _).setNew (by simp; omega) _
    have hS6 : ScanAt ((w5.setCell ⟨w4.heap.size, 4, none⟩ (.int .i64 (wrap64 (n4 + n5)))).setCell ⟨w4.heap.size, 4, none⟩ (.int .i64 (-1))) sb pb A c l a5 e5 := (HS5.out.fr (((Fr.refl (fun k => k = w4.heap.size) w5).setCell rfl _).setCell rfl _) (fun k hk => by omega))
    have hsz6 : w4.heap.size + 1 ≤ ((w5.setCell ⟨w4.heap.size, 4, none⟩ (.int .i64 (wrap64 (n4 + n5)))).setCell ⟨w4.heap.size, 4, none⟩ (.int .i64 (-1))).heap.size := by simp; exact hsz5
    clear hc5 hfz5 HB5 HR5 hfw5 HS5 hsz5
    generalize (w5.setCell ⟨w4.heap.size, 4, none⟩ (.int .i64 (wrap64 (n4 + n5)))).setCell ⟨w4.heap.size, 4, none⟩ (.int .i64 (-1)) = w6 at *
    refine (scanText_any 32 (by omega) hS6).mono ?_
    rintro e w7 ⟨rfl, hs7, hf7⟩
    generalize ht : scText 32 l a5 e5 = q7 at hs7 ⊢
    obtain ⟨tx, a7, e7⟩ := q7
    dsimp only at hs7 ⊢
    have hB7 := fr_keep hf7 hB6 hnS4
    have hR7 := fr_keep hf7 hR6 hnS
    have hF7 := hF6.trans hf7
    have hsz7 := Nat.le_trans hsz6 hf7.size
    have HT := Lib.hid ht
    have HS7 := Lib.hid hs7
    have hc7 := blk_cell hB7
    have hfz7 := fun j => blk_frozen hB7 j
    have hcr := blk_cell hR7
    have hfr := fun j => blk_frozen hR7 j
    have hne : w.heap.size < w4.heap.size := by omega
    have HH := Lib.hid (scTake_of HQ1.out HQ2.out HQ3.out HQ4.out HQ5.out HT.out)
    clear hs7 hf7 hB6 hR6 hF6 hB7 hR7 ht hsz6 HT HQ1 HQ2 HQ3 HQ4 HQ5 hS6
    unfold sp0 at hcr
    go_wp2_with fail
    have HH2 := HH.out
    rw [if_pos h5] at HH2
    rw [HH2]
    refine bodyPost_ret (v := .agg #[.int .i64 n1, .int .i64 n2, .int .i64 n3, .int .i64 n4, .int .i64 (-1), .string ⟨tx.toArray⟩]) (by simp [results, Tryz.results111, go_sem, hcr]) rfl ?_
    refine ⟨rfl, HS7.out.fr (S := fun k => k = w.heap.size ∨ k = w4.heap.size) ?_ (fun k hk => by omega), ?_⟩
    · exact ((((((((Fr.refl _ _).setCell (.inr rfl) _).setCell (.inl rfl) _).setCell (.inl rfl) _).setCell (.inl rfl) _).setCell (.inl rfl) _).setCell (.inl rfl) _).setCell (.inl rfl) _)
    · exact (((((((hF7.setNew (by simp; omega) _).setNew (by simp) _).setNew (by simp) _).setNew (by simp) _).setNew (by simp) _).setNew (by simp) _).setNew (by simp) _)
  · have h5 : (n5 : Int) ≤ 1099511627776 := by assumption
    have hB6 : (w5.setCell ⟨w4.heap.size, 4, none⟩ (.int .i64 (wrap64 (n4 + n5)))).heap[w4.heap.size]? = some (.cells #[.int .i64 n1, .int .i64 n2, .int .i64 n3, .int .i64 n4, .int .i64 (wrap64 (n4 + n5)), .string ⟨#[]⟩] 30 (0, 0)) := blk_set HB5.out 4 _
    have hR6 : (w5.setCell ⟨w4.heap.size, 4, none⟩ (.int .i64 (wrap64 (n4 + n5)))).heap[w.heap.size]? = some (.cells sp0 30 (0, 0)) := (Below.heap_setCell _ _ _ _ (by simp; omega)).trans HR5.out
    have hF6 : Fr (SP sb pb) w (w5.setCell ⟨w4.heap.size, 4, none⟩ (.int .i64 (wrap64 (n4 + n5)))) := hfw5.setNew (by simp; omega) _
    have hS6 : ScanAt (w5.setCell ⟨w4.heap.size, 4, none⟩ (.int .i64 (wrap64 (n4 + n5)))) sb pb A c l a5 e5 := (HS5.out.fr ((Fr.refl (fun k => k = w4.heap.size) w5).setCell rfl _) (fun k hk => by omega))
    have hsz6 : w4.heap.size + 1 ≤ (w5.setCell ⟨w4.heap.size, 4, none⟩ (.int .i64 (wrap64 (n4 + n5)))).heap.size := by simp; exact hsz5
    clear hc5 hfz5 HB5 HR5 hfw5 HS5 hsz5
    generalize w5.setCell ⟨w4.heap.size, 4, none⟩ (.int .i64 (wrap64 (n4 + n5))) = w6 at *
    refine (scanText_any 32 (by omega) hS6).mono ?_
    rintro e w7 ⟨rfl, hs7, hf7⟩
    generalize ht : scText 32 l a5 e5 = q7 at hs7 ⊢
    obtain ⟨tx, a7, e7⟩ := q7
    dsimp only at hs7 ⊢
    have hB7 := fr_keep hf7 hB6 hnS4
    have hR7 := fr_keep hf7 hR6 hnS
    have hF7 := hF6.trans hf7
    have hsz7 := Nat.le_trans hsz6 hf7.size
    have HT := Lib.hid ht
    have HS7 := Lib.hid hs7
    have hc7 := blk_cell hB7
    have hfz7 := fun j => blk_frozen hB7 j
    have hcr := blk_cell hR7
    have hfr := fun j => blk_frozen hR7 j
    have hne : w.heap.size < w4.heap.size := by omega
    have HH := Lib.hid (scTake_of HQ1.out HQ2.out HQ3.out HQ4.out HQ5.out HT.out)
    clear hs7 hf7 hB6 hR6 hF6 hB7 hR7 ht hsz6 HT HQ1 HQ2 HQ3 HQ4 HQ5 hS6
    unfold sp0 at hcr
    go_wp2_with fail
    have HH2 := HH.out
    rw [if_neg (by omega)] at HH2
    rw [HH2]
    refine bodyPost_ret (v := .agg #[.int .i64 n1, .int .i64 n2, .int .i64 n3, .int .i64 n4, .int .i64 (wrap64 (n4 + n5)), .string ⟨tx.toArray⟩]) (by simp [results, Tryz.results111, go_sem, hcr]) rfl ?_
    refine ⟨rfl, HS7.out.fr (S := fun k => k = w.heap.size ∨ k = w4.heap.size) ?_ (fun k hk => by omega), ?_⟩
    · exact ((((((((Fr.refl _ _).setCell (.inr rfl) _).setCell (.inl rfl) _).setCell (.inl rfl) _).setCell (.inl rfl) _).setCell (.inl rfl) _).setCell (.inl rfl) _).setCell (.inl rfl) _)
    · exact (((((((hF7.setNew (by simp; omega) _).setNew (by simp) _).setNew (by simp) _).setNew (by simp) _).setNew (by simp) _).setNew (by simp) _).setNew (by simp) _)
end Go.Proofs.YtempkjnaahgbhaaGreatDoor
namespace Go.Proofs.YtempkjnaahgbhaaGreatDoor
open Go.RowKit

/-- The spans that are read one behind the other. -/
def getLoop (l : List UInt8) : Nat → List Sp → Nat → Int → Option (List Sp × Nat × Int)
  | 0, acc, at_, err => some (acc, at_, err)
  | k + 1, acc, at_, err =>
    if (scTake l at_ err).2.2 = 0 ∧ (scTake l at_ err).1.ok = true then getLoop l k (acc ++ [(scTake l at_ err).1]) (scTake l at_ err).2.1 (scTake l at_ err).2.2 else none
def getFin (l : List UInt8) : Option (List Sp × Nat × Int) → List Sp × Int
  | none => ([], 30)
  | some (sps, at_, err) => if scEnd l at_ err = 0 then (sps, 0) else ([], 30)
/-- The answer of Get. -/
def getAns (l : List UInt8) : List Sp × Int := getFin l (getLoop l (scNum l 0 0).1 [] (scNum l 0 0).2.1 (scNum l 0 0).2.2)

theorem rdNum_pos : ∀ (l : List UInt8) (i n : Nat), (rdNum i n l).2.2 = 0 → 1 ≤ (rdNum i n l).2.1 := by
  intro l
  induction l with
  | nil => intro i n h; simp [rdNum] at h
  | cons x r ih =>
    intro i n h
    rw [rdNum] at h ⊢
    by_cases h1 : i = 0 ∧ x.toNat = 128
    · rw [if_pos h1] at h; simp at h
    · rw [if_neg h1] at h ⊢
      by_cases h2 : i = 9
      · rw [if_pos h2] at h; simp at h
      · rw [if_neg h2] at h ⊢
        by_cases h3 : x.toNat < 128
        · rw [if_pos h3]; simp
        · rw [if_neg h3] at h ⊢; exact ih _ _ h
theorem scNum_err {l : List UInt8} {at_ : Nat} {err : Int} (h : (scNum l at_ err).2.2 = 0) : err = 0 ∧ at_ + 1 ≤ (scNum l at_ err).2.1 := by
  unfold scNum at h ⊢
  by_cases he : err = 0
  · rw [if_pos he] at h ⊢
    have := rdNum_pos _ _ _ h
    exact ⟨he, by simp; omega⟩
  · rw [if_neg he] at h; exact absurd h he
theorem scText_err {most : Nat} {l : List UInt8} {at_ : Nat} {err : Int} (h : (scText most l at_ err).2.2 = 0) : (scNum l at_ err).2.2 = 0 ∧ at_ + 1 ≤ (scText most l at_ err).2.1 := by
  rw [scText_eq] at h ⊢
  by_cases h1 : (scNum l at_ err).2.2 ≠ 0
  · rw [if_pos h1] at h; exact absurd h h1
  · rw [if_neg h1] at h ⊢
    by_cases h2 : most < (scNum l at_ err).1
    · rw [if_pos h2] at h; simp at h
    · rw [if_neg h2] at h ⊢
      by_cases h3 : l.length - (scNum l at_ err).2.1 < (scNum l at_ err).1
      · rw [if_pos h3] at h; simp at h
      · rw [if_neg h3]
        have := scNum_err (l := l) (at_ := at_) (err := err) (by simpa using h1)
        exact ⟨by simpa using h1, by simp; omega⟩
theorem scText_len (most : Nat) (l : List UInt8) (at_ : Nat) (err : Int) : (scText most l at_ err).1.length ≤ most := by
  rw [scText_eq]
  by_cases h1 : (scNum l at_ err).2.2 ≠ 0
  · rw [if_pos h1]; simp
  · rw [if_neg h1]
    by_cases h2 : most < (scNum l at_ err).1
    · rw [if_pos h2]; simp
    · rw [if_neg h2]
      by_cases h3 : l.length - (scNum l at_ err).2.1 < (scNum l at_ err).1
      · rw [if_pos h3]; simp
      · rw [if_neg h3]; simp; omega
theorem scTake_err {l : List UInt8} {at_ : Nat} {err : Int} (h : (scTake l at_ err).2.2 = 0) : err = 0 ∧ at_ + 1 ≤ (scTake l at_ err).2.1 := by
  simp only [scTake] at h ⊢
  have h6 := scText_err h
  have h5 := scNum_err h6.1
  have h5' := scNum_err h5.1
  have h4 := scNum_err h5'.1
  have h3 := scNum_err h4.1
  have h2 := scNum_err h3.1
  have h1 := scNum_err h2.1
  exact ⟨h1.1, by omega⟩
theorem scTake_nm (l : List UInt8) (at_ : Nat) (err : Int) : (scTake l at_ err).1.nm.size ≤ 32 := by
  have h : ∀ a e, (⟨(scText 32 l a e).1.toArray⟩ : ByteArray).size ≤ 32 := fun a e => by
    have := scText_len 32 l a e
    simpa [ByteArray.size] using this
  exact h _ _

theorem own_fr {S : Nat → Prop} {w w' : World} {base : Nat} {e : TypeId} {size : Nat} {v : Value} {n : Nat} {xs : List Value} (h : w.ownsRow base e size v n xs) (hf : Fr S w w') (hS : ∀ k, S k → k < base) : w'.ownsRow base e size v n xs := by
  refine ⟨h.1, ?_⟩
  rcases h.2 with hn | ⟨g, cap, cur, hv, hb, hg, rest⟩
  · exact .inl hn
  · exact .inr ⟨g, cap, cur, hv, hb, (hf.block g (Array.getElem?_eq_some_iff.1 hg).1 (fun hs => by have := hS g hs; omega)).trans hg, rest⟩
/-- What a call leaves that answers spans and an error. -/
def ResSE (w : World) (r : List Sp × Int) (e : Ending) (w' : World) : Prop :=
  ∃ A c, e = .returned (.tuple #[.slice A r.1.length c, .int .i64 r.2]) ∧ w'.ownsRow w.heap.size 30 6 (.slice A r.1.length c) r.1.length (r.1.flatMap Sp.cells) ∧ Below w.heap.size w w'

set_option maxRecDepth 100000 in
set_option maxHeartbeats 1000000 in
theorem Get_any (A : Option Addr) (n cap B : Nat) (l : List UInt8) (w : World) (hB : B ≤ w.heap.size) (hbig : n ≤ 4294967296) (hr : RdB w B A n l) :
    Calls Tryz.prog 67 #[.slice A n cap] w (ResSE w (getAns l)) := by
  obtain ⟨i0, hi0, hz0, hz1, hz2⟩ := info_parts Tryz.infoSpan
  have hlen := hr.len
  subst hlen
  have HG : Hid (getAns l = getFin l (getLoop l (scNum l 0 0).1 [] (scNum l 0 0).2.1 (scNum l 0 0).2.2)) := Lib.hid rfl
  go_enter Tryz.func67, Tryz.ntmps67
  go_wp2_with fail
  refine (over_any _ _ _ _ _ _ hB (by omega) hr).mono ?_
  rintro e w1 ⟨sb, pb, A1, c1, rfl, hpb, hs1, hb1⟩
  have HS1 := Lib.hid hs1
  have hsb : pb < sb := hs1.lt
  clear hs1
  go_wp2_with fail
  refine (scanNumber_any HS1.out).mono ?_
  rintro e w2 ⟨rfl, hs2, hf2⟩
  have hb2 : Below w.heap.size w w2 := hb1.trans (hf2.below hb1.size (fun k hk => by rcases hk with rfl | rfl <;> omega))
  have hNb := scNum_bound l 0 0
  generalize scNum l 0 0 = q at *
  obtain ⟨N, a2, e2⟩ := q
  dsimp only at hs2 HG hNb ⊢
  have HS2 := Lib.hid hs2
  clear hs2 hf2 hb1 HS1 hr
  go_wp2_with fail
  go_loopw [6, 13] (fun v i wr => ∃ (k : Nat) (acc : List Sp) (at_ : Nat) (err : Int) (A' : Option Addr) (c : Nat), k ≤ N ∧ i = .int .i64 k ∧ v = .slice A' acc.length c ∧
      wr.ownsRow (sb + 1) 30 6 (.slice A' acc.length c) acc.length (acc.flatMap Sp.cells) ∧ ScanAt wr sb pb A1 c1 l at_ err ∧ Below w.heap.size w wr ∧ getLoop l N [] a2 e2 = getLoop l (N - k) acc at_ err ∧ acc.length ≤ at_) (fun _ i _ => N - (intOf i).toNat)
  case atStart => exact ⟨0, [], a2, e2, none, 0, by omega, rfl, rfl, World.ownsRow_nil _ _ _ _, HS2.out, hb2, rfl, by simp⟩
  case round =>
    obtain ⟨k, acc, at_, err, A', c, hk, rfl, rfl, hown, hs, hb, hg, hacc⟩ := hrel
    have HG2 := Lib.hid hg
    have HO := Lib.hid hown
    have hal := hs.le
    have HS := Lib.hid hs
    have hsz := hb.size
    have hsbw := hs.sb_lt
    clear hg hown hs hb2 HS2
    by_cases hlt : k < N
    · obtain ⟨m, hm⟩ : ∃ m, N - k = m + 1 := ⟨N - k - 1, by omega⟩
      have hstep : getLoop l (N - k) acc at_ err = if (scTake l at_ err).2.2 = 0 ∧ (scTake l at_ err).1.ok = true then getLoop l m (acc ++ [(scTake l at_ err).1]) (scTake l at_ err).2.1 (scTake l at_ err).2.2 else none := by rw [hm]; rfl
      have hterr := @scTake_err l at_ err
      have hnm := scTake_nm l at_ err
      have hmk : N - (k + 1) = m := by omega
      go_wp2_with fail
      refine (take_any HS.out).mono ?_
      rintro e w3 ⟨rfl, hs3, hf3⟩
      generalize scTake l at_ err = t at *
      obtain ⟨s, a3, e3⟩ := t
      dsimp only at hs3 hstep hterr hnm ⊢
      have HS3 := Lib.hid hs3
      have HST := Lib.hid hstep
      have hb3 : Below w.heap.size w w3 := hb.trans (hf3.below hsz (fun k hk => by rcases hk with rfl | rfl <;> omega))
      have HO3 := Lib.hid (own_fr HO.out hf3 (fun k hk => by rcases hk with rfl | rfl <;> omega))
      have hsz3 := hb3.size
      have hsb3 := hs3.sb_lt
      have HE := Lib.hid hterr
      have HM := Lib.hid hmk
      have HM2 := Lib.hid hm
      clear hs3 hstep hf3 HS HO hterr hmk hm
      go_wp2_with fail
      have hs4 := HS3.out.below ((Below.refl w3.heap.size w3).alloc (Nat.le_refl _) (.cells #[.int .i64 s.tr, .int .i64 s.id, .int .i64 s.pa, .int .i64 s.st, .int .i64 s.en, .string s.nm] 30)) hsb3
      have HS4 := Lib.hid hs4
      clear hs4
      refine (err_any HS4.out).mono ?_
      rintro e w' ⟨rfl, rfl⟩
      by_cases he3 : e3 = 0
      · subst he3
        go_wp2_with fail
        refine (check_any s _ (by omega)).mono ?_
        rintro e w4 ⟨rfl, hb4⟩
        have hB4 := blk_cell (blk_below hb4 (by simp) (heap_alloc_new w3 _))
        have hb4' : Below w3.heap.size w3 w4 := ((Below.refl _ _).alloc (Nat.le_refl _) _).trans (hb4.mono (by simp))
        have hz4 : w3.heap.size < w4.heap.size := by have := hb4.size; simp at this; omega
        have hsb4 : sb < w4.heap.size := by omega
        have HS5 := Lib.hid (HS3.out.below hb4' hsb3)
        have HO5 := Lib.hid (own_below HO3.out hb4')
        have hb5 := hb3.trans (hb4'.mono hsz3)
        have hsz5 := hb5.size
        have HEE := Lib.hid (HE.out (by trivial))
        have hacc2 : acc.length + 1 ≤ 4294967297 := by omega
        have hal3 := HS3.out.le
        clear hb4 hb4' HS4
        cases hok : s.ok
        · have HF : Hid (getLoop l (N - k) acc at_ err = none) := Lib.hid (by rw [HST.out, if_neg (by simp [hok])])
          rw [Sp.check_f hok]
          clear hok
          go_wp2_with fail
          go_ret2
          rw [HG.out, HG2.out, HF.out]
          exact ⟨none, 0, rfl, World.ownsRow_nil _ _ _ _, hb5⟩
        · have HF : Hid (getLoop l (N - k) acc at_ err = getLoop l m (acc ++ [s]) a3 0) := Lib.hid (by rw [HST.out, if_pos ⟨by trivial, hok⟩])
          rw [Sp.check_t hok]
          clear hok
          go_wp2_with (at_builtin; refine wpList_app _ rfl (.tmp 25) (.tmp 27) _ rfl (sb + 1) 30 i0 _ 6 56 Tryz.underlying22 hi0 hz0 hz1 hz2 rfl (by omega) _ _ _ _ rfl (HO5.out.alloc _) (w4.heap.size + 1) _ 1 _ s.cells rfl (Rd.new (by simp) rfl (by intro j hj; simp [Sp.cells] at hj; match j, hj with | 0, _ => rfl | 1, _ => rfl | 2, _ => rfl | 3, _ => rfl | 4, _ => rfl | 5, _ => rfl)) (by have := cells_oneCell [s]; simpa using this) (by unfold maxLen; omega) (by omega) (by simp; omega) ?_; intro A6 c6 w6 hown6 hg6 _)
          have hs5 := HS5.out.below ((Below.refl w4.heap.size w4).alloc (Nat.le_refl _) (.cells #[.int .i64 s.tr, .int .i64 s.id, .int .i64 s.pa, .int .i64 s.st, .int .i64 s.en, .string s.nm] 30)) hsb4
          have hB6 := below_app (Below.refl (sb + 1) _) (HO5.out.alloc _) hg6 (by simp; omega)
          have hW6 := below_app (b := w.heap.size) (hb5.alloc hsz5 _) (own_le (HO5.out.alloc _) (by omega)) hg6 (by simp; omega)
          have hcl : (acc ++ [s]).flatMap Sp.cells = acc.flatMap Sp.cells ++ s.cells := by simp
          have hln : (acc ++ [s]).length = acc.length + 1 := by simp
          go_roundw
          case rel =>
            refine ⟨k + 1, acc ++ [s], a3, 0, A6, c6, by omega, by go_num, by rw [hln], ?_, hs5.below hB6 (by omega), hW6, by rw [HG2.out, HF.out, HM.out], by have := HEE.out.2; rw [hln]; omega⟩
            rw [hln, hcl]; exact hown6
          case measure => simp [intOf]; omega
      · have hbe : (e3 != 0) = true := by simpa using he3
        have HF : Hid (getLoop l (N - k) acc at_ err = none) := Lib.hid (by rw [HST.out, if_neg (by simp [he3])])
        clear he3
        go_wp2_with fail
        go_ret2
        rw [HG.out, HG2.out, HF.out]
        exact ⟨none, 0, rfl, World.ownsRow_nil _ _ _ _, hb3.alloc hsz3 _⟩
    · have hk0 : N - k = 0 := by omega
      have HF : Hid (getLoop l (N - k) acc at_ err = some (acc, at_, err)) := Lib.hid (by rw [hk0]; rfl)
      clear hk0
      go_wp2_with fail
      refine (scanEnd_any HS.out).mono ?_
      rintro e w3 ⟨rfl, hs3, hf3⟩
      have hb3 : Below w.heap.size w w3 := hb.trans (hf3.below hsz (fun k hk => by rcases hk with rfl | rfl <;> omega))
      have HO3 := Lib.hid (own_fr HO.out hf3 (fun k hk => by rcases hk with rfl | rfl <;> omega))
      have HFin : Hid (getAns l = if scEnd l at_ err = 0 then (acc, 0) else ([], 30)) := Lib.hid (by rw [HG.out, HG2.out, HF.out]; rfl)
      generalize scEnd l at_ err = ee at *
      clear hs3 hf3 HS HO
      by_cases he : ee = 0
      · subst he
        go_wp2_with fail
        go_ret2
        rw [HFin.out, if_pos (by trivial)]
        exact ⟨A', c, rfl, own_le HO3.out (by omega), hb3⟩
      · have hbe : (ee != 0) = true := by simpa using he
        have HN := Lib.hid he
        clear he
        go_wp2_with fail
        go_ret2
        rw [HFin.out, if_neg HN.out]
        exact ⟨none, 0, rfl, World.ownsRow_nil _ _ _ _, hb3⟩
end Go.Proofs.YtempkjnaahgbhaaGreatDoor
namespace Go.Proofs.YtempkjnaahgbhaaGreatDoor
open Go.RowKit

theorem dhi_ne {n : Nat} (h : 0 < n) : 0 < (dhi n).length := by rw [dhi_pos h]; simp
theorem u8_of (n : Nat) (h : n < 256) : (UInt8.ofNat n).toNat = n := by
  rw [UInt8.toNat_ofNat']; exact Nat.mod_eq_of_lt h
theorem u8_back {x : UInt8} {n : Nat} (h : x.toNat = n) : UInt8.ofNat n = x := by rw [← h]; simp
theorem rdNum_dhi (k : Nat) : ∀ n r, (dhi n).length = k → k ≤ 9 → rdNum 0 0 (dhi n ++ r) = rdNum k n r := by
  induction k with
  | zero =>
    intro n r h _
    by_cases h0 : n = 0
    · subst h0; rw [dhi_zero]; rfl
    · have := dhi_ne (n := n) (by omega); omega
  | succ k ih =>
    intro n r h hk
    by_cases h0 : n = 0
    · subst h0; rw [dhi_zero] at h; simp at h
    · rw [dhi_pos (by omega)] at h ⊢
      simp only [List.length_append, List.length_cons, List.length_nil, Nat.zero_add, Nat.add_right_cancel_iff] at h
      rw [List.append_assoc, ih _ _ h (by omega)]
      have hb := u8_of (n % 128 + 128) (by omega)
      rw [List.singleton_append, rdNum, hb, if_neg, if_neg (by omega), if_neg (by omega), show (n / 128 * 128 + (n % 128 + 128) % 128) = n by omega]
      rintro ⟨h1, h2⟩
      by_cases h3 : n / 128 = 0
      · omega
      · have := dhi_ne (n := n / 128) (by omega); omega
theorem rdNum_digits (n : Nat) (r : List UInt8) (h : n < 9223372036854775808) : rdNum 0 0 (digits n ++ r) = (n, (digits n).length, 0) := by
  have hl := dhi_len 8 (n / 128) (by omega)
  have hb := u8_of (n % 128) (by omega)
  rw [digits, List.append_assoc, rdNum_dhi _ _ _ rfl (by omega), List.singleton_append, rdNum, hb, if_neg (by omega), if_neg (by omega), if_pos (by omega)]
  simp only [List.length_append, List.length_cons, List.length_nil, Nat.zero_add, Prod.mk.injEq, and_true]
  omega
theorem rdNum_back : ∀ (l : List UInt8) (n m k : Nat), rdNum (dhi n).length n l = (m, k, 0) → dhi n ++ l = digits m ++ l.drop (k - (dhi n).length) ∧ k = (digits m).length := by
  intro l
  induction l with
  | nil => intro n m k h; simp [rdNum] at h
  | cons x r ih =>
    intro n m k h
    have hx : x.toNat < 256 := x.toNat_lt
    rw [rdNum] at h
    by_cases h1 : (dhi n).length = 0 ∧ x.toNat = 128
    · rw [if_pos h1] at h; simp at h
    · rw [if_neg h1] at h
      by_cases h2 : (dhi n).length = 9
      · rw [if_pos h2] at h; simp at h
      · rw [if_neg h2] at h
        by_cases h3 : x.toNat < 128
        · rw [if_pos h3] at h
          simp only [Prod.mk.injEq, and_true] at h
          obtain ⟨rfl, rfl⟩ := h
          have e1 : (n * 128 + x.toNat % 128) / 128 = n := by omega
          have e2 : (n * 128 + x.toNat % 128) % 128 = x.toNat := by omega
          have e3 : digits (n * 128 + x.toNat % 128) = dhi n ++ [x] := by rw [digits, e1, e2, u8_back rfl]
          rw [e3, Nat.add_sub_cancel_left]
          simp
        · rw [if_neg h3] at h
          have e1 : (n * 128 + x.toNat % 128) / 128 = n := by omega
          have e2 : (n * 128 + x.toNat % 128) % 128 + 128 = x.toNat := by omega
          have hp : 0 < n * 128 + x.toNat % 128 := by
            by_cases h0 : n = 0
            · subst h0; rw [dhi_zero] at h1; simp at h1; omega
            · omega
          have e3 : dhi (n * 128 + x.toNat % 128) = dhi n ++ [x] := by rw [dhi_pos hp, e1, e2, u8_back rfl]
          have e4 : (dhi (n * 128 + x.toNat % 128)).length = (dhi n).length + 1 := by rw [e3]; simp
          have := ih (n * 128 + x.toNat % 128) m k (by rw [e4]; exact h)
          refine ⟨?_, this.2⟩
          have h5 := this.1
          rw [e4, e3, List.append_assoc, List.singleton_append] at h5
          have hk : (dhi n).length + 1 ≤ k := by
            have hlen := congrArg List.length h5
            simp only [List.length_append, List.length_cons, List.length_drop] at hlen
            have h7 := this.2
            by_cases hh : (dhi n).length + 1 ≤ k
            · exact hh
            · rw [show k - ((dhi n).length + 1) = 0 by omega] at hlen; omega
          rw [h5, show k - (dhi n).length = (k - ((dhi n).length + 1)) + 1 by omega, List.drop_succ_cons]

theorem scNum_enc {l r : List UInt8} {at_ n : Nat} (h : l.drop at_ = digits n ++ r) (hn : n < 9223372036854775808) : scNum l at_ 0 = (n, at_ + (digits n).length, 0) := by
  rw [scNum, if_pos rfl, h, rdNum_digits n r hn]
theorem drop_on {l a r : List UInt8} {at_ : Nat} (h : l.drop at_ = a ++ r) : l.drop (at_ + a.length) = r := by
  rw [← List.drop_drop, h, List.drop_left]
theorem scNum_dec {l : List UInt8} {at_ m k : Nat} {err : Int} (h : scNum l at_ err = (m, k, 0)) : l.drop at_ = digits m ++ l.drop k ∧ k = at_ + (digits m).length := by
  have he : err = 0 := by
    rw [scNum] at h
    by_cases he : err = 0
    · exact he
    · rw [if_neg he] at h; simp at h; exact absurd h.2.2 he
  subst he
  rw [scNum, if_pos rfl] at h
  simp only [Prod.mk.injEq] at h
  obtain ⟨h1, h2, h3⟩ := h
  have hb := rdNum_back (l.drop at_) 0 m (rdNum 0 0 (l.drop at_)).2.1 (by rw [dhi_zero, List.length_nil]; rw [← h1, ← h3])
  rw [dhi_zero, List.nil_append, List.length_nil, Nat.sub_zero, List.drop_drop, h2] at hb
  exact ⟨hb.1, by omega⟩
theorem scText_enc {l tx r : List UInt8} {at_ : Nat} (h : l.drop at_ = digits tx.length ++ tx ++ r) (ht : tx.length ≤ 32) : scText 32 l at_ 0 = (tx, at_ + (digits tx.length).length + tx.length, 0) := by
  rw [List.append_assoc] at h
  have h1 := scNum_enc h (by omega)
  have h2 := drop_on h
  have h3 : tx.length ≤ l.length - (at_ + (digits tx.length).length) := by
    have := congrArg List.length h2
    simp only [List.length_drop, List.length_append] at this; omega
  rw [scText_eq, h1]
  dsimp only
  rw [if_neg (by simp), if_neg (by omega), if_neg (by omega), h2, List.take_left]
theorem scText_dec {l tx : List UInt8} {at_ k : Nat} {err : Int} (h : scText 32 l at_ err = (tx, k, 0)) : l.drop at_ = digits tx.length ++ tx ++ l.drop k ∧ k = at_ + (digits tx.length).length + tx.length := by
  rw [scText_eq] at h
  generalize hq : scNum l at_ err = q at h
  obtain ⟨m, k1, e1⟩ := q
  simp only at h
  by_cases h1 : e1 ≠ 0
  · rw [if_pos h1] at h; simp at h; exact absurd h.2.2 h1
  · rw [if_neg h1] at h
    obtain rfl : e1 = 0 := by omega
    by_cases h2 : 32 < m
    · rw [if_pos h2] at h; simp at h
    · rw [if_neg h2] at h
      by_cases h3 : l.length - k1 < m
      · rw [if_pos h3] at h; simp at h
      · rw [if_neg h3] at h
        simp only [Prod.mk.injEq, and_true] at h
        obtain ⟨rfl, rfl⟩ := h
        have hd := scNum_dec hq
        have hl : ((l.drop k1).take m).length = m := by rw [List.length_take, List.length_drop]; omega
        rw [hl, List.append_assoc, ← List.drop_drop, List.take_append_drop]
        exact ⟨hd.1, by omega⟩

theorem Sp.enc_eq (s : Sp) : s.enc = digits s.tr.toNat ++ (digits s.id.toNat ++ (digits s.pa.toNat ++ (digits s.st.toNat ++ (digits (s.en - s.st).toNat ++ (digits s.nm.data.toList.length ++ s.nm.data.toList))))) := by
  have : s.nm.data.toList.length = s.nm.size := rfl
  rw [this]
  simp only [Sp.enc, numsEnc, Sp.nums, List.flatMap_cons, List.flatMap_nil, List.append_nil, List.append_assoc]
theorem scTake_enc {l r : List UInt8} {at_ : Nat} {s : Sp} (h : l.drop at_ = s.enc ++ r) (hs : s.ok = true) : scTake l at_ 0 = (s, at_ + s.enc.length, 0) := by
  have hp := Sp.ok_parts hs
  have hsz : s.nm.data.toList.length = s.nm.size := rfl
  have hE := s.enc_eq
  rw [hE] at h
  simp only [List.append_assoc] at h
  have h1 := scNum_enc h (by omega)
  have d1 := drop_on h
  have h2 := scNum_enc d1 (by omega)
  have d2 := drop_on d1
  have h3 := scNum_enc d2 (by omega)
  have d3 := drop_on d2
  have h4 := scNum_enc d3 (by omega)
  have d4 := drop_on d3
  have h5 := scNum_enc d4 (by omega)
  have d5 := drop_on d4
  rw [← List.append_assoc] at d5
  have h6 := scText_enc d5 (by omega)
  rw [scTake_of h1 h2 h3 h4 h5 h6]
  have e1 : ((s.tr.toNat : Nat) : Int) = s.tr := by omega
  have e2 : ((s.id.toNat : Nat) : Int) = s.id := by omega
  have e3 : ((s.pa.toNat : Nat) : Int) = s.pa := by omega
  have e4 : ((s.st.toNat : Nat) : Int) = s.st := by omega
  have e5 : (((s.en - s.st).toNat : Nat) : Int) = s.en - s.st := by omega
  have e6 : wrap64 (s.st + (s.en - s.st)) = s.en := by rw [IntWalk.wrap64_in _ ⟨by omega, by omega⟩]; omega
  rw [e1, e2, e3, e4, e5, if_neg (by omega), e6, hE]
  simp only [List.length_append, Prod.mk.injEq, and_true]
  refine ⟨?_, by omega⟩
  cases s; simp
theorem scTake_dec {l : List UInt8} {at_ k : Nat} {err : Int} {s : Sp} (h : scTake l at_ err = (s, k, 0)) (hs : s.ok = true) : l.drop at_ = s.enc ++ l.drop k ∧ k = at_ + s.enc.length := by
  have hp := Sp.ok_parts hs
  generalize q1 : scNum l at_ err = p1 at *
  obtain ⟨n1, a1, e1⟩ := p1
  generalize q2 : scNum l a1 e1 = p2 at *
  obtain ⟨n2, a2, e2⟩ := p2
  generalize q3 : scNum l a2 e2 = p3 at *
  obtain ⟨n3, a3, e3⟩ := p3
  generalize q4 : scNum l a3 e3 = p4 at *
  obtain ⟨n4, a4, e4⟩ := p4
  generalize q5 : scNum l a4 e4 = p5 at *
  obtain ⟨n5, a5, e5⟩ := p5
  generalize q6 : scText 32 l a5 e5 = p6 at *
  obtain ⟨tx, a6, e6⟩ := p6
  rw [scTake_of q1 q2 q3 q4 q5 q6] at h
  simp only [Prod.mk.injEq] at h
  obtain ⟨hS, rfl, rfl⟩ := h
  have z5 : e5 = 0 := (scNum_err (l := l) (at_ := a5) (err := e5) (scText_err (most := 32) (by rw [q6])).1).1
  subst z5
  have z4 : e4 = 0 := (scNum_err (l := l) (at_ := a4) (err := e4) (by rw [q5])).1
  subst z4
  have z3 : e3 = 0 := (scNum_err (l := l) (at_ := a3) (err := e3) (by rw [q4])).1
  subst z3
  have z2 : e2 = 0 := (scNum_err (l := l) (at_ := a2) (err := e2) (by rw [q3])).1
  subst z2
  have z1 : e1 = 0 := (scNum_err (l := l) (at_ := a1) (err := e1) (by rw [q2])).1
  subst z1
  have d1 := scNum_dec q1
  have d2 := scNum_dec q2
  have d3 := scNum_dec q3
  have d4 := scNum_dec q4
  have d5 := scNum_dec q5
  have d6 := scText_dec q6
  subst hS
  simp only at hp
  by_cases hb : (1099511627776 : Int) < n5
  · rw [if_pos hb] at hp; omega
  · have hw : wrap64 ((n4 : Int) + n5) = n4 + n5 := IntWalk.wrap64_in _ ⟨by omega, by omega⟩
    rw [Sp.enc_eq]
    simp only [if_neg hb, hw]
    have e5 : ((n4 : Int) + n5 - n4).toNat = n5 := by omega
    rw [e5]
    simp only [Int.toNat_natCast]
    rw [d1.1, d2.1, d3.1, d4.1, d5.1, d6.1]
    simp only [List.append_assoc, List.length_append]
    exact ⟨trivial, by omega⟩

theorem getLoop_enc (l r : List UInt8) : ∀ (sps : List Sp) (acc : List Sp) (at_ : Nat), (∀ s ∈ sps, s.ok = true) → l.drop at_ = encL sps ++ r →
    getLoop l sps.length acc at_ 0 = some (acc ++ sps, at_ + (encL sps).length, 0) := by
  intro sps
  induction sps with
  | nil => intro acc at_ _ _; simp [getLoop, encL]
  | cons s sps ih =>
    intro acc at_ hs h
    have hE : encL (s :: sps) = s.enc ++ encL sps := rfl
    rw [hE, List.append_assoc] at h
    have h1 := scTake_enc h (hs s (by simp))
    rw [List.length_cons, getLoop, h1, if_pos ⟨rfl, hs s (by simp)⟩]
    simp only
    rw [ih (acc ++ [s]) _ (fun x hx => hs x (by simp [hx])) (drop_on h), hE]
    simp [Nat.add_assoc]
theorem getLoop_dec (l : List UInt8) : ∀ (k : Nat) (acc res : List Sp) (at_ a : Nat) (err : Int), getLoop l k acc at_ err = some (res, a, 0) →
    ∃ sps, res = acc ++ sps ∧ sps.length = k ∧ (∀ s ∈ sps, s.ok = true) ∧ l.drop at_ = encL sps ++ l.drop a := by
  intro k
  induction k with
  | zero =>
    intro acc res at_ a err h
    simp only [getLoop, Option.some.injEq, Prod.mk.injEq] at h
    obtain ⟨rfl, rfl, _⟩ := h
    exact ⟨[], by simp, rfl, by simp, by simp [encL]⟩
  | succ k ih =>
    intro acc res at_ a err h
    rw [getLoop] at h
    generalize hq : scTake l at_ err = q at h
    obtain ⟨s, a1, e1⟩ := q
    simp only at h
    by_cases hc : e1 = 0 ∧ s.ok = true
    · rw [if_pos hc] at h
      obtain ⟨sps, rfl, hl, ho, hd⟩ := ih _ _ _ _ _ h
      obtain ⟨rfl, hs⟩ := hc
      have hd1 := scTake_dec hq hs
      refine ⟨s :: sps, by simp, by simp [hl], ?_, ?_⟩
      · intro x hx
        rcases List.mem_cons.1 hx with rfl | hx
        · exact hs
        · exact ho x hx
      · rw [hd1.1, hd, show encL (s :: sps) = s.enc ++ encL sps from rfl, List.append_assoc]
    · rw [if_neg hc] at h; simp at h

/-- What is put reads back. -/
theorem get_put (l : List Sp) (h : l.all Sp.ok = true) (hl : l.length < 9223372036854775808) : getAns (putEnc l) = (l, 0) := by
  have ho : ∀ s ∈ l, s.ok = true := List.all_eq_true.1 h
  have h0 : (putEnc l).drop 0 = digits l.length ++ encL l := rfl
  have h1 := scNum_enc h0 hl
  have h2 : (putEnc l).drop (0 + (digits l.length).length) = encL l ++ [] := by rw [drop_on h0]; simp
  rw [getAns, h1]
  simp only
  rw [getLoop_enc _ _ l [] _ ho h2]
  have hz : scEnd (putEnc l) (0 + (digits l.length).length + (encL l).length) 0 = 0 := by
    rw [scEnd, if_neg]
    simp [putEnc]
  simp only [getFin, List.nil_append]
  rw [if_pos hz]
/-- What reads is what was put. -/
theorem put_get (l : List UInt8) : (∃ sps, getAns l = (sps, 0) ∧ sps.all Sp.ok = true ∧ putEnc sps = l) ∨ getAns l = ([], 30) := by
  rw [getAns]
  generalize hn : scNum l 0 0 = q
  obtain ⟨n, a, e⟩ := q
  simp only
  cases hg : getLoop l n [] a e with
  | none => exact .inr rfl
  | some t =>
    obtain ⟨sps, a1, e1⟩ := t
    simp only [getFin]
    by_cases hz : scEnd l a1 e1 = 0
    · rw [if_pos hz]
      left
      rw [scEnd] at hz
      by_cases h3 : e1 = 0 ∧ a1 < l.length
      · rw [if_pos h3] at hz; simp at hz
      · rw [if_neg h3] at hz
        subst hz
        obtain ⟨s2, h4, h5, h6, h7⟩ := getLoop_dec l n [] sps a a1 e hg
        rw [List.nil_append] at h4
        subst h4
        have he : e = 0 := by
          cases n with
          | zero => simp [getLoop] at hg; exact hg.2.2
          | succ n =>
            rw [getLoop] at hg
            by_cases hc : (scTake l a e).2.2 = 0 ∧ (scTake l a e).1.ok = true
            · exact (scTake_err hc.1).1
            · rw [if_neg hc] at hg; simp at hg
        subst he
        have hd := scNum_dec hn
        refine ⟨sps, rfl, List.all_eq_true.2 h6, ?_⟩
        have h8 : l.drop a1 = [] := List.drop_eq_nil_of_le (by omega)
        rw [h8, List.append_nil] at h7
        rw [List.drop_zero, h7] at hd
        rw [putEnc, h5]; exact hd.1.symm
    · rw [if_neg hz]; exact .inr rfl
theorem putAns_ok {l : List Sp} (h : l.all Sp.ok = true) : putAns l = (putEnc l, 0) := by rw [putAns, if_pos h]
theorem putAns_no {l : List Sp} (h : l.all Sp.ok = false) : putAns l = ([], 30) := by rw [putAns, if_neg (by simp [h])]
theorem encL_ge (l : List Sp) : l.length ≤ (encL l).length := by
  induction l with
  | nil => simp
  | cons s l ih =>
    have h : 1 ≤ s.enc.length := by
      rw [Sp.enc_eq]; simp only [List.length_append, digits, List.length_cons, List.length_nil]; omega
    simp only [encL, List.flatMap_cons, List.length_append, List.length_cons] at ih ⊢; omega
theorem putEnc_ge (l : List Sp) : l.length ≤ (putEnc l).length := by
  have := encL_ge l; simp only [putEnc, List.length_append]; omega
end Go.Proofs.YtempkjnaahgbhaaGreatDoor
