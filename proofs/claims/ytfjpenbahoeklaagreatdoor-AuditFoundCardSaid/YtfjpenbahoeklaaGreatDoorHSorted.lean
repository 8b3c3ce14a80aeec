/-
  The walk of span.take: a span is read. Condition: the Scan lies in memory as Over made it.
  The walk of span.Get: the spans of which some bytes are. Condition: the bytes read as a list of at most 2^32.
  The plain law of the spans' bytes: what is put reads back, and what reads is what was put. Condition: numbers below 2^63.
  Regions that draw their order, walked once in an order of the prover's choice: operations that yield the same value in every world of a class may be taken first; another one where nothing else may come up. No condition: plain lemmas over the library's own.
  Regions that draw their order, where two operations may come up at one place: what yields one value in every world of a class is taken first; then either of the two, and the rest behind it. No condition: plain lemmas over the library's own.
  Regions that draw their order, where two operations may come up at several places, and whose last operation may leave the class of worlds: a plan that forks. No condition: plain lemmas over the library's own.
  The walks of cmp.Compare, cmp.Or and span's compare and Less. No condition.
  The plain law of the spans' order: it is an order of all spans, and 0 is said of equals alone. No condition.
  The plain law of sorting spans: there is one sorted list of any spans, however they come; each put at its place one by one comes to it. No condition.
-/
import Derived.Test.YtfjpenbahoeklaaGreatDoorHPut
import Derived.IntWalk
import Derived.OrdersHeld
import Derived.Deep.RegionHeld3
import Derived.Shelf.SlSortCmp.InsertionK
namespace Go.Proofs.YtfjpenbahoeklaaGreatDoor
open Go.RowKit

/-- A span that is read, the place behind it, the error. -/
def scTake (l : List UInt8) (at_ : Nat) (err : Int) : Sp × Nat × Int :=
  let q1 := scNum l at_ err
  let q2 := scNum l q1.2.1 q1.2.2
  let q3 := scNum l q2.2.1 q2.2.2
  let q4 := scNum l q3.2.1 q3.2.2
  let q5 := scNum l q4.2.1 q4.2.2
  let t := scText 32 l q5.2.1 q5.2.2
  (⟨q1.1, q2.1, q3.1, q4.1, if (1099511627776 : Int) < q5.1 then -1 else wrap64 (q4.1 + q5.1), ⟨t.1.toArray⟩⟩, t.2.1, t.2.2)
def sp0 : Array Value := #[.int .i64 0, .int .i64 0, .int .i64 0, .int .i64 0, .int .i64 0, .string ⟨#[]⟩]

theorem scTake_of {l tx : List UInt8} {at_ n1 n2 n3 n4 n5 a1 a2 a3 a4 a5 a6 : Nat} {err e1 e2 e3 e4 e5 e6 : Int} (h1 : scNum l at_ err = (n1, a1, e1)) (h2 : scNum l a1 e1 = (n2, a2, e2)) (h3 : scNum l a2 e2 = (n3, a3, e3)) (h4 : scNum l a3 e3 = (n4, a4, e4))
    (h5 : scNum l a4 e4 = (n5, a5, e5)) (ht : scText 32 l a5 e5 = (tx, a6, e6)) :
    scTake l at_ err = (⟨n1, n2, n3, n4, if (1099511627776 : Int) < n5 then -1 else wrap64 (n4 + n5), ⟨tx.toArray⟩⟩, a6, e6) := by
  simp only [scTake, h1, h2, h3, h4, h5, ht]
theorem fr_keep {S : Nat → Prop} {w w1 : World} {g : Nat} {o : Obj} (hf : Fr S w w1) (h : w.heap[g]? = some o) (hS : ¬ S g) : w1.heap[g]? = some o := (hf.block g (Array.getElem?_eq_some_iff.1 h).1 hS).trans h

set_option maxRecDepth 100000 in
set_option maxHeartbeats 1000000 in
theorem take_any {w : World} {sb pb c at_ : Nat} {A : Option Addr} {l : List UInt8} {err : Int} (h : ScanAt w sb pb A c l at_ err) :
    Calls Tryz.prog 107 #[.pointer (some ⟨sb, 0, none⟩)] w (ResSc w sb pb A c l (scTake l at_ err).1.val (scTake l at_ err).2.1 (scTake l at_ err).2.2) := by
  have hsb := h.sb_lt
  have hpb := h.lt
  have hz0 := h.below ((Below.refl w.heap.size w).alloc (Nat.le_refl _) (.cells sp0 93)) hsb
  have HZ0 := Lib.hid hz0
  have hnS : ¬ SP sb pb w.heap.size := by rintro (h | h) <;> omega
  clear hz0 h
  go_enter Tryz.func107, Tryz.ntmps107
  go_wp2_with fail
  refine (scanNumber_any HZ0.out).mono ?_
  rintro e w1 ⟨rfl, hs1, hf1⟩
  generalize hq1 : scNum l at_ err = q1 at hs1 ⊢
  obtain ⟨n1, a1, e1⟩ := q1
  dsimp only at hs1 ⊢
  have hb1 := scNum_bound l at_ err
  rw [hq1] at hb1
  have HQ1 := Lib.hid hq1
  have HS1 := Lib.hid hs1
  clear hq1 hs1
  go_wp2_with fail
  refine (scanNumber_any HS1.out).mono ?_
  rintro e w2 ⟨rfl, hs2, hf2⟩
  generalize hq2 : scNum l a1 e1 = q2 at hs2 ⊢
  obtain ⟨n2, a2, e2⟩ := q2
  dsimp only at hs2 ⊢
  have hb2 := scNum_bound l a1 e1
  rw [hq2] at hb2
  have HQ2 := Lib.hid hq2
  have HS2 := Lib.hid hs2
  clear hq2 hs2
  go_wp2_with fail
  refine (scanNumber_any HS2.out).mono ?_
  rintro e w3 ⟨rfl, hs3, hf3⟩
  generalize hq3 : scNum l a2 e2 = q3 at hs3 ⊢
  obtain ⟨n3, a3, e3⟩ := q3
  dsimp only at hs3 ⊢
  have hb3 := scNum_bound l a2 e2
  rw [hq3] at hb3
  have HQ3 := Lib.hid hq3
  have HS3 := Lib.hid hs3
  clear hq3 hs3
  go_wp2_with fail
  refine (scanNumber_any HS3.out).mono ?_
  rintro e w4 ⟨rfl, hs4, hf4⟩
  generalize hq4 : scNum l a3 e3 = q4 at hs4 ⊢
  obtain ⟨n4, a4, e4⟩ := q4
  dsimp only at hs4 ⊢
  have hb4 := scNum_bound l a3 e3
  rw [hq4] at hb4
  have HQ4 := Lib.hid hq4
  have HS4 := Lib.hid hs4
  clear hq4 hs4
  go_wp2_with fail
  have hf04 : Fr (SP sb pb) (w.alloc (.cells sp0 93)) w4 := ((hf1.trans hf2).trans hf3).trans hf4
  have hsz4 := hf04.size
  simp only [World.size_alloc] at hsz4
  have hR4 : w4.heap[w.heap.size]? = some (.cells sp0 93 (0, 0)) := fr_keep hf04 (heap_alloc_new w _) hnS
  have hsb4 : sb < w4.heap.size := HS4.out.sb_lt
  have hz4 := HS4.out.below ((Below.refl w4.heap.size w4).alloc (Nat.le_refl _) (.cells #[.int .i64 n1, .int .i64 n2, .int .i64 n3, .int .i64 n4, .int .i64 0, .string ⟨#[]⟩] 93)) hsb4
  refine (scanNumber_any hz4).mono ?_
  rintro e w5 ⟨rfl, hs5, hf5⟩
  generalize hq5 : scNum l a4 e4 = q5 at hs5 ⊢
  obtain ⟨n5, a5, e5⟩ := q5
  dsimp only at hs5 ⊢
  have hb5 := scNum_bound l a4 e4
  rw [hq5] at hb5
  have HQ5 := Lib.hid hq5
  have HS5 := Lib.hid hs5
  have hnS4 : ¬ SP sb pb w4.heap.size := by rintro (h | h) <;> omega
  have hB5 := fr_keep hf5 (heap_alloc_new w4 _) hnS4
  have hR5 := fr_keep hf5 (blk_below ((Below.refl w4.heap.size w4).alloc (Nat.le_refl _) _) (by omega) hR4) hnS
  have hfw5 : Fr (fun k => SP sb pb k) w w5 := by
    have h1 : Fr (SP sb pb) w (w.alloc (.cells sp0 93)) := Fr.of_below ((Below.refl _ _).alloc (Nat.le_refl _) _)
    exact ((h1.trans hf04).trans (Fr.of_below ((Below.refl w4.heap.size w4).alloc (Nat.le_refl _) _))).trans hf5
  have hsz5 := hf5.size
  simp only [World.size_alloc] at hsz5
  clear hq5 hs5 hf1 hf2 hf3 hf4 hf04 hf5 hz4 hR4 HS1 HS2 HS3 HS4 HZ0
  have hc5 := blk_cell hB5
  have hfz5 := fun j => blk_frozen hB5 j
  have HB5 := Lib.hid hB5
  have HR5 := Lib.hid hR5
  clear hB5 hR5
  go_wp2_with fail
  · have h5 : (1099511627776 : Int) < (n5 : Int) := by assumption
    have hB6 : ((w5.setCell ⟨w4.heap.size, 4, none⟩ (.int .i64 (wrap64 (n4 + n5)))).setCell ⟨w4.heap.size, 4, none⟩ (.int .i64 (-1))).heap[w4.heap.size]? = some (.cells #[.int .i64 n1, .int .i64 n2, .int .i64 n3, .int .i64 n4, .int .i64 (-1), .string ⟨#[]⟩] 93 (0, 0)) := blk_set (blk_set HB5.out 4 _) 4 _
    have hR6 : ((w5.setCell ⟨w4.heap.size, 4, none⟩ (.int .i64 (wrap64 (n4 + n5)))).setCell ⟨w4.heap.size, 4, none⟩ (.int .i64 (-1))).heap[w.heap.size]? = some (.cells sp0 93 (0, 0)) := (Below.heap_setCell _ _ _ _ (by simp; omega)).trans ((Below.heap_setCell _ _ _ _ (by simp; omega)).trans HR5.out)
    have hF6 : Fr (SP sb pb) w ((w5.setCell ⟨w4.heap.size, 4, none⟩ (.int .i64 (wrap64 (n4 + n5)))).setCell ⟨w4.heap.size, 4, none⟩ (.int .i64 (-1))) := (hfw5.setNew (by simp; omega) _).setNew (by simp; omega) _
    have hS6 : ScanAt ((w5.setCell ⟨w4.heap.size, 4, none⟩ (.int .i64 (wrap64 (n4 + n5)))).setCell ⟨w4.heap.size, 4, none⟩ (.int .i64 (-1))) sb pb A c l a5 e5 := (HS5.out.fr (((Fr.refl (fun k => k = w4.heap.size) w5).setCell rfl _).setCell rfl _) (fun k hk => by omega))
    have hsz6 : w4.heap.size + 1 ≤ ((w5.setCell ⟨w4.heap.size, 4, none⟩ (.int .i64 (wrap64 (n4 + n5)))).setCell ⟨w4.heap.size, 4, none⟩ (.int .i64 (-1))).heap.size := by simp; exact hsz5
    clear hc5 hfz5 HB5 HR5 hfw5 HS5 hsz5
    generalize (w5.setCell ⟨w4.heap.size, 4, none⟩ (.int .i64 (wrap64 (n4 + n5)))).setCell ⟨w4.heap.size, 4, none⟩ (.int .i64 (-1)) = w6 at *
    refine (scanText_any 32 (by omega) hS6).mono ?_
    rintro e w7 ⟨rfl, hs7, hf7⟩
    generalize ht : scText 32 l a5 e5 = q7 at hs7 ⊢
    obtain ⟨tx, a7, e7⟩ := q7
    dsimp only at hs7 ⊢
    have hB7 := fr_keep hf7 hB6 hnS4
    have hR7 := fr_keep hf7 hR6 hnS
    have hF7 := hF6.trans hf7
    have hsz7 := Nat.le_trans hsz6 hf7.size
    have HT := Lib.hid ht
    have HS7 := Lib.hid hs7
    have hc7 := blk_cell hB7
    have hfz7 := fun j => blk_frozen hB7 j
    have hcr := blk_cell hR7
    have hfr := fun j => blk_frozen hR7 j
    have hne : w.heap.size < w4.heap.size := by omega
    have HH := Lib.hid (scTake_of HQ1.out HQ2.out HQ3.out HQ4.out HQ5.out HT.out)
    clear hs7 hf7 hB6 hR6 hF6 hB7 hR7 ht hsz6 HT HQ1 HQ2 HQ3 HQ4 HQ5 hS6
    unfold sp0 at hcr
    go_wp2_with fail
    have HH2 := HH.out
    rw [if_pos h5] at HH2
    rw [HH2]
    refine bodyPost_ret (v := .agg #[.int .i64 n1, .int .i64 n2, .int .i64 n3, .int .i64 n4, .int .i64 (-1), .string ⟨tx.toArray⟩]) (by simp [results, Tryz.results107, go_sem, hcr]) rfl ?_
    refine ⟨rfl, HS7.out.fr (S := fun k => k = w.heap.size ∨ k = w4.heap.size) ?_ (fun k hk => by omega), ?_⟩
    · exact ((((((((Fr.refl _ _).setCell (.inr rfl) _).setCell (.inl rfl) _).setCell (.inl rfl) _).setCell (.inl rfl) _).setCell (.inl rfl) _).setCell (.inl rfl) _).setCell (.inl rfl) _)
    · exact (((((((hF7.setNew (by simp; omega) _).setNew (by simp) _).setNew (by simp) _).setNew (by simp) _).setNew (by simp) _).setNew (by simp) _).setNew (by simp) _)
  · have h5 : (n5 : Int) ≤ 1099511627776 := by assumption
    have hB6 : (w5.setCell ⟨w4.heap.size, 4, none⟩ (.int .i64 (wrap64 (n4 + n5)))).heap[w4.heap.size]? = some (.cells #[.int .i64 n1, .int .i64 n2, .int .i64 n3, .int .i64 n4, .int .i64 (wrap64 (n4 + n5)), .string ⟨#[]⟩] 93 (0, 0)) := blk_set HB5.out 4 _
    have hR6 : (w5.setCell ⟨w4.heap.size, 4, none⟩ (.int .i64 (wrap64 (n4 + n5)))).heap[w.heap.size]? = some (.cells sp0 93 (0, 0)) := (Below.heap_setCell _ _ _ _ (by simp; omega)).trans HR5.out
    have hF6 : Fr (SP sb pb) w (w5.setCell ⟨w4.heap.size, 4, none⟩ (.int .i64 (wrap64 (n4 + n5)))) := hfw5.setNew (by simp; omega) _
    have hS6 : ScanAt (w5.setCell ⟨w4.heap.size, 4, none⟩ (.int .i64 (wrap64 (n4 + n5)))) sb pb A c l a5 e5 := (HS5.out.fr ((Fr.refl (fun k => k = w4.heap.size) w5).setCell rfl _) (fun k hk => by omega))
    have hsz6 : w4.heap.size + 1 ≤ (w5.setCell ⟨w4.heap.size, 4, none⟩ (.int .i64 (wrap64 (n4 + n5)))).heap.size := by simp; exact hsz5
    clear hc5 hfz5 HB5 HR5 hfw5 HS5 hsz5
    generalize w5.setCell ⟨w4.heap.size, 4, none⟩ (.int .i64 (wrap64 (n4 + n5))) = w6 at *
    refine (scanText_any 32 (by omega) hS6).mono ?_
    rintro e w7 ⟨rfl, hs7, hf7⟩
    generalize ht : scText 32 l a5 e5 = q7 at hs7 ⊢
    obtain ⟨tx, a7, e7⟩ := q7
    dsimp only at hs7 ⊢
    have hB7 := fr_keep hf7 hB6 hnS4
    have hR7 := fr_keep hf7 hR6 hnS
    have hF7 := hF6.trans hf7
    have hsz7 := Nat.le_trans hsz6 hf7.size
    have HT := Lib.hid ht
    have HS7 := Lib.hid hs7
    have hc7 := blk_cell hB7
    have hfz7 := fun j => blk_frozen hB7 j
    have hcr := blk_cell hR7
    have hfr := fun j => blk_frozen hR7 j
    have hne : w.heap.size < w4.heap.size := by omega
    have HH := Lib.hid (scTake_of HQ1.out HQ2.out HQ3.out HQ4.out HQ5.out HT.out)
    clear hs7 hf7 hB6 hR6 hF6 hB7 hR7 ht hsz6 HT HQ1 HQ2 HQ3 HQ4 HQ5 hS6
    unfold sp0 at hcr
    go_wp2_with fail
    have HH2 := HH.out
    rw [if_neg (by omega)] at HH2
    rw [HH2]
    refine bodyPost_ret (v := .agg #[.int .i64 n1, .int .i64 n2, .int .i64 n3, .int .i64 n4, .int .i64 (wrap64 (n4 + n5)), .string ⟨tx.toArray⟩]) (by simp [results, Tryz.results107, go_sem, hcr]) rfl ?_
    refine ⟨rfl, HS7.out.fr (S := fun k => k = w.heap.size ∨ k = w4.heap.size) ?_ (fun k hk => by omega), ?_⟩
    · exact ((((((((Fr.refl _ _).setCell (.inr rfl) _).setCell (.inl rfl) _).setCell (.inl rfl) _).setCell (.inl rfl) _).setCell (.inl rfl) _).setCell (.inl rfl) _).setCell (.inl rfl) _)
    · exact (((((((hF7.setNew (by simp; omega) _).setNew (by simp) _).setNew (by simp) _).setNew (by simp) _).setNew (by simp) _).setNew (by simp) _).setNew (by simp) _)
end Go.Proofs.YtfjpenbahoeklaaGreatDoor
namespace Go.Proofs.YtfjpenbahoeklaaGreatDoor
open Go.RowKit

/-- The spans that are read one behind the other. -/
def getLoop (l : List UInt8) : Nat → List Sp → Nat → Int → Option (List Sp × Nat × Int)
  | 0, acc, at_, err => some (acc, at_, err)
  | k + 1, acc, at_, err =>
    if (scTake l at_ err).2.2 = 0 ∧ (scTake l at_ err).1.ok = true then getLoop l k (acc ++ [(scTake l at_ err).1]) (scTake l at_ err).2.1 (scTake l at_ err).2.2 else none
def getFin (l : List UInt8) : Option (List Sp × Nat × Int) → List Sp × Int
  | none => ([], 30)
  | some (sps, at_, err) => if scEnd l at_ err = 0 then (sps, 0) else ([], 30)
/-- The answer of Get. -/
def getAns (l : List UInt8) : List Sp × Int := getFin l (getLoop l (scNum l 0 0).1 [] (scNum l 0 0).2.1 (scNum l 0 0).2.2)

theorem rdNum_pos : ∀ (l : List UInt8) (i n : Nat), (rdNum i n l).2.2 = 0 → 1 ≤ (rdNum i n l).2.1 := by
  intro l
  induction l with
  | nil => intro i n h; simp [rdNum] at h
  | cons x r ih =>
    intro i n h
    rw [rdNum] at h ⊢
    by_cases h1 : i = 0 ∧ x.toNat = 128
    · rw [if_pos h1] at h; simp at h
    · rw [if_neg h1] at h ⊢
      by_cases h2 : i = 9
      · rw [if_pos h2] at h; simp at h
      · rw [if_neg h2] at h ⊢
        by_cases h3 : x.toNat < 128
        · rw [if_pos h3]; simp
        · rw [if_neg h3] at h ⊢; exact ih _ _ h
theorem scNum_err {l : List UInt8} {at_ : Nat} {err : Int} (h : (scNum l at_ err).2.2 = 0) : err = 0 ∧ at_ + 1 ≤ (scNum l at_ err).2.1 := by
  unfold scNum at h ⊢
  by_cases he : err = 0
  · rw [if_pos he] at h ⊢
    have := rdNum_pos _ _ _ h
    exact ⟨he, by simp; omega⟩
  · rw [if_neg he] at h; exact absurd h he
theorem scText_err {most : Nat} {l : List UInt8} {at_ : Nat} {err : Int} (h : (scText most l at_ err).2.2 = 0) : (scNum l at_ err).2.2 = 0 ∧ at_ + 1 ≤ (scText most l at_ err).2.1 := by
  rw [scText_eq] at h ⊢
  by_cases h1 : (scNum l at_ err).2.2 ≠ 0
  · rw [if_pos h1] at h; exact absurd h h1
  · rw [if_neg h1] at h ⊢
    by_cases h2 : most < (scNum l at_ err).1
    · rw [if_pos h2] at h; simp at h
    · rw [if_neg h2] at h ⊢
      by_cases h3 : l.length - (scNum l at_ err).2.1 < (scNum l at_ err).1
      · rw [if_pos h3] at h; simp at h
      · rw [if_neg h3]
        have := scNum_err (l := l) (at_ := at_) (err := err) (by simpa using h1)
        exact ⟨by simpa using h1, by simp; omega⟩
theorem scText_len (most : Nat) (l : List UInt8) (at_ : Nat) (err : Int) : (scText most l at_ err).1.length ≤ most := by
  rw [scText_eq]
  by_cases h1 : (scNum l at_ err).2.2 ≠ 0
  · rw [if_pos h1]; simp
  · rw [if_neg h1]
    by_cases h2 : most < (scNum l at_ err).1
    · rw [if_pos h2]; simp
    · rw [if_neg h2]
      by_cases h3 : l.length - (scNum l at_ err).2.1 < (scNum l at_ err).1
      · rw [if_pos h3]; simp
      · rw [if_neg h3]; simp; omega
theorem scTake_err {l : List UInt8} {at_ : Nat} {err : Int} (h : (scTake l at_ err).2.2 = 0) : err = 0 ∧ at_ + 1 ≤ (scTake l at_ err).2.1 := by
  simp only [scTake] at h ⊢
  have h6 := scText_err h
  have h5 := scNum_err h6.1
  have h5' := scNum_err h5.1
  have h4 := scNum_err h5'.1
  have h3 := scNum_err h4.1
  have h2 := scNum_err h3.1
  have h1 := scNum_err h2.1
  exact ⟨h1.1, by omega⟩
theorem scTake_nm (l : List UInt8) (at_ : Nat) (err : Int) : (scTake l at_ err).1.nm.size ≤ 32 := by
  have h : ∀ a e, (⟨(scText 32 l a e).1.toArray⟩ : ByteArray).size ≤ 32 := fun a e => by
    have := scText_len 32 l a e
    simpa [ByteArray.size] using this
  exact h _ _

theorem own_fr {S : Nat → Prop} {w w' : World} {base : Nat} {e : TypeId} {size : Nat} {v : Value} {n : Nat} {xs : List Value} (h : w.ownsRow base e size v n xs) (hf : Fr S w w') (hS : ∀ k, S k → k < base) : w'.ownsRow base e size v n xs := by
  refine ⟨h.1, ?_⟩
  rcases h.2 with hn | ⟨g, cap, cur, hv, hb, hg, rest⟩
  · exact .inl hn
  · exact .inr ⟨g, cap, cur, hv, hb, (hf.block g (Array.getElem?_eq_some_iff.1 hg).1 (fun hs => by have := hS g hs; omega)).trans hg, rest⟩
/-- What a call leaves that answers spans and an error. -/
def ResSE (w : World) (r : List Sp × Int) (e : Ending) (w' : World) : Prop :=
  ∃ A c, e = .returned (.tuple #[.slice A r.1.length c, .int .i64 r.2]) ∧ w'.ownsRow w.heap.size 93 6 (.slice A r.1.length c) r.1.length (r.1.flatMap Sp.cells) ∧ Below w.heap.size w w'

set_option maxRecDepth 100000 in
set_option maxHeartbeats 1000000 in
theorem Get_any (A : Option Addr) (n cap B : Nat) (l : List UInt8) (w : World) (hB : B ≤ w.heap.size) (hbig : n ≤ 4294967296) (hr : RdB w B A n l) :
    Calls Tryz.prog 69 #[.slice A n cap] w (ResSE w (getAns l)) := by
  obtain ⟨i0, hi0, hz0, hz1, hz2⟩ := info_parts Tryz.infoSpan
  have hlen := hr.len
  subst hlen
  have HG : Hid (getAns l = getFin l (getLoop l (scNum l 0 0).1 [] (scNum l 0 0).2.1 (scNum l 0 0).2.2)) := Lib.hid rfl
  go_enter Tryz.func69, Tryz.ntmps69
  go_wp2_with fail
  refine (over_any _ _ _ _ _ _ hB (by omega) hr).mono ?_
  rintro e w1 ⟨sb, pb, A1, c1, rfl, hpb, hs1, hb1⟩
  have HS1 := Lib.hid hs1
  have hsb : pb < sb := hs1.lt
  clear hs1
  go_wp2_with fail
  refine (scanNumber_any HS1.out).mono ?_
  rintro e w2 ⟨rfl, hs2, hf2⟩
  have hb2 : Below w.heap.size w w2 := hb1.trans (hf2.below hb1.size (fun k hk => by rcases hk with rfl | rfl <;> omega))
  have hNb := scNum_bound l 0 0
  generalize scNum l 0 0 = q at *
  obtain ⟨N, a2, e2⟩ := q
  dsimp only at hs2 HG hNb ⊢
  have HS2 := Lib.hid hs2
  clear hs2 hf2 hb1 HS1 hr
  go_wp2_with fail
  go_loopw [6, 13] (fun v i wr => ∃ (k : Nat) (acc : List Sp) (at_ : Nat) (err : Int) (A' : Option Addr) (c : Nat), k ≤ N ∧ i = .int .i64 k ∧ v = .slice A' acc.length c ∧
      wr.ownsRow (sb + 1) 93 6 (.slice A' acc.length c) acc.length (acc.flatMap Sp.cells) ∧ ScanAt wr sb pb A1 c1 l at_ err ∧ Below w.heap.size w wr ∧ getLoop l N [] a2 e2 = getLoop l (N - k) acc at_ err ∧ acc.length ≤ at_) (fun _ i _ => N - (intOf i).toNat)
  case atStart => exact ⟨0, [], a2, e2, none, 0, by omega, rfl, rfl, World.ownsRow_nil _ _ _ _, HS2.out, hb2, rfl, by simp⟩
  case round =>
    obtain ⟨k, acc, at_, err, A', c, hk, rfl, rfl, hown, hs, hb, hg, hacc⟩ := hrel
    have HG2 := Lib.hid hg
    have HO := Lib.hid hown
    have hal := hs.le
    have HS := Lib.hid hs
    have hsz := hb.size
    have hsbw := hs.sb_lt
    clear hg hown hs hb2 HS2
    by_cases hlt : k < N
    · obtain ⟨m, hm⟩ : ∃ m, N - k = m + 1 := ⟨N - k - 1, by omega⟩
      have hstep : getLoop l (N - k) acc at_ err = if (scTake l at_ err).2.2 = 0 ∧ (scTake l at_ err).1.ok = true then getLoop l m (acc ++ [(scTake l at_ err).1]) (scTake l at_ err).2.1 (scTake l at_ err).2.2 else none := by rw [hm]; rfl
      have hterr := @scTake_err l at_ err
      have hnm := scTake_nm l at_ err
      have hmk : N - (k + 1) = m := by omega
      go_wp2_with fail
      refine (take_any HS.out).mono ?_
      rintro e w3 ⟨rfl, hs3, hf3⟩
      generalize scTake l at_ err = t at *
      obtain ⟨s, a3, e3⟩ := t
      dsimp only at hs3 hstep hterr hnm ⊢
      have HS3 := Lib.hid hs3
      have HST := Lib.hid hstep
      have hb3 : Below w.heap.size w w3 := hb.trans (hf3.below hsz (fun k hk => by rcases hk with rfl | rfl <;> omega))
      have HO3 := Lib.hid (own_fr HO.out hf3 (fun k hk => by rcases hk with rfl | rfl <;> omega))
      have hsz3 := hb3.size
      have hsb3 := hs3.sb_lt
      have HE := Lib.hid hterr
      have HM := Lib.hid hmk
      have HM2 := Lib.hid hm
      clear hs3 hstep hf3 HS HO hterr hmk hm
      go_wp2_with fail
      have hs4 := HS3.out.below ((Below.refl w3.heap.size w3).alloc (Nat.le_refl _) (.cells #[.int .i64 s.tr, .int .i64 s.id, .int .i64 s.pa, .int .i64 s.st, .int .i64 s.en, .string s.nm] 93)) hsb3
      have HS4 := Lib.hid hs4
      clear hs4
      refine (err_any HS4.out).mono ?_
      rintro e w' ⟨rfl, rfl⟩
      by_cases he3 : e3 = 0
      · subst he3
        go_wp2_with fail
        refine (check_any s _ (by omega)).mono ?_
        rintro e w4 ⟨rfl, hb4⟩
        have hB4 := blk_cell (blk_below hb4 (by simp) (heap_alloc_new w3 _))
        have hb4' : Below w3.heap.size w3 w4 := ((Below.refl _ _).alloc (Nat.le_refl _) _).trans (hb4.mono (by simp))
        have hz4 : w3.heap.size < w4.heap.size := by have := hb4.size; simp at this; omega
        have hsb4 : sb < w4.heap.size := by omega
        have HS5 := Lib.hid (HS3.out.below hb4' hsb3)
        have HO5 := Lib.hid (own_below HO3.out hb4')
        have hb5 := hb3.trans (hb4'.mono hsz3)
        have hsz5 := hb5.size
        have HEE := Lib.hid (HE.out (by trivial))
        have hacc2 : acc.length + 1 ≤ 4294967297 := by omega
        have hal3 := HS3.out.le
        clear hb4 hb4' HS4
        cases hok : s.ok
        · have HF : Hid (getLoop l (N - k) acc at_ err = none) := Lib.hid (by rw [HST.out, if_neg (by simp [hok])])
          rw [Sp.check_f hok]
          clear hok
          go_wp2_with fail
          go_ret2
          rw [HG.out, HG2.out, HF.out]
          exact ⟨none, 0, rfl, World.ownsRow_nil _ _ _ _, hb5⟩
        · have HF : Hid (getLoop l (N - k) acc at_ err = getLoop l m (acc ++ [s]) a3 0) := Lib.hid (by rw [HST.out, if_pos ⟨by trivial, hok⟩])
          rw [Sp.check_t hok]
          clear hok
          go_wp2_with (at_builtin; refine wpList_app _ rfl (.tmp 25) (.tmp 27) _ rfl (sb + 1) 93 i0 _ 6 56 Tryz.underlying48 hi0 hz0 hz1 hz2 rfl (by omega) _ _ _ _ rfl (HO5.out.alloc _) (w4.heap.size + 1) _ 1 _ s.cells rfl (Rd.new (by simp) rfl (by intro j hj; simp [Sp.cells] at hj; match j, hj with | 0, _ => rfl | 1, _ => rfl | 2, _ => rfl | 3, _ => rfl | 4, _ => rfl | 5, _ => rfl)) (by have := cells_oneCell [s]; simpa using this) (by unfold maxLen; omega) (by omega) (by simp; omega) ?_; intro A6 c6 w6 hown6 hg6 _)
          have hs5 := HS5.out.below ((Below.refl w4.heap.size w4).alloc (Nat.le_refl _) (.cells #[.int .i64 s.tr, .int .i64 s.id, .int .i64 s.pa, .int .i64 s.st, .int .i64 s.en, .string s.nm] 93)) hsb4
          have hB6 := below_app (Below.refl (sb + 1) _) (HO5.out.alloc _) hg6 (by simp; omega)
          have hW6 := below_app (b := w.heap.size) (hb5.alloc hsz5 _) (own_le (HO5.out.alloc _) (by omega)) hg6 (by simp; omega)
          have hcl : (acc ++ [s]).flatMap Sp.cells = acc.flatMap Sp.cells ++ s.cells := by simp
          have hln : (acc ++ [s]).length = acc.length + 1 := by simp
          go_roundw
          case rel =>
            refine ⟨k + 1, acc ++ [s], a3, 0, A6, c6, by omega, by go_num, by rw [hln], ?_, hs5.below hB6 (by omega), hW6, by rw [HG2.out, HF.out, HM.out], by have := HEE.out.2; rw [hln]; omega⟩
            rw [hln, hcl]; exact hown6
          case measure => simp [intOf]; omega
      · have hbe : (e3 != 0) = true := by simpa using he3
        have HF : Hid (getLoop l (N - k) acc at_ err = none) := Lib.hid (by rw [HST.out, if_neg (by simp [he3])])
        clear he3
        go_wp2_with fail
        go_ret2
        rw [HG.out, HG2.out, HF.out]
        exact ⟨none, 0, rfl, World.ownsRow_nil _ _ _ _, hb3.alloc hsz3 _⟩
    · have hk0 : N - k = 0 := by omega
      have HF : Hid (getLoop l (N - k) acc at_ err = some (acc, at_, err)) := Lib.hid (by rw [hk0]; rfl)
      clear hk0
      go_wp2_with fail
      refine (scanEnd_any HS.out).mono ?_
      rintro e w3 ⟨rfl, hs3, hf3⟩
      have hb3 : Below w.heap.size w w3 := hb.trans (hf3.below hsz (fun k hk => by rcases hk with rfl | rfl <;> omega))
      have HO3 := Lib.hid (own_fr HO.out hf3 (fun k hk => by rcases hk with rfl | rfl <;> omega))
      have HFin : Hid (getAns l = if scEnd l at_ err = 0 then (acc, 0) else ([], 30)) := Lib.hid (by rw [HG.out, HG2.out, HF.out]; rfl)
      generalize scEnd l at_ err = ee at *
      clear hs3 hf3 HS HO
      by_cases he : ee = 0
      · subst he
        go_wp2_with fail
        go_ret2
        rw [HFin.out, if_pos (by trivial)]
        exact ⟨A', c, rfl, own_le HO3.out (by omega), hb3⟩
      · have hbe : (ee != 0) = true := by simpa using he
        have HN := Lib.hid he
        clear he
        go_wp2_with fail
        go_ret2
        rw [HFin.out, if_neg HN.out]
        exact ⟨none, 0, rfl, World.ownsRow_nil _ _ _ _, hb3⟩
end Go.Proofs.YtfjpenbahoeklaaGreatDoor
namespace Go.Proofs.YtfjpenbahoeklaaGreatDoor
open Go.RowKit

theorem dhi_ne {n : Nat} (h : 0 < n) : 0 < (dhi n).length := by rw [dhi_pos h]; simp
theorem u8_of (n : Nat) (h : n < 256) : (UInt8.ofNat n).toNat = n := by
  rw [UInt8.toNat_ofNat']; exact Nat.mod_eq_of_lt h
theorem u8_back {x : UInt8} {n : Nat} (h : x.toNat = n) : UInt8.ofNat n = x := by rw [← h]; simp
theorem rdNum_dhi (k : Nat) : ∀ n r, (dhi n).length = k → k ≤ 9 → rdNum 0 0 (dhi n ++ r) = rdNum k n r := by
  induction k with
  | zero =>
    intro n r h _
    by_cases h0 : n = 0
    · subst h0; rw [dhi_zero]; rfl
    · have := dhi_ne (n := n) (by omega); omega
  | succ k ih =>
    intro n r h hk
    by_cases h0 : n = 0
    · subst h0; rw [dhi_zero] at h; simp at h
    · rw [dhi_pos (by omega)] at h ⊢
      simp only [List.length_append, List.length_cons, List.length_nil, Nat.zero_add, Nat.add_right_cancel_iff] at h
      rw [List.append_assoc, ih _ _ h (by omega)]
      have hb := u8_of (n % 128 + 128) (by omega)
      rw [List.singleton_append, rdNum, hb, if_neg, if_neg (by omega), if_neg (by omega), show (n / 128 * 128 + (n % 128 + 128) % 128) = n by omega]
      rintro ⟨h1, h2⟩
      by_cases h3 : n / 128 = 0
      · omega
      · have := dhi_ne (n := n / 128) (by omega); omega
theorem rdNum_digits (n : Nat) (r : List UInt8) (h : n < 9223372036854775808) : rdNum 0 0 (digits n ++ r) = (n, (digits n).length, 0) := by
  have hl := dhi_len 8 (n / 128) (by omega)
  have hb := u8_of (n % 128) (by omega)
  rw [digits, List.append_assoc, rdNum_dhi _ _ _ rfl (by omega), List.singleton_append, rdNum, hb, if_neg (by omega), if_neg (by omega), if_pos (by omega)]
  simp only [List.length_append, List.length_cons, List.length_nil, Nat.zero_add, Prod.mk.injEq, and_true]
  omega
theorem rdNum_back : ∀ (l : List UInt8) (n m k : Nat), rdNum (dhi n).length n l = (m, k, 0) → dhi n ++ l = digits m ++ l.drop (k - (dhi n).length) ∧ k = (digits m).length := by
  intro l
  induction l with
  | nil => intro n m k h; simp [rdNum] at h
  | cons x r ih =>
    intro n m k h
    have hx : x.toNat < 256 := x.toNat_lt
    rw [rdNum] at h
    by_cases h1 : (dhi n).length = 0 ∧ x.toNat = 128
    · rw [if_pos h1] at h; simp at h
    · rw [if_neg h1] at h
      by_cases h2 : (dhi n).length = 9
      · rw [if_pos h2] at h; simp at h
      · rw [if_neg h2] at h
        by_cases h3 : x.toNat < 128
        · rw [if_pos h3] at h
          simp only [Prod.mk.injEq, and_true] at h
          obtain ⟨rfl, rfl⟩ := h
          have e1 : (n * 128 + x.toNat % 128) / 128 = n := by omega
          have e2 : (n * 128 + x.toNat % 128) % 128 = x.toNat := by omega
          have e3 : digits (n * 128 + x.toNat % 128) = dhi n ++ [x] := by rw [digits, e1, e2, u8_back rfl]
          rw [e3, Nat.add_sub_cancel_left]
          simp
        · rw [if_neg h3] at h
          have e1 : (n * 128 + x.toNat % 128) / 128 = n := by omega
          have e2 : (n * 128 + x.toNat % 128) % 128 + 128 = x.toNat := by omega
          have hp : 0 < n * 128 + x.toNat % 128 := by
            by_cases h0 : n = 0
            · subst h0; rw [dhi_zero] at h1; simp at h1; omega
            · omega
          have e3 : dhi (n * 128 + x.toNat % 128) = dhi n ++ [x] := by rw [dhi_pos hp, e1, e2, u8_back rfl]
          have e4 : (dhi (n * 128 + x.toNat % 128)).length = (dhi n).length + 1 := by rw [e3]; simp
          have := ih (n * 128 + x.toNat % 128) m k (by rw [e4]; exact h)
          refine ⟨?_, this.2⟩
          have h5 := this.1
          rw [e4, e3, List.append_assoc, List.singleton_append] at h5
          have hk : (dhi n).length + 1 ≤ k := by
            have hlen := congrArg List.length h5
            simp only [List.length_append, List.length_cons, List.length_drop] at hlen
            have h7 := this.2
            by_cases hh : (dhi n).length + 1 ≤ k
            · exact hh
            · rw [show k - ((dhi n).length + 1) = 0 by omega] at hlen; omega
          rw [h5, show k - (dhi n).length = (k - ((dhi n).length + 1)) + 1 by omega, List.drop_succ_cons]

theorem scNum_enc {l r : List UInt8} {at_ n : Nat} (h : l.drop at_ = digits n ++ r) (hn : n < 9223372036854775808) : scNum l at_ 0 = (n, at_ + (digits n).length, 0) := by
  rw [scNum, if_pos rfl, h, rdNum_digits n r hn]
theorem drop_on {l a r : List UInt8} {at_ : Nat} (h : l.drop at_ = a ++ r) : l.drop (at_ + a.length) = r := by
  rw [← List.drop_drop, h, List.drop_left]
theorem scNum_dec {l : List UInt8} {at_ m k : Nat} {err : Int} (h : scNum l at_ err = (m, k, 0)) : l.drop at_ = digits m ++ l.drop k ∧ k = at_ + (digits m).length := by
  have he : err = 0 := by
    rw [scNum] at h
    by_cases he : err = 0
    · exact he
    · rw [if_neg he] at h; simp at h; exact absurd h.2.2 he
  subst he
  rw [scNum, if_pos rfl] at h
  simp only [Prod.mk.injEq] at h
  obtain ⟨h1, h2, h3⟩ := h
  have hb := rdNum_back (l.drop at_) 0 m (rdNum 0 0 (l.drop at_)).2.1 (by rw [dhi_zero, List.length_nil]; rw [← h1, ← h3])
  rw [dhi_zero, List.nil_append, List.length_nil, Nat.sub_zero, List.drop_drop, h2] at hb
  exact ⟨hb.1, by omega⟩
theorem scText_enc {l tx r : List UInt8} {at_ : Nat} (h : l.drop at_ = digits tx.length ++ tx ++ r) (ht : tx.length ≤ 32) : scText 32 l at_ 0 = (tx, at_ + (digits tx.length).length + tx.length, 0) := by
  rw [List.append_assoc] at h
  have h1 := scNum_enc h (by omega)
  have h2 := drop_on h
  have h3 : tx.length ≤ l.length - (at_ + (digits tx.length).length) := by
    have := congrArg List.length h2
    simp only [List.length_drop, List.length_append] at this; omega
  rw [scText_eq, h1]
  dsimp only
  rw [if_neg (by simp), if_neg (by omega), if_neg (by omega), h2, List.take_left]
theorem scText_dec {l tx : List UInt8} {at_ k : Nat} {err : Int} (h : scText 32 l at_ err = (tx, k, 0)) : l.drop at_ = digits tx.length ++ tx ++ l.drop k ∧ k = at_ + (digits tx.length).length + tx.length := by
  rw [scText_eq] at h
  generalize hq : scNum l at_ err = q at h
  obtain ⟨m, k1, e1⟩ := q
  simp only at h
  by_cases h1 : e1 ≠ 0
  · rw [if_pos h1] at h; simp at h; exact absurd h.2.2 h1
  · rw [if_neg h1] at h
    obtain rfl : e1 = 0 := by omega
    by_cases h2 : 32 < m
    · rw [if_pos h2] at h; simp at h
    · rw [if_neg h2] at h
      by_cases h3 : l.length - k1 < m
      · rw [if_pos h3] at h; simp at h
      · rw [if_neg h3] at h
        simp only [Prod.mk.injEq, and_true] at h
        obtain ⟨rfl, rfl⟩ := h
        have hd := scNum_dec hq
        have hl : ((l.drop k1).take m).length = m := by rw [List.length_take, List.length_drop]; omega
        rw [hl, List.append_assoc, ← List.drop_drop, List.take_append_drop]
        exact ⟨hd.1, by omega⟩

theorem Sp.enc_eq (s : Sp) : s.enc = digits s.tr.toNat ++ (digits s.id.toNat ++ (digits s.pa.toNat ++ (digits s.st.toNat ++ (digits (s.en - s.st).toNat ++ (digits s.nm.data.toList.length ++ s.nm.data.toList))))) := by
  have : s.nm.data.toList.length = s.nm.size := rfl
  rw [this]
  simp only [Sp.enc, numsEnc, Sp.nums, List.flatMap_cons, List.flatMap_nil, List.append_nil, List.append_assoc]
theorem scTake_enc {l r : List UInt8} {at_ : Nat} {s : Sp} (h : l.drop at_ = s.enc ++ r) (hs : s.ok = true) : scTake l at_ 0 = (s, at_ + s.enc.length, 0) := by
  have hp := Sp.ok_parts hs
  have hsz : s.nm.data.toList.length = s.nm.size := rfl
  have hE := s.enc_eq
  rw [hE] at h
  simp only [List.append_assoc] at h
  have h1 := scNum_enc h (by omega)
  have d1 := drop_on h
  have h2 := scNum_enc d1 (by omega)
  have d2 := drop_on d1
  have h3 := scNum_enc d2 (by omega)
  have d3 := drop_on d2
  have h4 := scNum_enc d3 (by omega)
  have d4 := drop_on d3
  have h5 := scNum_enc d4 (by omega)
  have d5 := drop_on d4
  rw [← List.append_assoc] at d5
  have h6 := scText_enc d5 (by omega)
  rw [scTake_of h1 h2 h3 h4 h5 h6]
  have e1 : ((s.tr.toNat : Nat) : Int) = s.tr := by omega
  have e2 : ((s.id.toNat : Nat) : Int) = s.id := by omega
  have e3 : ((s.pa.toNat : Nat) : Int) = s.pa := by omega
  have e4 : ((s.st.toNat : Nat) : Int) = s.st := by omega
  have e5 : (((s.en - s.st).toNat : Nat) : Int) = s.en - s.st := by omega
  have e6 : wrap64 (s.st + (s.en - s.st)) = s.en := by rw [IntWalk.wrap64_in _ ⟨by omega, by omega⟩]; omega
  rw [e1, e2, e3, e4, e5, if_neg (by omega), e6, hE]
  simp only [List.length_append, Prod.mk.injEq, and_true]
  refine ⟨?_, by omega⟩
  cases s; simp
theorem scTake_dec {l : List UInt8} {at_ k : Nat} {err : Int} {s : Sp} (h : scTake l at_ err = (s, k, 0)) (hs : s.ok = true) : l.drop at_ = s.enc ++ l.drop k ∧ k = at_ + s.enc.length := by
  have hp := Sp.ok_parts hs
  generalize q1 : scNum l at_ err = p1 at *
  obtain ⟨n1, a1, e1⟩ := p1
  generalize q2 : scNum l a1 e1 = p2 at *
  obtain ⟨n2, a2, e2⟩ := p2
  generalize q3 : scNum l a2 e2 = p3 at *
  obtain ⟨n3, a3, e3⟩ := p3
  generalize q4 : scNum l a3 e3 = p4 at *
  obtain ⟨n4, a4, e4⟩ := p4
  generalize q5 : scNum l a4 e4 = p5 at *
  obtain ⟨n5, a5, e5⟩ := p5
  generalize q6 : scText 32 l a5 e5 = p6 at *
  obtain ⟨tx, a6, e6⟩ := p6
  rw [scTake_of q1 q2 q3 q4 q5 q6] at h
  simp only [Prod.mk.injEq] at h
  obtain ⟨hS, rfl, rfl⟩ := h
  have z5 : e5 = 0 := (scNum_err (l := l) (at_ := a5) (err := e5) (scText_err (most := 32) (by rw [q6])).1).1
  subst z5
  have z4 : e4 = 0 := (scNum_err (l := l) (at_ := a4) (err := e4) (by rw [q5])).1
  subst z4
  have z3 : e3 = 0 := (scNum_err (l := l) (at_ := a3) (err := e3) (by rw [q4])).1
  subst z3
  have z2 : e2 = 0 := (scNum_err (l := l) (at_ := a2) (err := e2) (by rw [q3])).1
  subst z2
  have z1 : e1 = 0 := (scNum_err (l := l) (at_ := a1) (err := e1) (by rw [q2])).1
  subst z1
  have d1 := scNum_dec q1
  have d2 := scNum_dec q2
  have d3 := scNum_dec q3
  have d4 := scNum_dec q4
  have d5 := scNum_dec q5
  have d6 := scText_dec q6
  subst hS
  simp only at hp
  by_cases hb : (1099511627776 : Int) < n5
  · rw [if_pos hb] at hp; omega
  · have hw : wrap64 ((n4 : Int) + n5) = n4 + n5 := IntWalk.wrap64_in _ ⟨by omega, by omega⟩
    rw [Sp.enc_eq]
    simp only [if_neg hb, hw]
    have e5 : ((n4 : Int) + n5 - n4).toNat = n5 := by omega
    rw [e5]
    simp only [Int.toNat_natCast]
    rw [d1.1, d2.1, d3.1, d4.1, d5.1, d6.1]
    simp only [List.append_assoc, List.length_append]
    exact ⟨trivial, by omega⟩

theorem getLoop_enc (l r : List UInt8) : ∀ (sps : List Sp) (acc : List Sp) (at_ : Nat), (∀ s ∈ sps, s.ok = true) → l.drop at_ = encL sps ++ r →
    getLoop l sps.length acc at_ 0 = some (acc ++ sps, at_ + (encL sps).length, 0) := by
  intro sps
  induction sps with
  | nil => intro acc at_ _ _; simp [getLoop, encL]
  | cons s sps ih =>
    intro acc at_ hs h
    have hE : encL (s :: sps) = s.enc ++ encL sps := rfl
    rw [hE, List.append_assoc] at h
    have h1 := scTake_enc h (hs s (by simp))
    rw [List.length_cons, getLoop, h1, if_pos ⟨rfl, hs s (by simp)⟩]
    simp only
    rw [ih (acc ++ [s]) _ (fun x hx => hs x (by simp [hx])) (drop_on h), hE]
    simp [Nat.add_assoc]
theorem getLoop_dec (l : List UInt8) : ∀ (k : Nat) (acc res : List Sp) (at_ a : Nat) (err : Int), getLoop l k acc at_ err = some (res, a, 0) →
    ∃ sps, res = acc ++ sps ∧ sps.length = k ∧ (∀ s ∈ sps, s.ok = true) ∧ l.drop at_ = encL sps ++ l.drop a := by
  intro k
  induction k with
  | zero =>
    intro acc res at_ a err h
    simp only [getLoop, Option.some.injEq, Prod.mk.injEq] at h
    obtain ⟨rfl, rfl, _⟩ := h
    exact ⟨[], by simp, rfl, by simp, by simp [encL]⟩
  | succ k ih =>
    intro acc res at_ a err h
    rw [getLoop] at h
    generalize hq : scTake l at_ err = q at h
    obtain ⟨s, a1, e1⟩ := q
    simp only at h
    by_cases hc : e1 = 0 ∧ s.ok = true
    · rw [if_pos hc] at h
      obtain ⟨sps, rfl, hl, ho, hd⟩ := ih _ _ _ _ _ h
      obtain ⟨rfl, hs⟩ := hc
      have hd1 := scTake_dec hq hs
      refine ⟨s :: sps, by simp, by simp [hl], ?_, ?_⟩
      · intro x hx
        rcases List.mem_cons.1 hx with rfl | hx
        · exact hs
        · exact ho x hx
      · rw [hd1.1, hd, show encL (s :: sps) = s.enc ++ encL sps from rfl, List.append_assoc]
    · rw [if_neg hc] at h; simp at h

/-- What is put reads back. -/
theorem get_put (l : List Sp) (h : l.all Sp.ok = true) (hl : l.length < 9223372036854775808) : getAns (putEnc l) = (l, 0) := by
  have ho : ∀ s ∈ l, s.ok = true := List.all_eq_true.1 h
  have h0 : (putEnc l).drop 0 = digits l.length ++ encL l := rfl
  have h1 := scNum_enc h0 hl
  have h2 : (putEnc l).drop (0 + (digits l.length).length) = encL l ++ [] := by rw [drop_on h0]; simp
  rw [getAns, h1]
  simp only
  rw [getLoop_enc _ _ l [] _ ho h2]
  have hz : scEnd (putEnc l) (0 + (digits l.length).length + (encL l).length) 0 = 0 := by
    rw [scEnd, if_neg]
    simp [putEnc]
  simp only [getFin, List.nil_append]
  rw [if_pos hz]
/-- What reads is what was put. -/
theorem put_get (l : List UInt8) : (∃ sps, getAns l = (sps, 0) ∧ sps.all Sp.ok = true ∧ putEnc sps = l) ∨ getAns l = ([], 30) := by
  rw [getAns]
  generalize hn : scNum l 0 0 = q
  obtain ⟨n, a, e⟩ := q
  simp only
  cases hg : getLoop l n [] a e with
  | none => exact .inr rfl
  | some t =>
    obtain ⟨sps, a1, e1⟩ := t
    simp only [getFin]
    by_cases hz : scEnd l a1 e1 = 0
    · rw [if_pos hz]
      left
      rw [scEnd] at hz
      by_cases h3 : e1 = 0 ∧ a1 < l.length
      · rw [if_pos h3] at hz; simp at hz
      · rw [if_neg h3] at hz
        subst hz
        obtain ⟨s2, h4, h5, h6, h7⟩ := getLoop_dec l n [] sps a a1 e hg
        rw [List.nil_append] at h4
        subst h4
        have he : e = 0 := by
          cases n with
          | zero => simp [getLoop] at hg; exact hg.2.2
          | succ n =>
            rw [getLoop] at hg
            by_cases hc : (scTake l a e).2.2 = 0 ∧ (scTake l a e).1.ok = true
            · exact (scTake_err hc.1).1
            · rw [if_neg hc] at hg; simp at hg
        subst he
        have hd := scNum_dec hn
        refine ⟨sps, rfl, List.all_eq_true.2 h6, ?_⟩
        have h8 : l.drop a1 = [] := List.drop_eq_nil_of_le (by omega)
        rw [h8, List.append_nil] at h7
        rw [List.drop_zero, h7] at hd
        rw [putEnc, h5]; exact hd.1.symm
    · rw [if_neg hz]; exact .inr rfl
theorem putAns_ok {l : List Sp} (h : l.all Sp.ok = true) : putAns l = (putEnc l, 0) := by rw [putAns, if_pos h]
theorem putAns_no {l : List Sp} (h : l.all Sp.ok = false) : putAns l = ([], 30) := by rw [putAns, if_neg (by simp [h])]
theorem encL_ge (l : List Sp) : l.length ≤ (encL l).length := by
  induction l with
  | nil => simp
  | cons s l ih =>
    have h : 1 ≤ s.enc.length := by
      rw [Sp.enc_eq]; simp only [List.length_append, digits, List.length_cons, List.length_nil]; omega
    simp only [encL, List.flatMap_cons, List.length_append, List.length_cons] at ih ⊢; omega
theorem putEnc_ge (l : List Sp) : l.length ≤ (putEnc l).length := by
  have := encL_ge l; simp only [putEnc, List.length_append]; omega
end Go.Proofs.YtfjpenbahoeklaaGreatDoor
namespace Go.Proofs.YtfjpenbahoeklaaGreatDoor
open Go Go.RowKit

section
variable {P : Program} {ops : Array Oper} {Q : Exit → Act → World → Prop} {C : World → Prop}

/-- The walk: each operation by its number; with 'true': it yields one value in every world of the class. -/
def wpSched (P : Program) (ops : Array Oper) (Q : Exit → Act → World → Prop) (C : World → Prop) : List (Nat × Bool) → Act → World → Prop
  | [], a, w => Q .normal a w
  | (i, p) :: rest, a, w =>
    match ops[i]? with
    | none => False
    | some o =>
      if Region.wanted o (yielded ops a.tmps) then
        (if p then ∃ v, (∀ W, C W → (execOp a.eval o).run P W = .ok (.value v) W) ∧ wpSched P ops Q C rest (a.put o.dst v) w
         else o.wp P a w (fun a' w' => C w' ∧ wpSched P ops Q C rest a' w') Q)
      else wpSched P ops Q C rest (a.put o.dst undef) w

/-- May they come up so? -/
def schedB (ops : Array Oper) : List (Nat × Bool) → Array Bool → Bool
  | [], listed => (Region.ready .any ops listed).isEmpty
  | (i, p) :: rest, listed => (if p then (Region.ready .any ops listed).contains i && Region.free .any ops listed i else Region.ready .any ops listed == [i]) && schedB ops rest (listed.setIfInBounds i true)

theorem wpAnyH_sched (hs : Region.noSelect ops = true) (hQ : ∀ (c : _) (d : Option Tmp) (v : Value) a w, Q (.panic c) (a.put d v) w → Q (.panic c) a w) :
    ∀ (l : List (Nat × Bool)) (listed : Array Bool) (a : Act) (w : World), schedB ops l listed = true → C w → wpSched P ops Q C l a w → wpAnyH P .any ops Q C l.length listed a w := by
  intro l
  induction l with
  | nil => intro listed a w hB _ h; exact ⟨by simpa [schedB] using hB, h⟩
  | cons x rest ih =>
    obtain ⟨i, p⟩ := x
    intro listed a w hB hC h
    simp only [schedB, Bool.and_eq_true] at hB
    obtain ⟨hB1, hB2⟩ := hB
    simp only [wpSched] at h
    cases ho : ops[i]? with
    | none => simp only [ho] at h
    | some o =>
      simp only [ho] at h
      cases p with
      | true =>
        simp only [if_true, Bool.and_eq_true] at hB1
        refine wpAnyH_take ho hs hB1.2 hB1.1 (v := ?v) (fun c a w h => hQ c _ _ a w h) ?y hC ?k
        case v => exact if hw : Region.wanted o (yielded ops a.tmps) = true then (by rw [if_pos hw] at h; simp only [if_true] at h; exact h.choose) else undef
        case y =>
          by_cases hw : Region.wanted o (yielded ops a.tmps) = true
          · rw [dif_pos hw]
            refine .inl ⟨hw, ?_⟩
            have h' := h
            rw [if_pos hw] at h'
            simp only [if_true] at h'
            exact h'.choose_spec.1
          · rw [dif_neg hw]
            exact .inr ⟨by simpa using hw, rfl⟩
        case k =>
          by_cases hw : Region.wanted o (yielded ops a.tmps) = true
          · rw [dif_pos hw]
            have h' := h
            rw [if_pos hw] at h'
            simp only [if_true] at h'
            exact ih _ _ _ hB2 hC h'.choose_spec.2
          · rw [dif_neg hw]
            rw [if_neg hw] at h
            exact ih _ _ _ hB2 hC h
      | false =>
        have hr : Region.ready .any ops listed = [i] := by simpa using hB1
        refine wpAnyH_all hr (by simp) fun j hj => ?_
        obtain rfl : j = i := by simpa using hj
        unfold wpOp
        simp only [ho]
        by_cases hw : Region.wanted o (yielded ops a.tmps) = true
        · rw [if_pos hw]
          rw [if_pos hw] at h
          simp only [Bool.false_eq_true, if_false] at h
          exact .inl (Oper.wp_mono (fun a' w' ⟨h1, h2⟩ => ⟨h1, ih _ _ _ hB2 h1 h2⟩) h)
        · rw [if_neg hw]
          rw [if_neg hw] at h
          exact ⟨hC, ih _ _ _ hB2 hC h⟩

/-- A region that draws its order. -/
theorem wp_region_sched {id : Nat} {a : Act} {w : World} (l : List (Nat × Bool)) (C : World → Prop) (hm : P.follows .mixedOrders = true) (hs : Region.noSelect ops = true) (hl : l.length = ops.size) (hB : schedB ops l (Array.replicate ops.size false) = true)
    (hC : C w.drew) (h : wpSched P ops (NoPanic Q) C l a w.drew) : (Code.region id ops true).wp P Q a w := by
  refine wp_region_noPanic (wp_region_held (S := C) hm ?_)
  have := wpAnyH_sched (P := P) (Q := NoPanic Q) hs (fun _ _ _ _ _ h => h) l (Array.replicate ops.size false) a w.drew hB hC h
  rw [hl] at this
  exact this

/-- Its steps. -/
theorem sched_nil {a : Act} {w : World} (h : Q .normal a w) : wpSched P ops (NoPanic Q) C [] a w := h
theorem sched_take {i : Nat} {rest : List (Nat × Bool)} {o : Oper} {a : Act} {w : World} (ho : ops[i]? = some o) (hw : Region.wanted o (yielded ops a.tmps) = true) {v : Value}
    (hv : ∀ W, C W → (execOp a.eval o).run P W = .ok (.value v) W) (h : ∀ K : Act → Prop, (∀ a, wpSched P ops Q C rest a w → K a) → K (a.put o.dst v)) :
    wpSched P ops Q C ((i, true) :: rest) a w := by
  have h := h (fun a => wpSched P ops Q C rest a w) (fun _ h => h)
  simp only [wpSched, ho, if_true]
  rw [if_pos hw]
  exact ⟨v, hv, h⟩
theorem sched_skip {i : Nat} {p : Bool} {rest : List (Nat × Bool)} {o : Oper} {a : Act} {w : World} (ho : ops[i]? = some o) (hw : Region.wanted o (yielded ops a.tmps) = false)
    (h : ∀ K : Act → Prop, (∀ a, wpSched P ops Q C rest a w → K a) → K (a.put o.dst undef)) : wpSched P ops Q C ((i, p) :: rest) a w := by
  have h := h (fun a => wpSched P ops Q C rest a w) (fun _ h => h)
  simp only [wpSched, ho]
  rw [if_neg (by rw [hw]; exact Bool.false_ne_true)]
  exact h
theorem sched_op {i : Nat} {rest : List (Nat × Bool)} {o : Oper} {a : Act} {w : World} (ho : ops[i]? = some o)
    (h : ∀ K : Act → World → Prop, (∀ a w, (C w ∧ wpSched P ops Q C rest a w) → K a w) → if Region.wanted o (yielded ops a.tmps) then o.wp P a w K Q else K (a.put o.dst undef) w) :
    wpSched P ops Q C ((i, false) :: rest) a w := by
  have h := h (fun a w => C w ∧ wpSched P ops Q C rest a w) (fun _ _ h => h)
  simp only [wpSched, ho, Bool.false_eq_true, if_false]
  by_cases hw : Region.wanted o (yielded ops a.tmps) = true
  · rw [if_pos hw] at h ⊢; exact h
  · rw [if_neg hw] at h ⊢; exact h.2
end
attribute [irreducible] wpSched
end Go.Proofs.YtfjpenbahoeklaaGreatDoor
namespace Go.Proofs.YtfjpenbahoeklaaGreatDoor
open Go Go.RowKit

section
variable {P : Program} {ops : Array Oper} {Q : Exit → Act → World → Prop} {C : World → Prop} {E : Act → World → Prop}

/-- Operations taken first, then E. -/
def wpTake (P : Program) (ops : Array Oper) (C : World → Prop) (E : Act → World → Prop) : List Nat → Act → World → Prop
  | [], a, w => E a w
  | i :: rest, a, w =>
    match ops[i]? with
    | none => False
    | some o =>
      if Region.wanted o (yielded ops a.tmps) then ∃ v, (∀ W, C W → (execOp a.eval o).run P W = .ok (.value v) W) ∧ wpTake P ops C E rest (a.put o.dst v) w
      else wpTake P ops C E rest (a.put o.dst undef) w
def takeB (ops : Array Oper) : List Nat → Array Bool → Bool
  | [], _ => true
  | i :: rest, listed => (Region.ready .any ops listed).contains i && Region.free .any ops listed i && takeB ops rest (listed.setIfInBounds i true)
def takenB : List Nat → Array Bool → Array Bool
  | [], listed => listed
  | i :: rest, listed => takenB rest (listed.setIfInBounds i true)

theorem wpAnyH_takeL (hs : Region.noSelect ops = true) (hQ : ∀ (c : _) (d : Option Tmp) (v : Value) a w, Q (.panic c) (a.put d v) w → Q (.panic c) a w) (m : Nat) :
    ∀ (l : List Nat) (listed : Array Bool) (a : Act) (w : World), takeB ops l listed = true → C w → (∀ a, E a w → wpAnyH P .any ops Q C m (takenB l listed) a w) → wpTake P ops C E l a w → wpAnyH P .any ops Q C (m + l.length) listed a w := by
  intro l
  induction l with
  | nil => intro listed a w _ _ hE h; exact hE a h
  | cons i rest ih =>
    intro listed a w hB hC hE h
    simp only [takeB, Bool.and_eq_true] at hB
    obtain ⟨⟨hB0, hB1⟩, hB2⟩ := hB
    simp only [wpTake] at h
    cases ho : ops[i]? with
    | none => simp only [ho] at h
    | some o =>
      simp only [ho] at h
      refine wpAnyH_take ho hs hB1 hB0 (v := ?v) (fun c a w h => hQ c _ _ a w h) ?y hC ?k
      case v => exact if hw : Region.wanted o (yielded ops a.tmps) = true then (by rw [if_pos hw] at h; exact h.choose) else undef
      case y =>
        by_cases hw : Region.wanted o (yielded ops a.tmps) = true
        · rw [dif_pos hw]
          refine .inl ⟨hw, ?_⟩
          have h' := h
          rw [if_pos hw] at h'
          exact h'.choose_spec.1
        · rw [dif_neg hw]
          exact .inr ⟨by simpa using hw, rfl⟩
      case k =>
        by_cases hw : Region.wanted o (yielded ops a.tmps) = true
        · rw [dif_pos hw]
          have h' := h
          rw [if_pos hw] at h'
          exact ih _ _ _ hB2 hC hE h'.choose_spec.2
        · rw [dif_neg hw]
          rw [if_neg hw] at h
          exact ih _ _ _ hB2 hC hE h

/-- One of those that may come up, and what is behind it. -/
theorem wpOp_sched (hs : Region.noSelect ops = true) (hQ : ∀ (c : _) (d : Option Tmp) (v : Value) a w, Q (.panic c) (a.put d v) w → Q (.panic c) a w) (i : Nat) (l : List (Nat × Bool)) (listed : Array Bool) (a : Act) (w : World) (hB : schedB ops l (listed.setIfInBounds i true) = true) (hC : C w)
    (h : wpSched P ops Q C ((i, false) :: l) a w) : wpOp P ops Q i (fun a' w' => C w' ∧ wpAnyH P .any ops Q C l.length (listed.setIfInBounds i true) a' w') a w := by
  unfold wpSched at h
  unfold wpOp
  cases ho : ops[i]? with
  | none => simp only [ho] at h
  | some o =>
    simp only [ho] at h ⊢
    by_cases hw : Region.wanted o (yielded ops a.tmps) = true
    · rw [if_pos hw]
      rw [if_pos hw] at h
      simp only [Bool.false_eq_true, if_false] at h
      exact .inl (Oper.wp_mono (fun a' w' ⟨h1, h2⟩ => ⟨h1, wpAnyH_sched hs hQ l _ _ _ hB h1 h2⟩) h)
    · rw [if_neg hw]
      rw [if_neg hw] at h
      exact ⟨hC, wpAnyH_sched hs hQ l _ _ _ hB hC h⟩

/-- A region that draws its order: some taken first, then either of two. -/
theorem wp_region_fork {id : Nat} {a : Act} {w : World} (l : List Nat) (i j : Nat) (l1 l2 : List (Nat × Bool)) (C : World → Prop) (hm : P.follows .mixedOrders = true) (hs : Region.noSelect ops = true) (hl : l1.length + 1 + l.length = ops.size) (hl2 : l2.length = l1.length)
    (hB : takeB ops l (Array.replicate ops.size false) = true) (hR : Region.ready .any ops (takenB l (Array.replicate ops.size false)) = [i, j])
    (hB1 : schedB ops l1 ((takenB l (Array.replicate ops.size false)).setIfInBounds i true) = true) (hB2 : schedB ops l2 ((takenB l (Array.replicate ops.size false)).setIfInBounds j true) = true)
    (hC : C w.drew) (h : wpTake P ops C (fun a w => wpSched P ops (NoPanic Q) C ((i, false) :: l1) a w ∧ wpSched P ops (NoPanic Q) C ((j, false) :: l2) a w) l a w.drew) : (Code.region id ops true).wp P Q a w := by
  refine wp_region_noPanic (wp_region_held (S := C) hm ?_)
  have hQ : ∀ (c : _) (d : Option Tmp) (v : Value) a w, NoPanic Q (.panic c) (a.put d v) w → NoPanic Q (.panic c) a w := fun _ _ _ _ _ h => h
  have := wpAnyH_takeL (P := P) (Q := NoPanic Q) (E := fun a w => wpSched P ops (NoPanic Q) C ((i, false) :: l1) a w ∧ wpSched P ops (NoPanic Q) C ((j, false) :: l2) a w) hs hQ (l1.length + 1) l (Array.replicate ops.size false) a w.drew hB hC (fun a ⟨h1, h2⟩ => by
    refine wpAnyH_all hR (by simp) fun x hx => ?_
    rcases List.mem_cons.1 hx with rfl | hx
    · exact wpOp_sched hs hQ _ _ _ _ _ hB1 hC h1
    · obtain rfl : x = j := by simpa using hx
      have := wpOp_sched hs hQ _ _ _ _ _ hB2 hC h2
      rwa [hl2] at this) h
  rw [hl] at this
  exact this

theorem take_nil {a : Act} {w : World} (h : E a w) : wpTake P ops C E [] a w := h
theorem take_one {i : Nat} {rest : List Nat} {o : Oper} {a : Act} {w : World} (ho : ops[i]? = some o) (hw : Region.wanted o (yielded ops a.tmps) = true) {v : Value}
    (hv : ∀ W, C W → (execOp a.eval o).run P W = .ok (.value v) W) (h : ∀ K : Act → Prop, (∀ a, wpTake P ops C E rest a w → K a) → K (a.put o.dst v)) :
    wpTake P ops C E (i :: rest) a w := by
  have h := h (fun a => wpTake P ops C E rest a w) (fun _ h => h)
  simp only [wpTake, ho]
  rw [if_pos hw]
  exact ⟨v, hv, h⟩
theorem take_skip {i : Nat} {rest : List Nat} {o : Oper} {a : Act} {w : World} (ho : ops[i]? = some o) (hw : Region.wanted o (yielded ops a.tmps) = false)
    (h : ∀ K : Act → Prop, (∀ a, wpTake P ops C E rest a w → K a) → K (a.put o.dst undef)) : wpTake P ops C E (i :: rest) a w := by
  have h := h (fun a => wpTake P ops C E rest a w) (fun _ h => h)
  simp only [wpTake, ho]
  rw [if_neg (by rw [hw]; exact Bool.false_ne_true)]
  exact h
/-- An operation whose run is known. -/
theorem sched_run {i : Nat} {rest : List (Nat × Bool)} {o : Oper} {a : Act} {w w' : World} {v : Value} (ho : ops[i]? = some o) (hw : Region.wanted o (yielded ops a.tmps) = true) (hrun : (execOp a.eval o).run P w = .ok (.value v) w') (hC : C w')
    (h : ∀ K : Act → Prop, (∀ a, wpSched P ops Q C rest a w' → K a) → K (a.put o.dst v)) : wpSched P ops Q C ((i, false) :: rest) a w := by
  have h := h (fun a => wpSched P ops Q C rest a w') (fun _ h => h)
  refine sched_op ho fun K hK => ?_
  rw [if_pos hw]
  unfold Oper.wp
  rw [hrun]
  exact hK _ _ ⟨hC, h⟩
theorem exec_app {o : Oper} {ρ : Operand → Value} {s x : Operand} {t : TypeId} {v1 v2 v : Value} {w w' : World} (ho : o.op = .call { callee := .builtin .append, args := #[s, x], argTypes := #[t, t] }) (hs : ρ s = v1) (hx : ρ x = v2)
    (hrun : (Builtin.append_ #[t, t] o.type #[v1, v2]).run P w = .ok v w') : (execOp ρ o).run P w = .ok (.value v) w' := by
  unfold execOp
  simp only [ho, resolve, invoke, builtin, Sem.run_bind, Sem.run_pure, Result.andThen_ok, List.map_toArray, List.map_cons, List.map_nil, hs, hx, hrun]
end
attribute [irreducible] wpTake
end Go.Proofs.YtfjpenbahoeklaaGreatDoor
namespace Go.Proofs.YtfjpenbahoeklaaGreatDoor
open Go Go.RowKit

section
variable {P : Program} {ops : Array Oper} {Q : Exit → Act → World → Prop} {C : World → Prop} {z : Nat}

/-- Whatever comes up: the class holds behind every operation but z. -/
def wpAnyE (P : Program) (ops : Array Oper) (Q : Exit → Act → World → Prop) (C : World → Prop) (z : Nat) : Nat → Array Bool → Act → World → Prop
  | 0, listed, a, w => Region.ready .any ops listed = [] ∧ Q .normal a w
  | n + 1, listed, a, w =>
    (Region.ready .any ops listed = [] → Q .normal a w) ∧
      ∀ i ∈ Region.ready .any ops listed, wpOp P ops Q i (fun a' w' => (i ≠ z → C w') ∧ wpAnyE P ops Q C z n (listed.setIfInBounds i true) a' w') a w
theorem wpAny_of_E : ∀ (n : Nat) (listed : Array Bool) (a : Act) (w : World), wpAnyE P ops Q C z n listed a w → wpAny P .any ops Q n listed a w
  | 0, _, _, _, h => h
  | n + 1, _, _, _, h => ⟨h.1, fun i hi => wpOp_mono (fun _ _ k => wpAny_of_E n _ _ _ k.2) (h.2 i hi)⟩
/-- Does z wait for i? -/
def waitsB (ops : Array Oper) (z i : Nat) : Bool := match ops[z]? with
  | none => true
  | some o => o.after.any fun e => Region.binds .any e && decide (e.on = i)
theorem not_last {i j : Nat} {listed : Array Bool} (hw : waitsB ops z i = true) (hi : i ∈ Region.ready .any ops listed) (hj : j ∈ Region.ready .any ops listed) : j ≠ z := by
  intro e
  subst e
  obtain ⟨_, oj, hoj, hall⟩ := mem_ready.1 hj
  unfold waitsB at hw
  rw [hoj] at hw
  obtain ⟨e, he, hb⟩ := Array.any_eq_true'.1 hw
  simp only [Bool.and_eq_true, decide_eq_true_eq] at hb
  have h1 := hall e he hb.1
  have h0 := (mem_ready.1 hi).1
  rw [hb.2] at h1
  rcases Nat.lt_or_ge i listed.size with h' | h'
  · simp [h'] at h0 h1; rw [h0] at h1; cases h1
  · simp [Array.getElem?_eq_none h'] at h1

theorem wpAnyE_first {i : Nat} {oi : Oper} {v : Value} (hi : ops[i]? = some oi) (hsel : ∀ (j : Nat) (o : Oper) cs b, ops[j]? = some o → o.op ≠ .select cs b)
    (hQ : ∀ c a w, Q (.panic c) (a.put oi.dst v) w → Q (.panic c) a w) (hz : waitsB ops z i = true) :
    ∀ (n : Nat) (listed : Array Bool) (a : Act) (w : World),
      (∀ j oj, ops[j]? = some oj → j ≠ i → listed.getD j true = false → (∀ e ∈ oj.after, Region.binds .any e = true → e.on ≠ i) → oi.apart ops oj = true) →
      i ∈ Region.ready .any ops listed → YieldsIf P ops C oi v a → C w →
      wpAnyE P ops Q C z n (listed.setIfInBounds i true) (a.put oi.dst v) w → wpAnyE P ops Q C z (n + 1) listed a w := by
  intro n
  induction n with
  | zero =>
    intro listed a w _ hr hy hC H
    refine ⟨fun h => absurd hr (by rw [h]; exact List.not_mem_nil), fun j hj => ?_⟩
    by_cases hji : j = i
    · rw [hji]; exact hy.wpOp hi hC ⟨fun _ => hC, H⟩
    · have h1 := ready_mono hj hji
      rw [H.1] at h1
      cases h1
  | succ n ih =>
    intro listed a w hfree hr hy hC H
    refine ⟨fun h => absurd hr (by rw [h]; exact List.not_mem_nil), fun j hj => ?_⟩
    by_cases hji : j = i
    · rw [hji]; exact hy.wpOp hi hC ⟨fun _ => hC, H⟩
    · have hjz := not_last hz hr hj
      obtain ⟨hjun, oj, hoj, hall⟩ := mem_ready.1 hj
      have hnot : ∀ e ∈ oj.after, Region.binds .any e = true → e.on ≠ i := fun e he hb heq => by
        have h1 := hall e he hb
        have h0 := (mem_ready.1 hr).1
        rw [heq] at h1
        rcases Nat.lt_or_ge i listed.size with h' | h'
        · simp [h'] at h0 h1; rw [h0] at h1; cases h1
        · simp [Array.getElem?_eq_none h'] at h1
      have h2 := wpOp_putIf hoj (hfree j oj hoj hji hjun hnot) (fun cs b => hsel i oi cs b hi) (fun cs b => hsel j oj cs b hoj) hQ hy (H.2 j (ready_mono hj hji))
      refine wpOp_mono (fun a' w' h3 => ?_) h2
      obtain ⟨g1, g2, g3⟩ := h3
      rw [Array.setIfInBounds_comm _ _ (Ne.symm hji)] at g3
      refine ⟨g2, ih (listed.setIfInBounds j true) a' w' (fun k ok hk hki hun hno => hfree k ok hk hki ?_ hno) (ready_mono hr (Ne.symm hji)) g1 (g2 hjz) g3⟩
      by_cases hjk : j = k
      · rw [← hjk]; exact hjun
      · rwa [getD_set_ne true hjk] at hun

/-- A plan: what is taken first (one value in every world of the class), what alone may come up, or either of two. -/
inductive Plan
  | done
  | take (i : Nat) (t : Plan)
  | op (i : Nat) (t : Plan)
  | two (i : Nat) (s : Plan) (j : Nat) (t : Plan)

/-- An operation, and what is behind it. -/
def wpStep (P : Program) (ops : Array Oper) (Q : Exit → Act → World → Prop) (C : World → Prop) (z i : Nat) (T : Act → World → Prop) (a : Act) (w : World) : Prop :=
  match ops[i]? with
  | none => False
  | some o => if Region.wanted o (yielded ops a.tmps) then o.wp P a w (fun a' w' => (i ≠ z → C w') ∧ T a' w') Q else T (a.put o.dst undef) w
def wpPlan (P : Program) (ops : Array Oper) (Q : Exit → Act → World → Prop) (C : World → Prop) (z : Nat) : Plan → Act → World → Prop
  | .done, a, w => Q .normal a w
  | .take i t, a, w =>
    match ops[i]? with
    | none => False
    | some o =>
      if Region.wanted o (yielded ops a.tmps) then ∃ v, (∀ W, C W → (execOp a.eval o).run P W = .ok (.value v) W) ∧ wpPlan P ops Q C z t (a.put o.dst v) w
      else wpPlan P ops Q C z t (a.put o.dst undef) w
  | .op i t, a, w => wpStep P ops Q C z i (wpPlan P ops Q C z t) a w
  | .two i s j t, a, w => wpStep P ops Q C z i (wpPlan P ops Q C z s) a w ∧ wpStep P ops Q C z j (wpPlan P ops Q C z t) a w

/-- May they come up so? -/
def planB (ops : Array Oper) (z : Nat) : Plan → Nat → Array Bool → Bool
  | .done, n, listed => n == 0 && (Region.ready .any ops listed).isEmpty
  | .take i t, n + 1, listed => (Region.ready .any ops listed).contains i && Region.free .any ops listed i && waitsB ops z i && planB ops z t n (listed.setIfInBounds i true)
  | .op i t, n + 1, listed => (Region.ready .any ops listed == [i]) && (i != z || n == 0) && planB ops z t n (listed.setIfInBounds i true)
  | .two i s j t, n + 1, listed => (Region.ready .any ops listed == [i, j]) && i != z && j != z && planB ops z s n (listed.setIfInBounds i true) && planB ops z t n (listed.setIfInBounds j true)
  | _, 0, _ => false

theorem wpOp_plan {i n : Nat} {T : Act → World → Prop} {listed : Array Bool} {a : Act} {w : World} (hiz : i ≠ z ∨ n = 0) (ih : ∀ (a : Act) (w : World), (n = 0 ∨ C w) → T a w → wpAnyE P ops Q C z n (listed.setIfInBounds i true) a w) (hC : C w)
    (h : wpStep P ops Q C z i T a w) : wpOp P ops Q i (fun a' w' => (i ≠ z → C w') ∧ wpAnyE P ops Q C z n (listed.setIfInBounds i true) a' w') a w := by
  unfold wpStep at h
  unfold wpOp
  cases ho : ops[i]? with
  | none => simp only [ho] at h
  | some o =>
    simp only [ho] at h ⊢
    by_cases hw : Region.wanted o (yielded ops a.tmps) = true
    · rw [if_pos hw]
      rw [if_pos hw] at h
      exact .inl (Oper.wp_mono (fun a' w' ⟨h1, h2⟩ => ⟨h1, ih _ _ (by rcases hiz with h | h; exact .inr (h1 h); exact .inl h) h2⟩) h)
    · rw [if_neg hw]
      rw [if_neg hw] at h
      exact ⟨fun _ => hC, ih _ _ (.inr hC) h⟩

theorem wpAnyE_plan (hs : Region.noSelect ops = true) (hQ : ∀ (c : _) (d : Option Tmp) (v : Value) a w, Q (.panic c) (a.put d v) w → Q (.panic c) a w) :
    ∀ (p : Plan) (n : Nat) (listed : Array Bool) (a : Act) (w : World), planB ops z p n listed = true → (n = 0 ∨ C w) → wpPlan P ops Q C z p a w → wpAnyE P ops Q C z n listed a w := by
  intro p
  induction p with
  | done =>
    intro n listed a w hB _ h
    simp only [planB, Bool.and_eq_true, beq_iff_eq] at hB
    obtain ⟨rfl, hB⟩ := hB
    exact ⟨by simpa using hB, h⟩
  | take i t ih =>
    intro n listed a w hB hC h
    cases n with
    | zero => simp [planB] at hB
    | succ n =>
      have hC : C w := by rcases hC with h | h; cases h; exact h
      simp only [planB, Bool.and_eq_true] at hB
      obtain ⟨⟨⟨hB0, hB1⟩, hB3⟩, hB2⟩ := hB
      simp only [wpPlan] at h
      cases ho : ops[i]? with
      | none => simp only [ho] at h
      | some o =>
        simp only [ho] at h
        by_cases hw : Region.wanted o (yielded ops a.tmps) = true
        · rw [if_pos hw] at h
          obtain ⟨v, hv, h⟩ := h
          exact wpAnyE_first ho (Region.noSelect_spec hs) (fun c a w h => hQ c _ _ a w h) hB3 n listed a w (Region.free_spec ho hB1) (by simpa using hB0) (.inl ⟨hw, hv⟩) hC (ih _ _ _ _ hB2 (.inr hC) h)
        · rw [if_neg hw] at h
          exact wpAnyE_first ho (Region.noSelect_spec hs) (fun c a w h => hQ c _ _ a w h) hB3 n listed a w (Region.free_spec ho hB1) (by simpa using hB0) (.inr ⟨by simpa using hw, rfl⟩) hC (ih _ _ _ _ hB2 (.inr hC) h)
  | op i t ih =>
    intro n listed a w hB hC h
    cases n with
    | zero => simp [planB] at hB
    | succ n =>
      have hC : C w := by rcases hC with h | h; cases h; exact h
      simp only [planB, Bool.and_eq_true, Bool.or_eq_true, bne_iff_ne, beq_iff_eq] at hB
      obtain ⟨⟨hr, hz⟩, hB2⟩ := hB
      refine ⟨fun h0 => (by rw [hr] at h0; cases h0), fun j hj => ?_⟩
      rw [hr] at hj
      obtain rfl : j = i := by simpa using hj
      simp only [wpPlan] at h
      exact wpOp_plan hz (fun a w hC h => ih _ _ _ _ hB2 hC h) hC h
  | two i s j t ih1 ih2 =>
    intro n listed a w hB hC h
    cases n with
    | zero => simp [planB] at hB
    | succ n =>
      have hC : C w := by rcases hC with h | h; cases h; exact h
      simp only [planB, Bool.and_eq_true, bne_iff_ne, beq_iff_eq] at hB
      obtain ⟨⟨⟨⟨hr, hz1⟩, hz2⟩, hB2⟩, hB3⟩ := hB
      simp only [wpPlan] at h
      refine ⟨fun h0 => (by rw [hr] at h0; cases h0), fun x hx => ?_⟩
      rw [hr] at hx
      rcases List.mem_cons.1 hx with rfl | hx
      · exact wpOp_plan (.inl hz1) (fun a w hC h => ih1 _ _ _ _ hB2 hC h) hC h.1
      · obtain rfl : x = j := by simpa using hx
        exact wpOp_plan (.inl hz2) (fun a w hC h => ih2 _ _ _ _ hB3 hC h) hC h.2

/-- A region that draws its order, walked by a plan; z: the operation that may leave the class (a number beyond all: none). -/
theorem wp_region_plan {id : Nat} {a : Act} {w : World} (z : Nat) (p : Plan) (C : World → Prop) (hm : P.follows .mixedOrders = true) (hs : Region.noSelect ops = true) (hB : planB ops z p ops.size (Array.replicate ops.size false) = true)
    (hC : C w.drew) (h : wpPlan P ops (NoPanic Q) C z p a w.drew) : (Code.region id ops true).wp P Q a w := by
  refine wp_region_noPanic (wp_region_any hm (wpAny_of_E (C := C) (z := z) _ _ _ _ ?_))
  exact wpAnyE_plan (P := P) (Q := NoPanic Q) hs (fun _ _ _ _ _ h => h) p ops.size (Array.replicate ops.size false) a w.drew hB (.inr hC) h

theorem plan_nil {a : Act} {w : World} (h : Q .normal a w) : wpPlan P ops (NoPanic Q) C z .done a w := h
theorem plan_take {i : Nat} {t : Plan} {o : Oper} {a : Act} {w : World} (ho : ops[i]? = some o) (hw : Region.wanted o (yielded ops a.tmps) = true) {v : Value}
    (hv : ∀ W, C W → (execOp a.eval o).run P W = .ok (.value v) W) (h : ∀ K : Act → Prop, (∀ a, wpPlan P ops Q C z t a w → K a) → K (a.put o.dst v)) :
    wpPlan P ops Q C z (.take i t) a w := by
  have h := h (fun a => wpPlan P ops Q C z t a w) (fun _ h => h)
  simp only [wpPlan, ho]
  rw [if_pos hw]
  exact ⟨v, hv, h⟩
theorem plan_skip {i : Nat} {t : Plan} {o : Oper} {a : Act} {w : World} (ho : ops[i]? = some o) (hw : Region.wanted o (yielded ops a.tmps) = false)
    (h : ∀ K : Act → Prop, (∀ a, wpPlan P ops Q C z t a w → K a) → K (a.put o.dst undef)) : wpPlan P ops Q C z (.take i t) a w := by
  have h := h (fun a => wpPlan P ops Q C z t a w) (fun _ h => h)
  simp only [wpPlan, ho]
  rw [if_neg (by rw [hw]; exact Bool.false_ne_true)]
  exact h
theorem plan_op {i : Nat} {t : Plan} {o : Oper} {a : Act} {w : World} (ho : ops[i]? = some o)
    (h : ∀ K : Act → World → Prop, (∀ a w, ((i ≠ z → C w) ∧ wpPlan P ops Q C z t a w) → K a w) → if Region.wanted o (yielded ops a.tmps) then o.wp P a w K Q else K (a.put o.dst undef) w) :
    wpPlan P ops Q C z (.op i t) a w := by
  have h := h (fun a w => (i ≠ z → C w) ∧ wpPlan P ops Q C z t a w) (fun _ _ h => h)
  simp only [wpPlan, wpStep, ho]
  by_cases hw : Region.wanted o (yielded ops a.tmps) = true
  · rw [if_pos hw] at h ⊢; exact h
  · rw [if_neg hw] at h ⊢; exact h.2
/-- An operation whose run is known. -/
theorem plan_run {i : Nat} {t : Plan} {o : Oper} {a : Act} {w w' : World} {v : Value} (ho : ops[i]? = some o) (hw : Region.wanted o (yielded ops a.tmps) = true) (hrun : (execOp a.eval o).run P w = .ok (.value v) w') (hC : i ≠ z → C w')
    (h : ∀ K : Act → Prop, (∀ a, wpPlan P ops Q C z t a w' → K a) → K (a.put o.dst v)) : wpPlan P ops Q C z (.op i t) a w := by
  have h := h (fun a => wpPlan P ops Q C z t a w') (fun _ h => h)
  refine plan_op ho fun K hK => ?_
  rw [if_pos hw]
  unfold Oper.wp
  rw [hrun]
  exact hK _ _ ⟨hC, h⟩
theorem plan_two {i j : Nat} {s t : Plan} {a : Act} {w : World} (h1 : wpPlan P ops Q C z (.op i s) a w) (h2 : wpPlan P ops Q C z (.op j t) a w) : wpPlan P ops Q C z (.two i s j t) a w := by
  unfold wpPlan at h1 h2 ⊢
  exact ⟨h1, h2⟩
end
attribute [irreducible] wpPlan
end Go.Proofs.YtfjpenbahoeklaaGreatDoor
namespace Go.Proofs.YtfjpenbahoeklaaGreatDoor
open Go.RowKit

/-- Below 0, 0, above 0. -/
def cmpI (a b : Int) : Int := if a < b then -1 else if b < a then 1 else 0
def cmpS (a b : ByteArray) : Int := if Op.bytesLess a.toList b.toList = true then -1 else if a.toList = b.toList then 0 else 1
/-- The first that is not 0. -/
def orL : List Int → Int
  | [] => 0
  | x :: r => if x = 0 then orL r else x
def Sp.cmpL (s t : Sp) : List Int := [cmpI s.tr t.tr, cmpI s.st t.st, cmpI s.id t.id, cmpI s.pa t.pa, cmpI s.en t.en, cmpS s.nm t.nm]
def Sp.cmp (s t : Sp) : Int := orL (s.cmpL t)

/-- Draws and new blocks, no more. -/
def Gr (w W : World) : Prop := ∃ (q : Nat) (os : Array Obj), W = { w.drewN q with heap := w.heap ++ os }
section
variable {w W V : World}
theorem Gr.refl (w : World) : Gr w w := ⟨0, #[], by simp [World.drewN]⟩
theorem Gr.drewN (h : Gr w W) (n : Nat) : Gr w (W.drewN n) := by
  obtain ⟨q, os, rfl⟩ := h
  exact ⟨q + n, os, by simp [World.drewN, Nat.add_assoc]⟩
theorem Gr.drew (h : Gr w W) : Gr w W.drew := h.drewN 1
theorem Gr.alloc (h : Gr w W) (o : Obj) : Gr w (W.alloc o) := by
  obtain ⟨q, os, rfl⟩ := h
  exact ⟨q, os.push o, by simp [World.alloc, World.drewN, Array.push_append]⟩
theorem Gr.trans (h : Gr w W) (k : Gr W V) : Gr w V := by
  obtain ⟨q, os, rfl⟩ := h
  obtain ⟨p, os', rfl⟩ := k
  exact ⟨q + p, os ++ os', by simp [World.drewN, Nat.add_assoc, Array.append_assoc]⟩
theorem Gr.below (h : Gr w W) : Below w.heap.size w W := by
  obtain ⟨q, os, rfl⟩ := h
  refine ⟨rfl, rfl, rfl, by simp, fun k hk => ?_⟩
  simp [Array.getElem?_append_left hk]
end

set_option maxRecDepth 100000 in
set_option maxHeartbeats 400000 in
theorem compareInt_any (a b : Int) (w : World) :
    Calls Tryz.prog 164 #[.int .i64 a, .int .i64 b] w fun e w' => e = .returned (.int .i64 (cmpI a b)) ∧ w = w' := by
  go_enter Tryz.func164, Tryz.ntmps164
  go_wp2
  all_goals go_ret
  all_goals refine ⟨ret_int ?_, rfl⟩
  all_goals simp [cmpI]
  all_goals omega

set_option maxRecDepth 100000 in
set_option maxHeartbeats 400000 in
theorem compareStr_any (a b : ByteArray) (w : World) :
    Calls Tryz.prog 165 #[.string a, .string b] w fun e w' => e = .returned (.int .i64 (cmpS a b)) ∧ w = w' := by
  go_enter Tryz.func165, Tryz.ntmps165
  go_wp2
  all_goals go_ret
  all_goals refine ⟨ret_int ?_, rfl⟩
  all_goals simp [cmpS, *]
  all_goals (rename_i h; simpa using h)

set_option maxRecDepth 100000 in
set_option maxHeartbeats 400000 in
theorem or_any (A : Option Addr) (n cap B : Nat) (zs : List Int) (w : World) (hb : n ≤ 140737488355328) (hn : zs.length = n) (hr : Rd w B 1 A n (zs.map (Value.int .i64))) :
    Calls Tryz.prog 163 #[.slice A n cap] w fun e w' => e = .returned (.int .i64 (orL zs)) ∧ w = w' := by
  subst hn
  go_enter Tryz.func163, Tryz.ntmps163
  go_wp2
  go_loop [8] (fun i => ∃ k : Nat, k ≤ zs.length ∧ i = .int .i64 k ∧ orL zs = orL (zs.drop k)) (fun i => zs.length - (intOf i).toNat)
  case atStart => exact ⟨0, by omega, rfl, rfl⟩
  case round =>
    obtain ⟨k, hk, rfl, ho⟩ := hrel
    have HO := Lib.hid ho; clear ho
    by_cases hlt : k < zs.length
    · obtain ⟨b, off, rfl, _, hcell⟩ := hr.at_ (k := k) hlt (by simpa using hlt)
      rw [List.getElem_map] at hcell
      have hd : orL (zs.drop k) = if zs[k] = 0 then orL (zs.drop (k + 1)) else zs[k] := by rw [List.drop_eq_getElem_cons hlt]; rfl
      have HD := Lib.hid hd
      have hki : (k : Int) < (zs.length : Int) := by omega
      generalize zs[k] = z at *
      clear hr hd
      by_cases hz : z = 0
      · subst hz
        go_wp2
        go_round
        case rel => exact ⟨k + 1, by omega, by go_num, by rw [HO.out, HD.out, if_pos rfl]⟩
        case measure => simp [intOf]; omega
      · have hne : (z != 0) = true := by simpa using hz
        have HZ := Lib.hid hz
        clear hz
        go_wp2
        go_ret
        exact ⟨ret_int (by rw [HO.out, HD.out, if_neg HZ.out]), rfl⟩
    · go_wp2
      go_ret
      exact ⟨ret_int (by rw [HO.out, List.drop_of_length_le (by omega)]; rfl), rfl⟩

set_option maxRecDepth 100000 in
set_option maxHeartbeats 2000000 in
theorem compare_any (s t : Sp) (w : World) :
    Calls Tryz.prog 160 #[s.val, t.val] w fun e w' => e = .returned (.int .i64 (s.cmp t)) ∧ Gr w w' := by
  obtain ⟨w0, hw0⟩ : ∃ w0, w0 = (w.alloc (.cells #[.int .i64 s.tr, .int .i64 s.id, .int .i64 s.pa, .int .i64 s.st, .int .i64 s.en, .string s.nm] 93)).alloc (.cells #[.int .i64 t.tr, .int .i64 t.id, .int .i64 t.pa, .int .i64 t.st, .int .i64 t.en, .string t.nm] 93) := ⟨_, rfl⟩
  have hz0 : w0.heap.size = w.heap.size + 2 := by rw [hw0]; simp
  have hG : Gr w w0 := by rw [hw0]; exact ((Gr.refl w).alloc _).alloc _
  have hS : ∀ W, Below (w.heap.size + 2) w0 W →
      (W.cell? ⟨w.heap.size, 0, none⟩ = some (.int .i64 s.tr) ∧ W.cell? ⟨w.heap.size, 1, none⟩ = some (.int .i64 s.id) ∧ W.cell? ⟨w.heap.size, 2, none⟩ = some (.int .i64 s.pa) ∧ W.cell? ⟨w.heap.size, 3, none⟩ = some (.int .i64 s.st) ∧ W.cell? ⟨w.heap.size, 4, none⟩ = some (.int .i64 s.en) ∧ W.cell? ⟨w.heap.size, 5, none⟩ = some (.string s.nm)) ∧
      (W.cell? ⟨w.heap.size + 1, 0, none⟩ = some (.int .i64 t.tr) ∧ W.cell? ⟨w.heap.size + 1, 1, none⟩ = some (.int .i64 t.id) ∧ W.cell? ⟨w.heap.size + 1, 2, none⟩ = some (.int .i64 t.pa) ∧ W.cell? ⟨w.heap.size + 1, 3, none⟩ = some (.int .i64 t.st) ∧ W.cell? ⟨w.heap.size + 1, 4, none⟩ = some (.int .i64 t.en) ∧ W.cell? ⟨w.heap.size + 1, 5, none⟩ = some (.string t.nm)) := by
    intro W hW
    have h1 : w0.heap[w.heap.size]? = some (.cells #[.int .i64 s.tr, .int .i64 s.id, .int .i64 s.pa, .int .i64 s.st, .int .i64 s.en, .string s.nm] 93 (0, 0)) := by
      rw [hw0]; exact blk_below ((Below.refl (w.heap.size + 1) _).alloc (by simp) _) (by omega) (heap_alloc_new w _)
    have h2 : w0.heap[w.heap.size + 1]? = some (.cells #[.int .i64 t.tr, .int .i64 t.id, .int .i64 t.pa, .int .i64 t.st, .int .i64 t.en, .string t.nm] 93 (0, 0)) := by
      have h := heap_alloc_new (w.alloc (.cells #[.int .i64 s.tr, .int .i64 s.id, .int .i64 s.pa, .int .i64 s.st, .int .i64 s.en, .string s.nm] 93)) (.cells #[.int .i64 t.tr, .int .i64 t.id, .int .i64 t.pa, .int .i64 t.st, .int .i64 t.en, .string t.nm] 93)
      rw [World.size_alloc] at h
      rw [hw0]; exact h
    have hc := blk_cell (blk_below hW (by omega) h1)
    have hd := blk_cell (blk_below hW (by omega) h2)
    exact ⟨⟨hc 0, hc 1, hc 2, hc 3, hc 4, hc 5⟩, ⟨hd 0, hd 1, hd 2, hd 3, hd 4, hd 5⟩⟩
  have HSS := Lib.hid hS
  have HW0 := Lib.hid hw0
  have HZ0 := Lib.hid hz0
  have HC : Hid (s.cmp t = orL (s.cmpL t)) := Lib.hid rfl
  clear hS hw0 hz0
  go_enter Tryz.func160, Tryz.ntmps160
  go_wp2_with fail
  rw [← HW0.out]
  refine wp_region_sched [(0, true), (1, true), (2, true), (3, true), (5, true), (6, true), (7, true), (8, true), (10, true), (11, true), (12, true), (13, true), (15, true), (16, true), (17, true), (18, true), (20, true), (21, true), (22, true), (23, true), (25, true), (26, true), (27, true), (28, true), (4, false), (9, false), (14, false), (19, false), (24, false), (29, false), (30, false), (31, false), (32, true)] (fun W => Below (w.heap.size + 2) w0 W ∧ Gr w W) (by kernel_rfl) (by kernel_rfl) rfl (by kernel_rfl) (⟨(Below.refl _ _).drew, hG.drew⟩) ?_
  repeat (first | (apply sched_take rfl; (focus (first | rfl | (go_simp; done))); (focus (intro W hW; obtain ⟨⟨c0, c1, c2, c3, c4, c5⟩, d0, d1, d2, d3, d4, d5⟩ := HSS.out W hW.1; go_simp; rfl)); (focus (intro K hK; go_simp; refine hK _ ?_; clear hK K))) | (apply sched_skip rfl; (focus (first | rfl | (go_simp; done))); (focus (intro K hK; go_simp; refine hK _ ?_; clear hK K))))
  apply sched_op rfl
  intro K hK
  go_simp
  go_wp2_with (fail)
  refine (compareInt_any _ _ _).mono ?_
  rintro e w2 ⟨rfl, rfl⟩
  go_wp2_with fail
  refine ⟨by exact ⟨(Below.refl _ _).drew, hG.drew⟩, ?_⟩
  repeat (first | (apply sched_take rfl; (focus (first | rfl | (go_simp; done))); (focus (intro W hW; obtain ⟨⟨c0, c1, c2, c3, c4, c5⟩, d0, d1, d2, d3, d4, d5⟩ := HSS.out W hW.1; go_simp; rfl)); (focus (intro K hK; go_simp; refine hK _ ?_; clear hK K))) | (apply sched_skip rfl; (focus (first | rfl | (go_simp; done))); (focus (intro K hK; go_simp; refine hK _ ?_; clear hK K))))
  apply sched_op rfl
  intro K hK
  go_simp
  go_wp2_with (fail)
  refine (compareInt_any _ _ _).mono ?_
  rintro e w2 ⟨rfl, rfl⟩
  go_wp2_with fail
  refine ⟨by exact ⟨(Below.refl _ _).drew, hG.drew⟩, ?_⟩
  repeat (first | (apply sched_take rfl; (focus (first | rfl | (go_simp; done))); (focus (intro W hW; obtain ⟨⟨c0, c1, c2, c3, c4, c5⟩, d0, d1, d2, d3, d4, d5⟩ := HSS.out W hW.1; go_simp; rfl)); (focus (intro K hK; go_simp; refine hK _ ?_; clear hK K))) | (apply sched_skip rfl; (focus (first | rfl | (go_simp; done))); (focus (intro K hK; go_simp; refine hK _ ?_; clear hK K))))
  apply sched_op rfl
  intro K hK
  go_simp
  go_wp2_with (fail)
  refine (compareInt_any _ _ _).mono ?_
  rintro e w2 ⟨rfl, rfl⟩
  go_wp2_with fail
  refine ⟨by exact ⟨(Below.refl _ _).drew, hG.drew⟩, ?_⟩
  repeat (first | (apply sched_take rfl; (focus (first | rfl | (go_simp; done))); (focus (intro W hW; obtain ⟨⟨c0, c1, c2, c3, c4, c5⟩, d0, d1, d2, d3, d4, d5⟩ := HSS.out W hW.1; go_simp; rfl)); (focus (intro K hK; go_simp; refine hK _ ?_; clear hK K))) | (apply sched_skip rfl; (focus (first | rfl | (go_simp; done))); (focus (intro K hK; go_simp; refine hK _ ?_; clear hK K))))
  apply sched_op rfl
  intro K hK
  go_simp
  go_wp2_with (fail)
  refine (compareInt_any _ _ _).mono ?_
  rintro e w2 ⟨rfl, rfl⟩
  go_wp2_with fail
  refine ⟨by exact ⟨(Below.refl _ _).drew, hG.drew⟩, ?_⟩
  repeat (first | (apply sched_take rfl; (focus (first | rfl | (go_simp; done))); (focus (intro W hW; obtain ⟨⟨c0, c1, c2, c3, c4, c5⟩, d0, d1, d2, d3, d4, d5⟩ := HSS.out W hW.1; go_simp; rfl)); (focus (intro K hK; go_simp; refine hK _ ?_; clear hK K))) | (apply sched_skip rfl; (focus (first | rfl | (go_simp; done))); (focus (intro K hK; go_simp; refine hK _ ?_; clear hK K))))
  apply sched_op rfl
  intro K hK
  go_simp
  go_wp2_with (fail)
  refine (compareInt_any _ _ _).mono ?_
  rintro e w2 ⟨rfl, rfl⟩
  go_wp2_with fail
  refine ⟨by exact ⟨(Below.refl _ _).drew, hG.drew⟩, ?_⟩
  repeat (first | (apply sched_take rfl; (focus (first | rfl | (go_simp; done))); (focus (intro W hW; obtain ⟨⟨c0, c1, c2, c3, c4, c5⟩, d0, d1, d2, d3, d4, d5⟩ := HSS.out W hW.1; go_simp; rfl)); (focus (intro K hK; go_simp; refine hK _ ?_; clear hK K))) | (apply sched_skip rfl; (focus (first | rfl | (go_simp; done))); (focus (intro K hK; go_simp; refine hK _ ?_; clear hK K))))
  apply sched_op rfl
  intro K hK
  go_simp
  go_wp2_with (fail)
  refine (compareStr_any _ _ _).mono ?_
  rintro e w2 ⟨rfl, rfl⟩
  go_wp2_with fail
  refine ⟨by exact ⟨(Below.refl _ _).drew, hG.drew⟩, ?_⟩
  repeat (first | (apply sched_take rfl; (focus (first | rfl | (go_simp; done))); (focus (intro W hW; obtain ⟨⟨c0, c1, c2, c3, c4, c5⟩, d0, d1, d2, d3, d4, d5⟩ := HSS.out W hW.1; go_simp; rfl)); (focus (intro K hK; go_simp; refine hK _ ?_; clear hK K))) | (apply sched_skip rfl; (focus (first | rfl | (go_simp; done))); (focus (intro K hK; go_simp; refine hK _ ?_; clear hK K))))
  apply sched_op rfl
  intro K hK
  go_simp
  go_wp2_with (fail)
  refine ⟨by exact ⟨((Below.refl _ _).alloc (Nat.le_of_eq HZ0.out.symm) _).drew, (hG.alloc _).drew⟩, ?_⟩
  repeat (first | (apply sched_take rfl; (focus (first | rfl | (go_simp; done))); (focus (intro W hW; obtain ⟨⟨c0, c1, c2, c3, c4, c5⟩, d0, d1, d2, d3, d4, d5⟩ := HSS.out W hW.1; go_simp; rfl)); (focus (intro K hK; go_simp; refine hK _ ?_; clear hK K))) | (apply sched_skip rfl; (focus (first | rfl | (go_simp; done))); (focus (intro K hK; go_simp; refine hK _ ?_; clear hK K))))
  apply sched_op rfl
  intro K hK
  go_simp
  go_wp2_with (fail)
  refine (or_any _ _ _ (w0.heap.size + 1) (s.cmpL t) _ (by simp [Sp.cmpL]) rfl (Rd.drew (Rd.new rfl rfl (by intro j hj; simp [Sp.cmpL] at hj; match j, hj with | 0, _ => rfl | 1, _ => rfl | 2, _ => rfl | 3, _ => rfl | 4, _ => rfl | 5, _ => rfl)))).mono ?_
  rintro e w2 ⟨rfl, rfl⟩
  go_wp2_with fail
  refine ⟨by exact ⟨((Below.refl _ _).alloc (Nat.le_of_eq HZ0.out.symm) _).drew, (hG.alloc _).drew⟩, ?_⟩
  repeat (first | (apply sched_take rfl; (focus (first | rfl | (go_simp; done))); (focus (intro W hW; obtain ⟨⟨c0, c1, c2, c3, c4, c5⟩, d0, d1, d2, d3, d4, d5⟩ := HSS.out W hW.1; go_simp; rfl)); (focus (intro K hK; go_simp; refine hK _ ?_; clear hK K))) | (apply sched_skip rfl; (focus (first | rfl | (go_simp; done))); (focus (intro K hK; go_simp; refine hK _ ?_; clear hK K))))
  refine sched_nil ?_
  go_wp2_with fail
  go_ret
  exact ⟨ret_int HC.out.symm, (hG.alloc _).drew⟩
end Go.Proofs.YtfjpenbahoeklaaGreatDoor
namespace Go.Proofs.YtfjpenbahoeklaaGreatDoor
open Go.RowKit

theorem rd_newL {w : World} {H : Nat} (hH : w.heap.size = H) {cs : Array Value} {t : TypeId} {fr : Nat × Nat} {xs : List Value} {n sz : Nat} (hx : xs.length = n * sz) (h : cs.toList = xs) :
    Rd (w.alloc (.cells cs t fr)) (H + 1) sz (some ⟨H, 0, none⟩) n xs := Rd.new hH hx (by subst h; intro j hj; simp)

theorem bl_cons (x y : UInt8) (a b : List UInt8) : Op.bytesLess (x :: a) (y :: b) = true ↔ x.toNat < y.toNat ∨ (x = y ∧ Op.bytesLess a b = true) := by
  simp only [Op.bytesLess, Bool.or_eq_true, Bool.and_eq_true, decide_eq_true_eq, beq_iff_eq, UInt8.lt_iff_toNat_lt]
theorem bl_irrefl : ∀ l : List UInt8, ¬ Op.bytesLess l l = true := by
  intro l
  induction l with
  | nil => simp [Op.bytesLess]
  | cons x l ih => rw [bl_cons]; rintro (h | ⟨_, h⟩); omega; exact ih h
theorem bl_tri : ∀ a b : List UInt8, ¬ Op.bytesLess a b = true → ¬ Op.bytesLess b a = true → a = b := by
  intro a
  induction a with
  | nil => intro b h1 h2; cases b with
    | nil => rfl
    | cons y b => simp [Op.bytesLess] at h1
  | cons x a ih =>
    intro b h1 h2
    cases b with
    | nil => simp [Op.bytesLess] at h2
    | cons y b =>
      rw [bl_cons] at h1 h2
      have hxy : x = y := UInt8.toNat_inj.1 (by omega)
      subst hxy
      rw [ih b (fun h => h1 (.inr ⟨rfl, h⟩)) (fun h => h2 (.inr ⟨rfl, h⟩))]
theorem bl_trans : ∀ a b c : List UInt8, Op.bytesLess a b = true → Op.bytesLess b c = true → Op.bytesLess a c = true := by
  intro a
  induction a with
  | nil =>
    intro b c h1 h2
    cases c with
    | nil => cases b <;> simp [Op.bytesLess] at h2
    | cons z c => simp [Op.bytesLess]
  | cons x a ih =>
    intro b c h1 h2
    cases b with
    | nil => simp [Op.bytesLess] at h1
    | cons y b =>
      cases c with
      | nil => simp [Op.bytesLess] at h2
      | cons z c =>
        rw [bl_cons] at h1 h2 ⊢
        rcases h1 with h1 | ⟨rfl, h1⟩
        · rcases h2 with h2 | ⟨rfl, h2⟩
          · left; omega
          · left; exact h1
        · rcases h2 with h2 | ⟨rfl, h2⟩
          · left; exact h2
          · right; exact ⟨rfl, ih _ _ h1 h2⟩
theorem bl_asymm {a b : List UInt8} (h : Op.bytesLess a b = true) : ¬ Op.bytesLess b a = true := fun k => bl_irrefl a (bl_trans _ _ _ h k)

/-- What makes an order by numbers. -/
structure IsCmp {α : Type} (c : α → α → Int) : Prop where
  swap : ∀ x y, c y x = - c x y
  trans : ∀ x y z, c x y ≤ 0 → c y z ≤ 0 → c x z ≤ 0
theorem IsCmp.zero {α : Type} {c : α → α → Int} (h : IsCmp c) (x y z : α) (h1 : c x y ≤ 0) (h2 : c y z ≤ 0) (h3 : c x z = 0) : c x y = 0 ∧ c y z = 0 := by
  have s1 := h.swap x z
  have s2 := h.swap y z
  have s3 := h.swap x y
  have t1 := h.trans z x y (by omega) h1
  have t2 := h.trans y z x h2 (by omega)
  omega
theorem IsCmp.lex {α : Type} {c d : α → α → Int} (hc : IsCmp c) (hd : IsCmp d) : IsCmp (fun x y => if c x y = 0 then d x y else c x y) := by
  constructor
  · intro x y
    have s1 := hc.swap x y
    have s2 := hd.swap x y
    by_cases h : c x y = 0
    · simp only [h, if_true, show c y x = 0 by omega]; exact s2
    · simp only [if_neg h, if_neg (show ¬ c y x = 0 by omega)]; exact s1
  · intro x y z h1 h2
    have a1 : c x y ≤ 0 := by by_cases h : c x y = 0; omega; simpa [h] using h1
    have a2 : c y z ≤ 0 := by by_cases h : c y z = 0; omega; simpa [h] using h2
    have a3 := hc.trans x y z a1 a2
    by_cases h : c x z = 0
    · obtain ⟨z1, z2⟩ := hc.zero x y z a1 a2 h
      simp only [z1, if_true] at h1
      simp only [z2, if_true] at h2
      simp only [h, if_true]
      exact hd.trans x y z h1 h2
    · simp only [if_neg h]; exact a3
theorem isCmp_int {α : Type} (f : α → Int) : IsCmp (fun x y => cmpI (f x) (f y)) := by
  constructor
  · intro x y; simp only [cmpI]; split <;> split <;> (try split) <;> omega
  · intro x y z h1 h2; simp only [cmpI] at *
    by_cases q1 : f y < f x
    · rw [if_neg (by omega), if_pos q1] at h1; omega
    · by_cases q2 : f z < f y
      · rw [if_neg (by omega), if_pos q2] at h2; omega
      · by_cases q3 : f x < f z
        · rw [if_pos q3]; omega
        · rw [if_neg q3, if_neg (by omega)]; omega
theorem toList_inj {a b : ByteArray} (h : a.toList = b.toList) : a = b := by
  rw [ByteArray.toList_eq, ByteArray.toList_eq] at h
  cases a; cases b
  simpa using h
theorem cmpS_lt {a b : ByteArray} (h : Op.bytesLess a.toList b.toList = true) : cmpS a b = -1 ∧ cmpS b a = 1 := by
  refine ⟨if_pos h, ?_⟩
  rw [cmpS, if_neg (bl_asymm h), if_neg]
  intro e; rw [e] at h; exact bl_irrefl _ h
theorem cmpS_self (a : ByteArray) : cmpS a a = 0 := by rw [cmpS, if_neg (bl_irrefl _), if_pos rfl]
theorem cmpS_cases (a b : ByteArray) : Op.bytesLess a.toList b.toList = true ∨ Op.bytesLess b.toList a.toList = true ∨ a = b := by
  by_cases h1 : Op.bytesLess a.toList b.toList = true
  · exact .inl h1
  · by_cases h2 : Op.bytesLess b.toList a.toList = true
    · exact .inr (.inl h2)
    · exact .inr (.inr (toList_inj (bl_tri _ _ h1 h2)))
theorem isCmp_str {α : Type} (f : α → ByteArray) : IsCmp (fun x y => cmpS (f x) (f y)) := by
  constructor
  · intro x y
    rcases cmpS_cases (f x) (f y) with h | h | h
    · have := cmpS_lt h; omega
    · have := cmpS_lt h; omega
    · simp only [h, cmpS_self]; rfl
  · intro x y z h1 h2
    rcases cmpS_cases (f x) (f y) with h | h | h
    · rcases cmpS_cases (f y) (f z) with k | k | k
      · have := cmpS_lt (bl_trans _ _ _ h k); omega
      · have := cmpS_lt k; omega
      · rw [← k]; exact h1
    · have := cmpS_lt h; omega
    · rw [h]; exact h2

theorem cmp_eq (s t : Sp) : s.cmp t = if cmpI s.tr t.tr = 0 then (if cmpI s.st t.st = 0 then (if cmpI s.id t.id = 0 then (if cmpI s.pa t.pa = 0 then (if cmpI s.en t.en = 0 then cmpS s.nm t.nm else cmpI s.en t.en) else cmpI s.pa t.pa) else cmpI s.id t.id) else cmpI s.st t.st) else cmpI s.tr t.tr := by
  simp only [Sp.cmp, Sp.cmpL, orL]
  have h : (if cmpS s.nm t.nm = 0 then (0 : Int) else cmpS s.nm t.nm) = cmpS s.nm t.nm := by
    by_cases h : cmpS s.nm t.nm = 0
    · rw [if_pos h, h]
    · rw [if_neg h]
  rw [h]
theorem isCmp_span : IsCmp Sp.cmp := by
  have h := (isCmp_int Sp.tr).lex ((isCmp_int Sp.st).lex ((isCmp_int Sp.id).lex ((isCmp_int Sp.pa).lex ((isCmp_int Sp.en).lex (isCmp_str Sp.nm)))))
  exact ⟨fun x y => by rw [cmp_eq, cmp_eq]; exact h.swap x y, fun x y z h1 h2 => by rw [cmp_eq] at *; exact h.trans x y z h1 h2⟩
theorem cmpI_zero {a b : Int} (h : cmpI a b = 0) : a = b := by
  simp only [cmpI] at h
  by_cases h1 : a < b
  · rw [if_pos h1] at h; omega
  · by_cases h2 : b < a
    · rw [if_neg h1, if_pos h2] at h; omega
    · omega
theorem cmp_zero {s t : Sp} : s.cmp t = 0 ↔ s = t := by
  constructor
  · intro h
    rw [cmp_eq] at h
    by_cases h1 : cmpI s.tr t.tr = 0
    · rw [if_pos h1] at h
      by_cases h2 : cmpI s.st t.st = 0
      · rw [if_pos h2] at h
        by_cases h3 : cmpI s.id t.id = 0
        · rw [if_pos h3] at h
          by_cases h4 : cmpI s.pa t.pa = 0
          · rw [if_pos h4] at h
            by_cases h5 : cmpI s.en t.en = 0
            · rw [if_pos h5] at h
              have h6 : s.nm = t.nm := by
                rcases cmpS_cases s.nm t.nm with k | k | k
                · have := cmpS_lt k; omega
                · have := cmpS_lt k; omega
                · exact k
              have e1 := cmpI_zero h1
              have e2 := cmpI_zero h2
              have e3 := cmpI_zero h3
              have e4 := cmpI_zero h4
              have e5 := cmpI_zero h5
              cases s; cases t; simp_all
            · rw [if_neg h5] at h; exact absurd h h5
          · rw [if_neg h4] at h; exact absurd h h4
        · rw [if_neg h3] at h; exact absurd h h3
      · rw [if_neg h2] at h; exact absurd h h2
    · rw [if_neg h1] at h; exact absurd h h1
  · rintro rfl
    have := isCmp_span.swap s s
    omega

end Go.Proofs.YtfjpenbahoeklaaGreatDoor
namespace Go.Proofs.YtfjpenbahoeklaaGreatDoor
open Go.RowKit Go.Sort

instance : Inhabited Sp := ⟨⟨0, 0, 0, 0, 0, ⟨#[]⟩⟩⟩

/-- The one sorted list of some spans. -/
def sortS (l : List Sp) : List Sp := l.mergeSort fun x y => !ltOf Sp.cmp y x
theorem leS_iff (x y : Sp) : (!ltOf Sp.cmp y x) = true ↔ x.cmp y ≤ 0 := by
  have := isCmp_span.swap x y
  simp only [ltOf, Bool.not_eq_true', decide_eq_false_iff_not]; omega
theorem leS_total (x y : Sp) : x.cmp y ≤ 0 ∨ y.cmp x ≤ 0 := by
  have := isCmp_span.swap x y; omega
theorem swoS : SWO (ltOf Sp.cmp) where
  irrefl x := by
    have := cmp_zero.2 (rfl : x = x)
    simp [ltOf, this]
  trans x y z h1 h2 := by
    simp only [ltOf, decide_eq_true_eq] at *
    have h3 := isCmp_span.trans x y z (by omega) (by omega)
    by_cases h : x.cmp z = 0
    · have := isCmp_span.zero x y z (by omega) (by omega) h; omega
    · omega
  ntrans x y z h1 h2 := by
    simp only [ltOf, decide_eq_false_iff_not] at *
    have a := isCmp_span.swap x y
    have b := isCmp_span.swap y z
    have c := isCmp_span.swap x z
    have h3 := isCmp_span.trans z y x (by omega) (by omega)
    omega
theorem totS (x y : Sp) (h1 : ltOf Sp.cmp x y = false) (h2 : ltOf Sp.cmp y x = false) : x = y := by
  simp only [ltOf, decide_eq_false_iff_not] at *
  have a := isCmp_span.swap x y
  exact cmp_zero.1 (by omega)
theorem sortS_perm (l : List Sp) : (sortS l).Perm l := List.mergeSort_perm _ _
theorem sortS_len (l : List Sp) : (sortS l).length = l.length := (sortS_perm l).length_eq
theorem sortS_mem {l : List Sp} {s : Sp} : s ∈ sortS l ↔ s ∈ l := (sortS_perm l).mem_iff
theorem sortS_sorted (l : List Sp) : (sortS l).Pairwise fun x y => x.cmp y ≤ 0 := by
  have h := List.pairwise_mergeSort (le := fun x y : Sp => !ltOf Sp.cmp y x) (by
    intro a b c h1 h2
    rw [leS_iff] at *
    exact isCmp_span.trans a b c h1 h2) (by
    intro a b
    rw [Bool.or_eq_true, leS_iff, leS_iff]
    exact leS_total a b) l
  exact h.imp (fun {a b} h => (leS_iff a b).1 h)
theorem sortS_unique {l m : List Sp} (hp : m.Perm l) (hs : m.Pairwise fun x y => x.cmp y ≤ 0) : m = sortS l := by
  refine List.Perm.eq_of_pairwise (le := fun x y : Sp => x.cmp y ≤ 0) ?_ hs (sortS_sorted l) (hp.trans (sortS_perm l).symm)
  intro a b _ _ h1 h2
  have a := isCmp_span.swap a b
  exact cmp_zero.1 (by omega)
theorem sortS_congr {l m : List Sp} (h : m.Perm l) : sortS m = sortS l := sortS_unique ((sortS_perm m).trans h) (sortS_sorted m)
theorem sortS_of {l : List Sp} (h : l.Pairwise fun x y => x.cmp y ≤ 0) : sortS l = l := (sortS_unique (List.Perm.refl l) h).symm
theorem sortS_idem (l : List Sp) : sortS (sortS l) = sortS l := sortS_of (sortS_sorted l)
theorem sortS_filter (p : Sp → Bool) (l : List Sp) : (sortS l).filter p = sortS (l.filter p) := sortS_unique ((sortS_perm l).filter p) ((sortS_sorted l).filter p)

/-- One put at its place. -/
def insS (s : Sp) : List Sp → List Sp
  | [] => [s]
  | x :: r => if s.cmp x < 0 then s :: x :: r else x :: insS s r
theorem insS_perm (s : Sp) (l : List Sp) : (insS s l).Perm (s :: l) := by
  induction l with
  | nil => exact List.Perm.refl _
  | cons x r ih =>
    rw [insS]
    by_cases h : s.cmp x < 0
    · rw [if_pos h]
    · rw [if_neg h]
      exact (ih.cons x).trans (List.Perm.swap s x r)
theorem insS_len (s : Sp) (l : List Sp) : (insS s l).length = l.length + 1 := (insS_perm s l).length_eq
theorem insS_sorted (s : Sp) (l : List Sp) (h : l.Pairwise fun x y => x.cmp y ≤ 0) : (insS s l).Pairwise fun x y => x.cmp y ≤ 0 := by
  induction l with
  | nil => simp [insS]
  | cons x r ih =>
    obtain ⟨h1, h2⟩ := List.pairwise_cons.1 h
    rw [insS]
    by_cases hc : s.cmp x < 0
    · rw [if_pos hc]
      refine List.pairwise_cons.2 ⟨fun y hy => ?_, h⟩
      rcases List.mem_cons.1 hy with rfl | hy
      · omega
      · exact isCmp_span.trans s x y (by omega) (h1 y hy)
    · rw [if_neg hc]
      refine List.pairwise_cons.2 ⟨fun y hy => ?_, ih h2⟩
      have hm := (insS_perm s r).mem_iff.1 hy
      rcases List.mem_cons.1 hm with rfl | hm
      · have := isCmp_span.swap x y; omega
      · exact h1 y hm
/-- Each at its place, from the left on. -/
def insAll (acc : List Sp) (l : List Sp) : List Sp := l.foldl (fun a s => insS s a) acc
theorem insAll_perm (l acc : List Sp) : (insAll acc l).Perm (acc ++ l) := by
  induction l generalizing acc with
  | nil => simp [insAll]
  | cons s l ih =>
    refine (ih (insS s acc)).trans ?_
    refine ((insS_perm s acc).append_right l).trans ?_
    rw [List.cons_append]
    exact List.perm_middle.symm
theorem insAll_sorted (l acc : List Sp) (h : acc.Pairwise fun x y => x.cmp y ≤ 0) : (insAll acc l).Pairwise fun x y => x.cmp y ≤ 0 := by
  induction l generalizing acc with
  | nil => exact h
  | cons s l ih => exact ih _ (insS_sorted s acc h)
theorem insAll_sortS (l : List Sp) : insAll [] l = sortS l := sortS_unique (by simpa using insAll_perm l []) (insAll_sorted l [] List.Pairwise.nil)
/-- What is ahead of the place of one, and what is behind it. -/
theorem insS_split (s : Sp) (a b : List Sp) (ha : ∀ x ∈ a, ¬ s.cmp x < 0) (hb : ∀ x ∈ b.head?, s.cmp x < 0) : insS s (a ++ b) = a ++ s :: b := by
  induction a with
  | nil =>
    cases b with
    | nil => rfl
    | cons x r => rw [List.nil_append, insS, if_pos (hb x (by simp))]; rfl
  | cons x a ih => rw [List.cons_append, insS, if_neg (ha x (by simp)), ih fun y hy => ha y (by simp [hy])]; rfl

/-! ### A row of the caller's own, sorted in place -/
theorem flatK_cells (l : List Sp) : flatK Sp.cells 6 l.toArray = (l.flatMap Sp.cells).toArray := by
  have hl := flat_len Sp.cells 6 Sp.cells_len l
  refine ext_get! (by simp [hl]) fun t ht => ?_
  have ht' : t < l.length * 6 := by simpa using ht
  rw [get_flatK _ _ _ _ (by simpa using ht')]
  have h6 : t / 6 < l.length := by omega
  have e1 : l.toArray[t / 6]! = l[t / 6] := by simp [h6]
  have e2 := flat_at Sp.cells 6 Sp.cells_len l (t / 6) (t % 6) h6 (by omega)
  rw [show t / 6 * 6 + t % 6 = t by omega] at e2
  rw [e1]
  simp only [getElem!_def, List.getElem?_toArray, e2]
theorem holds_of_own {w : World} {base g n c : Nat} {e : TypeId} {l : List Sp} (h : w.ownsRow base e 6 (.slice (some ⟨g, 0, none⟩) n c) n (l.flatMap Sp.cells)) : HoldsK Sp.cells 6 w g 0 l.toArray := by
  rcases h.2 with ⟨hv, _⟩ | ⟨g', cap, cur, hv, _, hh, hn, _, hs, ht⟩
  · cases hv
  · injection hv with ha
    injection ha with ha
    injection ha with ha
    subst ha
    unfold HoldsK
    rw [flatK_cells]
    intro j hj
    have hj' : j < (l.flatMap Sp.cells).length := by simpa using hj
    refine ⟨?_, by simp [World.frozen?, hh]⟩
    rw [Nat.zero_add, cell_of_row w g j cur e (0, 0) hh]
    have hl := h.1
    have h2 : (cur.toList.take (n * 6))[j]? = (l.flatMap Sp.cells)[j]? := by rw [ht]
    rw [List.getElem?_take_of_lt (by omega)] at h2
    rw [← Array.getElem?_toList, h2, List.getElem?_eq_getElem hj']
    simp [getElem!_def, List.getElem?_eq_getElem hj']
theorem own_sorted {w : World} {base g n c : Nat} {e : TypeId} {l m : List Sp} (h : w.ownsRow base e 6 (.slice (some ⟨g, 0, none⟩) n c) n (l.flatMap Sp.cells)) (hm : m.length = l.length) (q : Nat) (os : Array Obj) :
    (sortWorldK Sp.cells 6 w g 0 q m.toArray os).ownsRow base e 6 (.slice (some ⟨g, 0, none⟩) n c) n (m.flatMap Sp.cells) ∧ Below base w (sortWorldK Sp.cells 6 w g 0 q m.toArray os) := by
  have hl := h.1
  rw [flat_len Sp.cells 6 Sp.cells_len] at hl
  rcases h.2 with ⟨hv, _⟩ | ⟨g', cap, cur, hv, hb, hh, hn, hc, hs, ht⟩
  · cases hv
  · injection hv with ha hn' hc'
    injection ha with ha
    injection ha with ha
    subst ha hc'
    have hg : g < w.heap.size := (Array.getElem?_eq_some_iff.1 hh).1
    constructor
    · refine ⟨by rw [flat_len Sp.cells 6 Sp.cells_len, hm]; exact hl, .inr ⟨g, c, putCells id 0 (m.flatMap Sp.cells).toArray cur, rfl, hb, ?_, hn, hc, by simp [putCells, hs], ?_⟩⟩
      · unfold sortWorldK putRowK
        rw [heap_grow_old _ _ (by simpa [putRow, mapBlock, Sort.ahead] using hg), flatK_cells]
        simp [putRow, mapBlock, Sort.ahead, Array.getElem?_modify, hh, onCells]
      · apply List.ext_getElem?
        intro j
        have hf := flat_len Sp.cells 6 Sp.cells_len m
        have hnc : n * 6 ≤ c * 6 := Nat.mul_le_mul_right 6 hn
        by_cases hj : j < n * 6
        · rw [List.getElem?_take_of_lt hj, Array.getElem?_toList]
          simp only [putCells, Array.getElem?_mapIdx]
          have hj2 : j < cur.size := by omega
          have hj3 : j < (m.flatMap Sp.cells).length := by rw [hf, hm, hl]; exact hj
          rw [Array.getElem?_eq_getElem hj2, Option.map_some, if_pos ⟨Nat.zero_le _, by simpa using hj3⟩, List.getElem?_eq_getElem hj3]
          simp [getElem!_def, List.getElem?_eq_getElem hj3]
        · rw [List.getElem?_eq_none (by simp; omega), List.getElem?_eq_none (by rw [hf, hm, hl]; omega)]
    · refine ⟨rfl, rfl, rfl, ?_, ?_⟩
      · unfold sortWorldK putRowK; rw [size_grow]; simp [putRow, mapBlock, Sort.ahead]
      · intro k hk
        unfold sortWorldK putRowK
        rw [heap_grow_old _ _ (by simp [putRow, mapBlock, Sort.ahead]; omega)]
        simp [putRow, mapBlock, Sort.ahead, Array.getElem?_modify, show ¬ g = k by omega]
end Go.Proofs.YtfjpenbahoeklaaGreatDoor
