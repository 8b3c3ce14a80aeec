/-
  The walk of span.take: a span is read. Condition: the Scan lies in memory as Over made it.
-/
import Derived.Test.YtdjcifeoplgkpaaScanText
namespace Go.Proofs.Ytdjcifeoplgkpaa
open Go.RowKit

/-- A span that is read, the place behind it, the error. -/
def scTake (l : List UInt8) (at_ : Nat) (err : Int) : Sp × Nat × Int :=
  let q1 := scNum l at_ err
  let q2 := scNum l q1.2.1 q1.2.2
  let q3 := scNum l q2.2.1 q2.2.2
  let q4 := scNum l q3.2.1 q3.2.2
  let q5 := scNum l q4.2.1 q4.2.2
  let t := scText 32 l q5.2.1 q5.2.2
  (⟨q1.1, q2.1, q3.1, q4.1, if (1099511627776 : Int) < q5.1 then -1 else wrap64 (q4.1 + q5.1), ⟨t.1.toArray⟩⟩, t.2.1, t.2.2)
def sp0 : Array Value := #[.int .i64 0, .int .i64 0, .int .i64 0, .int .i64 0, .int .i64 0, .string ⟨#[]⟩]

theorem scTake_of {l tx : List UInt8} {at_ n1 n2 n3 n4 n5 a1 a2 a3 a4 a5 a6 : Nat} {err e1 e2 e3 e4 e5 e6 : Int} (h1 : scNum l at_ err = (n1, a1, e1)) (h2 : scNum l a1 e1 = (n2, a2, e2)) (h3 : scNum l a2 e2 = (n3, a3, e3)) (h4 : scNum l a3 e3 = (n4, a4, e4))
    (h5 : scNum l a4 e4 = (n5, a5, e5)) (ht : scText 32 l a5 e5 = (tx, a6, e6)) :
    scTake l at_ err = (⟨n1, n2, n3, n4, if (1099511627776 : Int) < n5 then -1 else wrap64 (n4 + n5), ⟨tx.toArray⟩⟩, a6, e6) := by
  simp only [scTake, h1, h2, h3, h4, h5, ht]
theorem fr_keep {S : Nat → Prop} {w w1 : World} {g : Nat} {o : Obj} (hf : Fr S w w1) (h : w.heap[g]? = some o) (hS : ¬ S g) : w1.heap[g]? = some o := (hf.block g (Array.getElem?_eq_some_iff.1 h).1 hS).trans h

set_option maxRecDepth 100000 in
set_option maxHeartbeats 1000000 in
theorem take_any {w : World} {sb pb c at_ : Nat} {A : Option Addr} {l : List UInt8} {err : Int} (h : ScanAt w sb pb A c l at_ err) :
    Calls Try.prog 69 #[.pointer (some ⟨sb, 0, none⟩)] w (ResSc w sb pb A c l (scTake l at_ err).1.val (scTake l at_ err).2.1 (scTake l at_ err).2.2) := by
  have hsb := h.sb_lt
  have hpb := h.lt
  have hz0 := h.below ((Below.refl w.heap.size w).alloc (Nat.le_refl _) (.cells sp0 35)) hsb
  have HZ0 := Lib.hid hz0
  have hnS : ¬ SP sb pb w.heap.size := by rintro (h | h) <;> omega
  clear hz0 h
  go_enter Try.func69, Try.ntmps69
  go_wp2_with fail
  refine (scanNumber_any HZ0.out).mono ?_
  rintro e w1 ⟨rfl, hs1, hf1⟩
  generalize hq1 : scNum l at_ err = q1 at hs1 ⊢
  obtain ⟨n1, a1, e1⟩ := q1
  dsimp only at hs1 ⊢
  have hb1 := scNum_bound l at_ err
  rw [hq1] at hb1
  have HQ1 := Lib.hid hq1
  have HS1 := Lib.hid hs1
  clear hq1 hs1
  go_wp2_with fail
  refine (scanNumber_any HS1.out).mono ?_
  rintro e w2 ⟨rfl, hs2, hf2⟩
  generalize hq2 : scNum l a1 e1 = q2 at hs2 ⊢
  obtain ⟨n2, a2, e2⟩ := q2
  dsimp only at hs2 ⊢
  have hb2 := scNum_bound l a1 e1
  rw [hq2] at hb2
  have HQ2 := Lib.hid hq2
  have HS2 := Lib.hid hs2
  clear hq2 hs2
  go_wp2_with fail
  refine (scanNumber_any HS2.out).mono ?_
  rintro e w3 ⟨rfl, hs3, hf3⟩
  generalize hq3 : scNum l a2 e2 = q3 at hs3 ⊢
  obtain ⟨n3, a3, e3⟩ := q3
  dsimp only at hs3 ⊢
  have hb3 := scNum_bound l a2 e2
  rw [hq3] at hb3
  have HQ3 := Lib.hid hq3
  have HS3 := Lib.hid hs3
  clear hq3 hs3
  go_wp2_with fail
  refine (scanNumber_any HS3.out).mono ?_
  rintro e w4 ⟨rfl, hs4, hf4⟩
  generalize hq4 : scNum l a3 e3 = q4 at hs4 ⊢
  obtain ⟨n4, a4, e4⟩ := q4
  dsimp only at hs4 ⊢
  have hb4 := scNum_bound l a3 e3
  rw [hq4] at hb4
  have HQ4 := Lib.hid hq4
  have HS4 := Lib.hid hs4
  clear hq4 hs4
  go_wp2_with fail
  have hf04 : Fr (SP sb pb) (w.alloc (.cells sp0 35)) w4 := ((hf1.trans hf2).trans hf3).trans hf4
  have hsz4 := hf04.size
  simp only [World.size_alloc] at hsz4
  have hR4 : w4.heap[w.heap.size]? = some (.cells sp0 35 (0, 0)) := fr_keep hf04 (heap_alloc_new w _) hnS
  have hsb4 : sb < w4.heap.size := HS4.out.sb_lt
  have hz4 := HS4.out.below ((Below.refl w4.heap.size w4).alloc (Nat.le_refl _) (.cells #[.int .i64 n1, .int .i64 n2, .int .i64 n3, .int .i64 n4, .int .i64 0, .string ⟨#[]⟩] 35)) hsb4
  refine (scanNumber_any hz4).mono ?_
  rintro e w5 ⟨rfl, hs5, hf5⟩
  generalize hq5 : scNum l a4 e4 = q5 at hs5 ⊢
  obtain ⟨n5, a5, e5⟩ := q5
  dsimp only at hs5 ⊢
  have hb5 := scNum_bound l a4 e4
  rw [hq5] at hb5
  have HQ5 := Lib.hid hq5
  have HS5 := Lib.hid hs5
  have hnS4 : ¬ SP sb pb w4.heap.size := by rintro (h | h) <;> omega
  have hB5 := fr_keep hf5 (heap_alloc_new w4 _) hnS4
  have hR5 := fr_keep hf5 (blk_below ((Below.refl w4.heap.size w4).alloc (Nat.le_refl _) _) (by omega) hR4) hnS
  have hfw5 : Fr (fun k => SP sb pb k) w w5 := by
    have h1 : Fr (SP sb pb) w (w.alloc (.cells sp0 35)) := Fr.of_below ((Below.refl _ _).alloc (Nat.le_refl _) _)
    exact ((h1.trans hf04).trans (Fr.of_below ((Below.refl w4.heap.size w4).alloc (Nat.le_refl _) _))).trans hf5
  have hsz5 := hf5.size
  simp only [World.size_alloc] at hsz5
  clear hq5 hs5 hf1 hf2 hf3 hf4 hf04 hf5 hz4 hR4 HS1 HS2 HS3 HS4 HZ0
  have hc5 := blk_cell hB5
  have hfz5 := fun j => blk_frozen hB5 j
  have HB5 := Lib.hid hB5
  have HR5 := Lib.hid hR5
  clear hB5 hR5
  go_wp2_with fail
  · have h5 : (1099511627776 : Int) < (n5 : Int) := by assumption
    have hB6 : ((w5.setCell ⟨w4.heap.size, 4, none⟩ (.int .i64 (wrap64 (n4 + n5)))).setCell ⟨w4.heap.size, 4, none⟩ (.int .i64 (-1))).heap[w4.heap.size]? = some (.cells #[.int .i64 n1, .int .i64 n2, .int .i64 n3, .int .i64 n4, .int .i64 (-1), .string ⟨#[]⟩] 35 (0, 0)) := blk_set (blk_set HB5.out 4 _) 4 _
    have hR6 : ((w5.setCell ⟨w4.heap.size, 4, none⟩ (.int .i64 (wrap64 (n4 + n5)))).setCell ⟨w4.heap.size, 4, none⟩ (.int .i64 (-1))).heap[w.heap.size]? = some (.cells sp0 35 (0, 0)) := (Below.heap_setCell _ _ _ _ (by simp; omega)).trans ((Below.heap_setCell _ _ _ _ (by simp; omega)).trans HR5.out)
    have hF6 : Fr (SP sb pb) w ((w5.setCell ⟨w4.heap.size, 4, none⟩ (.int .i64 (wrap64 (n4 + n5)))).setCell ⟨w4.heap.size, 4, none⟩ (.int .i64 (-1))) := (hfw5.setNew (by simp; omega) _).setNew (by simp; omega) _
    have hS6 : ScanAt ((w5.setCell ⟨w4.heap.size, 4, none⟩ (.int .i64 (wrap64 (n4 + n5)))).setCell ⟨w4.heap.size, 4, none⟩ (.int .i64 (-1))) sb pb A c l a5 e5 := (HS5.out.fr (((Fr.refl (fun k => k = w4.heap.size) w5).setCell rfl _).setCell rfl _) (fun k hk => by omega))
    have hsz6 : w4.heap.size + 1 ≤ ((w5.setCell ⟨w4.heap.size, 4, none⟩ (.int .i64 (wrap64 (n4 + n5)))).setCell ⟨w4.heap.size, 4, none⟩ (.int .i64 (-1))).heap.size := by simp; exact hsz5
    clear hc5 hfz5 HB5 HR5 hfw5 HS5 hsz5
    generalize (w5.setCell ⟨w4.heap.size, 4, none⟩ (.int .i64 (wrap64 (n4 + n5)))).setCell ⟨w4.heap.size, 4, none⟩ (.int .i64 (-1)) = w6 at *
    refine (scanText_any 32 (by omega) hS6).mono ?_
    rintro e w7 ⟨rfl, hs7, hf7⟩
    generalize ht : scText 32 l a5 e5 = q7 at hs7 ⊢
    obtain ⟨tx, a7, e7⟩ := q7
    dsimp only at hs7 ⊢
    have hB7 := fr_keep hf7 hB6 hnS4
    have hR7 := fr_keep hf7 hR6 hnS
    have hF7 := hF6.trans hf7
    have hsz7 := Nat.le_trans hsz6 hf7.size
    have HT := Lib.hid ht
    have HS7 := Lib.hid hs7
    have hc7 := blk_cell hB7
    have hfz7 := fun j => blk_frozen hB7 j
    have hcr := blk_cell hR7
    have hfr := fun j => blk_frozen hR7 j
    have hne : w.heap.size < w4.heap.size := by omega
    have HH := Lib.hid (scTake_of HQ1.out HQ2.out HQ3.out HQ4.out HQ5.out HT.out)
    clear hs7 hf7 hB6 hR6 hF6 hB7 hR7 ht hsz6 HT HQ1 HQ2 HQ3 HQ4 HQ5 hS6
    unfold sp0 at hcr
    go_wp2_with fail
    have HH2 := HH.out
    rw [if_pos h5] at HH2
    rw [HH2]
    refine bodyPost_ret (v := .agg #[.int .i64 n1, .int .i64 n2, .int .i64 n3, .int .i64 n4, .int .i64 (-1), .string ⟨tx.toArray⟩]) (by simp [results, Try.results69, go_sem, hcr]) rfl ?_
    refine ⟨rfl, HS7.out.fr (S := fun k => k = w.heap.size ∨ k = w4.heap.size) ?_ (fun k hk => by omega), ?_⟩
    · exact ((((((((Fr.refl _ _).setCell (.inr rfl) _).setCell (.inl rfl) _).setCell (.inl rfl) _).setCell (.inl rfl) _).setCell (.inl rfl) _).setCell (.inl rfl) _).setCell (.inl rfl) _)
    · exact (((((((hF7.setNew (by simp; omega) _).setNew (by simp) _).setNew (by simp) _).setNew (by simp) _).setNew (by simp) _).setNew (by simp) _).setNew (by simp) _)
  · have h5 : (n5 : Int) ≤ 1099511627776 := by assumption
    have hB6 : (w5.setCell ⟨w4.heap.size, 4, none⟩ (.int .i64 (wrap64 (n4 + n5)))).heap[w4.heap.size]? = some (.cells #[.int .i64 n1, .int .i64 n2, .int .i64 n3, .int .i64 n4, .int .i64 (wrap64 (n4 + n5)), .string ⟨#[]⟩] 35 (0, 0)) := blk_set HB5.out 4 _
    have hR6 : (w5.setCell ⟨w4.heap.size, 4, none⟩ (.int .i64 (wrap64 (n4 + n5)))).heap[w.heap.size]? = some (.cells sp0 35 (0, 0)) := (Below.heap_setCell _ _ _ _ (by simp; omega)).trans HR5.out
    have hF6 : Fr (SP sb pb) w (w5.setCell ⟨w4.heap.size, 4, none⟩ (.int .i64 (wrap64 (n4 + n5)))) := hfw5.setNew (by simp; omega) _
    have hS6 : ScanAt (w5.setCell ⟨w4.heap.size, 4, none⟩ (.int .i64 (wrap64 (n4 + n5)))) sb pb A c l a5 e5 := (HS5.out.fr ((Fr.refl (fun k => k = w4.heap.size) w5).setCell rfl _) (fun k hk => by omega))
    have hsz6 : w4.heap.size + 1 ≤ (w5.setCell ⟨w4.heap.size, 4, none⟩ (.int .i64 (wrap64 (n4 + n5)))).heap.size := by simp; exact hsz5
    clear hc5 hfz5 HB5 HR5 hfw5 HS5 hsz5
    generalize w5.setCell ⟨w4.heap.size, 4, none⟩ (.int .i64 (wrap64 (n4 + n5))) = w6 at *
    refine (scanText_any 32 (by omega) hS6).mono ?_
    rintro e w7 ⟨rfl, hs7, hf7⟩
    generalize ht : scText 32 l a5 e5 = q7 at hs7 ⊢
    obtain ⟨tx, a7, e7⟩ := q7
    dsimp only at hs7 ⊢
    have hB7 := fr_keep hf7 hB6 hnS4
    have hR7 := fr_keep hf7 hR6 hnS
    have hF7 := hF6.trans hf7
    have hsz7 := Nat.le_trans hsz6 hf7.size
    have HT := Lib.hid ht
    have HS7 := Lib.hid hs7
    have hc7 := blk_cell hB7
    have hfz7 := fun j => blk_frozen hB7 j
    have hcr := blk_cell hR7
    have hfr := fun j => blk_frozen hR7 j
    have hne : w.heap.size < w4.heap.size := by omega
    have HH := Lib.hid (scTake_of HQ1.out HQ2.out HQ3.out HQ4.out HQ5.out HT.out)
    clear hs7 hf7 hB6 hR6 hF6 hB7 hR7 ht hsz6 HT HQ1 HQ2 HQ3 HQ4 HQ5 hS6
    unfold sp0 at hcr
    go_wp2_with fail
    have HH2 := HH.out
    rw [if_neg (by omega)] at HH2
    rw [HH2]
    refine bodyPost_ret (v := .agg #[.int .i64 n1, .int .i64 n2, .int .i64 n3, .int .i64 n4, .int .i64 (wrap64 (n4 + n5)), .string ⟨tx.toArray⟩]) (by simp [results, Try.results69, go_sem, hcr]) rfl ?_
    refine ⟨rfl, HS7.out.fr (S := fun k => k = w.heap.size ∨ k = w4.heap.size) ?_ (fun k hk => by omega), ?_⟩
    · exact ((((((((Fr.refl _ _).setCell (.inr rfl) _).setCell (.inl rfl) _).setCell (.inl rfl) _).setCell (.inl rfl) _).setCell (.inl rfl) _).setCell (.inl rfl) _).setCell (.inl rfl) _)
    · exact (((((((hF7.setNew (by simp; omega) _).setNew (by simp) _).setNew (by simp) _).setNew (by simp) _).setNew (by simp) _).setNew (by simp) _).setNew (by simp) _)
end Go.Proofs.Ytdjcifeoplgkpaa
