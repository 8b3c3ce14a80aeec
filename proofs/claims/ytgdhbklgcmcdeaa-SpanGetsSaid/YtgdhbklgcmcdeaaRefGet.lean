/-
  The walk of the reference's Get: it answers as Get does. Condition: the bytes are not more than memory bears.
-/
import Derived.Test.YtgdhbklgcmcdeaaCodec
import Derived.Test.YtgdhbklgcmcdeaaRefScan
import Derived.Test.YtgdhbklgcmcdeaaRefPut
import Derived.Test.YtgdhbklgcmcdeaaStd
namespace Go.Proofs.Ytgdhbklgcmcdeaa
open Go.RowKit

theorem scTake_parts {l r : List UInt8} {at_ : Nat} {s : Sp} (h : l.drop at_ = s.enc ++ r) (hs : s.ok = true) : ∃ a1 a2 a3 a4 a5,
    scNum l at_ 0 = (s.tr.toNat, a1, 0) ∧ scNum l a1 0 = (s.id.toNat, a2, 0) ∧ scNum l a2 0 = (s.pa.toNat, a3, 0) ∧ scNum l a3 0 = (s.st.toNat, a4, 0) ∧ scNum l a4 0 = ((s.en - s.st).toNat, a5, 0) ∧
      scText 32 l a5 0 = (s.nm.data.toList, at_ + s.enc.length, 0) := by
  have hp := Sp.ok_parts hs
  have hsz : s.nm.data.toList.length = s.nm.size := rfl
  have hE := s.enc_eq
  rw [hE] at h
  simp only [List.append_assoc] at h
  have h1 := scNum_enc h (by omega)
  have d1 := drop_on h
  have h2 := scNum_enc d1 (by omega)
  have d2 := drop_on d1
  have h3 := scNum_enc d2 (by omega)
  have d3 := drop_on d2
  have h4 := scNum_enc d3 (by omega)
  have d4 := drop_on d3
  have h5 := scNum_enc d4 (by omega)
  have d5 := drop_on d4
  rw [← List.append_assoc] at d5
  have h6 := scText_enc d5 (by omega)
  refine ⟨_, _, _, _, _, h1, h2, h3, h4, h5, ?_⟩
  rw [h6, hE]
  simp only [List.length_append, Prod.mk.injEq, and_true, true_and]
  omega

/-- Where the reference's Get stands behind k spans: if the bytes are those of spans that may be, it has read the first k of them. -/
def GI (l : List UInt8) (N k : Nat) (acc : List Sp) (at_ : Nat) (err : Int) : Prop :=
  ∀ sps : List Sp, sps.all Sp.ok = true → putEnc sps = l → sps.length < 9223372036854775808 → N = sps.length ∧ acc = sps.take k ∧ err = 0 ∧ l.drop at_ = encL (sps.drop k)
theorem GI_start {l : List UInt8} {N a : Nat} {e : Int} (h : scNum l 0 0 = (N, a, e)) : GI l N 0 [] a e := by
  intro sps hok hp hl
  have h0 : l.drop 0 = digits sps.length ++ encL sps := by rw [← hp]; rfl
  have h1 := scNum_enc h0 hl
  rw [h] at h1
  simp only [Prod.mk.injEq] at h1
  obtain ⟨rfl, rfl, rfl⟩ := h1
  exact ⟨rfl, rfl, rfl, drop_on h0⟩
theorem GI_step {l tx : List UInt8} {N k at_ n1 n2 n3 n4 n5 a1 a2 a3 a4 a5 a6 : Nat} {err e1 e2 e3 e4 e5 e6 : Int} {acc : List Sp} (hg : GI l N k acc at_ err) (hk : k < N)
    (h1 : scNum l at_ err = (n1, a1, e1)) (h2 : scNum l a1 e1 = (n2, a2, e2)) (h3 : scNum l a2 e2 = (n3, a3, e3)) (h4 : scNum l a3 e3 = (n4, a4, e4)) (h5 : scNum l a4 e4 = (n5, a5, e5)) (ht : scText 32 l a5 e5 = (tx, a6, e6)) :
    (e6 ≠ 0 ∨ 1099511627776 < n5 ∨ 1099511627776 < n4 → l.length < 9223372036854775808 → getAns l = ([], 30)) ∧ GI l N (k + 1) (acc ++ [⟨n1, n2, n3, n4, (n4 : Int) + n5, ⟨tx.toArray⟩⟩]) a6 e6 := by
  have key : ∀ sps : List Sp, sps.all Sp.ok = true → putEnc sps = l → sps.length < 9223372036854775808 → e6 = 0 ∧ n5 ≤ 1099511627776 ∧ n4 ≤ 1099511627776 ∧
      N = sps.length ∧ acc ++ [⟨n1, n2, n3, n4, (n4 : Int) + n5, ⟨tx.toArray⟩⟩] = sps.take (k + 1) ∧ l.drop a6 = encL (sps.drop (k + 1)) := by
    intro sps hok hp hl
    obtain ⟨hN, ha, rfl, hd⟩ := hg sps hok hp hl
    have hks : k < sps.length := by omega
    have hs := List.all_eq_true.1 hok _ (List.getElem_mem hks)
    have hsp := Sp.ok_parts hs
    have hd2 : l.drop at_ = sps[k].enc ++ encL (sps.drop (k + 1)) := by
      rw [hd, List.drop_eq_getElem_cons hks]; rfl
    obtain ⟨b1, b2, b3, b4, b5, q1, q2, q3, q4, q5, q6⟩ := scTake_parts hd2 hs
    rw [h1] at q1; simp only [Prod.mk.injEq] at q1; obtain ⟨rfl, rfl, rfl⟩ := q1
    rw [h2] at q2; simp only [Prod.mk.injEq] at q2; obtain ⟨rfl, rfl, rfl⟩ := q2
    rw [h3] at q3; simp only [Prod.mk.injEq] at q3; obtain ⟨rfl, rfl, rfl⟩ := q3
    rw [h4] at q4; simp only [Prod.mk.injEq] at q4; obtain ⟨rfl, rfl, rfl⟩ := q4
    rw [h5] at q5; simp only [Prod.mk.injEq] at q5; obtain ⟨rfl, rfl, rfl⟩ := q5
    rw [ht] at q6; simp only [Prod.mk.injEq] at q6; obtain ⟨rfl, rfl, rfl⟩ := q6
    refine ⟨rfl, by omega, by omega, hN, ?_, drop_on hd2⟩
    rw [List.take_succ_eq_append_getElem hks, ha]
    congr 2
    generalize sps[k] = s at *
    cases s
    simp only [Sp.mk.injEq] at *
    refine ⟨by omega, by omega, by omega, by omega, by omega, ?_⟩
    simp
  refine ⟨fun hbad hlen => ?_, fun sps hok hp hl => ?_⟩
  · rcases put_get l with ⟨sps, h, hok, hp⟩ | h
    · have hle := putEnc_ge sps
      rw [hp] at hle
      obtain ⟨k1, k2, k3, _⟩ := key sps hok hp (by omega)
      omega
    · exact h
  · obtain ⟨k1, k2, k3, k4, k5, k6⟩ := key sps hok hp hl
    exact ⟨k4, k5, k1, k6⟩
theorem GI_end {l : List UInt8} {N k at_ : Nat} {err : Int} {acc : List Sp} (hg : GI l N k acc at_ err) (hk : ¬ k < N) (hlen : l.length < 9223372036854775808) (hacc : acc.length < 9223372036854775808) :
    (acc.all Sp.ok = true → putEnc acc = l → getAns l = (acc, 0)) ∧ ((acc.all Sp.ok = true → putEnc acc ≠ l) → getAns l = ([], 30)) := by
  refine ⟨fun hok hp => ?_, fun hno => ?_⟩
  · rw [← hp]; exact get_put acc hok hacc
  · rcases put_get l with ⟨sps, h, hok, hp⟩ | h
    · have hle := putEnc_ge sps
      rw [hp] at hle
      obtain ⟨hN, ha, _, _⟩ := hg sps hok hp (by omega)
      rw [List.take_of_length_le (by omega)] at ha
      subst ha
      exact absurd hp (hno hok)
    · exact h
theorem RefAt.fr {S : Nat → Prop} {w w' : World} {g c at_ : Nat} {A : Option Addr} {l : List UInt8} {err : Int} (h : RefAt w g A c l at_ err) (hf : Fr S w w') (hS : ∀ k, S k → g < k) : RefAt w' g A c l at_ err :=
  h.below (B := g + 1) (hf.below h.lt (fun k hk => hS k hk)) (by omega)

set_option maxRecDepth 100000 in
set_option maxHeartbeats 2000000 in
theorem refGet_any (A : Option Addr) (n cap B : Nat) (l : List UInt8) (w : World) (hB : B ≤ w.heap.size) (hbig : n ≤ 4294967296) (hcap : n ≤ cap) (hr : RdB w B A n l) :
    Calls Try.prog 22 #[.slice A n cap] w (ResSE w (getAns l)) := by
  obtain ⟨i0, hi0, hz0, hz1, hz2⟩ := info_parts Try.infoSpan
  have hlen := hr.len
  subst hlen
  have HR := Lib.hid hr
  have HS0l : Hid (l.length ≤ 4294967296) := Lib.hid hbig
  obtain ⟨g, hg⟩ : ∃ g, g = w.heap.size := ⟨_, rfl⟩
  have hs0 : RefAt (w.alloc (.cells #[.slice A l.length cap, .int .i64 (0 : Nat), .int .i64 0] 61)) g A cap l 0 0 :=
    ⟨by rw [hg]; exact heap_alloc_new w _, hcap, Rd.alloc hr _ hB (by omega), by omega, by omega, by omega⟩
  have HS0 := Lib.hid hs0
  have hb0 : Below w.heap.size w (w.alloc (.cells #[.slice A l.length cap, .int .i64 (0 : Nat), .int .i64 0] 61)) := (Below.refl _ _).alloc (Nat.le_refl _) _
  have hbs := hb0.size
  clear hs0 hr
  go_enter Try.func22, Try.ntmps22
  go_wp2_with fail
  rw [← hg]
  have HG := Lib.hid hg
  have hgle : w.heap.size ≤ g := by omega
  clear hg
  refine (refScanNumber_any HS0.out).mono ?_
  rintro e w2 ⟨rfl, hs2, hf2⟩
  have hb2 : Below w.heap.size w w2 := hb0.trans (hf2.below hbs (fun k hk => by omega))
  have hNb := scNum_bound l 0 0
  generalize hq : scNum l 0 0 = q at *
  obtain ⟨N, a2, e2⟩ := q
  dsimp only at hs2 hNb ⊢
  have HGI := Lib.hid (GI_start hq)
  have HS2 := Lib.hid hs2
  clear hs2 hf2 hb0 hbs HS0 hq
  go_wp2_with fail
  go_loopw [6, 7] (fun v i wr => ∃ (k : Nat) (acc : List Sp) (at_ : Nat) (err : Int) (A' : Option Addr) (c : Nat), k ≤ N ∧ i = .int .i64 k ∧ v = .slice A' acc.length c ∧
      wr.ownsRow (g + 1) 23 6 (.slice A' acc.length c) acc.length (acc.flatMap Sp.cells) ∧ RefAt wr g A cap l at_ err ∧ Below w.heap.size w wr ∧ GI l N k acc at_ err ∧ acc.length ≤ at_ ∧ (∀ s ∈ acc, s.nm.size ≤ 32)) (fun _ i _ => N - (intOf i).toNat)
  case atStart => exact ⟨0, [], a2, e2, none, 0, by omega, rfl, rfl, World.ownsRow_nil _ _ _ _, HS2.out, hb2, HGI.out, by simp, by simp⟩
  case round =>
    obtain ⟨k, acc, at_, err, A', c, hk, rfl, rfl, hown, hs, hb, hgi, hacc, hnms⟩ := hrel
    have HI := Lib.hid hgi
    have HO := Lib.hid hown
    have hal := hs.le
    have HS := Lib.hid hs
    have hsz := hb.size
    have hgw := hs.lt
    have HNM := Lib.hid hnms
    clear hgi hown hs hb2 HS2 HGI hnms
    by_cases hlt : k < N
    · have hB0 := heap_alloc_new wr (.cells sp0 23)
      obtain ⟨h, hh⟩ : ∃ h, h = wr.heap.size := ⟨_, rfl⟩
      have HSa := Lib.hid (HS.out.below ((Below.refl wr.heap.size wr).alloc (Nat.le_refl _) (.cells sp0 23)) hgw)
      have hFa : Fr (fun k => k = g) wr (wr.alloc (.cells sp0 23)) := (Fr.refl _ _).alloc _
      rw [← hh] at hB0
      have HB0 := Lib.hid hB0
      have hgh : g < h := by omega
      have HH := Lib.hid hh
      have hhle : wr.heap.size ≤ h := by omega
      clear hB0 hh
      go_wp2_with fail
      rw [← HH.out]
      have HF0 := Lib.hid hFa
      clear hFa
      generalize hu0 : wr.alloc (.cells #[.int .i64 0, .int .i64 0, .int .i64 0, .int .i64 0, .int .i64 0, .string ⟨#[]⟩] 23) = x0 at *
      have HX0 : Hid (RefAt x0 g A cap l at_ err) := Lib.hid (by rw [← hu0]; exact HSa.out)
      have HY0 : Hid (x0.heap[h]? = some (.cells #[.int .i64 0, .int .i64 0, .int .i64 0, .int .i64 0, .int .i64 0, .string ⟨#[]⟩] 23 (0, 0))) := Lib.hid (by rw [← hu0]; exact HB0.out)
      have HZ0 : Hid (Fr (fun k => k = g) wr x0) := Lib.hid (by rw [← hu0]; exact HF0.out)
      have hneg : h ≠ g := by omega
      clear hu0 HF0 HB0 HSa
      refine (refScanNumber_any HX0.out).mono ?_
      rintro e y1 ⟨rfl, hs, hf⟩
      generalize hq : scNum l at_ err = q at hs ⊢
      obtain ⟨n1, a1, e1⟩ := q
      dsimp only at hs ⊢
      have hbn1 := scNum_bound l at_ err
      rw [hq] at hbn1
      have HQ1 := Lib.hid hq
      have hy := fr_keep hf HY0.out hneg
      have hF := HZ0.out.trans hf
      have hcy := blk_cell hy
      have hfy := fun j => blk_frozen hy j
      have HX1 : Hid (RefAt (y1.setCell ⟨h, 0, none⟩ (.int .i64 (n1 : Nat))) g A cap l a1 e1) := Lib.hid (hs.fr ((Fr.refl (fun k => k = h) y1).setCell rfl _) (fun k hk => by omega))
      have HY1 : Hid ((y1.setCell ⟨h, 0, none⟩ (.int .i64 (n1 : Nat))).heap[h]? = some (.cells #[.int .i64 n1, .int .i64 0, .int .i64 0, .int .i64 0, .int .i64 0, .string ⟨#[]⟩] 23 (0, 0))) := Lib.hid (blk_set hy 0 _)
      have HZ1 : Hid (Fr (fun k => k = g) wr (y1.setCell ⟨h, 0, none⟩ (.int .i64 (n1 : Nat)))) := Lib.hid (hF.setNew hhle _)
      clear hq hs hf hy hF HX0 HY0 HZ0
      go_wp2_with fail
      clear hcy hfy
      generalize y1.setCell ⟨h, 0, none⟩ (.int .i64 (n1 : Nat)) = x1 at *
      refine (refScanNumber_any HX1.out).mono ?_
      rintro e y2 ⟨rfl, hs, hf⟩
      generalize hq : scNum l a1 e1 = q at hs ⊢
      obtain ⟨n2, a2, e2⟩ := q
      dsimp only at hs ⊢
      have hbn2 := scNum_bound l a1 e1
      rw [hq] at hbn2
      have HQ2 := Lib.hid hq
      have hy := fr_keep hf HY1.out hneg
      have hF := HZ1.out.trans hf
      have hcy := blk_cell hy
      have hfy := fun j => blk_frozen hy j
      have HX2 : Hid (RefAt (y2.setCell ⟨h, 1, none⟩ (.int .i64 (n2 : Nat))) g A cap l a2 e2) := Lib.hid (hs.fr ((Fr.refl (fun k => k = h) y2).setCell rfl _) (fun k hk => by omega))
      have HY2 : Hid ((y2.setCell ⟨h, 1, none⟩ (.int .i64 (n2 : Nat))).heap[h]? = some (.cells #[.int .i64 n1, .int .i64 n2, .int .i64 0, .int .i64 0, .int .i64 0, .string ⟨#[]⟩] 23 (0, 0))) := Lib.hid (blk_set hy 1 _)
      have HZ2 : Hid (Fr (fun k => k = g) wr (y2.setCell ⟨h, 1, none⟩ (.int .i64 (n2 : Nat)))) := Lib.hid (hF.setNew hhle _)
      clear hq hs hf hy hF HX1 HY1 HZ1
      go_wp2_with fail
      clear hcy hfy
      generalize y2.setCell ⟨h, 1, none⟩ (.int .i64 (n2 : Nat)) = x2 at *
      refine (refScanNumber_any HX2.out).mono ?_
      rintro e y3 ⟨rfl, hs, hf⟩
      generalize hq : scNum l a2 e2 = q at hs ⊢
      obtain ⟨n3, a3, e3⟩ := q
      dsimp only at hs ⊢
      have hbn3 := scNum_bound l a2 e2
      rw [hq] at hbn3
      have HQ3 := Lib.hid hq
      have hy := fr_keep hf HY2.out hneg
      have hF := HZ2.out.trans hf
      have hcy := blk_cell hy
      have hfy := fun j => blk_frozen hy j
      have HX3 : Hid (RefAt (y3.setCell ⟨h, 2, none⟩ (.int .i64 (n3 : Nat))) g A cap l a3 e3) := Lib.hid (hs.fr ((Fr.refl (fun k => k = h) y3).setCell rfl _) (fun k hk => by omega))
      have HY3 : Hid ((y3.setCell ⟨h, 2, none⟩ (.int .i64 (n3 : Nat))).heap[h]? = some (.cells #[.int .i64 n1, .int .i64 n2, .int .i64 n3, .int .i64 0, .int .i64 0, .string ⟨#[]⟩] 23 (0, 0))) := Lib.hid (blk_set hy 2 _)
      have HZ3 : Hid (Fr (fun k => k = g) wr (y3.setCell ⟨h, 2, none⟩ (.int .i64 (n3 : Nat)))) := Lib.hid (hF.setNew hhle _)
      clear hq hs hf hy hF HX2 HY2 HZ2
      go_wp2_with fail
      clear hcy hfy
      generalize y3.setCell ⟨h, 2, none⟩ (.int .i64 (n3 : Nat)) = x3 at *
      refine (refScanNumber_any HX3.out).mono ?_
      rintro e y4 ⟨rfl, hs, hf⟩
      generalize hq : scNum l a3 e3 = q at hs ⊢
      obtain ⟨n4, a4, e4⟩ := q
      dsimp only at hs ⊢
      have hbn4 := scNum_bound l a3 e3
      rw [hq] at hbn4
      have HQ4 := Lib.hid hq
      have hy := fr_keep hf HY3.out hneg
      have hF := HZ3.out.trans hf
      have hcy := blk_cell hy
      have hfy := fun j => blk_frozen hy j
      have HX4 : Hid (RefAt (y4.setCell ⟨h, 3, none⟩ (.int .i64 (n4 : Nat))) g A cap l a4 e4) := Lib.hid (hs.fr ((Fr.refl (fun k => k = h) y4).setCell rfl _) (fun k hk => by omega))
      have HY4 : Hid ((y4.setCell ⟨h, 3, none⟩ (.int .i64 (n4 : Nat))).heap[h]? = some (.cells #[.int .i64 n1, .int .i64 n2, .int .i64 n3, .int .i64 n4, .int .i64 0, .string ⟨#[]⟩] 23 (0, 0))) := Lib.hid (blk_set hy 3 _)
      have HZ4 : Hid (Fr (fun k => k = g) wr (y4.setCell ⟨h, 3, none⟩ (.int .i64 (n4 : Nat)))) := Lib.hid (hF.setNew hhle _)
      clear hq hs hf hy hF HX3 HY3 HZ3
      go_wp2_with fail
      clear hcy hfy
      generalize y4.setCell ⟨h, 3, none⟩ (.int .i64 (n4 : Nat)) = x4 at *
      refine (refScanNumber_any HX4.out).mono ?_
      rintro e y5 ⟨rfl, hs, hf⟩
      generalize hq : scNum l a4 e4 = q at hs ⊢
      obtain ⟨n5, a5, e5⟩ := q
      dsimp only at hs ⊢
      have hbn5 := scNum_bound l a4 e4
      rw [hq] at hbn5
      have HQ5 := Lib.hid hq
      have hy := fr_keep hf HY4.out hneg
      have hF := HZ4.out.trans hf
      have HX5 := Lib.hid hs
      have HY5 := Lib.hid hy
      have HZ5 := Lib.hid hF
      clear hq hs hf hy hF HX4 HY4 HZ4
      go_wp2_with fail
      refine (refScanText_any HX5.out).mono ?_
      rintro e y6 ⟨rfl, hs, hf⟩
      generalize hq : scText 32 l a5 e5 = q at hs ⊢
      obtain ⟨tx, a6, e6⟩ := q
      dsimp only at hs ⊢
      have htl := scText_len 32 l a5 e5
      rw [hq] at htl
      have HQ6 := Lib.hid hq
      have hy := fr_keep hf HY5.out hneg
      have hF := HZ5.out.trans hf
      have HZ6 := Lib.hid hF
      have hcy := blk_cell hy
      have hfy := fun j => blk_frozen hy j
      have hcg := blk_cell hs.sc
      have hll := HS0l.out
      have hGS := GI_step HI.out hlt HQ1.out HQ2.out HQ3.out HQ4.out HQ5.out HQ6.out
      have HGS1 := Lib.hid hGS.1
      have HGS2 := Lib.hid hGS.2
      clear hGS
      have hbelow : Below w.heap.size w y6 := hb.trans (HZ6.out.below hsz (fun k hk => by omega))
      have hwh : w.heap.size ≤ h := by omega
      have HRA := Lib.hid hs
      have HYB := Lib.hid hy
      have he6 : 0 ≤ e6 := hs.err0
      have ha6 := hs.le
      have hat6 : at_ + 1 ≤ a6 ∨ e6 ≠ 0 := by
        by_cases h0 : e6 = 0
        · left
          have t6 := scText_err (most := 32) (l := l) (at_ := a5) (err := e5) (by rw [HQ6.out]; exact h0)
          rw [HQ6.out] at t6
          have t5 := scNum_err t6.1
          have t5' := scNum_err (l := l) (at_ := a4) (err := e4) (by rw [HQ5.out]; exact t5.1)
          rw [HQ5.out] at t5'
          have t4 := scNum_err (l := l) (at_ := a3) (err := e3) (by rw [HQ4.out]; exact t5'.1)
          rw [HQ4.out] at t4
          have t3 := scNum_err (l := l) (at_ := a2) (err := e2) (by rw [HQ3.out]; exact t4.1)
          rw [HQ3.out] at t3
          have t2 := scNum_err (l := l) (at_ := a1) (err := e1) (by rw [HQ2.out]; exact t3.1)
          rw [HQ2.out] at t2
          have t1 := scNum_err (l := l) (at_ := at_) (err := err) (by rw [HQ1.out]; exact t2.1)
          rw [HQ1.out] at t1
          have h1 := t6.2
          have h2 := t5'.2
          have h3 := t4.2
          have h4 := t3.2
          have h5 := t2.2
          have h6 := t1.2
          dsimp only at h1 h2 h3 h4 h5 h6
          omega
        · exact .inr h0
      have HAT := Lib.hid hat6
      clear hq hs hf hy hF HX5 HY5 HZ5 hat6
      by_cases hbad : e6 ≠ 0 ∨ 1099511627776 < n5 ∨ 1099511627776 < n4
      · have HE := Lib.hid (HGS1.out hbad (by omega))
        have hb6 := hbelow.setCell (p := ⟨h, 5, none⟩) hwh (.string ⟨tx.toArray⟩)
        have HB6 := Lib.hid hb6
        clear hb6 hbelow
        by_cases q1 : e6 = 0
        · by_cases q2 : 1099511627776 < n5
          · have q2' : (1099511627776 : Int) < (n5 : Int) := by omega
            clear hbad q2
            subst q1
            go_wp2_with fail
            go_ret2
            rw [HE.out]
            exact ⟨none, 0, rfl, World.ownsRow_nil _ _ _ _, HB6.out⟩
          · have q2' : ¬ (1099511627776 : Int) < (n5 : Int) := by omega
            have q3' : (1099511627776 : Int) < (n4 : Int) := by omega
            clear hbad q2
            subst q1
            go_wp2_with fail
            go_ret2
            rw [HE.out]
            exact ⟨none, 0, rfl, World.ownsRow_nil _ _ _ _, HB6.out⟩
        · have q1' : (e6 != 0) = true := by simpa using q1
          clear hbad q1
          go_wp2_with fail
          go_ret2
          rw [HE.out]
          exact ⟨none, 0, rfl, World.ownsRow_nil _ _ _ _, HB6.out⟩
      · have q1 : e6 = 0 := by omega
        have q2' : ¬ (1099511627776 : Int) < (n5 : Int) := by omega
        have q3' : ¬ (1099511627776 : Int) < (n4 : Int) := by omega
        clear hbad
        subst q1
        have hatt : at_ + 1 ≤ a6 := by rcases HAT.out with h | h; exact h; exact absurd rfl h
        have hacc2 : acc.length + 1 ≤ 4294967297 := by omega
        have HRA7 : Hid (RefAt ((y6.setCell ⟨h, 5, none⟩ (.string ⟨tx.toArray⟩)).setCell ⟨h, 4, none⟩ (.int .i64 ((n4 : Int) + n5))) g A cap l a6 0) := Lib.hid (HRA.out.fr (((Fr.refl (fun k => k = h) y6).setCell rfl _).setCell rfl _) (fun k hk => by omega))
        have HYB7 : Hid (((y6.setCell ⟨h, 5, none⟩ (.string ⟨tx.toArray⟩)).setCell ⟨h, 4, none⟩ (.int .i64 ((n4 : Int) + n5))).heap[h]? = some (.cells #[.int .i64 n1, .int .i64 n2, .int .i64 n3, .int .i64 n4, .int .i64 ((n4 : Int) + n5), .string ⟨tx.toArray⟩] 23 (0, 0))) := Lib.hid (blk_set (blk_set HYB.out 5 _) 4 _)
        have HO7 : Hid (((y6.setCell ⟨h, 5, none⟩ (.string ⟨tx.toArray⟩)).setCell ⟨h, 4, none⟩ (.int .i64 ((n4 : Int) + n5))).ownsRow (g + 1) 23 6 (.slice A' acc.length c) acc.length (acc.flatMap Sp.cells)) := Lib.hid (own_fr HO.out ((HZ6.out.setNew hhle _).setNew hhle _) (fun k hk => by omega))
        have HB7 : Hid (Below w.heap.size w ((y6.setCell ⟨h, 5, none⟩ (.string ⟨tx.toArray⟩)).setCell ⟨h, 4, none⟩ (.int .i64 ((n4 : Int) + n5)))) := Lib.hid ((hbelow.setCell (p := ⟨h, 5, none⟩) hwh _).setCell (p := ⟨h, 4, none⟩) hwh _)
        have hszy : w.heap.size ≤ y6.heap.size := hbelow.size
        have hgy : g < y6.heap.size := HRA.out.lt
        clear hbelow
        obtain ⟨s, hse⟩ : ∃ s : Sp, s = ⟨n1, n2, n3, n4, (n4 : Int) + n5, ⟨tx.toArray⟩⟩ := ⟨_, rfl⟩
        have HSE := Lib.hid hse
        clear hse
        go_wp2_with (at_builtin; refine wpList_app _ rfl (.tmp 59) (.tmp 61) _ rfl (g + 1) 23 i0 _ 6 56 Try.underlying25 hi0 hz0 hz1 hz2 rfl (by omega) _ _ _ _ rfl (HO7.out.alloc _) (y6.heap.size + 1) _ 1 _ s.cells rfl (Rd.new (by simp) rfl (by rw [HSE.out]; intro j hj; simp [Sp.cells] at hj; match j, hj with | 0, _ => rfl | 1, _ => rfl | 2, _ => rfl | 3, _ => rfl | 4, _ => rfl | 5, _ => rfl)) (by have := cells_oneCell [s]; simpa using this) (by unfold maxLen; omega) (by omega) (by simp; omega) ?_; intro A8 c8 w8 hown8 hg8 _)
        have hs8 := HRA7.out.below ((Below.refl _ _).alloc (Nat.le_refl _) (.cells #[.int .i64 n1, .int .i64 n2, .int .i64 n3, .int .i64 n4, .int .i64 ((n4 : Int) + n5), .string ⟨tx.toArray⟩] 23)) HRA7.out.lt
        have hB8 := below_app (Below.refl (g + 1) _) (HO7.out.alloc _) hg8 (by simp; omega)
        have hW8 := below_app (b := w.heap.size) (HB7.out.alloc (by simp; exact hszy) _) (own_le (HO7.out.alloc _) (by omega)) hg8 (by simp; omega)
        have hcl : (acc ++ [s]).flatMap Sp.cells = acc.flatMap Sp.cells ++ s.cells := by simp
        have hln : (acc ++ [s]).length = acc.length + 1 := by simp
        go_roundw
        case rel =>
          refine ⟨k + 1, acc ++ [s], a6, 0, A8, c8, by omega, by go_num, by rw [hln], ?_, hs8.below hB8 (by omega), hW8, by rw [HSE.out]; exact HGS2.out, by rw [hln]; omega, ?_⟩
          · rw [hln, hcl]; exact hown8
          · intro x hx
            rcases List.mem_append.1 hx with hx | hx
            · exact HNM.out x hx
            · simp only [List.mem_cons, List.not_mem_nil, or_false] at hx
              rw [hx, HSE.out]
              simpa [ByteArray.size] using htl
        case measure => simp [intOf]; omega
    · have hll := HS0l.out
      have HGE := Lib.hid (GI_end HI.out hlt (by omega) (by omega))
      have hP : RdS wr wr.heap.size A' acc.length acc := Rd.of_own HO.out
      have HP := Lib.hid hP
      have HRB := Lib.hid (Rd.below' HR.out hb hB (Nat.le_refl _))
      have hB2 : B ≤ wr.heap.size := by omega
      clear hP
      go_wp2_with fail
      refine (refPut_any _ _ _ _ acc _ (Nat.le_refl _) (by omega) (fun s hs => by have := HNM.out s hs; omega) HP.out).mono ?_
      rintro e w3 ⟨A3, c3, rfl, hown3, hb3⟩
      have hb03 : Below w.heap.size w w3 := hb.trans (hb3.mono hsz)
      have hRb := Rd.below' HRB.out hb3 hB2 (Nat.le_refl _)
      cases hok : acc.all Sp.ok
      · rw [putAns_no hok]
        dsimp only
        have HE := Lib.hid (HGE.out.2 (fun h => by rw [hok] at h; cases h))
        clear hown3 hRb hok
        go_wp2_with fail
        go_ret2
        rw [HE.out]
        exact ⟨none, 0, rfl, World.ownsRow_nil _ _ _ _, hb03⟩
      · rw [putAns_ok hok] at hown3 ⊢
        dsimp only at hown3 ⊢
        have hR3 := RdB.of_own hown3
        have HOK := Lib.hid hok
        have HOW := Lib.hid (own_le (base' := w.heap.size) (own_below HO.out hb3) (by omega))
        have HGA := Lib.hid (HGE.out.1 hok)
        have HGB := Lib.hid HGE.out.2
        generalize putEnc acc = E at *
        have q1 := run_conv_bs (P := Try.prog) (w := w3) Try.underlying30 Try.underlying5 Try.underlying9 hR3 c3
        have q2 := run_conv_bs (P := Try.prog) (w := w3) Try.underlying30 Try.underlying5 Try.underlying9 hRb cap
        clear hR3 hRb hown3 hok
        by_cases hEq : E = l
        · have HE := Lib.hid (HGA.out hEq)
          subst hEq
          go_wp2_with fail
          go_ret2
          rw [HE.out]
          exact ⟨A', c, rfl, HOW.out, hb03⟩
        · have HE := Lib.hid (HGB.out (fun _ => hEq))
          have hne : (E == l) = false := by simpa using hEq
          have hne2 : (E != l) = true := by simpa using hEq
          clear hEq
          go_wp2_with fail
          go_ret2
          rw [HE.out]
          exact ⟨none, 0, rfl, World.ownsRow_nil _ _ _ _, hb03⟩
end Go.Proofs.Ytgdhbklgcmcdeaa
