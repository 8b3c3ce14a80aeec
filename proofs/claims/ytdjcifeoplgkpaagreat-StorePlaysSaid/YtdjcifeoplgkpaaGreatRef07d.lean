/-
  The plain law of the reference's Load: it reads what Load reads. No condition.
  The walks of the reference's store's Image and Load. Conditions: the reference's store lies in memory; the bytes are not more than memory bears.
-/
import Derived.Test.YtdjcifeoplgkpaaGreatRef07c
import Derived.Test.YtdjcifeoplgkpaaGreatLoad07
import Derived.Test.YtdjcifeoplgkpaaGreatRefGet
import Derived.Test.YtdjcifeoplgkpaaGreatRefSort
namespace Go.Proofs.YtdjcifeoplgkpaaGreat
open Go Go.RowKit Go.Maps

/-- The bytes, read as the reference does. -/
def rloadL (l : List UInt8) : Nat → List Tr → Nat → Int → List Tr
  | 0, T, _, _ => T
  | n + 1, T, a, err => rloadL l n (ingA T (getAns (scText 262144 l a err).1).1).1 (scText 262144 l a err).2.1 (scText 262144 l a err).2.2
def rloadT (l : List UInt8) : List Tr := rloadL l (min (scNum l 0 0).1 33) [] (scNum l 0 0).2.1 (scNum l 0 0).2.2
def rloadA (l : List UInt8) : Option (List Tr) := if imgT (rloadT l) = l then some (rloadT l) else none
theorem rloadL_enc (l : List UInt8) : ∀ (R D : List Tr) (a : Nat), GrT (D ++ R) → l.drop a = R.flatMap encT → rloadL l R.length (normT D) a 0 = normT (D ++ R) := by
  intro R
  induction R with
  | nil => intro D a _ _; rw [List.append_nil]; rfl
  | cons t R ih =>
    intro D a hg h
    obtain ⟨htg, htn⟩ := hg.ok t (by simp)
    have hok := fits_all htg
    have hlen := putEnc_len hok (by rw [sortS_len]; exact htg.len)
    rw [List.flatMap_cons, encT] at h
    have h1 := scText_encM (most := 262144) h (by omega) (by omega)
    have h2 := get_put (sortS t.L) hok (by rw [sortS_len]; have := htg.len; omega)
    have hlt : ∀ u ∈ normT D, u.tr < t.tr := by
      intro u hu
      obtain ⟨v, hv, rfl⟩ := List.mem_map.1 hu
      have := List.pairwise_append.1 hg.srt
      exact this.2.2 v hv t (by simp)
    have hD : (normT D).length < 32 := by
      have := hg.len
      simp only [normT, List.length_map, List.length_append, List.length_cons] at this ⊢
      omega
    have h3 := ing_new hlt hD htg htn (sortS_perm t.L)
    rw [List.length_cons, rloadL, h1]
    dsimp only
    rw [h2]
    dsimp only
    rw [h3]
    have hn : normT D ++ [⟨t.tr, sortS t.L⟩] = normT (D ++ [t]) := by simp [normT]
    rw [hn]
    have h4 := ih (D ++ [t]) (a + (digits (putEnc (sortS t.L)).length).length + (putEnc (sortS t.L)).length) (by rw [List.append_assoc]; exact hg) (by
      rw [List.append_assoc] at h
      have := drop_on (drop_on h)
      exact this)
    rw [List.append_assoc] at h4
    exact h4
theorem rload_img {T : List Tr} (h : GrT T) : rloadT (imgT T) = normT T := by
  have h0 : (imgT T).drop 0 = digits T.length ++ T.flatMap encT := rfl
  have h1 := scNum_enc h0 (by have := h.len; omega)
  have h2 := rloadL_enc (imgT T) T [] (0 + (digits T.length).length) h (drop_on h0)
  rw [rloadT, h1]
  dsimp only
  rw [Nat.min_eq_left (by have := h.len; omega)]
  exact h2
theorem loadL_gr (l : List UInt8) : ∀ (n : Nat) (T : List Tr) (a : Nat) (err : Int) (r : List Tr × Nat × Int), GrT T → loadL l n T a err = some r → GrT r.1 := by
  intro n
  induction n with
  | zero => intro T a err r hg h; cases h; exact hg
  | succ n ih =>
    intro T a err r hg h
    rw [loadL] at h
    by_cases he : err = 0
    · rw [if_pos he] at h
      split at h
      · exact ih _ _ _ _ (hg.ingA _) h
      · cases h
    · rw [if_neg he] at h; cases h; exact hg
theorem rloadL_gr (l : List UInt8) : ∀ (n : Nat) (T : List Tr) (a : Nat) (err : Int), GrT T → GrT (rloadL l n T a err) := by
  intro n
  induction n with
  | zero => intro T a err hg; exact hg
  | succ n ih => intro T a err hg; exact ih _ _ _ (hg.ingA _)
theorem loadA_gr {l : List UInt8} {T : List Tr} (h : loadA l = some T) : GrT T ∧ imgT T = l := by
  unfold loadA at h
  generalize hr : loadL l (scNum l 0 0).1 [] (scNum l 0 0).2.1 (scNum l 0 0).2.2 = r at h
  cases r with
  | none => cases h
  | some t =>
    have hg := loadL_gr l _ _ _ _ _ GrT.nil hr
    obtain ⟨T2, a, e⟩ := t
    simp only [loadFin] at h
    by_cases hc : scEnd l a e = 0 ∧ imgT T2 = l
    · rw [if_pos hc] at h; cases h; exact ⟨hg, hc.2⟩
    · rw [if_neg hc] at h; cases h
/-- The two read alike. -/
theorem rload_load (l : List UInt8) : rloadA l = loadA l := by
  unfold rloadA
  by_cases hi : imgT (rloadT l) = l
  · rw [if_pos hi]
    have hg : GrT (rloadT l) := rloadL_gr l _ _ _ _ GrT.nil
    have h1 := load_img hg
    have h2 := rload_img hg
    rw [hi] at h1 h2
    rw [h1, ← h2]
  · rw [if_neg hi]
    cases hl : loadA l with
    | none => rfl
    | some T =>
      obtain ⟨hg, he⟩ := loadA_gr hl
      have h2 := rload_img hg
      have h3 := (normT_perm T).img
      rw [he] at h2
      rw [← h2, he] at h3
      exact absurd h3 hi

set_option maxRecDepth 100000 in
set_option maxHeartbeats 2000000 in
theorem rimage_any {w : World} {x : Nat} {T : List Tr} {S : Nat → Prop} (h : RS w x T S) :
    Calls Tryz.prog 42 #[.pointer (some ⟨x, 0, none⟩)] w (ResB w (imgT T)) := by
  obtain ⟨A, c, p, SS, h1, h2, h3, h4, h5, h6⟩ := h.ex
  have hc := blk_cell h1
  have hxl := h.lt x h.sx
  have hT32 := h.gr.len
  have HGR := Lib.hid h.gr
  have HRD := Lib.hid h2
  have HF4 := Lib.hid h4
  have HHP := Lib.hid h1
  clear h h1 h2 h3 h4 h5 h6
  go_enter Tryz.func42, Tryz.ntmps42
  go_wp2_with fail
  refine (refNumber_any none 0 0 0 [] T.length w (Nat.zero_le _) (by omega) (by omega) Rd.nil).mono ?_
  rintro e w1 ⟨A1, c1, rfl, hown1, hb1⟩
  rw [List.nil_append] at hown1 ⊢
  have hz1 := hb1.size
  have HO1 := Lib.hid hown1
  have HB1 := Lib.hid hb1
  have hc1 : ∀ j, w1.cell? ⟨x, j, none⟩ = (#[.slice A T.length c] : Array Value)[j]? := blk_cell ((hb1.block x hxl).trans HHP.out)
  have HD0 : Hid ((digits T.length).length ≤ 9) := Lib.hid ((digits_len (n := T.length) (by omega)).2)
  clear hown1 hb1 hc
  go_wp2_with fail
  go_loopw [3, 19] (fun v i wr => ∃ (k : Nat) (A5 : Option Addr) (c5 : Nat) (acc : List UInt8), k ≤ T.length ∧ i = .int .i64 k ∧ acc = digits T.length ++ (T.take k).flatMap encT ∧ v = .slice A5 acc.length c5 ∧ wr.ownsRow w.heap.size 5 1 (.slice A5 acc.length c5) acc.length (acc.map u8v) ∧ Below w.heap.size w wr) (fun _ i _ => T.length - (intOf i).toNat)
  case atStart => exact ⟨0, A1, c1, _, by omega, rfl, by simp, rfl, HO1.out, HB1.out⟩
  case round =>
    obtain ⟨k, A5, c5, acc, hk, rfl, hacc, rfl, hown, hb⟩ := hrel
    have HOWN := Lib.hid hown
    have HB := Lib.hid hb
    have HACC := Lib.hid hacc
    have hzr := hb.size
    have hacl : acc.length ≤ 200000 := by
      rw [hacc]
      have h1 := encTs_len (T := T.take k) (fun t ht => (HGR.out.ok t (List.mem_of_mem_take ht)).1)
      have h2 := HD0.out
      rw [List.length_take] at h1
      rw [List.length_append]
      omega
    clear hown hb hacc
    by_cases hlt : k < T.length
    · have hk1 : (k : Int) < (T.length : Int) := by omega
      obtain ⟨b1, o1, rfl, hb1, x0⟩ := RdPt.at_ (Rd.below' HRD.out HB.out (Nat.le_refl _) (Nat.le_refl _)) hlt
      have hmem : T[k] ∈ T := List.getElem_mem hlt
      have HTK : Hid ((T.take (k + 1)).flatMap encT = (T.take k).flatMap encT ++ encT T[k]) := Lib.hid (by rw [List.take_succ_eq_append_getElem hlt, List.flatMap_append]; simp)
      obtain ⟨Ar, cr, hrf, _⟩ := ((HF4.out _ hmem).below HB.out (Nat.le_refl _)).ex
      have hcf := blk_cell hrf.hp
      have HRD2 := Lib.hid hrf.rd
      have hgr := HGR.out.ok _ hmem
      have HOK := Lib.hid (fits_all hgr.1)
      have HEL := Lib.hid (putEnc_len (fits_all hgr.1) (by rw [sortS_len]; exact hgr.1.len))
      have hl64 := hgr.1.len
      have hsl : (sortS T[k].L).length ≤ 64 := by rw [sortS_len]; exact hl64
      clear hrf hgr hmem
      generalize T[k] = t at *
      go_wp2_with fail
      refine (refSort_any Ar t.L.length cr wr.heap.size t.L wr (Nat.le_refl _) (by omega) HRD2.out).mono ?_
      rintro e w3 ⟨A3, c3, rfl, hown3, hb3⟩
      have hz3 := hb3.size
      have HO3 := Lib.hid hown3
      have HB3 := Lib.hid hb3
      clear hown3 hb3 hcf
      go_wp2_with fail
      refine (refPut_any A3 _ c3 w3.heap.size (sortS t.L) w3 (Nat.le_refl _) (by omega) (fun x hx => by
        have := ok_bounds (List.all_eq_true.1 HOK.out x hx); omega) (Rd.of_own HO3.out)).mono ?_
      rintro e w4 ⟨A4, c4, rfl, hown4, hb4⟩
      rw [putAns_ok HOK.out] at hown4 ⊢
      have hz4 := hb4.size
      dsimp only at hown4 ⊢
      have HENC : Hid (encT t = digits (putEnc (sortS t.L)).length ++ putEnc (sortS t.L)) := Lib.hid rfl
      have hel := HEL.out
      generalize putEnc (sortS t.L) = pe at *
      have hcv4 := run_conv_bs (P := Tryz.prog) (w := w4) Tryz.underlying47 Tryz.underlying5 Tryz.underlying9 (RdB.of_own hown4) c4
      have HO4b : Hid (w4.ownsRow w.heap.size 5 1 (.slice A5 acc.length c5) acc.length (acc.map u8v)) := Lib.hid (own_below (own_below HOWN.out HB3.out) hb4)
      have HB4 : Hid (Below w.heap.size w w4) := Lib.hid ((HB.out.trans (HB3.out.mono hzr)).trans (hb4.mono (by omega)))
      clear hown4 hb4
      go_wp2_with fail
      refine (refText_any A5 acc.length c5 w4.heap.size acc ⟨pe.toArray⟩ w4 (Nat.le_refl _) (by omega) (by show pe.toArray.size ≤ _; simp; omega) (Rd.of_own HO4b.out)).mono ?_
      rintro e w5 ⟨A6, c6, rfl, hown6, hb6⟩
      have hsz : (⟨pe.toArray⟩ : ByteArray).size = pe.length := by show pe.toArray.size = _; simp
      have hdt : (⟨pe.toArray⟩ : ByteArray).data.toList = pe := by simp
      have hnew : acc ++ digits (⟨pe.toArray⟩ : ByteArray).size ++ (⟨pe.toArray⟩ : ByteArray).data.toList = digits T.length ++ (T.take (k + 1)).flatMap encT := by
        rw [hsz, hdt, HTK.out, HENC.out, HACC.out]; simp
      have HNEW := Lib.hid hnew
      have HO6 := Lib.hid (own_le hown6 (base' := w.heap.size) (by omega))
      have HB6 : Hid (Below w.heap.size w w5) := Lib.hid (HB4.out.trans (hb6.mono (by omega)))
      clear hown6 hb6 hsz hdt hnew
      generalize acc ++ digits (⟨pe.toArray⟩ : ByteArray).size ++ (⟨pe.toArray⟩ : ByteArray).data.toList = acc2 at *
      go_wp2_with fail
      go_roundw
      case rel => exact ⟨k + 1, A6, c6, acc2, by omega, by go_num, HNEW.out, rfl, HO6.out, HB6.out⟩
      case measure => simp [intOf]; omega
    · have hk1 : ¬ (k : Int) < (T.length : Int) := by omega
      have he : acc = imgT T := by
        rw [HACC.out, List.take_of_length_le (by omega)]; rfl
      subst he
      go_wp2_with fail
      go_ret
      exact ⟨A5, c5, rfl, HOWN.out, HB.out⟩

/-- What the reference's Load leaves. -/
def ResRLoad (w : World) (r : Option (List Tr)) (e : Ending) (w' : World) : Prop :=
  Below w.heap.size w w' ∧ match r with
  | none => e = .returned (.tuple #[.pointer none, .int .i64 70])
  | some T => ∃ x, e = .returned (.tuple #[.pointer (some ⟨x, 0, none⟩), .int .i64 0]) ∧ RS w' x T (fun k => w.heap.size ≤ k ∧ k < w'.heap.size)
theorem RS.new (w : World) : RS (w.alloc (.cells #[.slice none 0 0] 30)) w.heap.size [] (fun k => w.heap.size ≤ k ∧ k < (w.alloc (.cells #[.slice none 0 0] 30)).heap.size) :=
  ⟨⟨none, 0, fun _ => 0, fun _ _ => False, heap_alloc_new w _, Rd.nil, by simp, by simp, by simp, by simp⟩, ⟨Nat.le_refl _, by simp⟩, GrT.nil, fun k hk => hk.2⟩

set_option maxRecDepth 100000 in
set_option maxHeartbeats 4000000 in
theorem rload_any (A : Option Addr) (n cap B : Nat) (l : List UInt8) (w : World) (hB : B ≤ w.heap.size) (hbig : n ≤ 4294967296) (hcap : n ≤ cap) (hr : RdB w B A n l) :
    Calls Tryz.prog 18 #[.slice A n cap] w (ResRLoad w (rloadA l)) := by
  have hlen := hr.len
  subst hlen
  have HR := Lib.hid hr
  have HCV : Hid (∀ W, Below w.heap.size w W → (convert 47 9 (.slice A l.length cap)).run Tryz.prog W = .ok (.string ⟨l.toArray⟩) W) := Lib.hid (fun W hW => run_conv_bs Tryz.underlying47 Tryz.underlying5 Tryz.underlying9 (Rd.below' hr hW hB (Nat.le_refl _)) cap)
  have HG : Hid (rloadT l = rloadL l (min (scNum l 0 0).1 33) [] (scNum l 0 0).2.1 (scNum l 0 0).2.2) := Lib.hid rfl
  have HRA : Hid (rloadA l = if imgT (rloadT l) = l then some (rloadT l) else none) := Lib.hid rfl
  obtain ⟨g, hgE⟩ : ∃ g, g = w.heap.size := ⟨_, rfl⟩
  have hs0 : RefAt (w.alloc (.cells #[.slice A l.length cap, .int .i64 (0 : Nat), .int .i64 0] 88)) g A cap l 0 0 :=
    ⟨by rw [hgE]; exact heap_alloc_new w _, hcap, Rd.alloc hr _ hB (by omega), by omega, by omega, by omega⟩
  have HS0 := Lib.hid hs0
  have hb0 : Below w.heap.size w (w.alloc (.cells #[.slice A l.length cap, .int .i64 (0 : Nat), .int .i64 0] 88)) := (Below.refl _ _).alloc (Nat.le_refl _) _
  have HB0 := Lib.hid hb0
  clear hs0 hr hb0
  go_enter Tryz.func18, Tryz.ntmps18
  go_wp2_with fail
  rw [← hgE]
  have HGE := Lib.hid hgE
  have hgle : w.heap.size ≤ g := by omega
  have hgle2 : g ≤ w.heap.size := by omega
  clear hgE
  refine (refScanNumber_any HS0.out).mono ?_
  rintro e w2 ⟨rfl, hs2, hf2⟩
  have hz2 := hf2.size
  simp at hz2
  have HB2 : Hid (Below w.heap.size w w2) := Lib.hid (HB0.out.trans (hf2.below (by simp) (fun k hk => by omega)))
  have hNb := scNum_bound l 0 0
  generalize scNum l 0 0 = q at *
  obtain ⟨N, a2, e2⟩ := q
  dsimp only at hs2 HG hNb ⊢
  have HS2 := Lib.hid hs2
  clear hs2 hf2 HS0
  have HBR : Hid (Below w2.heap.size w2 (w2.alloc (.cells #[.slice none 0 0] 30))) := Lib.hid ((Below.refl _ _).alloc (Nat.le_refl _) _)
  have HST3 := Lib.hid (RS.new w2)
  have HS3 := Lib.hid (HS2.out.below HBR.out (by omega))
  have HB3 : Hid (Below w.heap.size w (w2.alloc (.cells #[.slice none 0 0] 30))) := Lib.hid (HB2.out.trans (HBR.out.mono (by omega)))
  have hz3 : w2.heap.size + 1 ≤ (w2.alloc (.cells #[.slice none 0 0] 30)).heap.size := by simp
  go_wp2_with fail
  generalize w2.alloc (.cells #[.slice none 0 0] 30) = w3 at *
  go_loopw [7] (fun i wr => ∃ (k : Nat) (T : List Tr) (a : Nat) (err : Int), k ≤ N ∧ k ≤ 33 ∧ i = .int .i64 k ∧ RS wr w2.heap.size T (fun j => w2.heap.size ≤ j ∧ j < wr.heap.size) ∧ RefAt wr g A cap l a err ∧ Below w.heap.size w wr ∧ w3.heap.size ≤ wr.heap.size ∧ rloadL l (min N 33) [] a2 e2 = rloadL l (min N 33 - k) T a err) (fun i _ => N - (intOf i).toNat)
  case atStart => exact ⟨0, [], a2, e2, by omega, by omega, rfl, HST3.out, HS3.out, HB3.out, Nat.le_refl _, rfl⟩
  case round =>
    obtain ⟨k, T, a, err, hk, hk33, rfl, hst, hs, hb, h3r, hg⟩ := hrel
    have HST := Lib.hid hst
    have HS := Lib.hid hs
    have HB := Lib.hid hb
    have HG2 := Lib.hid hg
    have hsz := hb.size
    clear hst hs hb hg
    by_cases hgo : k < N ∧ k ≤ 32
    · obtain ⟨hlt, h32⟩ := hgo
      obtain ⟨r, hm⟩ : ∃ r, min N 33 - k = r + 1 := ⟨min N 33 - k - 1, by omega⟩
      have hmk : min N 33 - (k + 1) = r := by omega
      have hk1 : (k : Int) < (N : Int) := by omega
      have hk2 : (k : Int) ≤ 32 := by omega
      have hstep : rloadL l (min N 33 - k) T a err = rloadL l r (ingA T (getAns (scText 262144 l a err).1).1).1 (scText 262144 l a err).2.1 (scText 262144 l a err).2.2 := by rw [hm, rloadL]
      have htl := scText_len 262144 l a err
      have HMK := Lib.hid hmk
      clear hm hmk
      go_wp2_with fail
      refine (refScanTextM_any 262144 (by omega) HS.out).mono ?_
      rintro e v1 ⟨rfl, hs1, hf1⟩
      generalize scText 262144 l a err = tq at *
      obtain ⟨tx, a3, e3⟩ := tq
      dsimp only at hs1 hstep htl ⊢
      have hzv1 := hf1.size
      have HST1 := Lib.hid (HST.out.fr hf1 (fun j hj hs => by
        have h1 : w2.heap.size ≤ j ∧ j < wr.heap.size := hj
        have h2 : j = g := hs
        omega))
      have HSC1 := Lib.hid hs1
      have HBV1 : Hid (Below w.heap.size w v1) := Lib.hid (HB.out.trans (hf1.below hsz (fun j hj => by have h2 : j = g := hj; omega)))
      have HSTEP := Lib.hid hstep
      clear hs1 hf1 hstep
      go_wp2_with fail
      refine upon_conv_sb Tryz.underlying9 Tryz.underlying47 Tryz.underlying5 ?_
      intro cap2 v2 hcp2 hb2 hzv2 hr2
      have htsz : (⟨tx.toArray⟩ : ByteArray).size = tx.length := by show tx.toArray.size = _; simp
      have HR2 : Hid (RdB v2 (v1.heap.size + 1) (some ⟨v1.heap.size, 0, none⟩) tx.length tx) := Lib.hid (by
        have h := hr2
        rw [htsz] at h
        have e : Lib.strCells ⟨tx.toArray⟩ = tx.map u8v := by simp [Lib.strCells, u8v]
        rw [e] at h
        exact h)
      rw [htsz] at hcp2 ⊢
      have HST2 := Lib.hid (HST1.out.below hb2 (Nat.le_refl _))
      have HSC2 := Lib.hid (HSC1.out.below hb2 (by omega))
      have HBV2 : Hid (Below w.heap.size w v2) := Lib.hid (HBV1.out.trans (hb2.mono HBV1.out.size))
      clear hb2 hr2 htsz
      go_wp2_with fail
      refine (refGet_any _ _ _ _ tx _ (by omega) (by omega) hcp2 HR2.out).mono ?_
      rintro e v3 ⟨A3, c3, rfl, hown3, hb3⟩
      have hzv3 := hb3.size
      have hgl := getAns_len tx
      have HOK := Lib.hid (getAns_ok tx)
      generalize getAns tx = ga at *
      obtain ⟨sp, e4⟩ := ga
      dsimp only at hown3 hgl HOK HSTEP ⊢
      have HR3 : Hid (RdS v3 v3.heap.size A3 sp.length sp) := Lib.hid (Rd.of_own hown3)
      have HBL3 : Hid (∀ j, A3.map (·.block) = some j → v2.heap.size ≤ j) := Lib.hid (fun j hj => (hown3.lt j (by rw [← hj]; cases A3 <;> rfl)).1)
      have HST3 := Lib.hid (HST2.out.below hb3 (Nat.le_refl _))
      have HSC3 := Lib.hid (HSC2.out.below hb3 (by omega))
      have HBV3 : Hid (Below w.heap.size w v3) := Lib.hid (HBV2.out.trans (hb3.mono HBV2.out.size))
      clear hown3 hb3
      have HING := Lib.hid (ringest_any HST3.out A3 sp.length c3 v3.heap.size sp (Nat.le_refl _) (by omega) (fun x hx => by have := ok_bounds (HOK.out x hx); omega) HR3.out (fun _ j hj hs => by
        have h1 := HBL3.out j hj
        have h2 : w2.heap.size ≤ j ∧ j < wr.heap.size := hs
        omega))
      go_wp2_with fail
      refine HING.out.mono ?_
      rintro e v5 ⟨rfl, hst5, hfr5⟩
      have hz5 := hfr5.size
      have HST5 := Lib.hid (hst5.mono (S2 := fun j => w2.heap.size ≤ j ∧ j < v5.heap.size) (fun j hj => by
        have h1 : (w2.heap.size ≤ j ∧ j < wr.heap.size) ∨ (v3.heap.size ≤ j ∧ j < v5.heap.size) := hj
        show w2.heap.size ≤ j ∧ j < v5.heap.size
        omega) (fun j hj => hj.2))
      have HSC5 := Lib.hid (HSC3.out.fr hfr5 (fun j hj => by
        have h2 : w2.heap.size ≤ j ∧ j < wr.heap.size := hj
        omega))
      have HB5 : Hid (Below w.heap.size w v5) := Lib.hid (HBV3.out.trans (hfr5.below HBV3.out.size (fun j hj => by
        have h2 : w2.heap.size ≤ j ∧ j < wr.heap.size := hj
        omega)))
      clear hst5 hfr5
      go_wp2_with fail
      go_roundw
      case rel => exact ⟨k + 1, _, a3, e3, by omega, by omega, by go_num, HST5.out, HSC5.out, HB5.out, by omega, by rw [HG2.out, HSTEP.out, HMK.out]⟩
      case measure => simp [intOf]; omega
    · have hk0 : min N 33 - k = 0 := by omega
      have HF : Hid (rloadT l = T) := Lib.hid (by rw [HG.out, HG2.out, hk0]; rfl)
      clear hk0
      have HI0 := Lib.hid (HB.out.drew)
      by_cases hlt : k < N
      · have hk1 : (k : Int) < (N : Int) := by omega
        have hk2 : ¬ (k : Int) ≤ 32 := by omega
        go_wp2_with fail
        refine wp_region_sched [(0, true), (3, true), (4, true), (1, false), (2, false), (5, true)] (fun W => Below w.heap.size w W) (by kernel_rfl) (by kernel_rfl) rfl (by kernel_rfl) HI0.out ?_
        repeat (first | (apply sched_take rfl; (focus (first | rfl | (go_simp; done))); (focus (intro W hW; have f1 := HCV.out W hW; go_simp; rfl)); (focus (intro K hK; go_simp; refine hK _ ?_; clear hK K))) | (apply sched_skip rfl; (focus (first | rfl | (go_simp; done))); (focus (intro K hK; go_simp; refine hK _ ?_; clear hK K))))
        apply sched_op rfl
        intro K hK
        go_simp
        go_wp2_with (fail)
        have himl := imgT_len HST.out.gr
        refine (rimage_any (HST.out.drewN 1)).mono ?_
        rintro e v2 ⟨A4, c4, rfl, hown4, hb4⟩
        have hk2' : Below w.heap.size w v2 := HI0.out.trans (hb4.mono (by simpa [World.drew] using hsz))
        have hst2 := (HST.out.drewN 1).below hb4 (Nat.le_refl _)
        have hz4 := hb4.size
        have hz2' : wr.heap.size ≤ v2.heap.size := by simpa [World.drew] using hz4
        have hcv4 := run_conv_bs (P := Tryz.prog) (w := v2) Tryz.underlying47 Tryz.underlying5 Tryz.underlying9 (RdB.of_own hown4) c4
        clear hown4 hb4
        have HIMG : Hid (∃ im, im = imgT T) := Lib.hid ⟨_, rfl⟩
        generalize him : imgT T = im at *
        have HIM := Lib.hid him
        clear him
        go_wp2_with fail
        refine ⟨by exact hk2', ?_⟩
        repeat (first | (apply sched_take rfl; (focus (first | rfl | (go_simp; done))); (focus (intro W hW; have f1 := HCV.out W hW; go_simp; rfl)); (focus (intro K hK; go_simp; refine hK _ ?_; clear hK K))) | (apply sched_skip rfl; (focus (first | rfl | (go_simp; done))); (focus (intro K hK; go_simp; refine hK _ ?_; clear hK K))))
        apply sched_op rfl
        intro K hK
        go_simp
        go_wp2_with (fail)
        refine ⟨by exact hk2', ?_⟩
        clear hcv4
        by_cases hEq : im = l
        · have HT : Hid (rloadA l = some T) := Lib.hid (by rw [HRA.out, HF.out, HIM.out, if_pos hEq])
          subst hEq
          repeat (first | (apply sched_take rfl; (focus (first | rfl | (go_simp; done))); (focus (intro W hW; have f1 := HCV.out W hW; go_simp; rfl)); (focus (intro K hK; go_simp; refine hK _ ?_; clear hK K))) | (apply sched_skip rfl; (focus (first | rfl | (go_simp; done))); (focus (intro K hK; go_simp; refine hK _ ?_; clear hK K))))
          refine sched_nil ?_
          go_wp2_with fail
          go_ret2
          rw [HT.out]
          exact ⟨hk2', _, rfl, hst2.mono (fun j hj => ⟨by have := hj.1; omega, by have := hj.2; omega⟩) (fun j hj => hj.2)⟩
        · have HT : Hid (rloadA l = none) := Lib.hid (by rw [HRA.out, HF.out, HIM.out, if_neg hEq])
          have hne : (im == l) = false := by simpa using hEq
          have hne2 : (im != l) = true := by simpa using hEq
          clear hEq
          repeat (first | (apply sched_take rfl; (focus (first | rfl | (go_simp; done))); (focus (intro W hW; have f1 := HCV.out W hW; go_simp; rfl)); (focus (intro K hK; go_simp; refine hK _ ?_; clear hK K))) | (apply sched_skip rfl; (focus (first | rfl | (go_simp; done))); (focus (intro K hK; go_simp; refine hK _ ?_; clear hK K))))
          refine sched_nil ?_
          go_wp2_with fail
          go_ret2
          rw [HT.out]
          exact ⟨hk2', rfl⟩
      · have hk1 : ¬ (k : Int) < (N : Int) := by omega
        go_wp2_with fail
        refine wp_region_sched [(0, true), (3, true), (4, true), (1, false), (2, false), (5, true)] (fun W => Below w.heap.size w W) (by kernel_rfl) (by kernel_rfl) rfl (by kernel_rfl) HI0.out ?_
        repeat (first | (apply sched_take rfl; (focus (first | rfl | (go_simp; done))); (focus (intro W hW; have f1 := HCV.out W hW; go_simp; rfl)); (focus (intro K hK; go_simp; refine hK _ ?_; clear hK K))) | (apply sched_skip rfl; (focus (first | rfl | (go_simp; done))); (focus (intro K hK; go_simp; refine hK _ ?_; clear hK K))))
        apply sched_op rfl
        intro K hK
        go_simp
        go_wp2_with (fail)
        have himl := imgT_len HST.out.gr
        refine (rimage_any (HST.out.drewN 1)).mono ?_
        rintro e v2 ⟨A4, c4, rfl, hown4, hb4⟩
        have hk2' : Below w.heap.size w v2 := HI0.out.trans (hb4.mono (by simpa [World.drew] using hsz))
        have hst2 := (HST.out.drewN 1).below hb4 (Nat.le_refl _)
        have hz4 := hb4.size
        have hz2' : wr.heap.size ≤ v2.heap.size := by simpa [World.drew] using hz4
        have hcv4 := run_conv_bs (P := Tryz.prog) (w := v2) Tryz.underlying47 Tryz.underlying5 Tryz.underlying9 (RdB.of_own hown4) c4
        clear hown4 hb4
        have HIMG : Hid (∃ im, im = imgT T) := Lib.hid ⟨_, rfl⟩
        generalize him : imgT T = im at *
        have HIM := Lib.hid him
        clear him
        go_wp2_with fail
        refine ⟨by exact hk2', ?_⟩
        repeat (first | (apply sched_take rfl; (focus (first | rfl | (go_simp; done))); (focus (intro W hW; have f1 := HCV.out W hW; go_simp; rfl)); (focus (intro K hK; go_simp; refine hK _ ?_; clear hK K))) | (apply sched_skip rfl; (focus (first | rfl | (go_simp; done))); (focus (intro K hK; go_simp; refine hK _ ?_; clear hK K))))
        apply sched_op rfl
        intro K hK
        go_simp
        go_wp2_with (fail)
        refine ⟨by exact hk2', ?_⟩
        clear hcv4
        by_cases hEq : im = l
        · have HT : Hid (rloadA l = some T) := Lib.hid (by rw [HRA.out, HF.out, HIM.out, if_pos hEq])
          subst hEq
          repeat (first | (apply sched_take rfl; (focus (first | rfl | (go_simp; done))); (focus (intro W hW; have f1 := HCV.out W hW; go_simp; rfl)); (focus (intro K hK; go_simp; refine hK _ ?_; clear hK K))) | (apply sched_skip rfl; (focus (first | rfl | (go_simp; done))); (focus (intro K hK; go_simp; refine hK _ ?_; clear hK K))))
          refine sched_nil ?_
          go_wp2_with fail
          go_ret2
          rw [HT.out]
          exact ⟨hk2', _, rfl, hst2.mono (fun j hj => ⟨by have := hj.1; omega, by have := hj.2; omega⟩) (fun j hj => hj.2)⟩
        · have HT : Hid (rloadA l = none) := Lib.hid (by rw [HRA.out, HF.out, HIM.out, if_neg hEq])
          have hne : (im == l) = false := by simpa using hEq
          have hne2 : (im != l) = true := by simpa using hEq
          clear hEq
          repeat (first | (apply sched_take rfl; (focus (first | rfl | (go_simp; done))); (focus (intro W hW; have f1 := HCV.out W hW; go_simp; rfl)); (focus (intro K hK; go_simp; refine hK _ ?_; clear hK K))) | (apply sched_skip rfl; (focus (first | rfl | (go_simp; done))); (focus (intro K hK; go_simp; refine hK _ ?_; clear hK K))))
          refine sched_nil ?_
          go_wp2_with fail
          go_ret2
          rw [HT.out]
          exact ⟨hk2', rfl⟩
end Go.Proofs.YtdjcifeoplgkpaaGreat
