/-
  The walk of machine.Get: the command that bytes are. Condition: the bytes are not more than memory bears.
-/
import Derived.Test.YtempkjnaahgbhaaGreatDoorMachB
import Derived.Test.YtempkjnaahgbhaaGreatDoorLoad07
namespace Go.Proofs.YtempkjnaahgbhaaGreatDoor
open Go Go.RowKit

/-- Numbers read one by one, up to the first error. -/
def votL (l : List UInt8) : Nat → List Int → Nat → Int → List Int × Nat × Int
  | 0, acc, at_, err => (acc, at_, err)
  | n + 1, acc, at_, err => if err = 0 then votL l n (acc ++ [((scNum l at_ err).1 : Int)]) (scNum l at_ err).2.1 (scNum l at_ err).2.2 else (acc, at_, err)
/-- A command read off bytes, whether it may be or not. -/
def cmRd2 (l : List UInt8) (at_ : Nat) (err : Int) : Cm × Nat × Int :=
  let a := scNum l at_ err
  let b := scNum l a.2.1 a.2.2
  let t := scText 4096 l b.2.1 b.2.2
  (⟨2, a.1, b.1, 0, (getAns t.1).1, []⟩, t.2.1, t.2.2)
def cmRead (l : List UInt8) : Cm × Nat × Int :=
  let q := scNum l 0 0
  if q.1 = 2 then cmRd2 l q.2.1 q.2.2
  else if q.1 = 3 then (⟨3, 0, 0, (scNum l q.2.1 q.2.2).1, [], []⟩, (scNum l q.2.1 q.2.2).2.1, (scNum l q.2.1 q.2.2).2.2)
  else if q.1 = 4 then (⟨4, 0, 0, (scNum l q.2.1 q.2.2).1, [], []⟩, (scNum l q.2.1 q.2.2).2.1, (scNum l q.2.1 q.2.2).2.2)
  else if q.1 = 5 then (⟨5, 0, 0, 0, [], (votL l (scNum l q.2.1 q.2.2).1 [] (scNum l q.2.1 q.2.2).2.1 (scNum l q.2.1 q.2.2).2.2).1⟩, (votL l (scNum l q.2.1 q.2.2).1 [] (scNum l q.2.1 q.2.2).2.1 (scNum l q.2.1 q.2.2).2.2).2)
  else (⟨q.1, 0, 0, 0, [], []⟩, q.2.1, q.2.2)
def cmFin (l : List UInt8) (r : Cm × Nat × Int) : Option Cm := if scEnd l r.2.1 r.2.2 = 0 ∧ r.1.ok = true then some r.1 else none
/-- The command that bytes are. -/
def cmGet (l : List UInt8) : Option Cm := cmFin l (cmRead l)

/-- What Get leaves. -/
def ResCm (w : World) (r : Option Cm) (e : Ending) (w' : World) : Prop :=
  ∃ v : CmV, e = .returned (.tuple #[v.val, .int .i64 (if r.isSome = true then 0 else 90)]) ∧ v.c = r.getD Cm.zero ∧ w'.ownsRow w.heap.size 30 6 (.slice v.As v.ns v.cs) v.ns (v.c.sp.flatMap Sp.cells) ∧
    w'.ownsRow w.heap.size 3 1 (.slice v.Av v.nv v.cv) v.nv (v.c.vo.map (Value.int .i64)) ∧ Below w.heap.size w w'

/-- Get under way: what it hands back in block rb, the command in block cb. -/
structure GIn (w wr : World) (rb cb sb pb : Nat) (A1 : Option Addr) (c1 : Nat) (l : List UInt8) (cells : Array Value) (at_ : Nat) (err : Int) : Prop where
  hr : wr.heap[rb]? = some (.cells #[.int .i64 0, .int .i64 0, .int .i64 0, .int .i64 0, .slice none 0 0, .slice none 0 0] 25 (0, 0))
  hc : wr.heap[cb]? = some (.cells cells 25 (0, 0))
  sc : ScanAt wr sb pb A1 c1 l at_ err
  b : Below w.heap.size w wr
  o1 : w.heap.size ≤ rb
  o2 : rb < pb
  o3 : sb < cb
section
variable {w wr w2 : World} {rb cb sb pb c1 at_ at2 : Nat} {A1 : Option Addr} {l : List UInt8} {cells : Array Value} {err err2 : Int}
theorem GIn.cbl (h : GIn w wr rb cb sb pb A1 c1 l cells at_ err) : cb < wr.heap.size := (Array.getElem?_eq_some_iff.1 h.hc).1
theorem GIn.scan (h : GIn w wr rb cb sb pb A1 c1 l cells at_ err) (hf : Fr (SP sb pb) wr w2) (hs : ScanAt w2 sb pb A1 c1 l at2 err2) : GIn w w2 rb cb sb pb A1 c1 l cells at2 err2 := by
  have h1 := h.cbl
  have h2 := h.o1
  have h3 := h.o2
  have h4 := h.o3
  have h5 := h.sc.lt
  have h6 := h.b.size
  exact ⟨(hf.block rb (by omega) (fun hk => by rcases hk with rfl | rfl <;> omega)).trans h.hr, (hf.block cb h1 (fun hk => by rcases hk with rfl | rfl <;> omega)).trans h.hc, hs, h.b.trans (hf.below h6 (fun k hk => by rcases hk with rfl | rfl <;> omega)), h.o1, h.o2, h.o3⟩
theorem GIn.below {B : Nat} (h : GIn w wr rb cb sb pb A1 c1 l cells at_ err) (hb : Below B wr w2) (hB : cb < B) : GIn w w2 rb cb sb pb A1 c1 l cells at_ err := by
  have h2 := h.o1
  have h3 := h.o2
  have h4 := h.o3
  have h5 := h.sc.lt
  exact ⟨(hb.block rb (by omega)).trans h.hr, (hb.block cb hB).trans h.hc, h.sc.below hb (by omega), h.b.trans (hb.mono (by omega)), h.o1, h.o2, h.o3⟩
theorem GIn.set (h : GIn w wr rb cb sb pb A1 c1 l cells at_ err) (j : Nat) (u : Value) : GIn w (wr.setCell ⟨cb, j, none⟩ u) rb cb sb pb A1 c1 l (cells.setIfInBounds j u) at_ err := by
  have h1 := h.cbl
  have h2 := h.o1
  have h3 := h.o2
  have h4 := h.o3
  have h5 := h.sc.lt
  exact ⟨(Below.heap_setCell _ _ _ _ (by simp only; omega)).trans h.hr, blk_set h.hc j u, h.sc.fr ((Fr.refl (fun k => k = cb) wr).setCell rfl u) (fun k hk => by rw [hk]; exact h4), h.b.setCell (by simp only; omega) u, h.o1, h.o2, h.o3⟩
end
theorem fr_six (w : World) (b : Nat) (u0 u1 u2 u3 u4 u5 : Value) : Fr (fun k => k = b) w ((((((w.setCell ⟨b, 0, none⟩ u0).setCell ⟨b, 1, none⟩ u1).setCell ⟨b, 2, none⟩ u2).setCell ⟨b, 3, none⟩ u3).setCell ⟨b, 4, none⟩ u4).setCell ⟨b, 5, none⟩ u5) :=
  (((((((Fr.refl (fun k => k = b) w).setCell (p := ⟨b, 0, none⟩) rfl u0).setCell (p := ⟨b, 1, none⟩) rfl u1).setCell (p := ⟨b, 2, none⟩) rfl u2).setCell (p := ⟨b, 3, none⟩) rfl u3).setCell (p := ⟨b, 4, none⟩) rfl u4).setCell (p := ⟨b, 5, none⟩) rfl u5)
set_option maxRecDepth 100000 in
set_option maxHeartbeats 8000000 in
theorem mget_any (A : Option Addr) (n cap B : Nat) (l : List UInt8) (w : World) (hB : B ≤ w.heap.size) (hbig : n ≤ 4294967296) (hr : RdB w B A n l) :
    Calls Tryz.prog 25 #[.slice A n cap] w (ResCm w (cmGet l)) := by
  have hlen := hr.len
  subst hlen
  have HCM : Hid (cmGet l = cmFin l (cmRead l)) := Lib.hid rfl
  have HCR : Hid (cmRead l = if (scNum l 0 0).1 = 2 then cmRd2 l (scNum l 0 0).2.1 (scNum l 0 0).2.2
  else if (scNum l 0 0).1 = 3 then (⟨3, 0, 0, (scNum l (scNum l 0 0).2.1 (scNum l 0 0).2.2).1, [], []⟩, (scNum l (scNum l 0 0).2.1 (scNum l 0 0).2.2).2.1, (scNum l (scNum l 0 0).2.1 (scNum l 0 0).2.2).2.2)
  else if (scNum l 0 0).1 = 4 then (⟨4, 0, 0, (scNum l (scNum l 0 0).2.1 (scNum l 0 0).2.2).1, [], []⟩, (scNum l (scNum l 0 0).2.1 (scNum l 0 0).2.2).2.1, (scNum l (scNum l 0 0).2.1 (scNum l 0 0).2.2).2.2)
  else if (scNum l 0 0).1 = 5 then (⟨5, 0, 0, 0, [], (votL l (scNum l (scNum l 0 0).2.1 (scNum l 0 0).2.2).1 [] (scNum l (scNum l 0 0).2.1 (scNum l 0 0).2.2).2.1 (scNum l (scNum l 0 0).2.1 (scNum l 0 0).2.2).2.2).1⟩, (votL l (scNum l (scNum l 0 0).2.1 (scNum l 0 0).2.2).1 [] (scNum l (scNum l 0 0).2.1 (scNum l 0 0).2.2).2.1 (scNum l (scNum l 0 0).2.1 (scNum l 0 0).2.2).2.2).2)
  else (⟨(scNum l 0 0).1, 0, 0, 0, [], []⟩, (scNum l 0 0).2.1, (scNum l 0 0).2.2)) := Lib.hid rfl
  have hR1 : RdB (w.alloc (.cells #[.int .i64 0, .int .i64 0, .int .i64 0, .int .i64 0, .slice none 0 0, .slice none 0 0] 25 (0, 0))) B A l.length l := hr.alloc _ hB (Nat.le_refl _)
  have HR1 := Lib.hid hR1
  clear hr hR1
  go_enter Tryz.func25, Tryz.ntmps25
  go_wp2_with fail
  refine (over_any _ _ _ _ _ _ (by simp; omega) (by omega) HR1.out).mono ?_
  rintro e w1 ⟨sb, pb, A1, c1, rfl, hpb, hs1, hb1⟩
  have hr1 : w1.heap[w.heap.size]? = some (.cells #[.int .i64 0, .int .i64 0, .int .i64 0, .int .i64 0, .slice none 0 0, .slice none 0 0] 25 (0, 0)) := (hb1.block _ (by simp)).trans (heap_alloc_new w _)
  have hB1 : Below w.heap.size w w1 := ((Below.refl _ _).alloc (Nat.le_refl _) _).trans (hb1.mono (by simp))
  simp only [World.size_alloc] at hpb
  go_wp2_with fail
  refine (scanNumber_any hs1).mono ?_
  rintro e w2 ⟨rfl, hs2, hf2⟩
  have hsbl := hs1.sb_lt
  have hps := hs1.lt
  have hz2 := hf2.size
  have hR2 : w2.heap[w.heap.size]? = some (.cells #[.int .i64 0, .int .i64 0, .int .i64 0, .int .i64 0, .slice none 0 0, .slice none 0 0] 25 (0, 0)) := (hf2.block _ (by omega) (fun hk => by rcases hk with h | h <;> omega)).trans hr1
  have hB2 : Below w.heap.size w w2 := hB1.trans (hf2.below hB1.size (fun k hk => by rcases hk with h | h <;> omega))
  have hNb := scNum_bound l 0 0
  generalize scNum l 0 0 = q at *
  obtain ⟨K, a2, e2⟩ := q
  dsimp only at hs2 HCR hNb ⊢
  have hG : ∀ u : Value, GIn w (w2.alloc (.cells #[u, .int .i64 0, .int .i64 0, .int .i64 0, .slice none 0 0, .slice none 0 0] 25 (0, 0))) w.heap.size w2.heap.size sb pb A1 c1 l #[u, .int .i64 0, .int .i64 0, .int .i64 0, .slice none 0 0, .slice none 0 0] a2 e2 := fun u =>
    ⟨(Below.heap_alloc _ _ _ (by omega)).trans hR2, heap_alloc_new w2 _, hs2.below ((Below.refl w2.heap.size w2).alloc (Nat.le_refl _) _) (by omega), hB2.alloc hB2.size _, Nat.le_refl _, by omega, by omega⟩
  have HGU := Lib.hid hG
  have HB2 := Lib.hid hB2
  clear hs1 hb1 hr1 hB1 hs2 hf2 hR2 hB2 hG
  by_cases hk2 : K = 2
  · subst hk2
    have hG := HGU.out (.int .i64 2)
    have HG0 := Lib.hid hG
    have hcb := hG.cbl
    clear hG HGU
    go_wp2_with fail
    refine (scanNumber_any HG0.out.sc).mono ?_
    rintro e w3 ⟨rfl, hs3, hf3⟩
    have hR0 : cmRead l = (⟨2, (scNum l a2 e2).1, (scNum l (scNum l a2 e2).2.1 (scNum l a2 e2).2.2).1, 0, (getAns (scText 4096 l (scNum l (scNum l a2 e2).2.1 (scNum l a2 e2).2.2).2.1 (scNum l (scNum l a2 e2).2.1 (scNum l a2 e2).2.2).2.2).1).1, []⟩, (scText 4096 l (scNum l (scNum l a2 e2).2.1 (scNum l a2 e2).2.2).2.1 (scNum l (scNum l a2 e2).2.1 (scNum l a2 e2).2.2).2.2).2.1, (scText 4096 l (scNum l (scNum l a2 e2).2.1 (scNum l a2 e2).2.2).2.1 (scNum l (scNum l a2 e2).2.1 (scNum l a2 e2).2.2).2.2).2.2) := by rw [HCR.out, if_pos (by trivial)]; rfl
    generalize scNum l a2 e2 = q at *
    obtain ⟨a, a3, e3⟩ := q
    dsimp only at hs3 hR0 ⊢
    have HR0 := Lib.hid hR0
    have HG3 := Lib.hid (HG0.out.scan hf3 hs3)
    clear hs3 hf3 hR0
    go_wp2_with fail
    refine (scanNumber_any HG3.out.sc).mono ?_
    rintro e w4 ⟨rfl, hs4, hf4⟩
    have hR0 := HR0.out
    generalize scNum l a3 e3 = q at *
    obtain ⟨b, a4, e4⟩ := q
    dsimp only at hs4 hR0 ⊢
    have hG4 := HG3.out.scan hf4 hs4
    have HG5 := Lib.hid ((hG4.set 1 (.int .i64 a)).set 2 (.int .i64 b))
    have fc0 := blk_cell hG4.hc
    have ff0 := blk_frozen hG4.hc
    have hcb3 := hG4.cbl
    have hsz5 : ((w4.setCell ⟨w2.heap.size, 1, none⟩ (.int .i64 a)).setCell ⟨w2.heap.size, 2, none⟩ (.int .i64 b)).heap.size = w4.heap.size := by simp
    clear hs4 hf4 hG4 HR0
    go_wp2_with fail
    clear fc0 ff0
    refine (scanText_any 4096 (by omega) HG5.out.sc).mono ?_
    rintro e w5 ⟨rfl, hs5, hf5⟩
    have htl := scText_len 4096 l a4 e4
    generalize scText 4096 l a4 e4 = tq at *
    obtain ⟨tx, a5, e5⟩ := tq
    dsimp only at hs5 hR0 htl ⊢
    have HR1 := Lib.hid hR0
    have HG6 := Lib.hid (HG5.out.scan hf5 hs5)
    clear hs5 hf5 hR0
    go_wp2_with fail
    refine upon_conv_sb Tryz.underlying9 Tryz.underlying32 Tryz.underlying5 ?_
    intro cap2 w6 _ hb6 hzw6 hr6
    have htsz : (⟨tx.toArray⟩ : ByteArray).size = tx.length := by show tx.toArray.size = _; simp
    have HR6 : Hid (RdB w6 (w5.heap.size + 1) (some ⟨w5.heap.size, 0, none⟩) tx.length tx) := Lib.hid (by
      have h := hr6
      rw [htsz] at h
      have e : Lib.strCells ⟨tx.toArray⟩ = tx.map u8v := by simp [Lib.strCells, u8v]
      rw [e] at h
      exact h)
    rw [htsz]
    have HG7 := Lib.hid (HG6.out.below hb6 HG6.out.cbl)
    clear hb6 hr6 htsz
    go_wp2_with fail
    refine (Get_any _ _ _ _ tx _ (by omega) (by omega) HR6.out).mono ?_
    rintro e w7 ⟨A3, c3, rfl, hown7, hb7⟩
    have hgl := getAns_len tx
    have hgo := getAns_ok tx
    have hR0 := HR1.out
    generalize getAns tx = ga at *
    obtain ⟨sp, e7⟩ := ga
    dsimp only at hown7 hgl hgo hR0 ⊢
    have hG8 := HG7.out.below hb7 HG7.out.cbl
    have hcb8 := hG8.cbl
    have hcb7 := HG7.out.cbl
    have HRD := Lib.hid hR0
    have HG := Lib.hid (hG8.set 4 (.slice A3 sp.length c3))
    have fc0 := blk_cell hG8.hc
    have ff0 := blk_frozen hG8.hc
    have HSP : Hid ((w7.setCell ⟨w2.heap.size, 4, none⟩ (.slice A3 sp.length c3)).ownsRow (w2.heap.size + 1) 30 6 (.slice A3 sp.length c3) sp.length (sp.flatMap Sp.cells)) := Lib.hid (own_le (own_fr (S := fun k => k = w2.heap.size) hown7 ((Fr.refl (fun k => k = w2.heap.size) w7).setCell (p := ⟨w2.heap.size, 4, none⟩) rfl _) (fun k hk => by rw [hk]; exact hcb7)) (by omega))
    have HVO : Hid ((w7.setCell ⟨w2.heap.size, 4, none⟩ (.slice A3 sp.length c3)).ownsRow (w2.heap.size + 1) 3 1 (.slice none 0 0) 0 (([] : List Int).map (Value.int .i64))) := Lib.hid (World.ownsRow_nil _ _ _ _)
    have HNM : Hid (∀ s ∈ sp, s.nm.size ≤ 140737488355328) := Lib.hid (fun s hs => by have := (ok_bounds (hgo s hs)).2.2.2.2.2; omega)
    clear hown7 hb7 hR0 hG8 hgo
    go_wp2_with fail
    clear fc0 ff0
    go_wp2_with fail
    refine (scanEnd_any HG.out.sc).mono ?_
    rintro e z1 ⟨rfl, hsz1, hfz1⟩
    have HZ1 := Lib.hid (HG.out.scan hfz1 hsz1)
    have HSP1 := Lib.hid (own_fr HSP.out hfz1 (fun k hk => by have := HG.out.o3; have := HG.out.sc.lt; rcases hk with rfl | rfl <;> omega))
    have HVO1 := Lib.hid (own_fr HVO.out hfz1 (fun k hk => by have := HG.out.o3; have := HG.out.sc.lt; rcases hk with rfl | rfl <;> omega))
    have fr1 := blk_cell HZ1.out.hr
    have fr2 := blk_frozen HZ1.out.hr
    have fc1 := blk_cell HZ1.out.hc
    have hor := HZ1.out.o1
    have hor2 : w.heap.size < w2.heap.size := by have := HZ1.out.o2; have := HZ1.out.o3; have := HZ1.out.sc.lt; omega
    clear hsz1 hfz1
    have HRR : Hid (cmGet l = cmFin l ((⟨2, a, b, 0, sp, []⟩ : Cm), a5, e5)) := Lib.hid (by rw [HCM.out, HRD.out])
    generalize hee : scEnd l a5 e5 = ee at *
    have HEE := Lib.hid hee
    clear hee
    by_cases he : ee = 0
    · subst he
      have hmc := mcheck_any (⟨(⟨2, a, b, 0, sp, []⟩ : Cm), A3, sp.length, c3, none, 0, 0⟩ : CmV) (z1.heap.size) z1 (Nat.le_refl _) (by simp only; omega) (by simp only; omega) HNM.out ⟨Rd.of_own HSP1.out, Rd.of_own HVO1.out⟩
      dsimp only [CmV.val] at hmc
      have HMC := Lib.hid hmc
      clear hmc
      go_wp2_with fail
      refine HMC.out.mono ?_
      rintro e z2 ⟨rfl, hbz2⟩
      have HZ2 := Lib.hid (HZ1.out.below hbz2 HZ1.out.cbl)
      have HSP2 := Lib.hid (own_below HSP1.out hbz2)
      have HVO2 := Lib.hid (own_below HVO1.out hbz2)
      clear hbz2 fr1 fr2 fc1
      have fr1 := blk_cell HZ2.out.hr
      have fr2 := blk_frozen HZ2.out.hr
      have fc1 := blk_cell HZ2.out.hc
      cases hok : Cm.ok (⟨2, a, b, 0, sp, []⟩ : Cm)
      · have hch : Cm.check (⟨2, a, b, 0, sp, []⟩ : Cm) = 90 := by unfold Cm.check; rw [hok]; rfl
        rw [hch]
        have HNO : Hid (cmGet l = none) := Lib.hid (by rw [HRR.out, cmFin, if_neg (fun h => by have := h.2; rw [hok] at this; cases this)])
        clear hok
        go_wp2_with fail
        refine bodyPost_ret (v := .tuple #[.agg #[.int .i64 0, .int .i64 0, .int .i64 0, .int .i64 0, .slice none 0 0, .slice none 0 0], .int .i64 90]) (by simp [results, Tryz.results25, go_sem, fr1]) rfl ?_
        rw [HNO.out]
        exact ⟨⟨Cm.zero, none, 0, 0, none, 0, 0⟩, rfl, rfl, World.ownsRow_nil _ _ _ _, World.ownsRow_nil _ _ _ _, HZ2.out.b.trans (Fr.below (S := fun k => k = w.heap.size) (fr_six _ _ _ _ _ _ _ _) HZ2.out.b.size (fun k hk => by omega))⟩
      · have hch : Cm.check (⟨2, a, b, 0, sp, []⟩ : Cm) = 0 := by unfold Cm.check; rw [hok]; rfl
        rw [hch]
        have HYES : Hid (cmGet l = some (⟨2, a, b, 0, sp, []⟩ : Cm)) := Lib.hid (by rw [HRR.out, cmFin, if_pos ⟨HEE.out, hok⟩])
        clear hok
        go_wp2_with fail
        refine bodyPost_ret (v := .tuple #[.agg #[.int .i64 2, .int .i64 (a : Int), .int .i64 (b : Int), .int .i64 0, .slice A3 sp.length c3, .slice none 0 0], .int .i64 0]) (by simp [results, Tryz.results25, go_sem, fr1]) rfl ?_
        rw [HYES.out]
        exact ⟨(⟨(⟨2, a, b, 0, sp, []⟩ : Cm), A3, sp.length, c3, none, 0, 0⟩ : CmV), rfl, rfl, own_le (own_fr (S := fun k => k = w.heap.size) HSP2.out (fr_six _ _ _ _ _ _ _ _) (fun k hk => by omega)) (by omega), own_le (own_fr (S := fun k => k = w.heap.size) HVO2.out (fr_six _ _ _ _ _ _ _ _) (fun k hk => by omega)) (by omega), HZ2.out.b.trans (Fr.below (S := fun k => k = w.heap.size) (fr_six _ _ _ _ _ _ _ _) HZ2.out.b.size (fun k hk => by omega))⟩
    · have hbe : (ee != 0) = true := by simpa using he
      have HNO : Hid (cmGet l = none) := Lib.hid (by rw [HRR.out, cmFin, if_neg (fun h => he (HEE.out.symm.trans h.1))])
      clear he
      go_wp2_with fail
      refine bodyPost_ret (v := .tuple #[.agg #[.int .i64 0, .int .i64 0, .int .i64 0, .int .i64 0, .slice none 0 0, .slice none 0 0], .int .i64 90]) (by simp [results, Tryz.results25, go_sem, fr1]) rfl ?_
      rw [HNO.out]
      exact ⟨⟨Cm.zero, none, 0, 0, none, 0, 0⟩, rfl, rfl, World.ownsRow_nil _ _ _ _, World.ownsRow_nil _ _ _ _, HZ1.out.b.trans (Fr.below (S := fun k => k = w.heap.size) (fr_six _ _ _ _ _ _ _ _) HZ1.out.b.size (fun k hk => by omega))⟩
  by_cases hk3 : K = 3
  · subst hk3
    have hG := HGU.out (.int .i64 3)
    have HG0 := Lib.hid hG
    have hcb := hG.cbl
    clear hG HGU
    go_wp2_with fail
    refine (scanNumber_any HG0.out.sc).mono ?_
    rintro e w3 ⟨rfl, hs3, hf3⟩
    have hR0 : cmRead l = (⟨3, 0, 0, (scNum l a2 e2).1, [], []⟩, (scNum l a2 e2).2.1, (scNum l a2 e2).2.2) := by rw [HCR.out]; simp
    have hNb2 := scNum_bound l a2 e2
    generalize scNum l a2 e2 = q at *
    obtain ⟨a, a3, e3⟩ := q
    dsimp only at hs3 hR0 hNb2 ⊢
    have hG3 := HG0.out.scan hf3 hs3
    have HRD := Lib.hid hR0
    have HG := Lib.hid (hG3.set 3 (.int .i64 a))
    have fc0 := blk_cell hG3.hc
    have ff0 := blk_frozen hG3.hc
    have hcb3 := hG3.cbl
    have HSP : Hid ((w3.setCell ⟨w2.heap.size, 3, none⟩ (.int .i64 a)).ownsRow (w2.heap.size + 1) 30 6 (.slice none 0 0) 0 (([] : List Sp).flatMap Sp.cells)) := Lib.hid (World.ownsRow_nil _ _ _ _)
    have HVO : Hid ((w3.setCell ⟨w2.heap.size, 3, none⟩ (.int .i64 a)).ownsRow (w2.heap.size + 1) 3 1 (.slice none 0 0) 0 (([] : List Int).map (Value.int .i64))) := Lib.hid (World.ownsRow_nil _ _ _ _)
    have HNM : Hid (∀ s ∈ ([] : List Sp), s.nm.size ≤ 140737488355328) := Lib.hid (by simp)
    clear hs3 hf3 hR0 hG3
    go_wp2_with fail
    clear fc0 ff0
    go_wp2_with fail
    refine (scanEnd_any HG.out.sc).mono ?_
    rintro e z1 ⟨rfl, hsz1, hfz1⟩
    have HZ1 := Lib.hid (HG.out.scan hfz1 hsz1)
    have HSP1 := Lib.hid (own_fr HSP.out hfz1 (fun k hk => by have := HG.out.o3; have := HG.out.sc.lt; rcases hk with rfl | rfl <;> omega))
    have HVO1 := Lib.hid (own_fr HVO.out hfz1 (fun k hk => by have := HG.out.o3; have := HG.out.sc.lt; rcases hk with rfl | rfl <;> omega))
    have fr1 := blk_cell HZ1.out.hr
    have fr2 := blk_frozen HZ1.out.hr
    have fc1 := blk_cell HZ1.out.hc
    have hor := HZ1.out.o1
    have hor2 : w.heap.size < w2.heap.size := by have := HZ1.out.o2; have := HZ1.out.o3; have := HZ1.out.sc.lt; omega
    clear hsz1 hfz1
    have HRR : Hid (cmGet l = cmFin l ((⟨3, 0, 0, a, [], []⟩ : Cm), a3, e3)) := Lib.hid (by rw [HCM.out, HRD.out])
    generalize hee : scEnd l a3 e3 = ee at *
    have HEE := Lib.hid hee
    clear hee
    by_cases he : ee = 0
    · subst he
      have hmc := mcheck_any (⟨(⟨3, 0, 0, a, [], []⟩ : Cm), none, 0, 0, none, 0, 0⟩ : CmV) (z1.heap.size) z1 (Nat.le_refl _) (by simp only; omega) (by simp only; omega) HNM.out ⟨Rd.of_own HSP1.out, Rd.of_own HVO1.out⟩
      dsimp only [CmV.val] at hmc
      have HMC := Lib.hid hmc
      clear hmc
      go_wp2_with fail
      refine HMC.out.mono ?_
      rintro e z2 ⟨rfl, hbz2⟩
      have HZ2 := Lib.hid (HZ1.out.below hbz2 HZ1.out.cbl)
      have HSP2 := Lib.hid (own_below HSP1.out hbz2)
      have HVO2 := Lib.hid (own_below HVO1.out hbz2)
      clear hbz2 fr1 fr2 fc1
      have fr1 := blk_cell HZ2.out.hr
      have fr2 := blk_frozen HZ2.out.hr
      have fc1 := blk_cell HZ2.out.hc
      cases hok : Cm.ok (⟨3, 0, 0, a, [], []⟩ : Cm)
      · have hch : Cm.check (⟨3, 0, 0, a, [], []⟩ : Cm) = 90 := by unfold Cm.check; rw [hok]; rfl
        rw [hch]
        have HNO : Hid (cmGet l = none) := Lib.hid (by rw [HRR.out, cmFin, if_neg (fun h => by have := h.2; rw [hok] at this; cases this)])
        clear hok
        go_wp2_with fail
        refine bodyPost_ret (v := .tuple #[.agg #[.int .i64 0, .int .i64 0, .int .i64 0, .int .i64 0, .slice none 0 0, .slice none 0 0], .int .i64 90]) (by simp [results, Tryz.results25, go_sem, fr1]) rfl ?_
        rw [HNO.out]
        exact ⟨⟨Cm.zero, none, 0, 0, none, 0, 0⟩, rfl, rfl, World.ownsRow_nil _ _ _ _, World.ownsRow_nil _ _ _ _, HZ2.out.b.trans (Fr.below (S := fun k => k = w.heap.size) (fr_six _ _ _ _ _ _ _ _) HZ2.out.b.size (fun k hk => by omega))⟩
      · have hch : Cm.check (⟨3, 0, 0, a, [], []⟩ : Cm) = 0 := by unfold Cm.check; rw [hok]; rfl
        rw [hch]
        have HYES : Hid (cmGet l = some (⟨3, 0, 0, a, [], []⟩ : Cm)) := Lib.hid (by rw [HRR.out, cmFin, if_pos ⟨HEE.out, hok⟩])
        clear hok
        go_wp2_with fail
        refine bodyPost_ret (v := .tuple #[.agg #[.int .i64 3, .int .i64 0, .int .i64 0, .int .i64 (a : Int), .slice none 0 0, .slice none 0 0], .int .i64 0]) (by simp [results, Tryz.results25, go_sem, fr1]) rfl ?_
        rw [HYES.out]
        exact ⟨(⟨(⟨3, 0, 0, a, [], []⟩ : Cm), none, 0, 0, none, 0, 0⟩ : CmV), rfl, rfl, own_le (own_fr (S := fun k => k = w.heap.size) HSP2.out (fr_six _ _ _ _ _ _ _ _) (fun k hk => by omega)) (by omega), own_le (own_fr (S := fun k => k = w.heap.size) HVO2.out (fr_six _ _ _ _ _ _ _ _) (fun k hk => by omega)) (by omega), HZ2.out.b.trans (Fr.below (S := fun k => k = w.heap.size) (fr_six _ _ _ _ _ _ _ _) HZ2.out.b.size (fun k hk => by omega))⟩
    · have hbe : (ee != 0) = true := by simpa using he
      have HNO : Hid (cmGet l = none) := Lib.hid (by rw [HRR.out, cmFin, if_neg (fun h => he (HEE.out.symm.trans h.1))])
      clear he
      go_wp2_with fail
      refine bodyPost_ret (v := .tuple #[.agg #[.int .i64 0, .int .i64 0, .int .i64 0, .int .i64 0, .slice none 0 0, .slice none 0 0], .int .i64 90]) (by simp [results, Tryz.results25, go_sem, fr1]) rfl ?_
      rw [HNO.out]
      exact ⟨⟨Cm.zero, none, 0, 0, none, 0, 0⟩, rfl, rfl, World.ownsRow_nil _ _ _ _, World.ownsRow_nil _ _ _ _, HZ1.out.b.trans (Fr.below (S := fun k => k = w.heap.size) (fr_six _ _ _ _ _ _ _ _) HZ1.out.b.size (fun k hk => by omega))⟩
  by_cases hk4 : K = 4
  · subst hk4
    have hG := HGU.out (.int .i64 4)
    have HG0 := Lib.hid hG
    have hcb := hG.cbl
    clear hG HGU
    go_wp2_with fail
    refine (scanNumber_any HG0.out.sc).mono ?_
    rintro e w3 ⟨rfl, hs3, hf3⟩
    have hR0 : cmRead l = (⟨4, 0, 0, (scNum l a2 e2).1, [], []⟩, (scNum l a2 e2).2.1, (scNum l a2 e2).2.2) := by rw [HCR.out]; simp
    have hNb2 := scNum_bound l a2 e2
    generalize scNum l a2 e2 = q at *
    obtain ⟨a, a3, e3⟩ := q
    dsimp only at hs3 hR0 hNb2 ⊢
    have hG3 := HG0.out.scan hf3 hs3
    have HRD := Lib.hid hR0
    have HG := Lib.hid (hG3.set 3 (.int .i64 a))
    have fc0 := blk_cell hG3.hc
    have ff0 := blk_frozen hG3.hc
    have hcb3 := hG3.cbl
    have HSP : Hid ((w3.setCell ⟨w2.heap.size, 3, none⟩ (.int .i64 a)).ownsRow (w2.heap.size + 1) 30 6 (.slice none 0 0) 0 (([] : List Sp).flatMap Sp.cells)) := Lib.hid (World.ownsRow_nil _ _ _ _)
    have HVO : Hid ((w3.setCell ⟨w2.heap.size, 3, none⟩ (.int .i64 a)).ownsRow (w2.heap.size + 1) 3 1 (.slice none 0 0) 0 (([] : List Int).map (Value.int .i64))) := Lib.hid (World.ownsRow_nil _ _ _ _)
    have HNM : Hid (∀ s ∈ ([] : List Sp), s.nm.size ≤ 140737488355328) := Lib.hid (by simp)
    clear hs3 hf3 hR0 hG3
    go_wp2_with fail
    clear fc0 ff0
    go_wp2_with fail
    refine (scanEnd_any HG.out.sc).mono ?_
    rintro e z1 ⟨rfl, hsz1, hfz1⟩
    have HZ1 := Lib.hid (HG.out.scan hfz1 hsz1)
    have HSP1 := Lib.hid (own_fr HSP.out hfz1 (fun k hk => by have := HG.out.o3; have := HG.out.sc.lt; rcases hk with rfl | rfl <;> omega))
    have HVO1 := Lib.hid (own_fr HVO.out hfz1 (fun k hk => by have := HG.out.o3; have := HG.out.sc.lt; rcases hk with rfl | rfl <;> omega))
    have fr1 := blk_cell HZ1.out.hr
    have fr2 := blk_frozen HZ1.out.hr
    have fc1 := blk_cell HZ1.out.hc
    have hor := HZ1.out.o1
    have hor2 : w.heap.size < w2.heap.size := by have := HZ1.out.o2; have := HZ1.out.o3; have := HZ1.out.sc.lt; omega
    clear hsz1 hfz1
    have HRR : Hid (cmGet l = cmFin l ((⟨4, 0, 0, a, [], []⟩ : Cm), a3, e3)) := Lib.hid (by rw [HCM.out, HRD.out])
    generalize hee : scEnd l a3 e3 = ee at *
    have HEE := Lib.hid hee
    clear hee
    by_cases he : ee = 0
    · subst he
      have hmc := mcheck_any (⟨(⟨4, 0, 0, a, [], []⟩ : Cm), none, 0, 0, none, 0, 0⟩ : CmV) (z1.heap.size) z1 (Nat.le_refl _) (by simp only; omega) (by simp only; omega) HNM.out ⟨Rd.of_own HSP1.out, Rd.of_own HVO1.out⟩
      dsimp only [CmV.val] at hmc
      have HMC := Lib.hid hmc
      clear hmc
      go_wp2_with fail
      refine HMC.out.mono ?_
      rintro e z2 ⟨rfl, hbz2⟩
      have HZ2 := Lib.hid (HZ1.out.below hbz2 HZ1.out.cbl)
      have HSP2 := Lib.hid (own_below HSP1.out hbz2)
      have HVO2 := Lib.hid (own_below HVO1.out hbz2)
      clear hbz2 fr1 fr2 fc1
      have fr1 := blk_cell HZ2.out.hr
      have fr2 := blk_frozen HZ2.out.hr
      have fc1 := blk_cell HZ2.out.hc
      cases hok : Cm.ok (⟨4, 0, 0, a, [], []⟩ : Cm)
      · have hch : Cm.check (⟨4, 0, 0, a, [], []⟩ : Cm) = 90 := by unfold Cm.check; rw [hok]; rfl
        rw [hch]
        have HNO : Hid (cmGet l = none) := Lib.hid (by rw [HRR.out, cmFin, if_neg (fun h => by have := h.2; rw [hok] at this; cases this)])
        clear hok
        go_wp2_with fail
        refine bodyPost_ret (v := .tuple #[.agg #[.int .i64 0, .int .i64 0, .int .i64 0, .int .i64 0, .slice none 0 0, .slice none 0 0], .int .i64 90]) (by simp [results, Tryz.results25, go_sem, fr1]) rfl ?_
        rw [HNO.out]
        exact ⟨⟨Cm.zero, none, 0, 0, none, 0, 0⟩, rfl, rfl, World.ownsRow_nil _ _ _ _, World.ownsRow_nil _ _ _ _, HZ2.out.b.trans (Fr.below (S := fun k => k = w.heap.size) (fr_six _ _ _ _ _ _ _ _) HZ2.out.b.size (fun k hk => by omega))⟩
      · have hch : Cm.check (⟨4, 0, 0, a, [], []⟩ : Cm) = 0 := by unfold Cm.check; rw [hok]; rfl
        rw [hch]
        have HYES : Hid (cmGet l = some (⟨4, 0, 0, a, [], []⟩ : Cm)) := Lib.hid (by rw [HRR.out, cmFin, if_pos ⟨HEE.out, hok⟩])
        clear hok
        go_wp2_with fail
        refine bodyPost_ret (v := .tuple #[.agg #[.int .i64 4, .int .i64 0, .int .i64 0, .int .i64 (a : Int), .slice none 0 0, .slice none 0 0], .int .i64 0]) (by simp [results, Tryz.results25, go_sem, fr1]) rfl ?_
        rw [HYES.out]
        exact ⟨(⟨(⟨4, 0, 0, a, [], []⟩ : Cm), none, 0, 0, none, 0, 0⟩ : CmV), rfl, rfl, own_le (own_fr (S := fun k => k = w.heap.size) HSP2.out (fr_six _ _ _ _ _ _ _ _) (fun k hk => by omega)) (by omega), own_le (own_fr (S := fun k => k = w.heap.size) HVO2.out (fr_six _ _ _ _ _ _ _ _) (fun k hk => by omega)) (by omega), HZ2.out.b.trans (Fr.below (S := fun k => k = w.heap.size) (fr_six _ _ _ _ _ _ _ _) HZ2.out.b.size (fun k hk => by omega))⟩
    · have hbe : (ee != 0) = true := by simpa using he
      have HNO : Hid (cmGet l = none) := Lib.hid (by rw [HRR.out, cmFin, if_neg (fun h => he (HEE.out.symm.trans h.1))])
      clear he
      go_wp2_with fail
      refine bodyPost_ret (v := .tuple #[.agg #[.int .i64 0, .int .i64 0, .int .i64 0, .int .i64 0, .slice none 0 0, .slice none 0 0], .int .i64 90]) (by simp [results, Tryz.results25, go_sem, fr1]) rfl ?_
      rw [HNO.out]
      exact ⟨⟨Cm.zero, none, 0, 0, none, 0, 0⟩, rfl, rfl, World.ownsRow_nil _ _ _ _, World.ownsRow_nil _ _ _ _, HZ1.out.b.trans (Fr.below (S := fun k => k = w.heap.size) (fr_six _ _ _ _ _ _ _ _) HZ1.out.b.size (fun k hk => by omega))⟩
  by_cases hk5 : K = 5
  · subst hk5
    have hG := HGU.out (.int .i64 5)
    have HG0 := Lib.hid hG
    have hcb := hG.cbl
    clear hG HGU
    obtain ⟨i0, hi0, hz0, hz1, hz2⟩ := info_parts Tryz.infoInt
    go_wp2_with fail
    refine (scanNumber_any HG0.out.sc).mono ?_
    rintro e w3 ⟨rfl, hs3, hf3⟩
    have hR0 : cmRead l = (⟨5, 0, 0, 0, [], (votL l (scNum l a2 e2).1 [] (scNum l a2 e2).2.1 (scNum l a2 e2).2.2).1⟩, (votL l (scNum l a2 e2).1 [] (scNum l a2 e2).2.1 (scNum l a2 e2).2.2).2) := by rw [HCR.out]; simp
    have hNb2 := scNum_bound l a2 e2
    generalize scNum l a2 e2 = q at *
    obtain ⟨N, a3, e3⟩ := q
    dsimp only at hs3 hR0 hNb2 ⊢
    have HRD := Lib.hid hR0
    have HG3 := Lib.hid (HG0.out.scan hf3 hs3)
    clear hs3 hf3 hR0 HG0
    go_wp2_with fail
    go_loopw [6] (fun i wr => ∃ (r : Nat) (acc : List Int) (at_ : Nat) (err : Int) (A' : Option Addr) (c' : Nat), r ≤ N ∧ i = .int .i64 r ∧ GIn w wr w.heap.size w2.heap.size sb pb A1 c1 l #[.int .i64 5, .int .i64 0, .int .i64 0, .int .i64 0, .slice none 0 0, .slice A' acc.length c'] at_ err ∧ wr.ownsRow (w2.heap.size + 1) 3 1 (.slice A' acc.length c') acc.length (acc.map (Value.int .i64)) ∧ votL l N [] a3 e3 = votL l r acc at_ err ∧ acc.length ≤ l.length + 1 ∧ (err = 0 → acc.length ≤ at_)) (fun i _ => (intOf i).toNat)
    case atStart => exact ⟨N, [], a3, e3, none, 0, Nat.le_refl _, rfl, HG3.out, World.ownsRow_nil _ _ _ _, rfl, by simp, by simp⟩
    case round =>
      obtain ⟨r, acc, at_, err, A', c', hrN, rfl, hs, hown, hg, hal, hac⟩ := hrel
      have HS := Lib.hid hs
      have HO := Lib.hid hown
      have HG2 := Lib.hid hg
      have HAC := Lib.hid hac
      have hcbr := hs.cbl
      clear hs hown hg hac HG3
      cases r with
      | zero =>
        have HF : Hid (votL l 0 acc at_ err = (acc, at_, err)) := Lib.hid rfl
        have HG := HS
        have HSP : Hid (wr.ownsRow (w2.heap.size + 1) 30 6 (.slice none 0 0) 0 (([] : List Sp).flatMap Sp.cells)) := Lib.hid (World.ownsRow_nil _ _ _ _)
        have HVO := HO
        have HNM : Hid (∀ s ∈ ([] : List Sp), s.nm.size ≤ 140737488355328) := Lib.hid (by simp)
        go_wp2_with fail
        refine (scanEnd_any HG.out.sc).mono ?_
        rintro e z1 ⟨rfl, hsz1, hfz1⟩
        have HZ1 := Lib.hid (HG.out.scan hfz1 hsz1)
        have HSP1 := Lib.hid (own_fr HSP.out hfz1 (fun k hk => by have := HG.out.o3; have := HG.out.sc.lt; rcases hk with rfl | rfl <;> omega))
        have HVO1 := Lib.hid (own_fr HVO.out hfz1 (fun k hk => by have := HG.out.o3; have := HG.out.sc.lt; rcases hk with rfl | rfl <;> omega))
        have fr1 := blk_cell HZ1.out.hr
        have fr2 := blk_frozen HZ1.out.hr
        have fc1 := blk_cell HZ1.out.hc
        have hor := HZ1.out.o1
        have hor2 : w.heap.size < w2.heap.size := by have := HZ1.out.o2; have := HZ1.out.o3; have := HZ1.out.sc.lt; omega
        clear hsz1 hfz1
        have HRR : Hid (cmGet l = cmFin l ((⟨5, 0, 0, 0, [], acc⟩ : Cm), at_, err)) := Lib.hid (by rw [HCM.out, HRD.out, HG2.out, HF.out])
        generalize hee : scEnd l at_ err = ee at *
        have HEE := Lib.hid hee
        clear hee
        by_cases he : ee = 0
        · subst he
          have hmc := mcheck_any (⟨(⟨5, 0, 0, 0, [], acc⟩ : Cm), none, 0, 0, A', acc.length, c'⟩ : CmV) (z1.heap.size) z1 (Nat.le_refl _) (by simp only; omega) (by simp only; omega) HNM.out ⟨Rd.of_own HSP1.out, Rd.of_own HVO1.out⟩
          dsimp only [CmV.val] at hmc
          have HMC := Lib.hid hmc
          clear hmc
          go_wp2_with fail
          refine HMC.out.mono ?_
          rintro e z2 ⟨rfl, hbz2⟩
          have HZ2 := Lib.hid (HZ1.out.below hbz2 HZ1.out.cbl)
          have HSP2 := Lib.hid (own_below HSP1.out hbz2)
          have HVO2 := Lib.hid (own_below HVO1.out hbz2)
          clear hbz2 fr1 fr2 fc1
          have fr1 := blk_cell HZ2.out.hr
          have fr2 := blk_frozen HZ2.out.hr
          have fc1 := blk_cell HZ2.out.hc
          cases hok : Cm.ok (⟨5, 0, 0, 0, [], acc⟩ : Cm)
          · have hch : Cm.check (⟨5, 0, 0, 0, [], acc⟩ : Cm) = 90 := by unfold Cm.check; rw [hok]; rfl
            rw [hch]
            have HNO : Hid (cmGet l = none) := Lib.hid (by rw [HRR.out, cmFin, if_neg (fun h => by have := h.2; rw [hok] at this; cases this)])
            clear hok
            go_wp2_with fail
            refine bodyPost_ret (v := .tuple #[.agg #[.int .i64 0, .int .i64 0, .int .i64 0, .int .i64 0, .slice none 0 0, .slice none 0 0], .int .i64 90]) (by simp [results, Tryz.results25, go_sem, fr1]) rfl ?_
            rw [HNO.out]
            exact ⟨⟨Cm.zero, none, 0, 0, none, 0, 0⟩, rfl, rfl, World.ownsRow_nil _ _ _ _, World.ownsRow_nil _ _ _ _, HZ2.out.b.trans (Fr.below (S := fun k => k = w.heap.size) (fr_six _ _ _ _ _ _ _ _) HZ2.out.b.size (fun k hk => by omega))⟩
          · have hch : Cm.check (⟨5, 0, 0, 0, [], acc⟩ : Cm) = 0 := by unfold Cm.check; rw [hok]; rfl
            rw [hch]
            have HYES : Hid (cmGet l = some (⟨5, 0, 0, 0, [], acc⟩ : Cm)) := Lib.hid (by rw [HRR.out, cmFin, if_pos ⟨HEE.out, hok⟩])
            clear hok
            go_wp2_with fail
            refine bodyPost_ret (v := .tuple #[.agg #[.int .i64 5, .int .i64 0, .int .i64 0, .int .i64 0, .slice none 0 0, .slice A' acc.length c'], .int .i64 0]) (by simp [results, Tryz.results25, go_sem, fr1]) rfl ?_
            rw [HYES.out]
            exact ⟨(⟨(⟨5, 0, 0, 0, [], acc⟩ : Cm), none, 0, 0, A', acc.length, c'⟩ : CmV), rfl, rfl, own_le (own_fr (S := fun k => k = w.heap.size) HSP2.out (fr_six _ _ _ _ _ _ _ _) (fun k hk => by omega)) (by omega), own_le (own_fr (S := fun k => k = w.heap.size) HVO2.out (fr_six _ _ _ _ _ _ _ _) (fun k hk => by omega)) (by omega), HZ2.out.b.trans (Fr.below (S := fun k => k = w.heap.size) (fr_six _ _ _ _ _ _ _ _) HZ2.out.b.size (fun k hk => by omega))⟩
        · have hbe : (ee != 0) = true := by simpa using he
          have HNO : Hid (cmGet l = none) := Lib.hid (by rw [HRR.out, cmFin, if_neg (fun h => he (HEE.out.symm.trans h.1))])
          clear he
          go_wp2_with fail
          refine bodyPost_ret (v := .tuple #[.agg #[.int .i64 0, .int .i64 0, .int .i64 0, .int .i64 0, .slice none 0 0, .slice none 0 0], .int .i64 90]) (by simp [results, Tryz.results25, go_sem, fr1]) rfl ?_
          rw [HNO.out]
          exact ⟨⟨Cm.zero, none, 0, 0, none, 0, 0⟩, rfl, rfl, World.ownsRow_nil _ _ _ _, World.ownsRow_nil _ _ _ _, HZ1.out.b.trans (Fr.below (S := fun k => k = w.heap.size) (fr_six _ _ _ _ _ _ _ _) HZ1.out.b.size (fun k hk => by omega))⟩
      | succ r =>
        by_cases herr : err = 0
        · subst herr
          have HF0 : Hid (votL l (r + 1) acc at_ 0 = votL l r (acc ++ [((scNum l at_ 0).1 : Int)]) (scNum l at_ 0).2.1 (scNum l at_ 0).2.2) := Lib.hid (by rw [votL, if_pos rfl])
          have hrp : (0 : Int) < ((r + 1 : Nat) : Int) := by omega
          have hrw : IntKind.i64.wrap (((r + 1 : Nat) : Int) - 1) = (r : Int) := ((IntWalk.i64_left _).trans (IntWalk.wrap64_in _ (by omega))).trans (by omega)
          have hcs := blk_cell HS.out.hc
          have HC5 : Hid (wr.cell? ⟨w2.heap.size, 5, none⟩ = some (.slice A' acc.length c')) := Lib.hid (hcs 5)
          clear hcs
          go_wp2_with fail
          refine (err_any HS.out.sc).mono ?_
          rintro e z ⟨rfl, rfl⟩
          go_wp2_with fail
          refine wp_region_plan 7 (.take 0 (.take 1 (.take 2 (.op 3 (.op 4 (.op 5 (.take 6 (.op 7 .done)))))))) (fun W => W.cell? ⟨w2.heap.size, 5, none⟩ = some (.slice A' acc.length c')) (by kernel_rfl) (by kernel_rfl) (by kernel_rfl) (by exact HC5.out) ?_
          repeat (first | (apply plan_take rfl; (focus (first | rfl | (go_simp; done))); (focus (intro W hW; go_simp; rfl)); (focus (intro K hK; go_simp; refine hK _ ?_; clear hK K))) | (apply plan_skip rfl; (focus (first | rfl | (go_simp; done))); (focus (intro K hK; go_simp; refine hK _ ?_; clear hK K))))
          apply plan_op rfl
          intro K hK
          go_simp
          go_wp2_with (fail)
          refine (scanNumber_any (HS.out.sc.drewN 1)).mono ?_
          rintro e v1 ⟨rfl, hs1, hf1⟩
          have hne := @scNum_err l at_ 0
          have hf0 := HF0.out
          generalize scNum l at_ 0 = q at *
          obtain ⟨x, a4, e4⟩ := q
          dsimp only at hs1 hne hf0 ⊢
          have HF1 := Lib.hid hf0
          have HNE := Lib.hid hne
          have HV1 := Lib.hid ((HS.out.below (below_drew' wr 1) HS.out.cbl).scan hf1 hs1)
          have HO1 := Lib.hid (own_fr (own_below HO.out (below_drew' wr 1)) hf1 (fun k hk => by have := HS.out.o3; have := HS.out.sc.lt; rcases hk with rfl | rfl <;> omega))
          have hv1 := HV1.out.cbl
          have hla4 := HV1.out.sc.le
          clear hs1 hf1 hf0 hne HF0
          go_wp2_with fail
          refine ⟨by first | exact blk_cell HV1.out.hc 5 | (intro _; exact blk_cell HV1.out.hc 5), ?_⟩
          apply plan_op rfl
          intro K hK
          go_simp
          go_wp2_with (fail)
          have hW2 : Below v1.heap.size v1 (v1.alloc (.cells #[.int .i64 x] 3 (0, 0))) := (Below.refl _ _).alloc (Nat.le_refl _) _
          have hV2 := HV1.out.below hW2 hv1
          refine ⟨by first | exact blk_cell hV2.hc 5 | (intro _; exact blk_cell hV2.hc 5), ?_⟩
          obtain ⟨A5, c5, w5, hrun5, hown5, hg5, _⟩ := run_app (P := Tryz.prog) (v1.alloc (.cells #[.int .i64 x] 3 (0, 0))) (w2.heap.size + 1) 23 23 3 i0 _ 1 8 Tryz.underlying23 hi0 hz0 hz1 hz2 rfl (by omega) A' acc.length c' (acc.map (Value.int .i64)) (HO1.out.alloc _) (v1.heap.size + 1) (some ⟨v1.heap.size, 0, none⟩) 1 1 [.int .i64 x] (Rd.new rfl rfl (by intro j hj; simp at hj; subst hj; rfl)) (by intro u hu; simp at hu; subst hu; rfl) (by unfold maxLen; omega) (by omega) (by simp; omega)
          have hB5 : Below (w2.heap.size + 1) (v1.alloc (.cells #[.int .i64 x] 3 (0, 0))) w5 := below_app (Below.refl (w2.heap.size + 1) _) (HO1.out.alloc _) hg5 (by simp; omega)
          have hV5 := hV2.below hB5 (by omega)
          have HV6 := Lib.hid (hV5.set 5 (.slice A5 (acc.length + 1) c5))
          have HO6 : Hid ((w5.setCell ⟨w2.heap.size, 5, none⟩ (.slice A5 (acc.length + 1) c5)).ownsRow (w2.heap.size + 1) 3 1 (.slice A5 (acc.length + 1) c5) (acc.length + 1) (acc.map (Value.int .i64) ++ [.int .i64 x])) := Lib.hid (own_fr (S := fun k => k = w2.heap.size) hown5 ((Fr.refl (fun k => k = w2.heap.size) w5).setCell (p := ⟨w2.heap.size, 5, none⟩) rfl _) (fun k hk => by omega))
          have fc5 := blk_cell hV5.hc
          have ff5 := blk_frozen hV5.hc
          have hcb5 := hV5.cbl
          have HC55 := Lib.hid (fc5 5)
          apply plan_run (v := .slice A5 (acc.length + 1) c5) (w' := w5) rfl
          · focus (first | rfl | (go_simp; done))
          · focus (refine exec_app rfl ?_ ?_ hrun5 <;> go_simp)
          · intro _; exact HC55.out
          intro K hK; go_simp; refine hK _ ?_; clear hK K
          clear hrun5 hown5 hg5 hB5 hV5 hV2 hW2
          repeat (first | (apply plan_take rfl; (focus (first | rfl | (go_simp; done))); (focus (intro W hW; go_simp; rfl)); (focus (intro K hK; go_simp; refine hK _ ?_; clear hK K))) | (apply plan_skip rfl; (focus (first | rfl | (go_simp; done))); (focus (intro K hK; go_simp; refine hK _ ?_; clear hK K))))
          apply plan_op rfl
          intro K hK
          go_simp
          go_wp2_with (fail)
          try refine ⟨fun h => absurd rfl h, ?_⟩
          refine plan_nil ?_
          clear fc5 ff5
          go_wp2_with fail
          go_roundw
          case rel =>
            exact ⟨r, acc ++ [(x : Int)], a4, e4, A5, c5, by omega, by go_num, by simpa using HV6.out, by simpa using HO6.out, by rw [HG2.out, HF1.out], by have h2 : acc.length ≤ at_ := HAC.out (by trivial); have := HS.out.sc.le; simp; omega, fun h => by have h1 : at_ + 1 ≤ a4 := (HNE.out h).2; have h2 : acc.length ≤ at_ := HAC.out (by trivial); simp; omega⟩
          case measure => first | (simp [intOf]; done) | (simp [intOf]; omega)
        · have HF : Hid (votL l (r + 1) acc at_ err = (acc, at_, err)) := Lib.hid (by rw [votL, if_neg herr])
          have hrp : (0 : Int) < ((r + 1 : Nat) : Int) := by omega
          have hbe : (err == 0) = false := by simpa using herr
          go_wp2_with fail
          refine (err_any HS.out.sc).mono ?_
          rintro e z ⟨rfl, rfl⟩
          have HG := HS
          have HSP : Hid (wr.ownsRow (w2.heap.size + 1) 30 6 (.slice none 0 0) 0 (([] : List Sp).flatMap Sp.cells)) := Lib.hid (World.ownsRow_nil _ _ _ _)
          have HVO := HO
          have HNM : Hid (∀ s ∈ ([] : List Sp), s.nm.size ≤ 140737488355328) := Lib.hid (by simp)
          go_wp2_with fail
          refine (scanEnd_any HG.out.sc).mono ?_
          rintro e z1 ⟨rfl, hsz1, hfz1⟩
          have HZ1 := Lib.hid (HG.out.scan hfz1 hsz1)
          have HSP1 := Lib.hid (own_fr HSP.out hfz1 (fun k hk => by have := HG.out.o3; have := HG.out.sc.lt; rcases hk with rfl | rfl <;> omega))
          have HVO1 := Lib.hid (own_fr HVO.out hfz1 (fun k hk => by have := HG.out.o3; have := HG.out.sc.lt; rcases hk with rfl | rfl <;> omega))
          have fr1 := blk_cell HZ1.out.hr
          have fr2 := blk_frozen HZ1.out.hr
          have fc1 := blk_cell HZ1.out.hc
          have hor := HZ1.out.o1
          have hor2 : w.heap.size < w2.heap.size := by have := HZ1.out.o2; have := HZ1.out.o3; have := HZ1.out.sc.lt; omega
          clear hsz1 hfz1
          have HRR : Hid (cmGet l = cmFin l ((⟨5, 0, 0, 0, [], acc⟩ : Cm), at_, err)) := Lib.hid (by rw [HCM.out, HRD.out, HG2.out, HF.out])
          generalize hee : scEnd l at_ err = ee at *
          have HEE := Lib.hid hee
          clear hee
          by_cases he : ee = 0
          · subst he
            have hmc := mcheck_any (⟨(⟨5, 0, 0, 0, [], acc⟩ : Cm), none, 0, 0, A', acc.length, c'⟩ : CmV) (z1.heap.size) z1 (Nat.le_refl _) (by simp only; omega) (by simp only; omega) HNM.out ⟨Rd.of_own HSP1.out, Rd.of_own HVO1.out⟩
            dsimp only [CmV.val] at hmc
            have HMC := Lib.hid hmc
            clear hmc
            go_wp2_with fail
            refine HMC.out.mono ?_
            rintro e z2 ⟨rfl, hbz2⟩
            have HZ2 := Lib.hid (HZ1.out.below hbz2 HZ1.out.cbl)
            have HSP2 := Lib.hid (own_below HSP1.out hbz2)
            have HVO2 := Lib.hid (own_below HVO1.out hbz2)
            clear hbz2 fr1 fr2 fc1
            have fr1 := blk_cell HZ2.out.hr
            have fr2 := blk_frozen HZ2.out.hr
            have fc1 := blk_cell HZ2.out.hc
            cases hok : Cm.ok (⟨5, 0, 0, 0, [], acc⟩ : Cm)
            · have hch : Cm.check (⟨5, 0, 0, 0, [], acc⟩ : Cm) = 90 := by unfold Cm.check; rw [hok]; rfl
              rw [hch]
              have HNO : Hid (cmGet l = none) := Lib.hid (by rw [HRR.out, cmFin, if_neg (fun h => by have := h.2; rw [hok] at this; cases this)])
              clear hok
              go_wp2_with fail
              refine bodyPost_ret (v := .tuple #[.agg #[.int .i64 0, .int .i64 0, .int .i64 0, .int .i64 0, .slice none 0 0, .slice none 0 0], .int .i64 90]) (by simp [results, Tryz.results25, go_sem, fr1]) rfl ?_
              rw [HNO.out]
              exact ⟨⟨Cm.zero, none, 0, 0, none, 0, 0⟩, rfl, rfl, World.ownsRow_nil _ _ _ _, World.ownsRow_nil _ _ _ _, HZ2.out.b.trans (Fr.below (S := fun k => k = w.heap.size) (fr_six _ _ _ _ _ _ _ _) HZ2.out.b.size (fun k hk => by omega))⟩
            · have hch : Cm.check (⟨5, 0, 0, 0, [], acc⟩ : Cm) = 0 := by unfold Cm.check; rw [hok]; rfl
              rw [hch]
              have HYES : Hid (cmGet l = some (⟨5, 0, 0, 0, [], acc⟩ : Cm)) := Lib.hid (by rw [HRR.out, cmFin, if_pos ⟨HEE.out, hok⟩])
              clear hok
              go_wp2_with fail
              refine bodyPost_ret (v := .tuple #[.agg #[.int .i64 5, .int .i64 0, .int .i64 0, .int .i64 0, .slice none 0 0, .slice A' acc.length c'], .int .i64 0]) (by simp [results, Tryz.results25, go_sem, fr1]) rfl ?_
              rw [HYES.out]
              exact ⟨(⟨(⟨5, 0, 0, 0, [], acc⟩ : Cm), none, 0, 0, A', acc.length, c'⟩ : CmV), rfl, rfl, own_le (own_fr (S := fun k => k = w.heap.size) HSP2.out (fr_six _ _ _ _ _ _ _ _) (fun k hk => by omega)) (by omega), own_le (own_fr (S := fun k => k = w.heap.size) HVO2.out (fr_six _ _ _ _ _ _ _ _) (fun k hk => by omega)) (by omega), HZ2.out.b.trans (Fr.below (S := fun k => k = w.heap.size) (fr_six _ _ _ _ _ _ _ _) HZ2.out.b.size (fun k hk => by omega))⟩
          · have hbe : (ee != 0) = true := by simpa using he
            have HNO : Hid (cmGet l = none) := Lib.hid (by rw [HRR.out, cmFin, if_neg (fun h => he (HEE.out.symm.trans h.1))])
            clear he
            go_wp2_with fail
            refine bodyPost_ret (v := .tuple #[.agg #[.int .i64 0, .int .i64 0, .int .i64 0, .int .i64 0, .slice none 0 0, .slice none 0 0], .int .i64 90]) (by simp [results, Tryz.results25, go_sem, fr1]) rfl ?_
            rw [HNO.out]
            exact ⟨⟨Cm.zero, none, 0, 0, none, 0, 0⟩, rfl, rfl, World.ownsRow_nil _ _ _ _, World.ownsRow_nil _ _ _ _, HZ1.out.b.trans (Fr.below (S := fun k => k = w.heap.size) (fr_six _ _ _ _ _ _ _ _) HZ1.out.b.size (fun k hk => by omega))⟩
  have hG := HGU.out (.int .i64 K)
  have HG := Lib.hid hG
  have hcb := hG.cbl
  have hki2 : ¬ (K : Int) = 2 := by omega
  have hki3 : ¬ (K : Int) = 3 := by omega
  have hki4 : ¬ (K : Int) = 4 := by omega
  have hki5 : ¬ (K : Int) = 5 := by omega
  have hR0 : cmRead l = (⟨K, 0, 0, 0, [], []⟩, a2, e2) := by rw [HCR.out, if_neg hk2, if_neg hk3, if_neg hk4, if_neg hk5]
  have HRD := Lib.hid hR0
  have HSP : Hid ((w2.alloc (.cells #[.int .i64 K, .int .i64 0, .int .i64 0, .int .i64 0, .slice none 0 0, .slice none 0 0] 25 (0, 0))).ownsRow (w2.heap.size + 1) 30 6 (.slice none 0 0) 0 (([] : List Sp).flatMap Sp.cells)) := Lib.hid (World.ownsRow_nil _ _ _ _)
  have HVO : Hid ((w2.alloc (.cells #[.int .i64 K, .int .i64 0, .int .i64 0, .int .i64 0, .slice none 0 0, .slice none 0 0] 25 (0, 0))).ownsRow (w2.heap.size + 1) 3 1 (.slice none 0 0) 0 (([] : List Int).map (Value.int .i64))) := Lib.hid (World.ownsRow_nil _ _ _ _)
  have HNM : Hid (∀ s ∈ ([] : List Sp), s.nm.size ≤ 140737488355328) := Lib.hid (by simp)
  clear hG HGU hR0 hk2 hk3 hk4 hk5
  go_wp2_with fail
  refine (scanEnd_any HG.out.sc).mono ?_
  rintro e z1 ⟨rfl, hsz1, hfz1⟩
  have HZ1 := Lib.hid (HG.out.scan hfz1 hsz1)
  have HSP1 := Lib.hid (own_fr HSP.out hfz1 (fun k hk => by have := HG.out.o3; have := HG.out.sc.lt; rcases hk with rfl | rfl <;> omega))
  have HVO1 := Lib.hid (own_fr HVO.out hfz1 (fun k hk => by have := HG.out.o3; have := HG.out.sc.lt; rcases hk with rfl | rfl <;> omega))
  have fr1 := blk_cell HZ1.out.hr
  have fr2 := blk_frozen HZ1.out.hr
  have fc1 := blk_cell HZ1.out.hc
  have hor := HZ1.out.o1
  have hor2 : w.heap.size < w2.heap.size := by have := HZ1.out.o2; have := HZ1.out.o3; have := HZ1.out.sc.lt; omega
  clear hsz1 hfz1
  have HRR : Hid (cmGet l = cmFin l ((⟨K, 0, 0, 0, [], []⟩ : Cm), a2, e2)) := Lib.hid (by rw [HCM.out, HRD.out])
  generalize hee : scEnd l a2 e2 = ee at *
  have HEE := Lib.hid hee
  clear hee
  by_cases he : ee = 0
  · subst he
    have hmc := mcheck_any (⟨(⟨K, 0, 0, 0, [], []⟩ : Cm), none, 0, 0, none, 0, 0⟩ : CmV) (z1.heap.size) z1 (Nat.le_refl _) (by simp only; omega) (by simp only; omega) HNM.out ⟨Rd.of_own HSP1.out, Rd.of_own HVO1.out⟩
    dsimp only [CmV.val] at hmc
    have HMC := Lib.hid hmc
    clear hmc
    go_wp2_with fail
    refine HMC.out.mono ?_
    rintro e z2 ⟨rfl, hbz2⟩
    have HZ2 := Lib.hid (HZ1.out.below hbz2 HZ1.out.cbl)
    have HSP2 := Lib.hid (own_below HSP1.out hbz2)
    have HVO2 := Lib.hid (own_below HVO1.out hbz2)
    clear hbz2 fr1 fr2 fc1
    have fr1 := blk_cell HZ2.out.hr
    have fr2 := blk_frozen HZ2.out.hr
    have fc1 := blk_cell HZ2.out.hc
    cases hok : Cm.ok (⟨K, 0, 0, 0, [], []⟩ : Cm)
    · have hch : Cm.check (⟨K, 0, 0, 0, [], []⟩ : Cm) = 90 := by unfold Cm.check; rw [hok]; rfl
      rw [hch]
      have HNO : Hid (cmGet l = none) := Lib.hid (by rw [HRR.out, cmFin, if_neg (fun h => by have := h.2; rw [hok] at this; cases this)])
      clear hok
      go_wp2_with fail
      refine bodyPost_ret (v := .tuple #[.agg #[.int .i64 0, .int .i64 0, .int .i64 0, .int .i64 0, .slice none 0 0, .slice none 0 0], .int .i64 90]) (by simp [results, Tryz.results25, go_sem, fr1]) rfl ?_
      rw [HNO.out]
      exact ⟨⟨Cm.zero, none, 0, 0, none, 0, 0⟩, rfl, rfl, World.ownsRow_nil _ _ _ _, World.ownsRow_nil _ _ _ _, HZ2.out.b.trans (Fr.below (S := fun k => k = w.heap.size) (fr_six _ _ _ _ _ _ _ _) HZ2.out.b.size (fun k hk => by omega))⟩
    · have hch : Cm.check (⟨K, 0, 0, 0, [], []⟩ : Cm) = 0 := by unfold Cm.check; rw [hok]; rfl
      rw [hch]
      have HYES : Hid (cmGet l = some (⟨K, 0, 0, 0, [], []⟩ : Cm)) := Lib.hid (by rw [HRR.out, cmFin, if_pos ⟨HEE.out, hok⟩])
      clear hok
      go_wp2_with fail
      refine bodyPost_ret (v := .tuple #[.agg #[.int .i64 K, .int .i64 0, .int .i64 0, .int .i64 0, .slice none 0 0, .slice none 0 0], .int .i64 0]) (by simp [results, Tryz.results25, go_sem, fr1]) rfl ?_
      rw [HYES.out]
      exact ⟨(⟨(⟨K, 0, 0, 0, [], []⟩ : Cm), none, 0, 0, none, 0, 0⟩ : CmV), rfl, rfl, own_le (own_fr (S := fun k => k = w.heap.size) HSP2.out (fr_six _ _ _ _ _ _ _ _) (fun k hk => by omega)) (by omega), own_le (own_fr (S := fun k => k = w.heap.size) HVO2.out (fr_six _ _ _ _ _ _ _ _) (fun k hk => by omega)) (by omega), HZ2.out.b.trans (Fr.below (S := fun k => k = w.heap.size) (fr_six _ _ _ _ _ _ _ _) HZ2.out.b.size (fun k hk => by omega))⟩
  · have hbe : (ee != 0) = true := by simpa using he
    have HNO : Hid (cmGet l = none) := Lib.hid (by rw [HRR.out, cmFin, if_neg (fun h => he (HEE.out.symm.trans h.1))])
    clear he
    go_wp2_with fail
    refine bodyPost_ret (v := .tuple #[.agg #[.int .i64 0, .int .i64 0, .int .i64 0, .int .i64 0, .slice none 0 0, .slice none 0 0], .int .i64 90]) (by simp [results, Tryz.results25, go_sem, fr1]) rfl ?_
    rw [HNO.out]
    exact ⟨⟨Cm.zero, none, 0, 0, none, 0, 0⟩, rfl, rfl, World.ownsRow_nil _ _ _ _, World.ownsRow_nil _ _ _ _, HZ1.out.b.trans (Fr.below (S := fun k => k = w.heap.size) (fr_six _ _ _ _ _ _ _ _) HZ1.out.b.size (fun k hk => by omega))⟩
end Go.Proofs.YtempkjnaahgbhaaGreatDoor
