/-
  The walks of the document's answer for what is found of two views: right, at, equal, unlike, parted. Conditions: views whose entries read as lists, not more than memory bears.
  The walk of the document's answer for what is found of views. Conditions: views whose entries read as lists, not more than memory bears.
  The walk of the law AuditLooks: the Go text answers true. Conditions: what came in reads as lists; the package variable errors.errorType lies as it is laid.
-/
import Derived.Test.YtfjpenbahoeklaaGreatDoorHLook3
import Derived.Test.YtfjpenbahoeklaaGreatDoorHStoreG
import Derived.Test.YtfjpenbahoeklaaGreatDoorHAudL
import Derived.Test.YtfjpenbahoeklaaGreatDoorHMachW
import Derived.Test.YtfjpenbahoeklaaGreatDoorHLaw16a
namespace Go.Proofs.YtfjpenbahoeklaaGreatDoor
open Go Go.RowKit

set_option maxRecDepth 100000 in
set_option maxHeartbeats 1000000 in
theorem rright_any (v : VwV) (w : World) (hl : v.es.length = v.en) (hn : v.en ≤ 140737488355328) :
    Calls Tryz.prog 39 #[v.val] w fun e w' => e = .returned (.bool (rightB v.vw)) ∧ Below w.heap.size w w' := by
  have HB : Hid (∀ o, Below w.heap.size w (w.alloc o)) := Lib.hid (fun o => (Below.refl _ _).alloc (Nat.le_refl _) o)
  obtain ⟨q, hq, hqi⟩ : ∃ q : Bool, rightB v.vw = q ∧ (q = true ↔ 0 ≤ v.ix ∧ v.ix ≤ 1099511627776 ∧ v.ix ≤ v.co ∧ v.co ≤ 1099511627776 ∧ v.co - v.ix ≤ v.en) :=
    ⟨_, rfl, by unfold rightB VwV.vw; simp only [Bool.and_eq_true, decide_eq_true_eq, List.length_map, hl, and_assoc]⟩
  rw [hq]
  obtain ⟨id, ro, le, ht, hv, co, ix, te, vA, vn, vc, eA, en, ec, es⟩ := v
  dsimp only [VwV.val] at *
  have HQ := Lib.hid hqi
  clear hq hqi hl
  by_cases h1 : 0 ≤ ix
  · by_cases h2 : ix ≤ 1099511627776
    · by_cases h3 : ix ≤ co
      · by_cases h4 : co ≤ 1099511627776
        · by_cases h5 : co ≤ ix + en
          · obtain rfl : q = true := HQ.out.2 ⟨h1, h2, h3, h4, by omega⟩
            go_enter Tryz.func39, Tryz.ntmps39
            go_wp2_with fail
            go_ret
            exact ⟨rfl, HB.out _⟩
          · obtain rfl : q = false := by
              cases q
              · rfl
              · have := HQ.out.1 rfl; omega
            go_enter Tryz.func39, Tryz.ntmps39
            go_wp2_with fail
            go_ret
            exact ⟨rfl, HB.out _⟩
        · obtain rfl : q = false := by
            cases q
            · rfl
            · have := HQ.out.1 rfl; omega
          go_enter Tryz.func39, Tryz.ntmps39
          go_wp2_with fail
          go_ret
          exact ⟨rfl, HB.out _⟩
      · obtain rfl : q = false := by
          cases q
          · rfl
          · have := HQ.out.1 rfl; omega
        go_enter Tryz.func39, Tryz.ntmps39
        go_wp2_with fail
        go_ret
        exact ⟨rfl, HB.out _⟩
    · obtain rfl : q = false := by
        cases q
        · rfl
        · have := HQ.out.1 rfl; omega
      go_enter Tryz.func39, Tryz.ntmps39
      go_wp2_with fail
      go_ret
      exact ⟨rfl, HB.out _⟩
  · obtain rfl : q = false := by
      cases q
      · rfl
      · have := HQ.out.1 rfl; omega
    go_enter Tryz.func39, Tryz.ntmps39
    go_wp2_with fail
    go_ret
    exact ⟨rfl, HB.out _⟩

set_option maxRecDepth 100000 in
set_option maxHeartbeats 1000000 in
theorem requal_any (a b : EnV) (B : Nat) (w : World) (hB : B ≤ w.heap.size) (ha : RdB w B a.A a.n a.da) (hb : RdB w B b.A b.n b.da) :
    Calls Tryz.prog 64 #[a.val, b.val] w fun e w' => e = .returned (.bool (sameE a.en b.en)) ∧ Below w.heap.size w w' := by
  have HB : Hid (∀ o p, Below w.heap.size w ((w.alloc o).alloc p)) := Lib.hid (fun o p => ((Below.refl _ _).alloc (Nat.le_refl _) o).alloc (by simp) p)
  have HCA : Hid (∀ W, Below w.heap.size w W → (convert 73 9 (.slice a.A a.n a.c)).run Tryz.prog W = .ok (.string ⟨a.da.toArray⟩) W) := Lib.hid (fun W hW => run_conv_bs Tryz.underlying73 Tryz.underlying5 Tryz.underlying9 (Rd.below' ha hW hB (Nat.le_refl _)) a.c)
  have HCB : Hid (∀ W, Below w.heap.size w W → (convert 73 9 (.slice b.A b.n b.c)).run Tryz.prog W = .ok (.string ⟨b.da.toArray⟩) W) := Lib.hid (fun W hW => run_conv_bs Tryz.underlying73 Tryz.underlying5 Tryz.underlying9 (Rd.below' hb hW hB (Nat.le_refl _)) b.c)
  obtain ⟨q, hq, hqi⟩ : ∃ q : Bool, sameE a.en b.en = q ∧ (q = true ↔ a.ix = b.ix ∧ a.te = b.te ∧ a.da = b.da) := ⟨_, rfl, sameE_iff⟩
  rw [hq]
  obtain ⟨ix, te, A, n, c, da⟩ := a
  obtain ⟨ix2, te2, A2, n2, c2, da2⟩ := b
  dsimp only [EnV.val] at *
  have HQ := Lib.hid hqi
  clear hq hqi ha hb
  by_cases h1 : ix = ix2
  · by_cases h2 : te = te2
    · subst h1
      subst h2
      by_cases h3 : da = da2
      · obtain rfl : q = true := HQ.out.2 ⟨rfl, rfl, h3⟩
        subst h3
        have hca := HCA.out _ (HB.out (.cells #[.int .i64 ix, .int .i64 te, .slice A n c] 75 (0, 0)) (.cells #[.int .i64 ix, .int .i64 te, .slice A2 n2 c2] 75 (0, 0)))
        have hcb := HCB.out _ (HB.out (.cells #[.int .i64 ix, .int .i64 te, .slice A n c] 75 (0, 0)) (.cells #[.int .i64 ix, .int .i64 te, .slice A2 n2 c2] 75 (0, 0)))
        go_enter Tryz.func64, Tryz.ntmps64
        go_wp2_with fail
        go_ret
        exact ⟨rfl, HB.out _ _⟩
      · obtain rfl : q = false := by
          cases q
          · rfl
          · exact absurd (HQ.out.1 rfl).2.2 h3
        have hca := HCA.out _ (HB.out (.cells #[.int .i64 ix, .int .i64 te, .slice A n c] 75 (0, 0)) (.cells #[.int .i64 ix, .int .i64 te, .slice A2 n2 c2] 75 (0, 0)))
        have hcb := HCB.out _ (HB.out (.cells #[.int .i64 ix, .int .i64 te, .slice A n c] 75 (0, 0)) (.cells #[.int .i64 ix, .int .i64 te, .slice A2 n2 c2] 75 (0, 0)))
        have h3b : (da == da2) = false := by simpa using h3
        go_enter Tryz.func64, Tryz.ntmps64
        go_wp2_with fail
        go_ret
        exact ⟨rfl, HB.out _ _⟩
    · obtain rfl : q = false := by
        cases q
        · rfl
        · exact absurd (HQ.out.1 rfl).2.1 h2
      go_enter Tryz.func64, Tryz.ntmps64
      go_wp2_with fail
      go_ret
      exact ⟨rfl, HB.out _ _⟩
  · obtain rfl : q = false := by
      cases q
      · rfl
      · exact absurd (HQ.out.1 rfl).1 h1
    go_enter Tryz.func64, Tryz.ntmps64
    go_wp2_with fail
    go_ret
    exact ⟨rfl, HB.out _ _⟩

set_option maxRecDepth 100000 in
set_option maxHeartbeats 1000000 in
theorem rat_out (v : VwV) (i : Int) (w : World) (hl : v.es.length = v.en) (hn : v.en ≤ 140737488355328) (hx0 : 0 ≤ v.ix) (hx1 : v.ix ≤ 1099511627776) (hi : i ≤ v.ix ∨ ((v.en : Int) < i - v.ix ∧ i ≤ 200000000000000)) :
    Calls Tryz.prog 63 #[v.val, .int .i64 i] w fun e w' => e = .returned (.tuple #[.agg #[.int .i64 0, .int .i64 0, .slice none 0 0], .bool false]) ∧ Below w.heap.size w w' := by
  have HB : Hid (∀ o p, Below w.heap.size w ((w.alloc o).alloc p)) := Lib.hid (fun o p => ((Below.refl w.heap.size w).alloc (Nat.le_refl _) o).alloc (by simp) p)
  obtain ⟨id, ro, le, ht, hv, co, ix, te, vA, vn, vc, eA, en, ec, es⟩ := v
  dsimp only [VwV.val] at *
  clear hl
  by_cases h1 : i ≤ ix
  · clear hi
    go_enter Tryz.func63, Tryz.ntmps63
    go_wp2_with fail
    refine bodyPost_ret (v := .tuple #[.agg #[.int .i64 0, .int .i64 0, .slice none 0 0], .bool false]) (by simp [results, Tryz.results63, go_sem]) rfl ⟨rfl, HB.out _ _⟩
  · have h2 : (en : Int) < i - ix := by omega
    have h1b : decide (i ≤ ix) = false := decide_eq_false h1
    have h3 : i ≤ 200000000000000 := by omega
    clear hi
    go_enter Tryz.func63, Tryz.ntmps63
    go_wp2_with fail
    refine bodyPost_ret (v := .tuple #[.agg #[.int .i64 0, .int .i64 0, .slice none 0 0], .bool false]) (by simp [results, Tryz.results63, go_sem]) rfl ⟨rfl, HB.out _ _⟩
set_option maxRecDepth 100000 in
set_option maxHeartbeats 1000000 in
theorem rat_in (v : VwV) (i : Int) (j : Nat) (B : Nat) (w : World) (hB : B ≤ w.heap.size) (hr : RdEn w B v.eA v.en v.es) (hn : v.en ≤ 140737488355328) (hx0 : 0 ≤ v.ix) (hx1 : v.ix ≤ 1099511627776) (hj : j < v.es.length) (hi : i = v.ix + j + 1) :
    Calls Tryz.prog 63 #[v.val, .int .i64 i] w fun e w' => e = .returned (.tuple #[(v.es[j]).val, .bool true]) ∧ Below w.heap.size w w' := by
  have hl := hr.len
  have HB : Hid (∀ o p, Below w.heap.size w ((w.alloc o).alloc p)) := Lib.hid (fun o p => ((Below.refl w.heap.size w).alloc (Nat.le_refl _) o).alloc (by simp) p)
  obtain ⟨eb, off, hA, heb, x0, x1, x2, _⟩ := hr.at_ hj
  have hebw : eb < w.heap.size := by omega
  have HC : Hid (∀ W, Below w.heap.size w W → W.cell? ⟨eb, off + j * 3, none⟩ = some (.int .i64 (v.es[j]).ix) ∧ W.cell? ⟨eb, off + j * 3 + 1, none⟩ = some (.int .i64 (v.es[j]).te) ∧ W.cell? ⟨eb, off + j * 3 + 2, none⟩ = some (.slice (v.es[j]).A (v.es[j]).n (v.es[j]).c)) := Lib.hid (fun W hW => ⟨(hW.cell (p := ⟨eb, off + j * 3, none⟩) hebw).trans x0, (hW.cell (p := ⟨eb, off + j * 3 + 1, none⟩) hebw).trans x1, (hW.cell (p := ⟨eb, off + j * 3 + 2, none⟩) hebw).trans x2⟩)
  have hd := HC.out _ (((Below.refl w.heap.size w).alloc (Nat.le_refl _) (.cells #[.int .i64 v.id, .int .i64 v.ro, .int .i64 v.le, .int .i64 v.ht, .int .i64 v.hv, .int .i64 v.co, .int .i64 v.ix, .int .i64 v.te, .slice v.vA v.vn v.vc, .slice v.eA v.en v.ec] 59 (0, 0))).alloc (by simp) (.cells #[.int .i64 0, .int .i64 0, .slice none 0 0] 75 (0, 0)))
  obtain ⟨d0, d1, d2⟩ := hd
  clear hr x0 x1 x2
  generalize v.es[j] = y at *
  obtain ⟨yi, yt, yA, yn, yc, yd⟩ := y
  obtain ⟨id, ro, le, ht, hv, co, ix, te, vA, vn, vc, eA, en, ec, es⟩ := v
  dsimp only [VwV.val, EnV.val] at *
  subst hA
  subst hi
  have h1b : decide (ix + (j : Int) + 1 ≤ ix) = false := decide_eq_false (by omega)
  have h2b : decide ((en : Int) < (j : Int) + 1) = false := decide_eq_false (by omega)
  have e1 : ix + (j : Int) + 1 - ix = (j : Int) + 1 := by omega
  have hj0 : (0 : Int) ≤ (j : Int) := by omega
  have hj1 : (j : Int) < (en : Int) := by omega
  clear hl hj
  go_enter Tryz.func63, Tryz.ntmps63
  go_wp2_with fail
  refine bodyPost_ret (v := .tuple #[.agg #[.int .i64 yi, .int .i64 yt, .slice yA yn yc], .bool true]) (by simp [results, Tryz.results63, go_sem]) rfl ⟨rfl, HB.out _ _⟩
set_option maxRecDepth 100000 in
set_option maxHeartbeats 4000000 in
theorem unlike_any {w : World} (a b : VwV) (B : Nat) (hB : B ≤ w.heap.size) (ha : RdEn w B a.eA a.en a.es) (hb : RdEn w B b.eA b.en b.es) (hna : a.en ≤ 140737488355328) (hnb : b.en ≤ 140737488355328) (hra : rightB a.vw = true) (hrb : rightB b.vw = true) :
    Calls Tryz.prog 40 #[a.val, b.val] w fun e w' => e = .returned (.bool (pairB a.vw b.vw qTerm)) ∧ Below w.heap.size w w' := by
  have hla := ha.len
  have hlb := hb.len
  obtain ⟨hax0, hax1⟩ : 0 ≤ a.ix ∧ a.ix ≤ 1099511627776 := by
    unfold rightB VwV.vw at hra
    simp only [Bool.and_eq_true, decide_eq_true_eq] at hra
    exact ⟨hra.1.1.1.1, hra.1.1.1.2⟩
  obtain ⟨hbx0, hbx1⟩ : 0 ≤ b.ix ∧ b.ix ≤ 1099511627776 := by
    unfold rightB VwV.vw at hrb
    simp only [Bool.and_eq_true, decide_eq_true_eq] at hrb
    exact ⟨hrb.1.1.1.1, hrb.1.1.1.2⟩
  clear hra hrb
  obtain ⟨r, hr⟩ : ∃ r, pairB a.vw b.vw qTerm = r := ⟨_, rfl⟩
  rw [hr]
  have HR := Lib.hid hr
  have HUN : Hid (∀ k, k < a.es.length → ∀ j : Nat, a.ix - b.ix + k = j → (hj : j < b.es.length) → unB a.vw b.vw qTerm k = (qTerm (a.ix + k + 1) (a.vw.es.getD k default) (b.es[j]).en && !sameE (a.vw.es.getD k default) (b.es[j]).en)) := Lib.hid (fun k hk j h hj => by
    rw [unB_in (a := a.vw) (b := b.vw) h (by simpa [VwV.vw] using hj), show b.vw.es.getD j default = (b.es[j]).en from getD_en hj]; rfl)
  have HUA : Hid (∀ k, (hk : k < a.es.length) → a.vw.es.getD k default = (a.es[k]).en) := Lib.hid (fun k hk => getD_en hk)
  have HUO : Hid (∀ k : Nat, (a.ix - b.ix + k < 0 ∨ (b.es.length : Int) ≤ a.ix - b.ix + k) → unB a.vw b.vw qTerm k = false) := Lib.hid (fun k h => unB_out (by simpa [VwV.vw] using h))
  have HPT : Hid (∀ k, k < a.es.length → unB a.vw b.vw qTerm k = true → r = true) := Lib.hid (fun k hk h => hr ▸ pairB_t (by simpa [VwV.vw] using hk) h)
  have HEND : Hid ((List.range a.es.length).any (unB a.vw b.vw qTerm) = r) := Lib.hid (by rw [← hr]; simp [pairB, VwV.vw])
  generalize hW0 : (w.alloc (.cells a.cells.toArray 59 (0, 0))).alloc (.cells b.cells.toArray 59 (0, 0)) = W0
  have hz0 : W0.heap.size = w.heap.size + 2 := by rw [← hW0]; simp
  have hb0 : Below w.heap.size w W0 := by rw [← hW0]; exact ((Below.refl _ _).alloc (Nat.le_refl _) _).alloc (by simp) _
  have hc0 : W0.heap[w.heap.size]? = some (.cells a.cells.toArray 59 (0, 0)) := by
    rw [← hW0]
    exact (Below.heap_alloc _ _ _ (by simp)).trans (heap_alloc_new w _)
  have hc1 : W0.heap[w.heap.size + 1]? = some (.cells b.cells.toArray 59 (0, 0)) := by
    rw [← hW0]
    exact heap_at (by simp)
  have HX : Hid (∀ W, Below (w.heap.size + 2) W0 W → Below w.heap.size w W ∧ w.heap.size + 2 ≤ W.heap.size ∧ (∀ j, W.cell? ⟨w.heap.size, j, none⟩ = (a.cells.toArray)[j]?) ∧ (∀ j, W.cell? ⟨w.heap.size + 1, j, none⟩ = (b.cells.toArray)[j]?) ∧ RdEn W B a.eA a.en a.es ∧ RdEn W B b.eA b.en b.es) := Lib.hid (fun W hW => by
    have hz := hW.size
    have hb1 : Below w.heap.size w W := hb0.trans (hW.mono (by omega))
    exact ⟨hb1, by omega, blk_cell ((hW.block _ (by omega)).trans hc0), blk_cell ((hW.block _ (by omega)).trans hc1), ha.below hb1 hB, hb.below hb1 hB⟩)
  have HB0 : Hid (Below (w.heap.size + 2) W0 W0) := Lib.hid (Below.refl _ _)
  have HW0 := Lib.hid hW0
  clear hW0 hb0 hc0 hc1 ha hb hr
  obtain ⟨id, ro, le, ht, hv, co, ix, te, vA, vn, vc, eA, en, ec, es⟩ := a
  obtain ⟨id2, ro2, le2, ht2, hv2, co2, ix2, te2, vA2, vn2, vc2, eA2, en2, ec2, es2⟩ := b
  dsimp only [VwV.val, VwV.cells] at *
  subst hla
  subst hlb
  go_enter Tryz.func40, Tryz.ntmps40
  have f0 := HX.out W0 (Below.refl _ _)
  rw [← HW0.out] at f0
  obtain ⟨_, _, fa, fb, _, _⟩ := f0
  go_wp2_with fail
  clear fa fb
  go_loopw [12] (fun i wr => ∃ k : Nat, k ≤ es.length ∧ i = .int .i64 k ∧ (List.range k).any (unB (VwV.vw ⟨id, ro, le, ht, hv, co, ix, te, vA, vn, vc, eA, es.length, ec, es⟩) (VwV.vw ⟨id2, ro2, le2, ht2, hv2, co2, ix2, te2, vA2, vn2, vc2, eA2, es2.length, ec2, es2⟩) qTerm) = false ∧ Below (w.heap.size + 2) W0 wr) (fun i _ => es.length - (intOf i).toNat)
  case atStart => exact ⟨0, by omega, rfl, rfl, by rw [HW0.out]; exact HB0.out⟩
  case round =>
    obtain ⟨k, hk, rfl, hany, hwr⟩ := hrel
    have HANY := Lib.hid hany
    have HWR := Lib.hid hwr
    obtain ⟨_, hzr, _, _, hrda, hrdb⟩ := HX.out wr hwr
    have HZR := Lib.hid hzr
    have HRDB := Lib.hid hrdb
    clear hany hwr
    by_cases hlt : k < es.length
    · obtain ⟨eb, off, rfl, heb, x0, x1, x2, hxr⟩ := hrda.at_ hlt
      have hk1 : (k : Int) < es.length := by omega
      have HUA1 := Lib.hid (HUA.out k hlt)
      have HUN1 := Lib.hid (HUN.out k hlt)
      have HUO1 := Lib.hid (HUO.out k)
      have HPT1 := Lib.hid (HPT.out k hlt)
      have HXR := Lib.hid hxr
      have hebl := lt_of_cell x0
      have HEC : Hid (∀ W, Below wr.heap.size wr W → W.cell? ⟨eb, off + k * 3, none⟩ = some (.int .i64 (es[k]).ix) ∧ W.cell? ⟨eb, off + k * 3 + 1, none⟩ = some (.int .i64 (es[k]).te) ∧ W.cell? ⟨eb, off + k * 3 + 2, none⟩ = some (.slice (es[k]).A (es[k]).n (es[k]).c)) := Lib.hid (fun W hW => ⟨(hW.cell (p := ⟨eb, off + k * 3, none⟩) hebl).trans x0, (hW.cell (p := ⟨eb, off + k * 3 + 1, none⟩) hebl).trans x1, (hW.cell (p := ⟨eb, off + k * 3 + 2, none⟩) hebl).trans x2⟩)
      clear hxr
      generalize es[k] = x at *
      obtain ⟨xi, xt, xA, xn, xc, xd⟩ := x
      dsimp only at *
      have HVW : Hid (∀ W, Below wr.heap.size wr W → Below w.heap.size w W ∧ (∀ j, W.cell? ⟨w.heap.size, j, none⟩ = (#[.int .i64 id, .int .i64 ro, .int .i64 le, .int .i64 ht, .int .i64 hv, .int .i64 co, .int .i64 ix, .int .i64 te, .slice vA vn vc, .slice (some ⟨eb, off, none⟩) es.length ec] : Array Value)[j]?) ∧ (∀ j, W.cell? ⟨w.heap.size + 1, j, none⟩ = (#[.int .i64 id2, .int .i64 ro2, .int .i64 le2, .int .i64 ht2, .int .i64 hv2, .int .i64 co2, .int .i64 ix2, .int .i64 te2, .slice vA2 vn2 vc2, .slice eA2 es2.length ec2] : Array Value)[j]?) ∧ RdEn W B eA2 es2.length es2) := Lib.hid (fun W hW => by
        have h := HX.out W (HWR.out.trans (hW.mono hzr))
        exact ⟨h.1, h.2.2.1, h.2.2.2.1, h.2.2.2.2.2⟩)
      obtain ⟨d, hd⟩ : ∃ d : Int, ix - ix2 + (k : Int) = d := ⟨_, rfl⟩
      have HD := Lib.hid hd
      have HS1 : Hid (ix + (k : Int) + 1 = ix2 + d + 1) := Lib.hid (by omega)
      have fv := HVW.out wr (Below.refl _ _)
      obtain ⟨_, fv1, fv2, _⟩ := fv
      have HBX : Hid (Below wr.heap.size wr (wr.alloc (.cells #[.int .i64 xi, .int .i64 xt, .slice xA xn xc] 75 (0, 0)))) := Lib.hid ((Below.refl _ _).alloc (Nat.le_refl _) _)
      have fx := HVW.out _ HBX.out
      obtain ⟨_, fx1, fx2, _⟩ := fx
      by_cases hout : d < 0 ∨ (es2.length : Int) ≤ d
      · have HUF := Lib.hid (HUO1.out (by rw [HD.out]; exact hout))
        have HAT : Hid (∀ W, Below wr.heap.size wr W → Calls Tryz.prog 63 #[.agg #[.int .i64 id2, .int .i64 ro2, .int .i64 le2, .int .i64 ht2, .int .i64 hv2, .int .i64 co2, .int .i64 ix2, .int .i64 te2, .slice vA2 vn2 vc2, .slice eA2 es2.length ec2], .int .i64 (ix + (k : Int) + 1)] W fun e w' => e = .returned (.tuple #[.agg #[.int .i64 0, .int .i64 0, .slice none 0 0], .bool false]) ∧ Below W.heap.size W w') := Lib.hid (fun W hW =>
          rat_out ⟨id2, ro2, le2, ht2, hv2, co2, ix2, te2, vA2, vn2, vc2, eA2, es2.length, ec2, es2⟩ (ix + (k : Int) + 1) W (HVW.out W hW).2.2.2.len (by simp only; omega) (by simp only; omega) (by simp only; omega) (by simp only; omega))
        clear hd hout
        go_wp2_with fail
        refine (HAT.out _ HBX.out).mono ?_
        rintro e w2 ⟨rfl, hb2⟩
        have HB2 : Hid (Below wr.heap.size wr w2) := Lib.hid (HBX.out.trans (hb2.mono (by simp)))
        clear hb2 fx1 fx2 fv1 fv2
        go_wp2_with fail
        go_roundw
        case rel => exact ⟨k + 1, by omega, by go_num, by rw [unB_all_succ, HANY.out, HUF.out]; rfl, HWR.out.trans (((HB2.out.alloc HB2.out.size _)).mono HZR.out)⟩
        case measure => simp [intOf]; omega
      · obtain ⟨j, rfl⟩ : ∃ j : Nat, d = (j : Int) := ⟨d.toNat, by omega⟩
        have hjl : j < es2.length := by omega
        have HUY := Lib.hid (HUN1.out j hd hjl)
        have HAT : Hid (∀ W, Below wr.heap.size wr W → Calls Tryz.prog 63 #[.agg #[.int .i64 id2, .int .i64 ro2, .int .i64 le2, .int .i64 ht2, .int .i64 hv2, .int .i64 co2, .int .i64 ix2, .int .i64 te2, .slice vA2 vn2 vc2, .slice eA2 es2.length ec2], .int .i64 (ix + (k : Int) + 1)] W fun e w' => e = .returned (.tuple #[(es2[j]).val, .bool true]) ∧ Below W.heap.size W w') := Lib.hid (fun W hW =>
          rat_in ⟨id2, ro2, le2, ht2, hv2, co2, ix2, te2, vA2, vn2, vc2, eA2, es2.length, ec2, es2⟩ (ix + (k : Int) + 1) j B W (by have := hW.size; omega) (HVW.out W hW).2.2.2 (by simp only; omega) (by simp only; omega) (by simp only; omega) hjl (by simp only; omega))
        have HYR : Hid (RdB wr B (es2[j]).A (es2[j]).n (es2[j]).da) := Lib.hid ((HVW.out wr (Below.refl _ _)).2.2.2.2 _ (List.getElem_mem hjl))
        clear hd hout
        generalize es2[j] = y at *
        obtain ⟨yi, yt, yA, yn, yc, yd⟩ := y
        dsimp only [EnV.val] at *
        have HUY1 : Hid (unB _ _ qTerm k = (qTerm (ix + (k : Int) + 1) (EnV.en ⟨xi, xt, xA, xn, xc, xd⟩) (EnV.en ⟨yi, yt, yA, yn, yc, yd⟩) && !sameE (EnV.en ⟨xi, xt, xA, xn, xc, xd⟩) (EnV.en ⟨yi, yt, yA, yn, yc, yd⟩))) := Lib.hid (by have h := HUY.out; rw [HUA1.out] at h; exact h)
        go_wp2_with fail
        refine (HAT.out _ HBX.out).mono ?_
        rintro e w2 ⟨rfl, hb2⟩
        have HB2 : Hid (Below wr.heap.size wr w2) := Lib.hid (HBX.out.trans (hb2.mono (by simp)))
        have hz2 := HB2.out.size
        obtain ⟨qt, hqt, hqti⟩ : ∃ qt : Bool, qTerm (ix + (k : Int) + 1) (EnV.en ⟨xi, xt, xA, xn, xc, xd⟩) (EnV.en ⟨yi, yt, yA, yn, yc, yd⟩) = qt ∧ (qt = true ↔ xt = yt) := ⟨_, rfl, by unfold qTerm EnV.en; exact decide_eq_true_iff⟩
        have HQT := Lib.hid hqt
        have HQTI := Lib.hid hqti
        clear hqt hqti
        have HX2 : Hid (∀ W, Below w2.heap.size w2 W → (∀ j, W.cell? ⟨wr.heap.size, j, none⟩ = (#[.int .i64 xi, .int .i64 xt, .slice xA xn xc] : Array Value)[j]?)) := Lib.hid (fun W hW => blk_cell ((hW.block _ (by have h := hb2.size; simp at h; omega)).trans ((hb2.block _ (by simp)).trans (heap_at rfl))))
        have f6 := HX2.out _ ((Below.refl w2.heap.size w2).alloc (Nat.le_refl _) (.cells #[.int .i64 yi, .int .i64 yt, .slice yA yn yc] 75 (0, 0)))
        have f6b := HX2.out w2 (Below.refl _ _)
        clear hb2 fx1 fx2 fv1 fv2
        have HB3 : Hid (Below wr.heap.size wr (w2.alloc (.cells #[.int .i64 yi, .int .i64 yt, .slice yA yn yc] 75 (0, 0)))) := Lib.hid (HB2.out.alloc hz2 _)
        have HEQ : Hid (∀ W, Below wr.heap.size wr W → Calls Tryz.prog 64 #[.agg #[.int .i64 xi, .int .i64 xt, .slice xA xn xc], .agg #[.int .i64 yi, .int .i64 yt, .slice yA yn yc]] W fun e w' => e = .returned (.bool (sameE (EnV.en ⟨xi, xt, xA, xn, xc, xd⟩) (EnV.en ⟨yi, yt, yA, yn, yc, yd⟩))) ∧ Below W.heap.size W w') := Lib.hid (fun W hW =>
          requal_any ⟨xi, xt, xA, xn, xc, xd⟩ ⟨yi, yt, yA, yn, yc, yd⟩ B W (by have := hW.size; omega) (Rd.below' HXR.out hW (by omega) (Nat.le_refl _)) (Rd.below' HYR.out hW (by omega) (Nat.le_refl _)))
        cases qt
        · have hte : (xt == yt) = false := by
            have : ¬ xt = yt := fun h => by have := HQTI.out.2 h; cases this
            simpa using this
          have HUF : Hid (unB (VwV.vw ⟨id, ro, le, ht, hv, co, ix, te, vA, vn, vc, (some ⟨eb, off, none⟩), es.length, ec, es⟩) (VwV.vw ⟨id2, ro2, le2, ht2, hv2, co2, ix2, te2, vA2, vn2, vc2, eA2, es2.length, ec2, es2⟩) qTerm k = false) := Lib.hid (by rw [HUY1.out, HQT.out]; rfl)
          go_wp2_with fail
          go_roundw
          case rel => exact ⟨k + 1, by omega, by go_num, by rw [unB_all_succ, HANY.out, HUF.out]; rfl, HWR.out.trans (HB3.out.mono HZR.out)⟩
          case measure => simp [intOf]; omega
        · obtain rfl := HQTI.out.1 rfl
          go_wp2_with fail
          refine (HEQ.out _ HB3.out).mono ?_
          rintro e w4 ⟨rfl, hb4⟩
          have HB4 : Hid (Below wr.heap.size wr w4) := Lib.hid (HB3.out.trans (hb4.mono HB3.out.size))
          clear hb4 f6 f6b
          cases hse : sameE (EnV.en ⟨xi, xt, xA, xn, xc, xd⟩) (EnV.en ⟨yi, xt, yA, yn, yc, yd⟩) with
          | true =>
            have HUF : Hid (unB (VwV.vw ⟨id, ro, le, ht, hv, co, ix, te, vA, vn, vc, (some ⟨eb, off, none⟩), es.length, ec, es⟩) (VwV.vw ⟨id2, ro2, le2, ht2, hv2, co2, ix2, te2, vA2, vn2, vc2, eA2, es2.length, ec2, es2⟩) qTerm k = false) := Lib.hid (by rw [HUY1.out, hse]; simp)
            clear hse
            go_wp2_with fail
            go_roundw
            case rel => exact ⟨k + 1, by omega, by go_num, by rw [unB_all_succ, HANY.out, HUF.out]; rfl, HWR.out.trans (HB4.out.mono HZR.out)⟩
            case measure => simp [intOf]; omega
          | false =>
            obtain rfl : r = true := HPT1.out (by rw [HUY1.out, HQT.out, hse]; rfl)
            clear hse
            go_wp2_with fail
            go_ret
            exact ⟨rfl, (HX.out _ (HWR.out.trans (HB4.out.mono HZR.out))).1⟩
    · have hke : k = es.length := by omega
      obtain rfl : r = false := by
        have h1 := HANY.out
        rw [hke] at h1
        exact HEND.out.symm.trans h1
      go_wp2_with fail
      go_ret
      exact ⟨rfl, (HX.out _ HWR.out).1⟩
set_option maxRecDepth 100000 in
set_option maxHeartbeats 4000000 in
theorem parted_any {w : World} (a b : VwV) (B : Nat) (hB : B ≤ w.heap.size) (ha : RdEn w B a.eA a.en a.es) (hb : RdEn w B b.eA b.en b.es) (hna : a.en ≤ 140737488355328) (hnb : b.en ≤ 140737488355328) (hra : rightB a.vw = true) (hrb : rightB b.vw = true) :
    Calls Tryz.prog 41 #[a.val, b.val] w fun e w' => e = .returned (.bool (pairB a.vw b.vw (qBoth a.vw b.vw))) ∧ Below w.heap.size w w' := by
  have hla := ha.len
  have hlb := hb.len
  obtain ⟨hax0, hax1⟩ : 0 ≤ a.ix ∧ a.ix ≤ 1099511627776 := by
    unfold rightB VwV.vw at hra
    simp only [Bool.and_eq_true, decide_eq_true_eq] at hra
    exact ⟨hra.1.1.1.1, hra.1.1.1.2⟩
  obtain ⟨hbx0, hbx1⟩ : 0 ≤ b.ix ∧ b.ix ≤ 1099511627776 := by
    unfold rightB VwV.vw at hrb
    simp only [Bool.and_eq_true, decide_eq_true_eq] at hrb
    exact ⟨hrb.1.1.1.1, hrb.1.1.1.2⟩
  clear hra hrb
  obtain ⟨r, hr⟩ : ∃ r, pairB a.vw b.vw (qBoth a.vw b.vw) = r := ⟨_, rfl⟩
  rw [hr]
  have HR := Lib.hid hr
  have HUN : Hid (∀ k, k < a.es.length → ∀ j : Nat, a.ix - b.ix + k = j → (hj : j < b.es.length) → unB a.vw b.vw (qBoth a.vw b.vw) k = ((qBoth a.vw b.vw) (a.ix + k + 1) (a.vw.es.getD k default) (b.es[j]).en && !sameE (a.vw.es.getD k default) (b.es[j]).en)) := Lib.hid (fun k hk j h hj => by
    rw [unB_in (a := a.vw) (b := b.vw) h (by simpa [VwV.vw] using hj), show b.vw.es.getD j default = (b.es[j]).en from getD_en hj]; rfl)
  have HUA : Hid (∀ k, (hk : k < a.es.length) → a.vw.es.getD k default = (a.es[k]).en) := Lib.hid (fun k hk => getD_en hk)
  have HUO : Hid (∀ k : Nat, (a.ix - b.ix + k < 0 ∨ (b.es.length : Int) ≤ a.ix - b.ix + k) → unB a.vw b.vw (qBoth a.vw b.vw) k = false) := Lib.hid (fun k h => unB_out (by simpa [VwV.vw] using h))
  have HPT : Hid (∀ k, k < a.es.length → unB a.vw b.vw (qBoth a.vw b.vw) k = true → r = true) := Lib.hid (fun k hk h => hr ▸ pairB_t (by simpa [VwV.vw] using hk) h)
  have HEND : Hid ((List.range a.es.length).any (unB a.vw b.vw (qBoth a.vw b.vw)) = r) := Lib.hid (by rw [← hr]; simp [pairB, VwV.vw])
  generalize hW0 : (w.alloc (.cells a.cells.toArray 59 (0, 0))).alloc (.cells b.cells.toArray 59 (0, 0)) = W0
  have hz0 : W0.heap.size = w.heap.size + 2 := by rw [← hW0]; simp
  have hb0 : Below w.heap.size w W0 := by rw [← hW0]; exact ((Below.refl _ _).alloc (Nat.le_refl _) _).alloc (by simp) _
  have hc0 : W0.heap[w.heap.size]? = some (.cells a.cells.toArray 59 (0, 0)) := by
    rw [← hW0]
    exact (Below.heap_alloc _ _ _ (by simp)).trans (heap_alloc_new w _)
  have hc1 : W0.heap[w.heap.size + 1]? = some (.cells b.cells.toArray 59 (0, 0)) := by
    rw [← hW0]
    exact heap_at (by simp)
  have HX : Hid (∀ W, Below (w.heap.size + 2) W0 W → Below w.heap.size w W ∧ w.heap.size + 2 ≤ W.heap.size ∧ (∀ j, W.cell? ⟨w.heap.size, j, none⟩ = (a.cells.toArray)[j]?) ∧ (∀ j, W.cell? ⟨w.heap.size + 1, j, none⟩ = (b.cells.toArray)[j]?) ∧ RdEn W B a.eA a.en a.es ∧ RdEn W B b.eA b.en b.es) := Lib.hid (fun W hW => by
    have hz := hW.size
    have hb1 : Below w.heap.size w W := hb0.trans (hW.mono (by omega))
    exact ⟨hb1, by omega, blk_cell ((hW.block _ (by omega)).trans hc0), blk_cell ((hW.block _ (by omega)).trans hc1), ha.below hb1 hB, hb.below hb1 hB⟩)
  have HB0 : Hid (Below (w.heap.size + 2) W0 W0) := Lib.hid (Below.refl _ _)
  have HW0 := Lib.hid hW0
  clear hW0 hb0 hc0 hc1 ha hb hr
  obtain ⟨id, ro, le, ht, hv, co, ix, te, vA, vn, vc, eA, en, ec, es⟩ := a
  obtain ⟨id2, ro2, le2, ht2, hv2, co2, ix2, te2, vA2, vn2, vc2, eA2, en2, ec2, es2⟩ := b
  dsimp only [VwV.val, VwV.cells] at *
  subst hla
  subst hlb
  go_enter Tryz.func41, Tryz.ntmps41
  have f0 := HX.out W0 (Below.refl _ _)
  rw [← HW0.out] at f0
  obtain ⟨_, _, fa, fb, _, _⟩ := f0
  go_wp2_with fail
  clear fa fb
  go_loopw [12] (fun i wr => ∃ k : Nat, k ≤ es.length ∧ i = .int .i64 k ∧ (List.range k).any (unB (VwV.vw ⟨id, ro, le, ht, hv, co, ix, te, vA, vn, vc, eA, es.length, ec, es⟩) (VwV.vw ⟨id2, ro2, le2, ht2, hv2, co2, ix2, te2, vA2, vn2, vc2, eA2, es2.length, ec2, es2⟩) (qBoth (VwV.vw ⟨id, ro, le, ht, hv, co, ix, te, vA, vn, vc, eA, es.length, ec, es⟩) (VwV.vw ⟨id2, ro2, le2, ht2, hv2, co2, ix2, te2, vA2, vn2, vc2, eA2, es2.length, ec2, es2⟩))) = false ∧ Below (w.heap.size + 2) W0 wr) (fun i _ => es.length - (intOf i).toNat)
  case atStart => exact ⟨0, by omega, rfl, rfl, by rw [HW0.out]; exact HB0.out⟩
  case round =>
    obtain ⟨k, hk, rfl, hany, hwr⟩ := hrel
    have HANY := Lib.hid hany
    have HWR := Lib.hid hwr
    obtain ⟨_, hzr, _, _, hrda, hrdb⟩ := HX.out wr hwr
    have HZR := Lib.hid hzr
    have HRDB := Lib.hid hrdb
    clear hany hwr
    by_cases hlt : k < es.length
    · obtain ⟨eb, off, rfl, heb, x0, x1, x2, hxr⟩ := hrda.at_ hlt
      have hk1 : (k : Int) < es.length := by omega
      have HUA1 := Lib.hid (HUA.out k hlt)
      have HUN1 := Lib.hid (HUN.out k hlt)
      have HUO1 := Lib.hid (HUO.out k)
      have HPT1 := Lib.hid (HPT.out k hlt)
      have HXR := Lib.hid hxr
      have hebl := lt_of_cell x0
      have HEC : Hid (∀ W, Below wr.heap.size wr W → W.cell? ⟨eb, off + k * 3, none⟩ = some (.int .i64 (es[k]).ix) ∧ W.cell? ⟨eb, off + k * 3 + 1, none⟩ = some (.int .i64 (es[k]).te) ∧ W.cell? ⟨eb, off + k * 3 + 2, none⟩ = some (.slice (es[k]).A (es[k]).n (es[k]).c)) := Lib.hid (fun W hW => ⟨(hW.cell (p := ⟨eb, off + k * 3, none⟩) hebl).trans x0, (hW.cell (p := ⟨eb, off + k * 3 + 1, none⟩) hebl).trans x1, (hW.cell (p := ⟨eb, off + k * 3 + 2, none⟩) hebl).trans x2⟩)
      clear hxr
      generalize es[k] = x at *
      obtain ⟨xi, xt, xA, xn, xc, xd⟩ := x
      dsimp only at *
      have HVW : Hid (∀ W, Below wr.heap.size wr W → Below w.heap.size w W ∧ (∀ j, W.cell? ⟨w.heap.size, j, none⟩ = (#[.int .i64 id, .int .i64 ro, .int .i64 le, .int .i64 ht, .int .i64 hv, .int .i64 co, .int .i64 ix, .int .i64 te, .slice vA vn vc, .slice (some ⟨eb, off, none⟩) es.length ec] : Array Value)[j]?) ∧ (∀ j, W.cell? ⟨w.heap.size + 1, j, none⟩ = (#[.int .i64 id2, .int .i64 ro2, .int .i64 le2, .int .i64 ht2, .int .i64 hv2, .int .i64 co2, .int .i64 ix2, .int .i64 te2, .slice vA2 vn2 vc2, .slice eA2 es2.length ec2] : Array Value)[j]?) ∧ RdEn W B eA2 es2.length es2) := Lib.hid (fun W hW => by
        have h := HX.out W (HWR.out.trans (hW.mono hzr))
        exact ⟨h.1, h.2.2.1, h.2.2.2.1, h.2.2.2.2.2⟩)
      obtain ⟨d, hd⟩ : ∃ d : Int, ix - ix2 + (k : Int) = d := ⟨_, rfl⟩
      have HD := Lib.hid hd
      have HS1 : Hid (ix + (k : Int) + 1 = ix2 + d + 1) := Lib.hid (by omega)
      have fv := HVW.out wr (Below.refl _ _)
      obtain ⟨_, fv1, fv2, _⟩ := fv
      have HBX : Hid (Below wr.heap.size wr wr) := Lib.hid (Below.refl _ _)
      have fx := HVW.out _ HBX.out
      obtain ⟨_, fx1, fx2, _⟩ := fx
      by_cases hout : d < 0 ∨ (es2.length : Int) ≤ d
      · have HUF := Lib.hid (HUO1.out (by rw [HD.out]; exact hout))
        have HAT : Hid (∀ W, Below wr.heap.size wr W → Calls Tryz.prog 63 #[.agg #[.int .i64 id2, .int .i64 ro2, .int .i64 le2, .int .i64 ht2, .int .i64 hv2, .int .i64 co2, .int .i64 ix2, .int .i64 te2, .slice vA2 vn2 vc2, .slice eA2 es2.length ec2], .int .i64 (ix + (k : Int) + 1)] W fun e w' => e = .returned (.tuple #[.agg #[.int .i64 0, .int .i64 0, .slice none 0 0], .bool false]) ∧ Below W.heap.size W w') := Lib.hid (fun W hW =>
          rat_out ⟨id2, ro2, le2, ht2, hv2, co2, ix2, te2, vA2, vn2, vc2, eA2, es2.length, ec2, es2⟩ (ix + (k : Int) + 1) W (HVW.out W hW).2.2.2.len (by simp only; omega) (by simp only; omega) (by simp only; omega) (by simp only; omega))
        clear hd hout
        go_wp2_with fail
        refine (HAT.out _ HBX.out).mono ?_
        rintro e w2 ⟨rfl, hb2⟩
        have HB2 : Hid (Below wr.heap.size wr w2) := Lib.hid (HBX.out.trans (hb2.mono (by omega)))
        clear hb2 fx1 fx2 fv1 fv2
        go_wp2_with fail
        refine wp_region_sched [(0, true), (1, true), (2, true), (3, true), (4, true), (5, true), (6, true), (7, true), (8, true), (9, true), (10, true), (11, true), (12, true), (13, true), (14, true), (15, true), (16, true), (17, true), (18, true), (19, true), (20, false), (21, true), (22, true)] (fun W => Below (w2.heap.size + 1) (w2.alloc (.cells #[.int .i64 0, .int .i64 0, .slice none 0 0] 75 (0, 0))) W) (by kernel_rfl) (by kernel_rfl) rfl (by kernel_rfl) ((Below.refl _ _).drew) ?_
        repeat (first | (apply sched_take rfl; (focus (first | rfl | (go_simp; done))); (focus (intro W hW; go_simp; rfl)); (focus (intro K hK; go_simp; refine hK _ ?_; clear hK K))) | (apply sched_skip rfl; (focus (first | rfl | (go_simp; done))); (focus (intro K hK; go_simp; refine hK _ ?_; clear hK K))))
        refine sched_nil ?_
        go_wp2_with fail
        go_roundw
        case rel => exact ⟨k + 1, by omega, by go_num, by rw [unB_all_succ, HANY.out, HUF.out]; rfl, HWR.out.trans (((HB2.out.alloc HB2.out.size _).drew).mono HZR.out)⟩
        case measure => simp [intOf]; omega
      · obtain ⟨j, rfl⟩ : ∃ j : Nat, d = (j : Int) := ⟨d.toNat, by omega⟩
        have hjl : j < es2.length := by omega
        have HUY := Lib.hid (HUN1.out j hd hjl)
        have HAT : Hid (∀ W, Below wr.heap.size wr W → Calls Tryz.prog 63 #[.agg #[.int .i64 id2, .int .i64 ro2, .int .i64 le2, .int .i64 ht2, .int .i64 hv2, .int .i64 co2, .int .i64 ix2, .int .i64 te2, .slice vA2 vn2 vc2, .slice eA2 es2.length ec2], .int .i64 (ix + (k : Int) + 1)] W fun e w' => e = .returned (.tuple #[(es2[j]).val, .bool true]) ∧ Below W.heap.size W w') := Lib.hid (fun W hW =>
          rat_in ⟨id2, ro2, le2, ht2, hv2, co2, ix2, te2, vA2, vn2, vc2, eA2, es2.length, ec2, es2⟩ (ix + (k : Int) + 1) j B W (by have := hW.size; omega) (HVW.out W hW).2.2.2 (by simp only; omega) (by simp only; omega) (by simp only; omega) hjl (by simp only; omega))
        have HYR : Hid (RdB wr B (es2[j]).A (es2[j]).n (es2[j]).da) := Lib.hid ((HVW.out wr (Below.refl _ _)).2.2.2.2 _ (List.getElem_mem hjl))
        clear hd hout
        generalize es2[j] = y at *
        obtain ⟨yi, yt, yA, yn, yc, yd⟩ := y
        dsimp only [EnV.val] at *
        have HUY1 : Hid (unB _ _ (qBoth (VwV.vw ⟨id, ro, le, ht, hv, co, ix, te, vA, vn, vc, (some ⟨eb, off, none⟩), es.length, ec, es⟩) (VwV.vw ⟨id2, ro2, le2, ht2, hv2, co2, ix2, te2, vA2, vn2, vc2, eA2, es2.length, ec2, es2⟩)) k = ((qBoth (VwV.vw ⟨id, ro, le, ht, hv, co, ix, te, vA, vn, vc, (some ⟨eb, off, none⟩), es.length, ec, es⟩) (VwV.vw ⟨id2, ro2, le2, ht2, hv2, co2, ix2, te2, vA2, vn2, vc2, eA2, es2.length, ec2, es2⟩)) (ix + (k : Int) + 1) (EnV.en ⟨xi, xt, xA, xn, xc, xd⟩) (EnV.en ⟨yi, yt, yA, yn, yc, yd⟩) && !sameE (EnV.en ⟨xi, xt, xA, xn, xc, xd⟩) (EnV.en ⟨yi, yt, yA, yn, yc, yd⟩))) := Lib.hid (by have h := HUY.out; rw [HUA1.out] at h; exact h)
        go_wp2_with fail
        refine (HAT.out _ HBX.out).mono ?_
        rintro e w2 ⟨rfl, hb2⟩
        have HB2 : Hid (Below wr.heap.size wr w2) := Lib.hid (HBX.out.trans (hb2.mono (by omega)))
        have hz2 := HB2.out.size
        obtain ⟨q1, hq1, hq1i⟩ : ∃ q1 : Bool, decide (ix + (k : Int) + 1 ≤ co) = q1 ∧ True := ⟨_, rfl, trivial⟩
        obtain ⟨q2, hq2, hq2i⟩ : ∃ q2 : Bool, decide (ix + (k : Int) + 1 ≤ co2) = q2 ∧ True := ⟨_, rfl, trivial⟩
        have HQB : Hid ((qBoth (VwV.vw ⟨id, ro, le, ht, hv, co, ix, te, vA, vn, vc, (some ⟨eb, off, none⟩), es.length, ec, es⟩) (VwV.vw ⟨id2, ro2, le2, ht2, hv2, co2, ix2, te2, vA2, vn2, vc2, eA2, es2.length, ec2, es2⟩)) (ix + (k : Int) + 1) (EnV.en ⟨xi, xt, xA, xn, xc, xd⟩) (EnV.en ⟨yi, yt, yA, yn, yc, yd⟩) = (q1 && q2)) := Lib.hid (by rw [← hq1, ← hq2]; rfl)
        have HQ1 := Lib.hid hq1
        have HQ2 := Lib.hid hq2
        clear hq1 hq2 hq1i hq2i
        have HV1 : Hid (∀ W, Below (w2.heap.size + 1) (w2.alloc (.cells #[.int .i64 yi, .int .i64 yt, .slice yA yn yc] 75 (0, 0))) W → (∀ j, W.cell? ⟨w.heap.size, j, none⟩ = (#[.int .i64 id, .int .i64 ro, .int .i64 le, .int .i64 ht, .int .i64 hv, .int .i64 co, .int .i64 ix, .int .i64 te, .slice vA vn vc, .slice (some ⟨eb, off, none⟩) es.length ec] : Array Value)[j]?)) := Lib.hid (fun W hW => (HVW.out W ((HB2.out.alloc hz2 _).trans (hW.mono (by omega)))).2.1)
        have HV2 : Hid (∀ W, Below (w2.heap.size + 1) (w2.alloc (.cells #[.int .i64 yi, .int .i64 yt, .slice yA yn yc] 75 (0, 0))) W → (∀ j, W.cell? ⟨w.heap.size + 1, j, none⟩ = (#[.int .i64 id2, .int .i64 ro2, .int .i64 le2, .int .i64 ht2, .int .i64 hv2, .int .i64 co2, .int .i64 ix2, .int .i64 te2, .slice vA2 vn2 vc2, .slice eA2 es2.length ec2] : Array Value)[j]?)) := Lib.hid (fun W hW => (HVW.out W ((HB2.out.alloc hz2 _).trans (hW.mono (by omega)))).2.2.1)
        have HE0 : Hid (∀ W, Below (w2.heap.size + 1) (w2.alloc (.cells #[.int .i64 yi, .int .i64 yt, .slice yA yn yc] 75 (0, 0))) W → W.cell? ⟨eb, off + k * 3, none⟩ = some (.int .i64 xi) ∧ W.cell? ⟨eb, off + k * 3 + 1, none⟩ = some (.int .i64 xt) ∧ W.cell? ⟨eb, off + k * 3 + 2, none⟩ = some (.slice xA xn xc)) := Lib.hid (fun W hW => HEC.out W ((HB2.out.alloc hz2 _).trans (hW.mono (by omega))))
        have HY5 : Hid (∀ W, Below (w2.heap.size + 1) (w2.alloc (.cells #[.int .i64 yi, .int .i64 yt, .slice yA yn yc] 75 (0, 0))) W → (∀ j, W.cell? ⟨w2.heap.size, j, none⟩ = (#[.int .i64 yi, .int .i64 yt, .slice yA yn yc] : Array Value)[j]?)) := Lib.hid (fun W hW => blk_cell ((hW.block _ (by omega)).trans (heap_at rfl)))
        clear hb2 fx1 fx2 fv1 fv2
        have HB3 : Hid (Below wr.heap.size wr (w2.alloc (.cells #[.int .i64 yi, .int .i64 yt, .slice yA yn yc] 75 (0, 0)))) := Lib.hid (HB2.out.alloc hz2 _)
        have HEQ : Hid (∀ W, Below wr.heap.size wr W → Calls Tryz.prog 64 #[.agg #[.int .i64 xi, .int .i64 xt, .slice xA xn xc], .agg #[.int .i64 yi, .int .i64 yt, .slice yA yn yc]] W fun e w' => e = .returned (.bool (sameE (EnV.en ⟨xi, xt, xA, xn, xc, xd⟩) (EnV.en ⟨yi, yt, yA, yn, yc, yd⟩))) ∧ Below W.heap.size W w') := Lib.hid (fun W hW =>
          requal_any ⟨xi, xt, xA, xn, xc, xd⟩ ⟨yi, yt, yA, yn, yc, yd⟩ B W (by have := hW.size; omega) (Rd.below' HXR.out hW (by omega) (Nat.le_refl _)) (Rd.below' HYR.out hW (by omega) (Nat.le_refl _)))
        cases q1
        · have HUF : Hid (unB (VwV.vw ⟨id, ro, le, ht, hv, co, ix, te, vA, vn, vc, (some ⟨eb, off, none⟩), es.length, ec, es⟩) (VwV.vw ⟨id2, ro2, le2, ht2, hv2, co2, ix2, te2, vA2, vn2, vc2, eA2, es2.length, ec2, es2⟩) (qBoth (VwV.vw ⟨id, ro, le, ht, hv, co, ix, te, vA, vn, vc, (some ⟨eb, off, none⟩), es.length, ec, es⟩) (VwV.vw ⟨id2, ro2, le2, ht2, hv2, co2, ix2, te2, vA2, vn2, vc2, eA2, es2.length, ec2, es2⟩)) k = false) := Lib.hid (by rw [HUY1.out, HQB.out]; rfl)
          go_wp2_with fail
          refine wp_region_sched [(0, true), (1, true), (2, true), (3, true), (4, true), (5, true), (6, true), (7, true), (8, true), (9, true), (10, true), (11, true), (12, true), (13, true), (14, true), (15, true), (16, true), (17, true), (18, true), (19, true), (20, false), (21, true), (22, true)] (fun W => Below (w2.heap.size + 1) (w2.alloc (.cells #[.int .i64 yi, .int .i64 yt, .slice yA yn yc] 75 (0, 0))) W) (by kernel_rfl) (by kernel_rfl) rfl (by kernel_rfl) ((Below.refl _ _).drew) ?_
          repeat (first | (apply sched_take rfl; (focus (first | rfl | (go_simp; done))); (focus (intro W hW; have f1 := HV1.out W hW; have f2 := HV2.out W hW; have f5 := HY5.out W hW; have f6 := HE0.out W hW; have q1 := HQ1.out; have q2 := HQ2.out; go_simp; rfl)); (focus (intro K hK; go_simp; refine hK _ ?_; clear hK K))) | (apply sched_skip rfl; (focus (first | rfl | (go_simp; done))); (focus (intro K hK; go_simp; refine hK _ ?_; clear hK K))))
          refine sched_nil ?_
          go_wp2_with fail
          go_roundw
          case rel => exact ⟨k + 1, by omega, by go_num, by rw [unB_all_succ, HANY.out, HUF.out]; rfl, HWR.out.trans (HB3.out.drew.mono HZR.out)⟩
          case measure => simp [intOf]; omega
        · cases q2
          · have HUF : Hid (unB (VwV.vw ⟨id, ro, le, ht, hv, co, ix, te, vA, vn, vc, (some ⟨eb, off, none⟩), es.length, ec, es⟩) (VwV.vw ⟨id2, ro2, le2, ht2, hv2, co2, ix2, te2, vA2, vn2, vc2, eA2, es2.length, ec2, es2⟩) (qBoth (VwV.vw ⟨id, ro, le, ht, hv, co, ix, te, vA, vn, vc, (some ⟨eb, off, none⟩), es.length, ec, es⟩) (VwV.vw ⟨id2, ro2, le2, ht2, hv2, co2, ix2, te2, vA2, vn2, vc2, eA2, es2.length, ec2, es2⟩)) k = false) := Lib.hid (by rw [HUY1.out, HQB.out]; rfl)
            go_wp2_with fail
            refine wp_region_sched [(0, true), (1, true), (2, true), (3, true), (4, true), (5, true), (6, true), (7, true), (8, true), (9, true), (10, true), (11, true), (12, true), (13, true), (14, true), (15, true), (16, true), (17, true), (18, true), (19, true), (20, false), (21, true), (22, true)] (fun W => Below (w2.heap.size + 1) (w2.alloc (.cells #[.int .i64 yi, .int .i64 yt, .slice yA yn yc] 75 (0, 0))) W) (by kernel_rfl) (by kernel_rfl) rfl (by kernel_rfl) ((Below.refl _ _).drew) ?_
            repeat (first | (apply sched_take rfl; (focus (first | rfl | (go_simp; done))); (focus (intro W hW; have f1 := HV1.out W hW; have f2 := HV2.out W hW; have f5 := HY5.out W hW; have f6 := HE0.out W hW; have q1 := HQ1.out; have q2 := HQ2.out; go_simp; rfl)); (focus (intro K hK; go_simp; refine hK _ ?_; clear hK K))) | (apply sched_skip rfl; (focus (first | rfl | (go_simp; done))); (focus (intro K hK; go_simp; refine hK _ ?_; clear hK K))))
            refine sched_nil ?_
            go_wp2_with fail
            go_roundw
            case rel => exact ⟨k + 1, by omega, by go_num, by rw [unB_all_succ, HANY.out, HUF.out]; rfl, HWR.out.trans (HB3.out.drew.mono HZR.out)⟩
            case measure => simp [intOf]; omega
          · go_wp2_with fail
            refine wp_region_sched [(0, true), (1, true), (2, true), (3, true), (4, true), (5, true), (6, true), (7, true), (8, true), (9, true), (10, true), (11, true), (12, true), (13, true), (14, true), (15, true), (16, true), (17, true), (18, true), (19, true), (20, false), (21, true), (22, true)] (fun W => Below (w2.heap.size + 1) (w2.alloc (.cells #[.int .i64 yi, .int .i64 yt, .slice yA yn yc] 75 (0, 0))) W) (by kernel_rfl) (by kernel_rfl) rfl (by kernel_rfl) ((Below.refl _ _).drew) ?_
            repeat (first | (apply sched_take rfl; (focus (first | rfl | (go_simp; done))); (focus (intro W hW; have f1 := HV1.out W hW; have f2 := HV2.out W hW; have f5 := HY5.out W hW; have f6 := HE0.out W hW; have q1 := HQ1.out; have q2 := HQ2.out; go_simp; rfl)); (focus (intro K hK; go_simp; refine hK _ ?_; clear hK K))) | (apply sched_skip rfl; (focus (first | rfl | (go_simp; done))); (focus (intro K hK; go_simp; refine hK _ ?_; clear hK K))))
            apply sched_op rfl
            intro K hK
            go_simp
            go_wp2_with (fail)
            refine (HEQ.out _ HB3.out.drew).mono ?_
            rintro e w4 ⟨rfl, hb4⟩
            have HB4 : Hid (Below (w2.heap.size + 1) (w2.alloc (.cells #[.int .i64 yi, .int .i64 yt, .slice yA yn yc] 75 (0, 0))) w4) := Lib.hid ((Below.refl _ _).drew.trans (hb4.mono (by simp)))
            have HB5 : Hid (Below wr.heap.size wr w4) := Lib.hid (HB3.out.trans (HB4.out.mono (by omega)))
            clear hb4
            go_wp2_with fail
            refine ⟨by exact HB4.out, ?_⟩
            cases hse : sameE (EnV.en ⟨xi, xt, xA, xn, xc, xd⟩) (EnV.en ⟨yi, yt, yA, yn, yc, yd⟩) with
            | true =>
              have HUF : Hid (unB (VwV.vw ⟨id, ro, le, ht, hv, co, ix, te, vA, vn, vc, (some ⟨eb, off, none⟩), es.length, ec, es⟩) (VwV.vw ⟨id2, ro2, le2, ht2, hv2, co2, ix2, te2, vA2, vn2, vc2, eA2, es2.length, ec2, es2⟩) (qBoth (VwV.vw ⟨id, ro, le, ht, hv, co, ix, te, vA, vn, vc, (some ⟨eb, off, none⟩), es.length, ec, es⟩) (VwV.vw ⟨id2, ro2, le2, ht2, hv2, co2, ix2, te2, vA2, vn2, vc2, eA2, es2.length, ec2, es2⟩)) k = false) := Lib.hid (by rw [HUY1.out, hse]; simp)
              clear hse
              repeat (first | (apply sched_take rfl; (focus (first | rfl | (go_simp; done))); (focus (intro W hW; have f1 := HV1.out W hW; have f2 := HV2.out W hW; have f5 := HY5.out W hW; have f6 := HE0.out W hW; have q1 := HQ1.out; have q2 := HQ2.out; go_simp; rfl)); (focus (intro K hK; go_simp; refine hK _ ?_; clear hK K))) | (apply sched_skip rfl; (focus (first | rfl | (go_simp; done))); (focus (intro K hK; go_simp; refine hK _ ?_; clear hK K))))
              refine sched_nil ?_
              go_wp2_with fail
              go_roundw
              case rel => exact ⟨k + 1, by omega, by go_num, by rw [unB_all_succ, HANY.out, HUF.out]; rfl, HWR.out.trans (HB5.out.mono HZR.out)⟩
              case measure => simp [intOf]; omega
            | false =>
              obtain rfl : r = true := HPT1.out (by rw [HUY1.out, HQB.out, hse]; rfl)
              clear hse
              repeat (first | (apply sched_take rfl; (focus (first | rfl | (go_simp; done))); (focus (intro W hW; have f1 := HV1.out W hW; have f2 := HV2.out W hW; have f5 := HY5.out W hW; have f6 := HE0.out W hW; have q1 := HQ1.out; have q2 := HQ2.out; go_simp; rfl)); (focus (intro K hK; go_simp; refine hK _ ?_; clear hK K))) | (apply sched_skip rfl; (focus (first | rfl | (go_simp; done))); (focus (intro K hK; go_simp; refine hK _ ?_; clear hK K))))
              refine sched_nil ?_
              go_wp2_with fail
              go_ret
              exact ⟨rfl, (HX.out _ (HWR.out.trans (HB5.out.mono HZR.out))).1⟩
    · have hke : k = es.length := by omega
      obtain rfl : r = false := by
        have h1 := HANY.out
        rw [hke] at h1
        exact HEND.out.symm.trans h1
      go_wp2_with fail
      go_ret
      exact ⟨rfl, (HX.out _ HWR.out).1⟩
end Go.Proofs.YtfjpenbahoeklaaGreatDoor
namespace Go.Proofs.YtfjpenbahoeklaaGreatDoor
open Go Go.RowKit

theorem fi_len1 (c : Bool) (f : Int × Int × Int) : (if c = true then [f] else []).length ≤ 1 := by cases c <;> simp
set_option maxRecDepth 100000 in
set_option maxHeartbeats 8000000 in
theorem rlook_any (A : Option Addr) (n cap B : Nat) (vs : List VwV) (w : World) (hB : B ≤ w.heap.size) (hbig : n ≤ 1000) (hbv : ∀ v ∈ vs, v.en ≤ 140737488355328) (hr : RdVw w B A n vs) :
    Calls Tryz.prog 20 #[.slice A n cap] w (ResFi w (lookL (vs.map VwV.vw))) := by
  have hl := hr.len
  subst hl
  obtain ⟨i0, hi0, hz0, hz1, hz2⟩ := info_parts Tryz.infoFinding
  have HR := Lib.hid hr
  have HB0 := Lib.hid hB
  have HBV := Lib.hid hbv
  have HEND : Hid (lookTo (vs.map VwV.vw) vs.length = lookL (vs.map VwV.vw)) := Lib.hid (by unfold lookTo lookL; rw [List.length_map])
  have HNO : Hid (FiIn w.heap.size w w none none 0 []) := Lib.hid (FiIn.start (World.ownsRow_nil _ _ _ _))
  have HLEN : Hid (∀ k, k < vs.length → (lookTo (vs.map VwV.vw) k).length ≤ 4000000) := Lib.hid (fun k hk => by
    have h1 := lookTo_len (vs.map VwV.vw) k
    have h2 : k * (3 * k + 1) ≤ 1000 * 3001 := Nat.mul_le_mul (by omega) (by omega)
    omega)
  clear hr hB hbv
  go_enter Tryz.func20, Tryz.ntmps20
  go_wp2_with fail
  go_loopw [3, 10] (fun o i wr => ∃ (k : Nat) (A1 : Option Addr) (c1 : Nat) (l1 : List (Int × Int × Int)), k ≤ vs.length ∧ i = .int .i64 k ∧ o = .slice A1 l1.length c1 ∧ l1 = lookTo (vs.map VwV.vw) k ∧ FiIn w.heap.size w wr none A1 c1 l1) (fun _ i _ => vs.length - (intOf i).toNat)
  case atStart => exact ⟨0, none, 0, [], by omega, rfl, rfl, rfl, HNO.out⟩
  case round =>
    obtain ⟨k, A1, c1, l1, hk, rfl, rfl, hl1, hin⟩ := hrel
    have HL1 := Lib.hid hl1
    have HI := Lib.hid hin
    have hbw : Below w.heap.size w wr := hin.down (Nat.le_refl _) (fun g h => by cases h)
    have HBW := Lib.hid hbw
    have hzr := hbw.size
    clear hl1 hin hbw
    by_cases hlt : k < vs.length
    · have hk1 : (k : Int) < vs.length := by omega
      obtain ⟨eb, off, hA, heb, hcell, hre⟩ := (HR.out.below HBW.out HB0.out).at_ hlt
      have HLX : Hid (wr.rangeAt eb (off + k * 10) (vs[k]).cells) := Lib.hid (fun j v h => (hcell j (by have h1 := (List.getElem?_eq_some_iff.1 h).1; rw [VwV.cells_len] at h1; exact h1)).trans h)
      have hxn := HBV.out _ (List.getElem_mem hlt)
      have HXL : Hid ((vs[k]).es.length = (vs[k]).en) := Lib.hid hre.len
      have HXR : Hid (∀ W, Below w.heap.size w W → RdEn W B (vs[k]).eA (vs[k]).en (vs[k]).es) := Lib.hid (fun W hW => ((HR.out.below hW HB0.out).2 _ (List.getElem_mem hlt)))
      have HGD : Hid ((vs.map VwV.vw).getD k default = (vs[k]).vw) := Lib.hid (vw_getD hlt)
      have HSUC : Hid (lookTo (vs.map VwV.vw) (k + 1) = l1 ++ findI (vs.map VwV.vw) k) := Lib.hid (by rw [lookTo_succ, ← HL1.out])
      have HFR : Hid (findI (vs.map VwV.vw) k = (if rightB (vs[k]).vw = true then [] else [(1, (k : Int), (k : Int))]) ++ (if rightB (vs[k]).vw = true then findTo (vs.map VwV.vw) k k else [])) := Lib.hid (by
        by_cases h : rightB (vs[k]).vw = true
        · rw [if_pos h, if_pos h, List.nil_append]; exact findI_right (by rw [HGD.out]; exact h)
        · rw [if_neg h, if_neg h, List.append_nil]; exact findI_wrong (by rw [HGD.out]; simpa using h))
      have hll : l1.length ≤ 4000000 := by rw [HL1.out]; exact HLEN.out k hlt
      have hA2 := hA
      subst hA2
      clear hcell hre
      generalize hx : vs[k] = x at *
      have HX := Lib.hid hx
      clear hx
      dsimp only [VwV.cells] at HLX
      go_upto_region 5 with (first | refine wpList_store_mid rfl 59 (.tmp 5) (.tmp 14) rfl wr.heap.size 0 _ rfl rfl (view_there wr) (by kernel_rfl) (view_one x) ?_ | refine wpList_load_mid rfl 59 (.tmp 13) rfl eb (off + k * 10) rfl _ _ HLX.out Tryz.underlying59 rfl (by kernel_rfl) ?_)
      have hset := view_set wr x
      generalize hwx : (wr.alloc (.cells #[.int .i64 0, .int .i64 0, .int .i64 0, .int .i64 0, .int .i64 0, .int .i64 0, .int .i64 0, .int .i64 0, .slice none 0 0, .slice none 0 0] 59 (0, 0))).setCells wr.heap.size 0 [.int .i64 x.id, .int .i64 x.ro, .int .i64 x.le, .int .i64 x.ht, .int .i64 x.hv, .int .i64 x.co, .int .i64 x.ix, .int .i64 x.te, .slice x.vA x.vn x.vc, .slice x.eA x.en x.ec] = wx at *
      obtain ⟨hbx, hzx, hra⟩ := hset
      have HBX := Lib.hid hbx
      have HIX : Hid (FiIn w.heap.size w wx none A1 c1 l1) := Lib.hid (HI.out.below hbx (Nat.le_refl _))
      have HRA := Lib.hid hra
      have hrt := rright_any x wx HXL.out hxn
      have HRT := Lib.hid hrt
      clear hwx hbx hra hrt HLX
      go_upto_region 6 with (first | refine wpList_load_mid rfl 59 (.tmp 5) rfl wr.heap.size 0 rfl _ _ HRA.out Tryz.underlying59 rfl (by kernel_rfl) ?_)
      refine HRT.out.mono ?_
      rintro e w1 ⟨rfl, hb1⟩
      have HI1 : Hid (FiIn w.heap.size w w1 none A1 c1 l1) := Lib.hid (HIX.out.below hb1 (Nat.le_refl _))
      have hz1' := hb1.size
      have HRA1 : Hid (w1.rangeAt wr.heap.size 0 [.int .i64 x.id, .int .i64 x.ro, .int .i64 x.le, .int .i64 x.ht, .int .i64 x.hv, .int .i64 x.co, .int .i64 x.ix, .int .i64 x.te, .slice x.vA x.vn x.vc, .slice x.eA x.en x.ec]) := Lib.hid (fun j v h => (hb1.cell (p := ⟨wr.heap.size, 0 + j, none⟩) hzx).trans (HRA.out j v h))
      have hAB : ∀ g, A1.map (·.block) = some g → g < wr.heap.size := fun g hg => (HI.out.blk g hg).2
      have HAB := Lib.hid hAB
      have HB1 : Hid (Below w.heap.size w w1) := Lib.hid (HI1.out.down (Nat.le_refl _) (fun g h => by cases h))
      have HIN0 : Hid (FiIn w.heap.size w1 w1 A1 A1 c1 l1) := Lib.hid (FiIn.start HI1.out.own)
      clear hb1 hAB
      obtain ⟨q, hq⟩ : ∃ q, rightB x.vw = q := ⟨_, rfl⟩
      rw [hq] at HFR ⊢
      have HRB := Lib.hid hq
      clear hq
      go_upto_if 17 with fail
      go_cut [3] (fun v wx => ∃ A9 c9 l9, v = .slice A9 l9.length c9 ∧ l9 = l1 ++ (if q = true then [] else [(1, (k : Int), (k : Int))]) ∧ FiIn w.heap.size w1 wx A1 A9 c9 l9)
      case first =>
        cases q
        · go_wp2_with (at_builtin; refine wpList_app _ rfl (.tmp 18) (.tmp 22) _ rfl w.heap.size 43 i0 _ 3 24 Tryz.underlying41 hi0 hz0 hz1 hz2 rfl (by omega) _ _ _ _ rfl (HIN0.out.own.alloc _) (w1.heap.size + 1) _ 1 _ _ rfl (Rd.oneF rfl (1, (k : Int), (k : Int)) _ _) (fi_one (1, (k : Int), (k : Int))) (by unfold maxLen; omega) (by omega) (by simp <;> omega) ?_; intro A9 c9 w9 hown9 hg9 hl9)
          have HST := Lib.hid (HIN0.out.app hown9 hg9 hl9)
          clear hown9 hg9 hl9
          go_meet
          exact ⟨A9, c9, l1 ++ [(1, (k : Int), (k : Int))], by simp, rfl, HST.out⟩
        · go_wp2_with fail
          go_meet
          exact ⟨A1, c1, l1, rfl, by simp, HIN0.out⟩
      case rest =>
      obtain ⟨A4, c4, l4, rfl, hl4, hin4⟩ := hcut
      have HL4 := Lib.hid hl4
      have HI4 := Lib.hid hin4
      have hll4 : l4.length ≤ 4000001 := by
        rw [hl4, List.length_append]
        cases q <;> simp <;> omega
      have HS2 : Hid (lookTo (vs.map VwV.vw) (k + 1) = l4 ++ (if q = true then findTo (vs.map VwV.vw) k k else [])) := Lib.hid (by rw [HSUC.out, HFR.out, HL4.out, List.append_assoc])
      have hk0 : (0 : Int) ≤ (k : Int) := by omega
      clear hl4 hin4
      go_wp2_with fail
      obtain ⟨wB, rfl⟩ : ∃ wB, wB = wr := ⟨_, rfl⟩
      go_loopw [3, 25] (fun o i wr => ∃ (k2 : Nat) (A2 : Option Addr) (c2 : Nat) (l2 : List (Int × Int × Int)), k2 ≤ k ∧ i = .int .i64 k2 ∧ o = .slice A2 l2.length c2 ∧ l2 = l4 ++ (if q = true then findTo (vs.map VwV.vw) k k2 else []) ∧ FiIn w.heap.size w1 wr A1 A2 c2 l2) (fun _ i _ => k - (intOf i).toNat)
      case atStart => exact ⟨0, A4, c4, l4, by omega, rfl, rfl, by cases q <;> simp [findTo], HI4.out⟩
      case round =>
        obtain ⟨k2, A2, c2, l2, hk2, rfl, rfl, hl2, hin2⟩ := hrel
        have HL2 := Lib.hid hl2
        have HI2 := Lib.hid hin2
        have hll2 : l2.length ≤ 4010000 := by
          have h1 := findTo_len (vs.map VwV.vw) k k2
          rw [hl2, List.length_append]
          cases q <;> simp <;> omega
        have hbw2 : Below w.heap.size w wr := HB1.out.trans (hin2.down (by have := HB1.out.size; omega) (fun g hg => (HI1.out.blk g hg).1))
        have HBW2 := Lib.hid hbw2
        have hzr2 := hbw2.size
        have hz12 := hin2.fr.size
        clear hl2 hin2 hbw2
        by_cases hlt2 : k2 < k
        · have hk21 : (k2 : Int) < (k : Int) := by omega
          have hlv : k2 < vs.length := by omega
          have hlvi : (k2 : Int) < vs.length := by omega
          obtain ⟨yb, yoff, hYA, hyb, hycell, hyre⟩ := (HR.out.below HBW2.out HB0.out).at_ hlv
          cases hYA
          have HLY : Hid (wr.rangeAt eb (off + k2 * 10) (vs[k2]).cells) := Lib.hid (fun j v h => (hycell j (by have h1 := (List.getElem?_eq_some_iff.1 h).1; rw [VwV.cells_len] at h1; exact h1)).trans h)
          have hyn := HBV.out _ (List.getElem_mem hlv)
          have HYL : Hid ((vs[k2]).es.length = (vs[k2]).en) := Lib.hid hyre.len
          have HYR : Hid (∀ W, Below w.heap.size w W → RdEn W B (vs[k2]).eA (vs[k2]).en (vs[k2]).es) := Lib.hid (fun W hW => ((HR.out.below hW HB0.out).2 _ (List.getElem_mem hlv)))
          have HFK : Hid (findK (vs.map VwV.vw) k k2 = if rightB (vs[k2]).vw then (twoL x.vw (vs[k2]).vw).map fun z => (z, (k2 : Int), (k : Int)) else []) := Lib.hid (by
            unfold findK
            rw [HGD.out, vw_getD hlv])
          clear hycell hyre
          generalize hy : vs[k2] = y at *
          clear hy
          dsimp only [VwV.cells] at HLY
          go_upto_region 11 with (first | refine wpList_store_mid rfl 59 (.tmp 7) (.tmp 31) rfl wr.heap.size 0 _ rfl rfl (view_there wr) (by kernel_rfl) (view_one y) ?_ | refine wpList_load_mid rfl 59 (.tmp 30) rfl eb (off + k2 * 10) rfl _ _ HLY.out Tryz.underlying59 rfl (by kernel_rfl) ?_)
          have hset := view_set wr y
          generalize hwx : (wr.alloc (.cells #[.int .i64 0, .int .i64 0, .int .i64 0, .int .i64 0, .int .i64 0, .int .i64 0, .int .i64 0, .int .i64 0, .slice none 0 0, .slice none 0 0] 59 (0, 0))).setCells wr.heap.size 0 [.int .i64 y.id, .int .i64 y.ro, .int .i64 y.le, .int .i64 y.ht, .int .i64 y.hv, .int .i64 y.co, .int .i64 y.ix, .int .i64 y.te, .slice y.vA y.vn y.vc, .slice y.eA y.en y.ec] = wy at *
          obtain ⟨hby, hzy, hrb2⟩ := hset
          have HBY := Lib.hid hby
          have HIY0 : Hid (FiIn w.heap.size wy wy A2 A2 c2 l2) := Lib.hid (FiIn.start (HI2.out.below hby (Nat.le_refl _)).own)
          have HA2 : Hid (∀ g, A2.map (·.block) = some g → w.heap.size ≤ g ∧ g < wr.heap.size ∧ g ≠ wB.heap.size) := Lib.hid (fun g hg => by
            have h1 := HI2.out.blk g hg
            refine ⟨h1.1, h1.2, fun e => ?_⟩
            rcases HI2.out.at_ g hg with h2 | h2
            · have := HAB.out g h2; omega
            · omega)
          have HON : Hid (∀ (W : World) (A9 : Option Addr) (c9 : Nat) (l9 : List (Int × Int × Int)), FiIn w.heap.size wy W A2 A9 c9 l9 → FiIn w.heap.size w1 W A1 A9 c9 l9 ∧ Below w.heap.size w W ∧ W.rangeAt wB.heap.size 0 [.int .i64 x.id, .int .i64 x.ro, .int .i64 x.le, .int .i64 x.ht, .int .i64 x.hv, .int .i64 x.co, .int .i64 x.ix, .int .i64 x.te, .slice x.vA x.vn x.vc, .slice x.eA x.en x.ec] ∧ W.rangeAt wr.heap.size 0 [.int .i64 y.id, .int .i64 y.ro, .int .i64 y.le, .int .i64 y.ht, .int .i64 y.hv, .int .i64 y.co, .int .i64 y.ix, .int .i64 y.te, .slice y.vA y.vn y.vc, .slice y.eA y.en y.ec]) := Lib.hid (fun W A9 c9 l9 h => by
            have h1 := HI2.out.on HBY.out h
            refine ⟨h1, HB1.out.trans (h1.down (by have := HB1.out.size; omega) (fun g hg => (HI1.out.blk g hg).1)), fun j v hv => ?_, fun j v hv => ?_⟩
            · rw [← HRA1.out j v hv]
              have hb := h1.fr.block wB.heap.size (by omega) (fun hs => by have := HAB.out _ hs; omega)
              simp only [World.cell?, hb]
            · rw [← hrb2 j v hv]
              have hb := h.fr.block wr.heap.size hzy (fun hs => by have := HA2.out _ hs; omega)
              simp only [World.cell?, hb])
          have hrx := (HON.out _ _ _ _ HIY0.out).2.2.1
          have HRX0 := Lib.hid hrx
          have hrt := rright_any x wy HXL.out hxn
          rw [HRB.out] at hrt
          have HRTX := Lib.hid hrt
          have HRTY : Hid (∀ W, Calls Tryz.prog 39 #[y.val] W fun e w' => e = .returned (.bool (rightB y.vw)) ∧ Below W.heap.size W w') := Lib.hid (fun W => rright_any y W HYL.out hyn)
          clear hwx hby hrb2 hrt hrx HLY
          go_upto_if 39 with (first | refine wpList_load_mid rfl 59 (.tmp 5) rfl wB.heap.size 0 rfl _ _ HRX0.out Tryz.underlying59 rfl (by kernel_rfl) ?_)
          refine HRTX.out.mono ?_
          rintro e w2 ⟨rfl, hb2⟩
          have HI3 : Hid (FiIn w.heap.size wy w2 A2 A2 c2 l2) := Lib.hid (HIY0.out.below hb2 (Nat.le_refl _))
          clear hb2
          cases q with
          | false =>
            have HIF := Lib.hid (HON.out _ _ _ _ HI3.out).1
            have HLE : Hid (l2 = l4) := Lib.hid (by rw [HL2.out]; simp)
            go_wp2_with fail
            go_roundw
            case rel => exact ⟨k2 + 1, A2, c2, l2, by omega, by go_num, rfl, by rw [HLE.out]; simp, HIF.out⟩
            case measure => simp [intOf]; omega
          | true =>
          have HRY2 := Lib.hid (HON.out _ _ _ _ HI3.out).2.2.2
          go_upto_if 39 with (first | refine wpList_load_midG (by first | rfl | (go_simp; done)) 59 (.tmp 7) rfl wr.heap.size 0 rfl _ _ HRY2.out Tryz.underlying59 rfl (by kernel_rfl) ?_)
          refine (HRTY.out w2).mono ?_
          rintro e w3 ⟨rfl, hb3⟩
          have HI5 : Hid (FiIn w.heap.size wy w3 A2 A2 c2 l2) := Lib.hid (HI3.out.below hb3 (Nat.le_refl _))
          have hz3 := HI5.out.fr.size
          clear hb3
          cases hry : rightB y.vw with
          | false =>
            have HIF := Lib.hid (HON.out _ _ _ _ HI5.out).1
            have HNX : Hid (l2 = l4 ++ findTo (vs.map VwV.vw) k (k2 + 1)) := Lib.hid (by rw [findTo_succ, HFK.out, hry, HL2.out]; simp)
            go_wp2_with fail
            go_roundw
            case rel => exact ⟨k2 + 1, A2, c2, l2, by omega, by go_num, rfl, HNX.out, HIF.out⟩
            case measure => simp [intOf]; omega
          | true =>
          have HNX : Hid (l4 ++ findTo (vs.map VwV.vw) k (k2 + 1) = l2 ++ (twoL x.vw y.vw).map fun z => (z, (k2 : Int), (k : Int))) := Lib.hid (by rw [findTo_succ, HFK.out, hry, HL2.out]; simp)
          obtain ⟨ql, hql, hqli⟩ : ∃ ql : Bool, leadB x.vw y.vw = ql ∧ (ql = true ↔ x.ro = 2 ∧ y.ro = 2 ∧ x.ht = y.ht) := ⟨_, rfl, by unfold leadB VwV.vw; simp only [Bool.and_eq_true, decide_eq_true_eq, and_assoc]⟩
          have HQL := Lib.hid hqli
          have HUNL : Hid (∀ W, Below w.heap.size w W → Calls Tryz.prog 40 #[x.val, y.val] W fun e w' => e = .returned (.bool (pairB x.vw y.vw qTerm)) ∧ Below W.heap.size W w') := Lib.hid (fun W hW =>
            unlike_any x y B (by have := HB0.out; have := hW.size; omega) (HXR.out W hW) (HYR.out W hW) hxn hyn HRB.out hry)
          have HPAR : Hid (∀ W, Below w.heap.size w W → Calls Tryz.prog 41 #[x.val, y.val] W fun e w' => e = .returned (.bool (pairB x.vw y.vw (qBoth x.vw y.vw))) ∧ Below W.heap.size W w') := Lib.hid (fun W hW =>
            parted_any x y B (by have := HB0.out; have := hW.size; omega) (HXR.out W hW) (HYR.out W hW) hxn hyn HRB.out hry)
          have HTW : Hid ((twoL x.vw y.vw).map (fun z => (z, (k2 : Int), (k : Int))) = (if ql = true then [(2, (k2 : Int), (k : Int))] else []) ++ (if pairB x.vw y.vw qTerm = true then [(3, (k2 : Int), (k : Int))] else []) ++ (if pairB x.vw y.vw (qBoth x.vw y.vw) = true then [(4, (k2 : Int), (k : Int))] else [])) := Lib.hid (by
            unfold twoL
            rw [hql]
            cases ql <;> cases pairB x.vw y.vw qTerm <;> cases pairB x.vw y.vw (qBoth x.vw y.vw) <;> rfl)
          generalize pairB x.vw y.vw qTerm = q1 at *
          generalize pairB x.vw y.vw (qBoth x.vw y.vw) = q2 at *
          clear hql hqli hry
          have h5 := HON.out _ _ _ _ HI5.out
          have fx : ∀ j v, ([.int .i64 x.id, .int .i64 x.ro, .int .i64 x.le, .int .i64 x.ht, .int .i64 x.hv, .int .i64 x.co, .int .i64 x.ix, .int .i64 x.te, .slice x.vA x.vn x.vc, .slice x.eA x.en x.ec] : List Value)[j]? = some v → w3.cell? ⟨wB.heap.size, 0 + j, none⟩ = some v := h5.2.2.1
          have fy : ∀ j v, ([.int .i64 y.id, .int .i64 y.ro, .int .i64 y.le, .int .i64 y.ht, .int .i64 y.hv, .int .i64 y.co, .int .i64 y.ix, .int .i64 y.te, .slice y.vA y.vn y.vc, .slice y.eA y.en y.ec] : List Value)[j]? = some v → w3.cell? ⟨wr.heap.size, 0 + j, none⟩ = some v := h5.2.2.2
          have gx1 : w3.cell? ⟨wB.heap.size, 1, none⟩ = some (.int .i64 x.ro) := fx 1 _ rfl
          have gx3 : w3.cell? ⟨wB.heap.size, 3, none⟩ = some (.int .i64 x.ht) := fx 3 _ rfl
          have gy1 : w3.cell? ⟨wr.heap.size, 1, none⟩ = some (.int .i64 y.ro) := fy 1 _ rfl
          have gy3 : w3.cell? ⟨wr.heap.size, 3, none⟩ = some (.int .i64 y.ht) := fy 3 _ rfl
          clear h5 fx fy
          go_upto_region 12 with fail
          go_cut [56] (fun v wx => v = .bool ql ∧ wx = w3)
          case first =>
            by_cases h1 : x.ro = 2
            · by_cases h2 : y.ro = 2
              · by_cases h3 : x.ht = y.ht
                · obtain rfl : ql = true := HQL.out.2 ⟨h1, h2, h3⟩
                  rw [h1] at gx1
                  rw [h2] at gy1
                  rw [h3] at gx3
                  go_wp2_with fail
                  go_meet
                  exact ⟨rfl, rfl⟩
                · obtain rfl : ql = false := by
                    cases ql
                    · rfl
                    · exact absurd (HQL.out.1 rfl).2.2 h3
                  rw [h1] at gx1
                  rw [h2] at gy1
                  have h3b : (x.ht == y.ht) = false := by simpa using h3
                  go_wp2_with fail
                  go_meet
                  exact ⟨rfl, rfl⟩
              · obtain rfl : ql = false := by
                  cases ql
                  · rfl
                  · exact absurd (HQL.out.1 rfl).2.1 h2
                rw [h1] at gx1
                have h2b : (y.ro == 2) = false := by simpa using h2
                go_wp2_with fail
                go_meet
                exact ⟨rfl, rfl⟩
            · obtain rfl : ql = false := by
                cases ql
                · rfl
                · exact absurd (HQL.out.1 rfl).1 h1
              have h1b : (x.ro == 2) = false := by simpa using h1
              go_wp2_with fail
              go_meet
              exact ⟨rfl, rfl⟩
          case rest =>
          obtain ⟨rfl, hwc⟩ := hcut
          obtain rfl : w3 = _ := hwc.symm
          clear gx1 gx3 gy1 gy3
          go_upto_if 56 with fail
          go_cut [3] (fun v wx => ∃ A9 c9 l9, v = .slice A9 l9.length c9 ∧ l9 = l2 ++ (if ql = true then [(2, (k2 : Int), (k : Int))] else []) ∧ FiIn w.heap.size wy wx A2 A9 c9 l9)
          case first =>
            cases ql
            · go_wp2_with fail
              go_meet
              exact ⟨A2, c2, l2, rfl, by simp, HI5.out⟩
            · go_wp2_with (at_builtin; refine wpList_app _ rfl (.tmp 57) (.tmp 61) _ rfl w.heap.size 43 i0 _ 3 24 Tryz.underlying41 hi0 hz0 hz1 hz2 rfl (by omega) _ _ _ _ rfl (HI5.out.own.alloc _) (w3.heap.size + 1) _ 1 _ _ rfl (Rd.oneF rfl (2, (k2 : Int), (k : Int)) _ _) (fi_one (2, (k2 : Int), (k : Int))) (by unfold maxLen; omega) (by omega) (by simp <;> omega) ?_; intro A9 c9 w9 hown9 hg9 hl9)
              have HST := Lib.hid (HI5.out.app hown9 hg9 hl9)
              clear hown9 hg9 hl9
              go_meet
              exact ⟨A9, c9, l2 ++ [(2, (k2 : Int), (k : Int))], by simp, rfl, HST.out⟩
          case rest =>
          obtain ⟨A6, c6, l6, rfl, hl6, hin6⟩ := hcut
          have HL6 := Lib.hid hl6
          have HI6 := Lib.hid hin6
          have hll6 : l6.length ≤ 4010001 := by rw [hl6, List.length_append]; have := fi_len1 ql (2, (k2 : Int), (k : Int)); omega
          have h6 := HON.out _ _ _ _ hin6
          have HRX6 := Lib.hid h6.2.2.1
          have HRY6 := Lib.hid h6.2.2.2
          have HU6 := Lib.hid (HUNL.out _ h6.2.1)
          clear hl6 hin6 h6
          go_upto_if 65 with (first | refine wpList_load_mid rfl 59 (.tmp 5) rfl wB.heap.size 0 rfl _ _ HRX6.out Tryz.underlying59 rfl (by kernel_rfl) ?_ | refine wpList_load_mid rfl 59 (.tmp 7) rfl wr.heap.size 0 rfl _ _ HRY6.out Tryz.underlying59 rfl (by kernel_rfl) ?_)
          refine HU6.out.mono ?_
          rintro e w7 ⟨rfl, hb7⟩
          have HI7 : Hid (FiIn w.heap.size wy w7 A2 A6 c6 l6) := Lib.hid (HI6.out.below hb7 (Nat.le_refl _))
          have hz7 := HI7.out.fr.size
          clear hb7
          go_upto_if 65 with fail
          go_cut [3] (fun v wx => ∃ A9 c9 l9, v = .slice A9 l9.length c9 ∧ l9 = l6 ++ (if q1 = true then [(3, (k2 : Int), (k : Int))] else []) ∧ FiIn w.heap.size wy wx A2 A9 c9 l9)
          case first =>
            cases q1
            · go_wp2_with fail
              go_meet
              exact ⟨A6, c6, l6, rfl, by simp, HI7.out⟩
            · go_wp2_with (at_builtin; refine wpList_app _ rfl (.tmp 66) (.tmp 70) _ rfl w.heap.size 43 i0 _ 3 24 Tryz.underlying41 hi0 hz0 hz1 hz2 rfl (by omega) _ _ _ _ rfl (HI7.out.own.alloc _) (w7.heap.size + 1) _ 1 _ _ rfl (Rd.oneF rfl (3, (k2 : Int), (k : Int)) _ _) (fi_one (3, (k2 : Int), (k : Int))) (by unfold maxLen; omega) (by omega) (by simp <;> omega) ?_; intro A9 c9 w9 hown9 hg9 hl9)
              have HST := Lib.hid (HI7.out.app hown9 hg9 hl9)
              clear hown9 hg9 hl9
              go_meet
              exact ⟨A9, c9, l6 ++ [(3, (k2 : Int), (k : Int))], by simp, rfl, HST.out⟩
          case rest =>
          obtain ⟨A8, c8, l8, rfl, hl8, hin8⟩ := hcut
          have HL8 := Lib.hid hl8
          have HI8 := Lib.hid hin8
          have hll8 : l8.length ≤ 4010002 := by rw [hl8, List.length_append]; have := fi_len1 q1 (3, (k2 : Int), (k : Int)); omega
          have h8 := HON.out _ _ _ _ hin8
          have HRX8 := Lib.hid h8.2.2.1
          have HRY8 := Lib.hid h8.2.2.2
          have HU8 := Lib.hid (HPAR.out _ h8.2.1)
          have HDN : Hid (l4 ++ findTo (vs.map VwV.vw) k (k2 + 1) = l8 ++ (if q2 = true then [(4, (k2 : Int), (k : Int))] else [])) := Lib.hid (by rw [HNX.out, HTW.out, HL8.out, HL6.out]; simp only [List.append_assoc])
          clear hl8 hin8 h8
          go_upto_if 74 with (first | refine wpList_load_mid rfl 59 (.tmp 5) rfl wB.heap.size 0 rfl _ _ HRX8.out Tryz.underlying59 rfl (by kernel_rfl) ?_ | refine wpList_load_mid rfl 59 (.tmp 7) rfl wr.heap.size 0 rfl _ _ HRY8.out Tryz.underlying59 rfl (by kernel_rfl) ?_)
          refine HU8.out.mono ?_
          rintro e w9 ⟨rfl, hb9⟩
          have HI9 : Hid (FiIn w.heap.size wy w9 A2 A8 c8 l8) := Lib.hid (HI8.out.below hb9 (Nat.le_refl _))
          have hz9 := HI9.out.fr.size
          clear hb9
          cases q2
          · have HIF := Lib.hid (HON.out _ _ _ _ HI9.out).1
            go_wp2_with fail
            go_roundw
            case rel => exact ⟨k2 + 1, A8, c8, l8, by omega, by go_num, rfl, by rw [HDN.out]; simp, HIF.out⟩
            case measure => simp [intOf]; omega
          · go_wp2_with (at_builtin; refine wpList_app _ rfl (.tmp 75) (.tmp 79) _ rfl w.heap.size 43 i0 _ 3 24 Tryz.underlying41 hi0 hz0 hz1 hz2 rfl (by omega) _ _ _ _ rfl (HI9.out.own.alloc _) (w9.heap.size + 1) _ 1 _ _ rfl (Rd.oneF rfl (4, (k2 : Int), (k : Int)) _ _) (fi_one (4, (k2 : Int), (k : Int))) (by unfold maxLen; omega) (by omega) (by simp <;> omega) ?_; intro A9 c9 w9 hown9 hg9 hl9)
            have HIF := Lib.hid (HON.out _ _ _ _ (HI9.out.app hown9 hg9 hl9)).1
            clear hown9 hg9 hl9
            go_roundw
            case rel => exact ⟨k2 + 1, A9, c9, l8 ++ [(4, (k2 : Int), (k : Int))], by omega, by go_num, by simp, by rw [HDN.out]; simp, HIF.out⟩
            case measure => simp [intOf]; omega
        · have hk21 : ¬ (k2 : Int) < (k : Int) := by omega
          obtain rfl : k2 = k := by omega
          have HDONE : Hid (l2 = lookTo (vs.map VwV.vw) (k2 + 1)) := Lib.hid (by rw [HS2.out, HL2.out])
          have HIF : Hid (FiIn w.heap.size w wr none A2 c2 l2) := Lib.hid (HI1.out.on (Below.refl _ _) HI2.out)
          go_wp2_with fail
          go_roundw
          case rel => exact ⟨k2 + 1, A2, c2, l2, by omega, by go_num, rfl, HDONE.out, HIF.out⟩
          case measure => simp [intOf]; omega
    · have hk1 : ¬ (k : Int) < vs.length := by omega
      obtain rfl : k = vs.length := by omega
      have HL : Hid (l1 = lookL (vs.map VwV.vw)) := Lib.hid (HL1.out.trans HEND.out)
      go_wp2_with fail
      go_ret
      rw [← HL.out]
      exact ⟨A1, c1, rfl, HI.out.own, HBW.out⟩
end Go.Proofs.YtfjpenbahoeklaaGreatDoor
namespace Go.Proofs.YtfjpenbahoeklaaGreatDoor
open Go Go.RowKit

set_option maxRecDepth 100000 in
set_option maxHeartbeats 4000000 in
theorem looks_any (A : Option Addr) (n c : Nat) (B : Nat) (vs : List VwV) (w : World) (hB : B ≤ w.heap.size) (hcap : n ≤ c) (hg : ErrT w) (hr : RdVw w B A n vs) :
    Calls Tryz.prog 5 #[.slice A n c] w fun e w' => e = .returned (.bool true) ∧ Below w.heap.size w w' := by
  have HVW := Lib.hid (views_any A n c B vs w hr)
  have HR := Lib.hid hr
  have HG := Lib.hid hg
  have HB0 := Lib.hid hB
  clear hr hg hB
  go_enter Tryz.func5, Tryz.ntmps5
  go_wp2_with fail
  refine HVW.out.mono ?_
  rintro e w1 ⟨q, rfl, hq, m, rfl⟩
  have HW : Hid (Below w.heap.size w (w.drewN m)) := Lib.hid (below_drew' w m)
  cases q with
  | false =>
    clear hq
    go_wp2_with fail
    refine (awake16_any _ (HG.out.below HW.out (Nat.le_refl _))).mono ?_
    rintro e w2 ⟨rfl, hb2⟩
    go_wp2_with fail
    go_ret
    exact ⟨rfl, HW.out.trans hb2⟩
  | true =>
    obtain ⟨h1, h2⟩ := hq rfl
    have HBV : Hid (∀ v ∈ vs, v.en ≤ 140737488355328) := Lib.hid (fun v hv => by have := (h2 v hv).1; omega)
    clear hq h2
    go_wp2_with fail
    refine (look_any A n c B vs _ (by have := HB0.out; simpa using this) (by omega) hcap HBV.out (HR.out.below HW.out HB0.out)).mono ?_
    rintro e w2 ⟨A2, c2, rfl, hown2, hb2⟩
    have HO2 : Hid (RdFi w2 w2.heap.size A2 (lookL (vs.map VwV.vw)).length (lookL (vs.map VwV.vw))) := Lib.hid (Rd.of_own hown2)
    have HB2 : Hid (Below w.heap.size w w2) := Lib.hid (HW.out.trans (hb2.mono (by simp)))
    have HLN : Hid ((lookL (vs.map VwV.vw)).length ≤ 100000) := Lib.hid (by
      have h3 := lookTo_len (vs.map VwV.vw) vs.length
      have h4 := HR.out.len
      have h5 : vs.length * (3 * vs.length + 1) ≤ 10 * 31 := Nat.mul_le_mul (by omega) (by omega)
      have h6 : lookTo (vs.map VwV.vw) vs.length = lookL (vs.map VwV.vw) := by unfold lookTo lookL; rw [List.length_map]
      rw [h6] at h3
      omega)
    clear hown2 hb2
    have hz2 := HB2.out.size
    go_wp2_with fail
    refine (rlook_any A n c B vs _ (by have := HB0.out; omega) (by omega) HBV.out (HR.out.below HB2.out HB0.out)).mono ?_
    rintro e w3 ⟨A3, c3, rfl, hown3, hb3⟩
    have HO3 : Hid (RdFi w3 w3.heap.size A3 (lookL (vs.map VwV.vw)).length (lookL (vs.map VwV.vw))) := Lib.hid (Rd.of_own hown3)
    have HO23 : Hid (RdFi w3 w2.heap.size A2 (lookL (vs.map VwV.vw)).length (lookL (vs.map VwV.vw))) := Lib.hid (Rd.below' HO2.out hb3 (Nat.le_refl _) (Nat.le_refl _))
    have HB3 : Hid (Below w.heap.size w w3) := Lib.hid (HB2.out.trans (hb3.mono hz2))
    clear hown3 hb3
    go_wp2_with fail
    refine (eqF_any A2 A3 _ _ c2 c3 w2.heap.size w3.heap.size (lookL (vs.map VwV.vw)) (lookL (vs.map VwV.vw)) _ HO23.out HO3.out (by have := HLN.out; omega)).mono ?_
    rintro e w4 ⟨q, rfl, hq, m4, rfl⟩
    obtain rfl : q = true := hq.2 rfl
    have HB4 : Hid (Below w.heap.size w (w3.drewN m4)) := Lib.hid (below_dN HB3.out m4)
    clear hq
    go_wp2_with fail
    refine (awake16_any _ (HG.out.below HB4.out (Nat.le_refl _))).mono ?_
    rintro e w5 ⟨rfl, hb5⟩
    have HB5 : Hid (Below w.heap.size w w5) := Lib.hid (HB4.out.trans (hb5.mono (by have := HB4.out.size; simpa using this)))
    clear hb5
    go_wp2_with fail
    go_ret
    exact ⟨rfl, HB5.out⟩
end Go.Proofs.YtfjpenbahoeklaaGreatDoor
