/-
  The walks of a table's further methods: a seat's numbers, Check, Keep, Expire. Conditions: the table lies in memory as New made it.
-/
import Derived.Test.YtempkjnaahgbhaaGreatDoorSessT
import Derived.Test.YtempkjnaahgbhaaGreatDoorFr
import Derived.Lib.SlMapFilter
import Derived.Maps.RangeWalk
namespace Go.Proofs.YtempkjnaahgbhaaGreatDoor
open Go Go.RowKit Go.Maps

/-- Where a seat's numbers stand: in block b, the fourth in block c. -/
def nptr (b c : Nat) : Array Value := #[.pointer (some ⟨b, 0, none⟩), .pointer (some ⟨b, 1, none⟩), .pointer (some ⟨b, 2, none⟩), .pointer (some ⟨c, 0, none⟩), .pointer (some ⟨b, 4, none⟩), .pointer (some ⟨b, 5, none⟩), .pointer (some ⟨b, 6, none⟩), .pointer (some ⟨b, 7, none⟩), .pointer (some ⟨b, 8, none⟩), .pointer (some ⟨b, 9, none⟩), .pointer (some ⟨b, 10, none⟩)]
/-- What numbers leaves. -/
def ResNum (w : World) (b : Nat) (er : Int) (e : Ending) (w' : World) : Prop :=
  ∃ c d, e = .returned (.slice (some ⟨d, 0, none⟩) 11 11) ∧ w'.heap[c]? = some (.cells #[.int .i64 er] 3 (0, 0)) ∧ w'.heap[d]? = some (.cells (nptr b c) 198 (0, 0)) ∧ c ≠ d ∧ w.heap.size ≤ c ∧ w.heap.size ≤ d ∧ Below w.heap.size w w'
set_option maxRecDepth 100000 in
set_option maxHeartbeats 1000000 in
theorem snum_any (w : World) (b : Nat) (er : Int) (h3 : w.cell? ⟨b, 3, none⟩ = some (.int .i64 er)) :
    Calls Tryz.prog 129 #[.pointer (some ⟨b, 0, none⟩)] w (ResNum w b er) := by
  go_enter Tryz.func129, Tryz.ntmps129
  go_wp2_with fail
  refine wp_region_sched [(0, true), (1, true), (2, true), (3, true), (4, true), (5, true), (6, true), (7, true), (8, true), (9, true), (10, true), (11, true), (12, true), (13, true), (14, true), (15, true), (16, true), (17, true), (18, true), (19, true), (20, true), (21, true), (22, true), (23, true), (24, true), (25, true), (26, true), (27, true), (28, true), (29, true), (30, true), (31, true), (32, false), (33, true)] (fun W => Below w.heap.size w W) (by kernel_rfl) (by kernel_rfl) rfl (by kernel_rfl) (((Below.refl _ _).alloc (Nat.le_refl _) _).drew) ?_
  repeat (first | (apply sched_take rfl; (focus (first | rfl | (go_simp; done))); (focus (intro W hW; go_simp; rfl)); (focus (intro K hK; go_simp; refine hK _ ?_; clear hK K))) | (apply sched_skip rfl; (focus (first | rfl | (go_simp; done))); (focus (intro K hK; go_simp; refine hK _ ?_; clear hK K))))
  apply sched_op rfl
  intro K hK
  go_simp
  go_wp2_with (fail)
  refine ⟨by exact (((Below.refl _ _).alloc (Nat.le_refl _) _).alloc (by simp) _).drew, ?_⟩
  repeat (first | (apply sched_take rfl; (focus (first | rfl | (go_simp; done))); (focus (intro W hW; go_simp; rfl)); (focus (intro K hK; go_simp; refine hK _ ?_; clear hK K))) | (apply sched_skip rfl; (focus (first | rfl | (go_simp; done))); (focus (intro K hK; go_simp; refine hK _ ?_; clear hK K))))
  refine sched_nil ?_
  go_wp2_with fail
  go_ret
  refine ⟨w.heap.size, w.heap.size + 1, rfl, ?_, ?_, by omega, by omega, by omega, (((Below.refl _ _).alloc (Nat.le_refl _) _).alloc (by simp) _).drew⟩
  · have h := ((Below.refl (w.heap.size + 1) (w.alloc (.cells #[.int .i64 er] 3 (0, 0)))).alloc (by simp) (.cells (nptr b w.heap.size) 198 (0, 0))).block w.heap.size (by omega)
    exact h.trans (heap_alloc_new w _)
  · exact heap_at (by simp)
/-- Which number stands at a place. -/
theorem num_at {w w' : World} {b c d : Nat} {s : Se} {e : TypeId} (h : Below w.heap.size w w') (hb : b < w.heap.size) (hc : w'.heap[c]? = some (.cells #[.int .i64 s.r.er] 3 (0, 0))) (hd : w'.heap[d]? = some (.cells (nptr b c) 198 (0, 0)))
    (hs : w.heap[b]? = some (.cells s.cells.toArray e (0, 0))) (k : Nat) (hk : k < 11) :
    ∃ B O, w'.cell? ⟨d, k, none⟩ = some (.pointer (some ⟨B, O, none⟩)) ∧ w'.cell? ⟨B, O, none⟩ = some (.int .i64 (s.nums[k]'hk)) := by
  have h1 := blk_cell hd
  have h2 := blk_cell hc
  have h3 := blk_cell ((h.block b hb).trans hs)
  have hk2 : k = 0 ∨ k = 1 ∨ k = 2 ∨ k = 3 ∨ k = 4 ∨ k = 5 ∨ k = 6 ∨ k = 7 ∨ k = 8 ∨ k = 9 ∨ k = 10 := by omega
  rcases hk2 with rfl | rfl | rfl | rfl | rfl | rfl | rfl | rfl | rfl | rfl | rfl
  · exact ⟨_, _, h1 0, h3 0⟩
  · exact ⟨_, _, h1 1, h3 1⟩
  · exact ⟨_, _, h1 2, h3 2⟩
  · exact ⟨_, _, h1 3, h2 0⟩
  · exact ⟨_, _, h1 4, h3 4⟩
  · exact ⟨_, _, h1 5, h3 5⟩
  · exact ⟨_, _, h1 6, h3 6⟩
  · exact ⟨_, _, h1 7, h3 7⟩
  · exact ⟨_, _, h1 8, h3 8⟩
  · exact ⟨_, _, h1 9, h3 9⟩
  · exact ⟨_, _, h1 10, h3 10⟩

/-- What Check leaves. -/
def ResChk (w : World) (n : Int) (e : Ending) (w' : World) : Prop := e = .returned (.int .i64 n) ∧ Below w.heap.size w w'
def okN (n : Int) : Bool := decide (0 ≤ n) && decide (n ≤ 1099511627776)
theorem okN_f {n : Int} (h : n < 0 ∨ 1099511627776 < n) : okN n = false := by
  unfold okN
  rcases h with h | h
  · rw [decide_eq_false (by omega)]; rfl
  · rw [decide_eq_false (p := n ≤ 1099511627776) (by omega), Bool.and_false]
theorem okN_t {n : Int} (h1 : ¬ n < 0) (h2 : ¬ 1099511627776 < n) : okN n = true := by
  unfold okN
  rw [decide_eq_true (by omega), decide_eq_true (by omega)]; rfl
theorem Rp.ok_nums (r : Rp) : (⟨0, 0, 0, r⟩ : Se).nums.all okN = r.ok := by
  show (okN 0 && (okN 0 && (okN 0 && r.nums.all okN))) = r.ok
  rfl
set_option maxRecDepth 100000 in
set_option maxHeartbeats 2000000 in
theorem scheck_any (w : World) (r : Rp) :
    Calls Tryz.prog 143 #[r.val] w (ResChk w (if r.ok then 0 else 1)) := by
  have HA : Hid ((⟨0, 0, 0, r⟩ : Se).nums.all okN = r.ok) := Lib.hid r.ok_nums
  generalize hn : (if r.ok then (0 : Int) else 1) = n
  have HN := Lib.hid hn
  clear hn
  go_enter Tryz.func143, Tryz.ntmps143
  go_wp2_with fail
  refine (snum_any _ (w.heap.size + 1) r.er (blk_cell (heap_at (by simp)) 3)).mono ?_
  rintro e w1 ⟨c, d, rfl, hc, hd, hcd, hc1, hd1, hb⟩
  have HP : Hid (∀ k (hk : k < (⟨0, 0, 0, r⟩ : Se).nums.length), ∃ B O, w1.cell? ⟨d, k, none⟩ = some (.pointer (some ⟨B, O, none⟩)) ∧ w1.cell? ⟨B, O, none⟩ = some (.int .i64 ((⟨0, 0, 0, r⟩ : Se).nums[k]'hk))) := Lib.hid (fun k hk => num_at (s := ⟨0, 0, 0, r⟩) hb (by simp) hc hd (heap_at (by simp)) k hk)
  have HB : Hid (Below w.heap.size w w1) := Lib.hid ((((Below.refl _ _).alloc (Nat.le_refl _) _).alloc (by simp) _).trans (hb.mono (by simp <;> omega)))
  have hl : (⟨0, 0, 0, r⟩ : Se).nums.length = 11 := rfl
  clear hc hd hcd hc1 hd1 hb
  generalize (⟨0, 0, 0, r⟩ : Se).nums = ns at *
  go_wp2_with fail
  go_loopw [10] (fun i wr => ∃ k : Nat, k ≤ 11 ∧ i = .int .i64 k ∧ wr = w1 ∧ (ns.take k).all okN = true) (fun i _ => 11 - (intOf i).toNat)
  case atStart => exact ⟨0, by omega, rfl, rfl, rfl⟩
  case round =>
    obtain ⟨k, hk, rfl, rfl, hall⟩ := hrel
    have HALL := Lib.hid hall
    clear hall
    by_cases hlt : k < 11
    · obtain ⟨B, O, x0, x1⟩ := HP.out k (by omega)
      have HTK := Lib.hid (all_take_succ ns okN k (by omega))
      have HBAD := Lib.hid (all_false_of ns okN k (by omega))
      generalize ns[k] = x at *
      have hk1 : (k : Int) < 11 := by omega
      by_cases h1 : x < 0
      · have hr : r.ok = false := by rw [← HA.out]; exact HBAD.out (okN_f (.inl h1))
        have hn1 := HN.out
        rw [hr] at hn1
        subst hn1
        go_wp2_with fail
        go_ret
        exact ⟨rfl, HB.out⟩
      · by_cases h2 : 1099511627776 < x
        · have hr : r.ok = false := by rw [← HA.out]; exact HBAD.out (okN_f (.inr h2))
          have hn1 := HN.out
          rw [hr] at hn1
          subst hn1
          go_wp2_with fail
          go_ret
          exact ⟨rfl, HB.out⟩
        · go_wp2_with fail
          go_roundw
          case rel => exact ⟨k + 1, by omega, by go_num, by trivial, by rw [HTK.out, HALL.out, okN_t h1 h2]; rfl⟩
          case measure => simp [intOf]; omega
    · have hke : k = 11 := by omega
      have hr : r.ok = true := by
        rw [← HA.out, ← HALL.out, List.take_of_length_le (by omega)]
      have hn1 := HN.out
      rw [hr] at hn1
      subst hn1 hke
      go_wp2_with fail
      go_ret
      exact ⟨rfl, HB.out⟩

/-- What Keep leaves. -/
def ResKep (w : World) (t m : Nat) (L : List Se) (x q a : Int) (r : Rp) (e : Ending) (w' : World) : Prop :=
  e = .returned (.int .i64 (keepS L x q a r).2) ∧ Tb w' t m (keepS L x q a r).1 ∧ Fr (fun k => k = m) w w'
set_option maxRecDepth 100000 in
set_option maxHeartbeats 2000000 in
theorem tkeep_any {w : World} {t m : Nat} {L : List Se} (h : Tb w t m L) (x q a : Int) (r : Rp) (hx : wfI x) (hq : q ≤ 9223372036854775807) :
    Calls Tryz.prog 151 #[.pointer (some ⟨t, 0, none⟩), .int .i64 x, .int .i64 q, .int .i64 a, r.val] w (ResKep w t m L x q a r) := by
  have hc := blk_cell h.hp
  have htl := h.lt
  have HT := Lib.hid h
  have HX := Lib.hid hx
  have HGK := Lib.hid (h.gr.keep x q a r)
  have hB0 : Below w.heap.size w (w.alloc (.cells #[.int .i64 r.er, .int .i64 r.ss, .int .i64 r.gn, .int .i64 r.ad, .int .i64 r.sa, .int .i64 r.ot, .int .i64 r.cy, .int .i64 r.fu] 56 (0, 0))) := (Below.refl _ _).alloc (Nat.le_refl _) _
  have HB0 := Lib.hid hB0
  have HAS := Lib.hid (task_any (h.below hB0 (Nat.le_refl _)) x q hx hq)
  have hK : keepS L x q a r = if (askS L x q).2.2 ≠ 0 then (L, (askS L x q).2.2) else if (askS L x q).2.1 = true then (L, 81) else if a < 1 ∨ 1099511627776 < a ∨ r.ok = false ∨ 1099511627776 < q then (L, 1) else (setQ L ⟨x, q, a, r⟩, 0) := rfl
  have HD : Hid ((askS L x q).2.2 = 0 → (seT L x).isSome = true) := Lib.hid (fun h => by obtain ⟨s, hs, _⟩ := askS_done h; rw [hs]; rfl)
  clear h hB0 hx
  rw [hK] at HGK
  unfold ResKep
  rw [hK]
  clear hK
  unfold ResAsk at HAS
  generalize askS L x q = A at *
  obtain ⟨r1, b1, e1⟩ := A
  dsimp only [Rp.val] at *
  generalize hKS : (if e1 ≠ 0 then (L, e1) else if b1 = true then (L, 81) else if a < 1 ∨ 1099511627776 < a ∨ r.ok = false ∨ 1099511627776 < q then (L, 1) else (setQ L ⟨x, q, a, r⟩, 0)) = KS at *
  have HKS := Lib.hid hKS
  clear hKS
  obtain ⟨L2, n2⟩ := KS
  dsimp only at *
  have HB2 : Hid (∀ w1, Below (w.alloc (.cells #[.int .i64 r.er, .int .i64 r.ss, .int .i64 r.gn, .int .i64 r.ad, .int .i64 r.sa, .int .i64 r.ot, .int .i64 r.cy, .int .i64 r.fu] 56 (0, 0))).heap.size (w.alloc (.cells #[.int .i64 r.er, .int .i64 r.ss, .int .i64 r.gn, .int .i64 r.ad, .int .i64 r.sa, .int .i64 r.ot, .int .i64 r.cy, .int .i64 r.fu] 56 (0, 0))) w1 → Below w.heap.size w (w1.alloc (.cells #[.int .i64 r1.er, .int .i64 r1.ss, .int .i64 r1.gn, .int .i64 r1.ad, .int .i64 r1.sa, .int .i64 r1.ot, .int .i64 r1.cy, .int .i64 r1.fu] 56 (0, 0)))) := Lib.hid (fun w1 h1 => (HB0.out.trans (h1.mono (by simp))).alloc (by have := h1.size; simp at this; omega) _)
  have HSZ : Hid (∀ w1, Below (w.alloc (.cells #[.int .i64 r.er, .int .i64 r.ss, .int .i64 r.gn, .int .i64 r.ad, .int .i64 r.sa, .int .i64 r.ot, .int .i64 r.cy, .int .i64 r.fu] 56 (0, 0))).heap.size (w.alloc (.cells #[.int .i64 r.er, .int .i64 r.ss, .int .i64 r.gn, .int .i64 r.ad, .int .i64 r.sa, .int .i64 r.ot, .int .i64 r.cy, .int .i64 r.fu] 56 (0, 0))) w1 → w.heap.size < w1.heap.size ∧ ∀ j, w1.cell? ⟨w.heap.size, j, none⟩ = (#[.int .i64 r.er, .int .i64 r.ss, .int .i64 r.gn, .int .i64 r.ad, .int .i64 r.sa, .int .i64 r.ot, .int .i64 r.cy, .int .i64 r.fu] : Array Value)[j]?) := Lib.hid (fun w1 h1 => ⟨by have := h1.size; simp at this; omega, blk_cell ((h1.block w.heap.size (by simp)).trans (heap_alloc_new w _))⟩)
  go_enter Tryz.func151, Tryz.ntmps151
  go_wp2_with fail
  refine HAS.out.mono ?_
  rintro e w1 ⟨rfl, hb1⟩
  have HB1 := Lib.hid (HB2.out w1 hb1)
  obtain ⟨hz1, hc9⟩ := HSZ.out w1 hb1
  clear hb1
  have hT1 := HT.out.below HB1.out (Nat.le_refl _)
  have hct := blk_cell hT1.hp
  have HT1 := Lib.hid hT1
  clear hT1
  by_cases h1 : e1 = 0
  · subst h1
    cases b1
    · by_cases h2 : a < 1
      · have hia : idxB a = false := by unfold idxB; rw [decide_eq_false (by omega)]; rfl
        have hks := HKS.out
        rw [if_neg (by simp), if_neg (by simp), if_pos (.inl h2)] at hks
        cases hks
        go_wp2_with fail
        refine (index_any _ a).mono ?_
        rintro e w2 ⟨rfl, rfl⟩
        rw [hia]
        go_wp2_with fail
        go_ret
        exact ⟨rfl, HT1.out, Fr.of_below HB1.out⟩
      · by_cases h3 : 1099511627776 < a
        · have hia : idxB a = false := by unfold idxB; rw [decide_eq_false (p := a ≤ 1099511627776) (by omega), Bool.and_false]
          have hks := HKS.out
          rw [if_neg (by simp), if_neg (by simp), if_pos (.inr (.inl h3))] at hks
          cases hks
          go_wp2_with fail
          refine (index_any _ a).mono ?_
          rintro e w2 ⟨rfl, rfl⟩
          rw [hia]
          go_wp2_with fail
          go_ret
          exact ⟨rfl, HT1.out, Fr.of_below HB1.out⟩
        · have hia : idxB a = true := by unfold idxB; rw [decide_eq_true (by omega), decide_eq_true (by omega)]; rfl
          have HIA := Lib.hid hia
          clear hia
          go_wp2_with fail
          refine (index_any _ a).mono ?_
          rintro e w2 ⟨rfl, rfl⟩
          rw [HIA.out]
          go_wp2_with fail
          refine (scheck_any _ r).mono ?_
          rintro e w2 ⟨rfl, hb2⟩
          have HB3 : Hid (Below w.heap.size w w2) := Lib.hid (HB1.out.trans (hb2.mono HB1.out.size))
          have hT2 := HT.out.below HB3.out (Nat.le_refl _)
          have hct2 := blk_cell hT2.hp
          have HT2 := Lib.hid hT2
          have hc92 : ∀ j, w2.cell? ⟨w.heap.size, j, none⟩ = (#[.int .i64 r.er, .int .i64 r.ss, .int .i64 r.gn, .int .i64 r.ad, .int .i64 r.sa, .int .i64 r.ot, .int .i64 r.cy, .int .i64 r.fu] : Array Value)[j]? := fun j => by
            rw [← hc9 j]
            refine (hb2.cell (p := ⟨w.heap.size, j, none⟩) (by simp <;> omega)).trans ?_
            exact (((Below.refl w1.heap.size w1).alloc (Nat.le_refl _) _).cell (p := ⟨w.heap.size, j, none⟩) hz1)
          have HZ2 : Hid (w.heap.size < w2.heap.size) := Lib.hid (by have := hb2.size; simp at this; omega)
          clear hb2 hT2
          cases hr : r.ok
          · have hks := HKS.out
            rw [if_neg (by simp), if_neg (by simp), if_pos (.inr (.inr (.inl hr)))] at hks
            cases hks
            go_wp2_with fail
            go_ret
            exact ⟨rfl, HT2.out, Fr.of_below HB3.out⟩
          · by_cases h4 : 1099511627776 < q
            · have hks := HKS.out
              rw [if_neg (by simp), if_neg (by simp), if_pos (.inr (.inr (.inr h4)))] at hks
              cases hks
              go_wp2_with fail
              go_ret
              exact ⟨rfl, HT2.out, Fr.of_below HB3.out⟩
            · have hks := HKS.out
              rw [if_neg (by simp), if_neg (by simp), if_neg (by rw [hr]; rintro (h | h | h | h) <;> first | omega | cases h)] at hks
              cases hks
              have HPUT : Hid (∀ W, Below w2.heap.size w2 W → ∃ w3, (Instr.mapUpdate 172 (.map (some m)) (.int .i64 x) (⟨x, q, a, r⟩ : Se).val).run Tryz.prog W = .ok () w3 ∧ Fr (fun k => k = m) W w3 ∧ w3.heap.size = W.heap.size ∧ Tb w3 t m (setQ L ⟨x, q, a, r⟩)) := Lib.hid (fun W hW => HT2.out.put ⟨x, q, a, r⟩ HX.out (insQ_old HT.out.gr.srt (s := ⟨x, q, a, r⟩) (by first | exact HD.out rfl | exact HD.out trivial | exact HD.out)) HGK.out W ⟨hW.block t HT2.out.lt, hW.block m HT2.out.ltm⟩)
              go_wp2_with fail
              have HX3 : Hid (∀ W, Below w2.heap.size w2 W → (∀ j, W.cell? ⟨t, j, none⟩ = (#[.map (some m)] : Array Value)[j]?) ∧ (∀ j, W.cell? ⟨w.heap.size, j, none⟩ = (#[.int .i64 r.er, .int .i64 r.ss, .int .i64 r.gn, .int .i64 r.ad, .int .i64 r.sa, .int .i64 r.ot, .int .i64 r.cy, .int .i64 r.fu] : Array Value)[j]?)) := Lib.hid (fun W hW => ⟨blk_cell (HT2.out.below hW (Nat.le_refl _)).hp, fun j => by
                rw [← hc92 j]
                exact hW.cell (p := ⟨w.heap.size, j, none⟩) (by have := HB3.out.size; have := HZ2.out; simp only; omega)⟩)
              refine wp_region_plan 10 (.take 0 (.take 1 (.take 2 (.take 3 (.take 4 (.take 5 (.take 6 (.take 7 (.take 8 (.take 9 (.op 10 .done))))))))))) (fun W => Below w2.heap.size w2 W) (by kernel_rfl) (by kernel_rfl) (by kernel_rfl) ((Below.refl _ _).drew) ?_
              repeat (first | (apply plan_take rfl; (focus (first | rfl | (go_simp; done))); (focus (intro W hW; obtain ⟨f1, f2⟩ := HX3.out W hW; go_simp; rfl)); (focus (intro K hK; go_simp; refine hK _ ?_; clear hK K))) | (apply plan_skip rfl; (focus (first | rfl | (go_simp; done))); (focus (intro K hK; go_simp; refine hK _ ?_; clear hK K))))
              apply plan_op rfl
              intro K hK
              obtain ⟨w3, hrun, hfr, hz, htb⟩ := HPUT.out w2.drew ((Below.refl _ _).drew)
              dsimp only [Se.val] at hrun
              have HFR := Lib.hid hfr
              have HTB := Lib.hid htb
              clear hfr hz htb
              go_simp
              go_wp2_with (fail)
              refine ⟨fun h => absurd rfl h, ?_⟩
              refine plan_nil ?_
              go_wp2_with (fail)
              go_ret
              exact ⟨rfl, HTB.out, (Fr.of_below (HB3.out.drew)).step HFR.out (fun k hk => .inl hk)⟩
    · have hks := HKS.out
      rw [if_neg (by simp), if_pos rfl] at hks
      cases hks
      go_wp2_with fail
      go_ret
      exact ⟨rfl, HT1.out, Fr.of_below HB1.out⟩
  · have hks := HKS.out
    rw [if_pos h1] at hks
    cases hks
    go_wp2_with fail
    go_ret
    exact ⟨rfl, HT1.out, Fr.of_below HB1.out⟩

open Classical in
/-- Has a seat's time gone by? -/
noncomputable def goneS (z : Int) : Lit → DataW Value → Bool := fun _ d => decide (∃ s : Se, d = .held s.val ∧ s.at_ < z)
theorem val_at {s t : Se} (h : s.val = t.val) : s.at_ = t.at_ := by
  have h1 := congrArg (fun v => match v with | Value.agg a => a[2]? | _ => none) h
  have h2 : some (Value.int .i64 s.at_) = some (Value.int .i64 t.at_) := h1
  simpa using h2
theorem goneS_val (z : Int) (kl : Lit) (s : Se) : goneS z kl (.held s.val) = decide (s.at_ < z) := by
  unfold goneS
  refine decide_eq_decide.2 ⟨?_, fun h => ⟨s, rfl, h⟩⟩
  rintro ⟨t, h1, h2⟩
  rw [val_at (DataW.held.inj h1)]; exact h2
theorem goneS_exp (L : List Se) (z : Int) : Lib.deleteFuncD (goneS z) (mapS L) = mapS (expS L z) := by
  unfold mapS Lib.deleteFuncD expS
  simp only
  rw [List.filter_map]
  congr 2
  refine List.filter_congr fun s _ => ?_
  show (!goneS z _ (.held s.val)) = _
  rw [goneS_val, ← decide_not]
  exact decide_eq_decide.2 (by omega)
theorem mapS_mem {es : List (Lit × DataW Value)} {L : List Se} (h : ∀ q ∈ es, q ∈ L.map entS) {kl : Lit} {y : DataW Value} (hat : ∀ zd, (DataW.map es).atKey kl zd = y) : ∃ s ∈ L, y = .held s.val := by
  have h1 := hat .nil
  have h2 := hat (.held undef)
  cases hf : es.find? (fun q => q.1.sameKey kl) with
  | none => simp only [DataW.atKey, hf] at h1 h2; rw [← h1] at h2; cases h2
  | some q =>
    simp only [DataW.atKey, hf] at h1
    obtain ⟨s, hs, e⟩ := List.mem_map.1 (h q (List.mem_of_find?_eq_some hf))
    refine ⟨s, hs, ?_⟩
    rw [← h1, ← e]; rfl
theorem lt_cell {w : World} {b off : Nat} {v : Value} (h : w.cell? ⟨b, off, none⟩ = some v) : b < w.heap.size := by
  by_cases hb : b < w.heap.size
  · exact hb
  · simp [World.cell?, Array.getElem?_eq_none (Nat.le_of_not_lt hb)] at h
set_option maxRecDepth 100000 in
theorem expd_any (W : World) (x z : Int) (s : Se) (g : Nat) (hg : W.cell? ⟨g, 0, none⟩ = some (.int .i64 z)) :
    Calls Tryz.prog 153 #[.int .i64 x, s.val, .pointer (some ⟨g, 0, none⟩)] W fun e w' => e = .returned (.bool (decide (s.at_ < z))) ∧ Below W.heap.size W w' := by
  have hgl := lt_cell hg
  have HB : Hid (∀ o, Below W.heap.size W (W.alloc o)) := Lib.hid (fun o => (Below.refl _ _).alloc (Nat.le_refl _) o)
  go_enter Tryz.func153, Tryz.ntmps153
  by_cases h : s.at_ < z
  · rw [decide_eq_true h]
    go_wp2_with fail
    go_ret
    exact ⟨rfl, HB.out _⟩
  · rw [decide_eq_false h]
    go_wp2_with fail
    go_ret
    exact ⟨rfl, HB.out _⟩

theorem grownB {w w' : World} (h : Below w.heap.size w w') : w.grownBy w' none := ⟨h.os, h.tape, h.output, h.size, fun k hk _ => h.block k hk⟩
set_option maxRecDepth 100000 in
set_option maxHeartbeats 4000000 in
theorem tdel_any {w : World} {t m : Nat} {L : List Se} (h : Tb w t m L) (z : Int) (g : Nat) (hg : w.cell? ⟨g, 0, none⟩ = some (.int .i64 z)) (hgm : g ≠ m) :
    Calls Tryz.prog 152 #[.map (some m), .func (.func 153) #[] #[.pointer (some ⟨g, 0, none⟩)]] w fun e w' => e = .returned (.tuple #[]) ∧ Tb w' t m (expS L z) ∧ Fr (fun k => k = m) w w' := by
  have HT := Lib.hid h
  have hown := h.own
  obtain ⟨es0, hes, hap, hkeys⟩ := hown.entries keyLaw
  have hes2 : es0 = L.map entS := by unfold mapS at hes; exact (DataW.map.inj hes).symm
  have HSUB : Hid (∀ q ∈ es0, q ∈ L.map entS) := Lib.hid (fun q hq => hes2 ▸ hq)
  have HES := Lib.hid hes
  have HG : Hid (∀ W, w.grownBy W (some m) → W.cell? ⟨g, 0, none⟩ = some (.int .i64 z)) := Lib.hid (fun W hW => by
    rw [← hg]
    have hbl := lt_cell hg
    simp only [World.cell?, hW.block g hbl (by simp [hgm])])
  rw [hes] at hown
  have HOWN := Lib.hid hown
  have HAP := Lib.hid hap
  have HK := Lib.hid hkeys
  have hen : ∀ args w, (callFunc 153 args).run Tryz.prog w = .ok (.enter 153 args) w := enters_of Tryz.func153 (by kernel_rfl) rfl
  clear h hes hes2 hown hap hkeys hg
  go_enter Tryz.func152, Tryz.ntmps152
  go_wp2_with (at_range; refine wpList_range_own _ rfl _ 172 rfl 3 58 keyLaw Tryz.underlying172 seElem m L.length (DataW.map es0) rfl HOWN.out ?_; intro w0 hrg0 hg0 hs0)
  go_frame
  have HRG0 := Lib.hid hrg0
  have HG0 := Lib.hid hg0
  clear hrg0 hg0 hs0
  go_loopw [] (fun wr => ∃ (left : Lit → Bool) (cnt : Nat), wr.ranges Tryz.prog 3 seElem m w.heap.size L.length (Fk (goneS z) es0 left) left cnt ∧ w.grownBy wr (some m)) (fun wr => wr.rangeLeft m w.heap.size)
  case atStart => exact ⟨_, _, by rw [Fk_start HK.out]; exact HRG0.out, HG0.out.but _⟩
  case round =>
    obtain ⟨left, cnt, hrg, hgw⟩ := hrel
    have HRG := Lib.hid hrg
    have HGW := Lib.hid hgw
    have HMEA := Lib.hid hrg.left_eq
    have hrl := hrg.lt
    have hml := hrg.owns.lt
    clear hrg hgw
    go_wp2_with (at_next; refine wpList_next_ranges _ rfl _ rfl 3 keyLaw seElem (Value.int .i64) Se.val invI (fun v y hv => by obtain ⟨s, h1, _⟩ := seElem_inv hv; exact ⟨s, h1⟩) m w.heap.size L.length (Fk (goneS z) es0 left) left cnt rfl HRG.out ?_ ?_)
    · intro _ hl0
      have hown9 := HRG.out.owns
      rw [Fk_end hl0, ← HES.out, goneS_exp] at hown9
      have HOWN9 := Lib.hid hown9
      clear hl0 hown9
      go_wp2_with fail
      go_end0
      have hf : Fr (fun k => k = m) w wr := Fr.of_grown HGW.out (fun k hk => (Option.some.inj hk).symm)
      exact ⟨rfl, ⟨(hf.block t HT.out.lt HT.out.ne).trans HT.out.hp, own_shrink HOWN9.out (by rw [mapS_size]; exact Nat.le_refl _), HT.out.ne, HT.out.gr.exp z⟩, hf⟩
    · intro x c kl y ps w3 cnt3 hkey hleft hy hat hrg3 hlt3 hg3 hs3 hen3
      have hy3 : y = .held c.val := by rw [seElem_val] at hy; exact (congrArg Prod.fst (Option.some.inj hy)).symm
      have hpd : goneS z kl y = decide (c.at_ < z) := by rw [hy3, goneS_val]
      have hgw3 := HGW.out.andThen hg3 (fun j hj => by cases hj; exact Or.inl (Nat.le_refl _))
      have hgx := HG.out w3 hgw3
      have HE : Hid (∀ W, Below w3.heap.size w3 W → Calls Tryz.prog 153 #[.int .i64 x, c.val, .pointer (some ⟨g, 0, none⟩)] W fun e w' => e = .returned (.bool (decide (c.at_ < z))) ∧ Below W.heap.size W w') := Lib.hid (fun W hW => expd_any W x z c g ((hW.cell (lt_cell hgx)).trans hgx))
      have HB3 : Hid (Below w3.heap.size w3 (w3.alloc (.cells #[.int .i64 c.ss, .int .i64 c.sq, .int .i64 c.at_, .int .i64 c.r.er, .int .i64 c.r.ss, .int .i64 c.r.gn, .int .i64 c.r.ad, .int .i64 c.r.sa, .int .i64 c.r.ot, .int .i64 c.r.cy, .int .i64 c.r.fu] 58 (0, 0)))) := Lib.hid ((Below.refl _ _).alloc (Nat.le_refl _) _)
      have HGW3 := Lib.hid hgw3
      have HRG3 := Lib.hid hrg3
      have HKEY := Lib.hid hkey
      have HLEFT := Lib.hid hleft
      have HAT := Lib.hid hat
      have HPD := Lib.hid hpd
      have HLT3 := Lib.hid hlt3
      clear hkey hleft hy hat hrg3 hlt3 hg3 hs3 hy3 hpd hgw3 hgx
      dsimp only [Se.val] at hen3 HE ⊢
      by_cases hgo : c.at_ < z
      · go_wp2_with fail
        refine (HE.out _ HB3.out).mono ?_
        rintro e w4 ⟨rfl, hb4⟩
        rw [decide_eq_true hgo]
        have HB4 : Hid (w3.grownBy w4 none) := Lib.hid (grownB (HB3.out.trans (hb4.mono HB3.out.size)))
        clear hb4
        have HRG4 := Lib.hid (HRG3.out.kept HB4.out (by simp) (by simp))
        go_wp2_with (at_delete; refine wpList_delete_ranges _ rfl _ _ 172 3 rfl 58 keyLaw Tryz.underlying172 seElem m w.heap.size L.length _ _ _ rfl HRG4.out _ _ rfl HKEY.out ?_; intro w5 cnt5 hrg5 hle5 hturn5; go_frame)
        rw [strike_twice] at hrg5
        have HRG5 := Lib.hid hrg5
        have HT5 := Lib.hid hturn5
        have HLE5 := Lib.hid hle5
        clear hrg5 hturn5 hle5
        go_roundw
        case rel =>
          have hp1 : goneS z kl y = true := by rw [HPD.out, decide_eq_true hgo]
          have hr5 := HRG5.out
          rw [Fk_struck HAP.out (keyLaw.key HKEY.out) HLEFT.out hp1 HAT.out] at hr5
          have hg5 : w.grownBy w5 (some m) := (HGW3.out.andThen HB4.out (fun j hj => by cases hj)).andThen HT5.out.grown (fun j hj => by cases hj; exact Or.inr rfl)
          first
          | exact ⟨_, _, _, _, _, _, ⟨_, cnt5, hr5, hg5⟩, rfl⟩
          | exact ⟨_, _, _, _, _, _, _, ⟨_, cnt5, hr5, hg5⟩, rfl⟩
          | exact ⟨_, _, _, _, _, _, _, _, ⟨_, cnt5, hr5, hg5⟩, rfl⟩
          | exact ⟨_, _, _, _, _, _, _, _, _, ⟨_, cnt5, hr5, hg5⟩, rfl⟩
          | exact ⟨_, _, _, _, _, _, _, _, _, _, ⟨_, cnt5, hr5, hg5⟩, rfl⟩
          | exact ⟨_, _, _, _, _, _, _, _, _, _, _, ⟨_, cnt5, hr5, hg5⟩, rfl⟩
          | exact ⟨_, _, _, _, _, _, _, _, _, _, _, _, ⟨_, cnt5, hr5, hg5⟩, rfl⟩
          | exact ⟨_, _, _, _, _, _, _, _, _, _, _, _, _, ⟨_, cnt5, hr5, hg5⟩, rfl⟩
          | exact ⟨_, _, _, _, _, _, _, _, _, _, _, _, _, _, ⟨_, cnt5, hr5, hg5⟩, rfl⟩
          | exact ⟨_, _, _, _, _, _, _, _, _, _, _, _, _, _, _, ⟨_, cnt5, hr5, hg5⟩, rfl⟩
          | exact ⟨_, _, _, _, _, _, _, _, _, _, _, _, _, _, _, _, ⟨_, cnt5, hr5, hg5⟩, rfl⟩
          | exact ⟨_, _, _, _, _, _, _, _, _, _, _, _, _, _, _, _, _, ⟨_, cnt5, hr5, hg5⟩, rfl⟩
          | exact ⟨_, cnt5, hr5, hg5⟩
        case measure =>
          rw [HRG5.out.left_eq, HMEA.out]
          have := HLT3.out
          have := HLE5.out
          omega
      · go_wp2_with fail
        refine (HE.out _ HB3.out).mono ?_
        rintro e w4 ⟨rfl, hb4⟩
        rw [decide_eq_false (by omega)]
        have HB4 : Hid (w3.grownBy w4 none) := Lib.hid (grownB (HB3.out.trans (hb4.mono HB3.out.size)))
        clear hb4
        have HRG4 := Lib.hid (HRG3.out.kept HB4.out (by simp) (by simp))
        go_wp2_with fail
        go_roundw
        case rel =>
          have hp1 : goneS z kl y = false := by rw [HPD.out, decide_eq_false (by omega)]
          have hr5 := HRG4.out
          rw [Fk_stays HAP.out (keyLaw.key HKEY.out) HLEFT.out hp1 HAT.out] at hr5
          have hg5 : w.grownBy w4 (some m) := HGW3.out.andThen HB4.out (fun j hj => by cases hj)
          first
          | exact ⟨_, _, _, _, _, _, ⟨_, cnt3, hr5, hg5⟩, rfl⟩
          | exact ⟨_, _, _, _, _, _, _, ⟨_, cnt3, hr5, hg5⟩, rfl⟩
          | exact ⟨_, _, _, _, _, _, _, _, ⟨_, cnt3, hr5, hg5⟩, rfl⟩
          | exact ⟨_, _, _, _, _, _, _, _, _, ⟨_, cnt3, hr5, hg5⟩, rfl⟩
          | exact ⟨_, _, _, _, _, _, _, _, _, _, ⟨_, cnt3, hr5, hg5⟩, rfl⟩
          | exact ⟨_, _, _, _, _, _, _, _, _, _, _, ⟨_, cnt3, hr5, hg5⟩, rfl⟩
          | exact ⟨_, _, _, _, _, _, _, _, _, _, _, _, ⟨_, cnt3, hr5, hg5⟩, rfl⟩
          | exact ⟨_, _, _, _, _, _, _, _, _, _, _, _, _, ⟨_, cnt3, hr5, hg5⟩, rfl⟩
          | exact ⟨_, _, _, _, _, _, _, _, _, _, _, _, _, _, ⟨_, cnt3, hr5, hg5⟩, rfl⟩
          | exact ⟨_, _, _, _, _, _, _, _, _, _, _, _, _, _, _, ⟨_, cnt3, hr5, hg5⟩, rfl⟩
          | exact ⟨_, _, _, _, _, _, _, _, _, _, _, _, _, _, _, _, ⟨_, cnt3, hr5, hg5⟩, rfl⟩
          | exact ⟨_, _, _, _, _, _, _, _, _, _, _, _, _, _, _, _, _, ⟨_, cnt3, hr5, hg5⟩, rfl⟩
          | exact ⟨_, cnt3, hr5, hg5⟩
        case measure =>
          rw [HRG4.out.left_eq, HMEA.out]
          exact HLT3.out

/-- What Expire leaves. -/
def ResExp (w : World) (t m : Nat) (L : List Se) (z : Int) (e : Ending) (w' : World) : Prop :=
  e = .returned (.int .i64 ((L.length : Int) - ((expS L z).length : Int))) ∧ Tb w' t m (expS L z) ∧ Fr (fun k => k = m) w w'
set_option maxRecDepth 100000 in
set_option maxHeartbeats 2000000 in
theorem texp_any {w : World} {t m : Nat} {L : List Se} (h : Tb w t m L) (z : Int) :
    Calls Tryz.prog 121 #[.pointer (some ⟨t, 0, none⟩), .int .i64 z] w (ResExp w t m L z) := by
  have hB : Below w.heap.size w (w.alloc (.cells #[.int .i64 z] 3)) := (Below.refl _ _).alloc (Nat.le_refl _) _
  have hst := h.below hB (Nat.le_refl _)
  have hsl := h.lt
  have hml := h.ltm
  have hcs := blk_cell hst.hp
  have hlen := hst.len 3
  have hT32 := h.gr.len
  have hR32 := (h.gr.exp z).len
  have HM := Lib.hid (tmade_any hst)
  have HD := Lib.hid (tdel_any hst z w.heap.size (blk_cell (heap_alloc_new w _) 0) (by omega))
  have HB := Lib.hid hB
  clear h hst hB
  go_enter Tryz.func121, Tryz.ntmps121
  go_wp2_with fail
  refine HM.out.mono ?_
  rintro e w1 ⟨rfl, rfl⟩
  go_wp2_with fail
  refine HD.out.mono ?_
  rintro e w1 ⟨rfl, hst1, hfr1⟩
  have hc1 := blk_cell hst1.hp
  have hlen1 := hst1.len 3
  have HST := Lib.hid hst1
  have HFR := Lib.hid hfr1
  clear hcs hlen hst1 hfr1
  generalize hn : (expS L z).length = n at *
  have HN := Lib.hid hn
  clear hn
  go_wp2_with fail
  go_ret
  refine ⟨by rw [HN.out]; rfl, HST.out, (Fr.of_below HB.out).trans HFR.out⟩
end Go.Proofs.YtempkjnaahgbhaaGreatDoor
