/-
  The walks of audit.run and Replay. Conditions: voters and a log that read as lists; its entries' bytes not more than memory bears; the package variable errors.errorType lies as it is laid.
  The walk of machine.Put: a command as bytes. Conditions: a command whose slices read as lists, not more than memory bears.
  The walk of audit.explained. Conditions: voters, a log, replies and a call that read as lists, not more than memory bears; the package variable errors.errorType lies as it is laid.
  The walks of audit.Linear's test, of slices.IndexFunc at calls, and of Linear. Conditions: voters, a log and calls that read as lists, not more than memory bears; the package variable errors.errorType lies as it is laid.
-/
import Derived.Test.YtfjpenbahoeklaaGreatDoorHOpen
import Derived.Test.YtfjpenbahoeklaaGreatDoorHMachW
import Derived.Test.YtfjpenbahoeklaaGreatDoorHStoreG
import Derived.Test.YtfjpenbahoeklaaGreatDoorHSorted
namespace Go.Proofs.YtfjpenbahoeklaaGreatDoor
open Go Go.RowKit

theorem Tryz.infoReply : (Tryz.prog.info? 32).map (fun i => (i.zero, i.size, i.bytes)) = some (some (.agg #[.int .i64 0, .int .i64 0, .int .i64 0, .int .i64 0, .int .i64 0, .int .i64 0, .int .i64 0, .int .i64 0]), 8, 64) := by kernel_rfl
theorem Rp.cells_len (r : Rp) : r.cells.length = 8 := rfl
theorem Rp.cells_one (r : Rp) : ∀ u ∈ r.cells, u.oneCell' = true := by
  intro u hu
  simp only [Rp.cells, List.mem_cons, List.not_mem_nil, or_false] at hu
  rcases hu with rfl | rfl | rfl | rfl | rfl | rfl | rfl | rfl <;> rfl
theorem Rd.oneR {w : World} {H : Nat} (hH : w.heap.size = H) (r : Rp) (t : TypeId) (fr : Nat × Nat) : Rd (w.alloc (.cells #[.int .i64 r.er, .int .i64 r.ss, .int .i64 r.gn, .int .i64 r.ad, .int .i64 r.sa, .int .i64 r.ot, .int .i64 r.cy, .int .i64 r.fu] t fr)) (H + 1) 8 (some ⟨H, 0, none⟩) 1 r.cells :=
  Rd.new hH rfl (by
    intro j hj
    simp only [Rp.cells_len] at hj
    match j, hj with
    | 0, _ => rfl
    | 1, _ => rfl
    | 2, _ => rfl
    | 3, _ => rfl
    | 4, _ => rfl
    | 5, _ => rfl
    | 6, _ => rfl
    | 7, _ => rfl)
/-- What run leaves. -/
def ResRun (w : World) (vo : List Int) (log : List En) (e : Ending) (w' : World) : Prop :=
  ∃ (A : Option Addr) (c : Nat) (p : Option Addr), e = .returned (.agg #[.slice A (replP vo log).length c, .pointer p]) ∧ w'.ownsRow w.heap.size 32 8 (.slice A (replP vo log).length c) (replP vo log).length ((replP vo log).flatMap Rp.cells) ∧ Below w.heap.size w w' ∧
    ((okV vo = true ∧ ∃ b S, p = some ⟨b, 0, none⟩ ∧ MaAt w' b S (runF (Ma.new vo) log).1) ∨ (okV vo = false ∧ p = none))
/-- run under way. -/
structure RunIn (w wr : World) (rb b : Nat) (S : Nat → Prop) (M : Ma) (A : Option Addr) (c : Nat) (rs : List Rp) : Prop where
  ma : MaAt wr b S M
  hp : wr.heap[rb]? = some (.cells #[.slice A rs.length c, .pointer (some ⟨b, 0, none⟩)] 68 (0, 0))
  own : wr.ownsRow (w.heap.size + 1) 32 8 (.slice A rs.length c) rs.length (rs.flatMap Rp.cells)
  lo : ∀ j, S j → w.heap.size + 1 ≤ j
  nr : ¬ S rb
  na : ∀ g, A.map (·.block) = some g → ¬ S g ∧ g ≠ rb ∧ g < wr.heap.size ∧ w.heap.size + 1 ≤ g
  b0 : Below w.heap.size w wr
  rz : w.heap.size + 1 ≤ rb
  res : wr.heap[w.heap.size]? = some (.cells #[.slice none 0 0, .pointer none] 68 (0, 0))
theorem applyM_same (M : Ma) (e : En) (h : (applyM M e).2.2 ≠ 0) : (applyM M e).1 = M := by
  by_cases hb : badE M e
  · rw [applyM_bad hb]
  · exfalso
    apply h
    cases hc : cmGet e.da with
    | none => rw [applyM_none hb hc]
    | some c => rw [applyM_some hb hc]
/-- The block of what is handed back lies where it lay when the replies' row has grown. -/
theorem fr_app {w w2 w5 : World} {o1 o2 : Obj} {rb : Nat} {S : Nat → Prop} {A3 : Option Addr} {o : Obj} {hi : Nat} (hp : w2.heap[rb]? = some o) (hg : ((w2.alloc o1).alloc o2).grownBy w5 (A3.map (·.block))) (hna : ∀ g, A3.map (·.block) = some g → ¬ S g ∧ g ≠ rb ∧ g < hi ∧ w.heap.size + 1 ≤ g) (hrl : rb < w2.heap.size) : w5.heap[rb]? = some o :=
  (hg.block rb (by simp; omega) (fun h => (hna rb h.symm).2.1 rfl)).trans ((Below.heap_alloc _ _ _ (by simp; omega)).trans ((Below.heap_alloc _ _ _ hrl).trans hp))
theorem RunIn.step {w wr w2 w5 : World} {rb b c3 c5 : Nat} {S : Nat → Prop} {M M2 : Ma} {A3 A5 : Option Addr} {rs : List Rp} {rp : Rp} {o1 o2 : Obj} (h : RunIn w wr rb b S M A3 c3 rs) (hrb : rb < wr.heap.size) (hma : MaAt w2 b (fun k => S k ∨ (wr.heap.size ≤ k ∧ k < w2.heap.size)) M2) (hfr : Fr S wr w2)
    (hown : w5.ownsRow (w.heap.size + 1) 32 8 (.slice A5 (rs.length + 1) c5) (rs.length + 1) (rs.flatMap Rp.cells ++ rp.cells)) (hg : ((w2.alloc o1).alloc o2).grownBy w5 (A3.map (·.block))) (hl : A5.map (·.block) = A3.map (·.block) ∨ A5.map (·.block) = some ((w2.alloc o1).alloc o2).heap.size) :
    RunIn w (w5.setCell ⟨rb, 0, none⟩ (.slice A5 (rs.length + 1) c5)) rb b (fun k => S k ∨ (wr.heap.size ≤ k ∧ k < w2.heap.size)) M2 A5 c5 (rs ++ [rp]) ∧ rb < (w5.setCell ⟨rb, 0, none⟩ (.slice A5 (rs.length + 1) c5)).heap.size := by
  have hz2 := hfr.size
  have hzw := h.b0.size
  have hB4 : Below w2.heap.size w2 ((w2.alloc o1).alloc o2) := ((Below.refl _ _).alloc (Nat.le_refl _) _).alloc (by simp) _
  have hs4 : ((w2.alloc o1).alloc o2).heap.size = w2.heap.size + 2 := by simp
  have hf5 : Fr (fun k => A3.map (·.block) = some k) ((w2.alloc o1).alloc o2) w5 := Fr.of_grown hg (fun k hk => hk)
  have hs5 := hf5.size
  have hf6 : Fr (fun k => k = rb) w5 (w5.setCell ⟨rb, 0, none⟩ (.slice A5 (rs.length + 1) c5)) := (Fr.refl (fun k => k = rb) w5).setCell (p := ⟨rb, 0, none⟩) rfl _
  have hs6 := hf6.size
  have hlt := h.ma.lt
  have hrz := h.rz
  obtain ⟨g5, hg5, hg51, hg52⟩ := own_form hown (by omega)
  have hA5 : A5.map (·.block) = some g5 := by rw [hg5]; rfl
  have hp5 := fr_app (w := w) ((hfr.block rb hrb h.nr).trans h.hp) hg h.na (Nat.lt_of_lt_of_le hrb hz2)
  have hn5 : ¬ (S g5 ∨ (wr.heap.size ≤ g5 ∧ g5 < w2.heap.size)) ∧ g5 ≠ rb := by
    rcases hl with hl | hl
    · have hn := h.na g5 (hl ▸ hA5)
      refine ⟨fun hk => ?_, hn.2.1⟩
      rcases hk with hk | hk
      · exact hn.1 hk
      · omega
    · rw [hA5, hs4] at hl
      have hl : g5 = w2.heap.size + 2 := Option.some.inj hl
      refine ⟨fun hk => ?_, by omega⟩
      rcases hk with hk | hk
      · have := hlt _ hk; omega
      · omega
  refine ⟨⟨?_, ?_, ?_, ?_, ?_, ?_, ?_, h.rz, ?_⟩, by omega⟩
  · refine ((hma.below hB4 (Nat.le_refl _)).fr hf5 (fun k hk e => ?_)).fr hf6 (fun k hk e => ?_)
    · have hn := h.na k e
      rcases hk with hk | hk
      · exact hn.1 hk
      · omega
    · subst e
      rcases hk with hk | hk
      · exact h.nr hk
      · omega
  · have := blk_set hp5 0 (.slice A5 (rs.length + 1) c5)
    rw [List.length_append]
    exact this
  · have := own_fr' hown hf6 (fun k hk e => by
      have hk : A5.map (·.block) = some k := by rw [← hk]; cases A5 <;> rfl
      rw [hA5] at hk
      cases hk
      exact hn5.2 e)
    rw [List.length_append, List.flatMap_append]
    simpa using this
  · intro j hj
    rcases hj with hj | hj
    · exact h.lo j hj
    · omega
  · rintro (hk | hk)
    · exact h.nr hk
    · omega
  · intro g hg9
    rw [hA5] at hg9
    cases hg9
    exact ⟨hn5.1, hn5.2, by omega, hg51⟩
  · have h1 : Below w.heap.size w w2 := h.b0.trans (hfr.below hzw (fun j hj => by have := h.lo j hj; omega))
    have h2 : Below w.heap.size w ((w2.alloc o1).alloc o2) := h1.trans (hB4.mono (by omega))
    have h3 : Below w.heap.size w w5 := h2.trans (hf5.below (by omega) (fun j hj => by have := h.na j hj; omega))
    exact h3.trans (hf6.below (by omega) (fun j hj => by omega))
  · have hw : w.heap.size < wr.heap.size := by omega
    exact (hf6.block _ (by omega) (by omega)).trans ((hf5.block _ (by omega) (fun e => by have := h.na _ e; omega)).trans ((hB4.block _ (by omega)).trans ((hfr.block _ hw (fun hk => by have := h.lo _ hk; omega)).trans h.res)))
set_option maxRecDepth 100000 in
set_option maxHeartbeats 8000000 in
theorem run_any (A : Option Addr) (n cap : Nat) (A2 : Option Addr) (n2 cap2 B : Nat) (vo : List Int) (es : List EnV) (w : World) (hB : B ≤ w.heap.size) (hbig : n ≤ 140737488355328) (hbig2 : n2 ≤ 1000000) (hen : ∀ e ∈ es, e.n ≤ 4294967296) (hg : ErrT w) (hr : RdI w B A n vo) (hr2 : RdEn w B A2 n2 es) :
    Calls Tryz.prog 30 #[.slice A n cap, .slice A2 n2 cap2] w (ResRun w vo (es.map EnV.en)) := by
  have hl2 := hr2.len
  subst hl2
  have HR := Lib.hid hr
  have HR2 := Lib.hid hr2
  have HB0 := Lib.hid hB
  have HG := Lib.hid hg
  have HEN := Lib.hid hen
  have HNEW : Hid (Calls Tryz.prog 48 #[.slice A n cap] (w.alloc (.cells #[.slice none 0 0, .pointer none] 68 (0, 0))) (ResNew (w.alloc (.cells #[.slice none 0 0, .pointer none] 68 (0, 0))) vo)) := Lib.hid (mnew_any A n cap B vo _ (by simp; omega) hbig (Rd.alloc hr _ hB (Nat.le_refl _)))
  clear hr hr2 hB hg hen
  have hbw : Below w.heap.size w (w.alloc (.cells #[.slice none 0 0, .pointer none] 68 (0, 0))) := (Below.refl _ _).alloc (Nat.le_refl _) _
  have HBW := Lib.hid hbw
  have HRS : Hid ((w.alloc (.cells #[.slice none 0 0, .pointer none] 68 (0, 0))).heap[w.heap.size]? = some (.cells #[.slice none 0 0, .pointer none] 68 (0, 0))) := Lib.hid (heap_at rfl)
  clear hbw
  go_enter Tryz.func30, Tryz.ntmps30
  go_wp2_with fail
  refine HNEW.out.mono ?_
  rintro e w1 (⟨hok, b, rfl, hma, hb1⟩ | ⟨hok, rfl, hb1⟩)
  · have HOK := Lib.hid hok
    have HMA := Lib.hid hma
    have HB1 := Lib.hid hb1
    have hz1 := hb1.size
    simp only [World.size_alloc] at hz1
    have HREP : Hid (replP vo (es.map EnV.en) = (runF (Ma.new vo) (es.map EnV.en)).2.1) := Lib.hid (by unfold replP; rw [if_pos hok])
    clear hok hma hb1
    go_wp2_with fail
    have HIN : Hid (RunIn w (w1.alloc (.cells #[.slice none 0 0, .pointer (some ⟨b, 0, none⟩)] 68 (0, 0))) w1.heap.size b (fun k => w.heap.size + 1 ≤ k ∧ k < w1.heap.size) (Ma.new vo) none 0 []) := Lib.hid
      ⟨(HMA.out.mono (S2 := fun k => w.heap.size + 1 ≤ k ∧ k < w1.heap.size) (fun k hk => by simpa using hk) (fun k hk => hk.2)).below ((Below.refl _ _).alloc (Nat.le_refl _) _) (Nat.le_refl _), heap_at rfl, World.ownsRow_nil _ _ _ _, fun j hj => hj.1, fun h => by omega, fun g h => by simp at h,
        (HBW.out.trans (HB1.out.mono (by simp))).trans (((Below.refl w1.heap.size w1).alloc (Nat.le_refl _) _).mono (by omega)), by omega, (Below.heap_alloc _ _ _ (by omega)).trans ((HB1.out.block _ (by simp)).trans HRS.out)⟩
    go_loopw [8] (fun i wr => ∃ (k : Nat) (S : Nat → Prop) (A3 : Option Addr) (c3 : Nat), k ≤ es.length ∧ i = .int .i64 k ∧ RunIn w wr w1.heap.size b S (runF (Ma.new vo) ((es.map EnV.en).take k)).1 A3 c3 (runF (Ma.new vo) ((es.map EnV.en).take k)).2.1 ∧ (runF (Ma.new vo) ((es.map EnV.en).take k)).2.2 = false ∧ w1.heap.size < wr.heap.size) (fun i _ => es.length - (intOf i).toNat)
    case atStart => exact ⟨0, _, none, 0, by omega, rfl, HIN.out, rfl, by simp⟩
    case round =>
      obtain ⟨k, S, A3, c3, hk, rfl, hin, hf, hzr⟩ := hrel
      have HIN2 := Lib.hid hin
      have hq : ∃ q, runF (Ma.new vo) ((es.map EnV.en).take k) = q := ⟨_, rfl⟩
      obtain ⟨⟨M, rs, fl⟩, hq⟩ := hq
      rw [hq] at hin hf
      dsimp only at hin hf
      subst hf
      have HQ := Lib.hid hq
      have HI := Lib.hid hin
      clear hq hin HIN2
      by_cases hlt : k < es.length
      · obtain ⟨eb, off, hA2, heb, x0, x1, x2, hxr⟩ := (HR2.out.below HI.out.b0 HB0.out).at_ hlt
        have hxn := HEN.out _ (List.getElem_mem hlt)
        have HTK : Hid (runF (Ma.new vo) ((es.map EnV.en).take (k + 1)) = stepR (M, rs, false) (es[k]).en) := Lib.hid (by
          rw [runF_take _ _ k (by simpa using hlt), HQ.out, List.getElem_map])
        have HST : Hid (runF (Ma.new vo) ((es.map EnV.en).take (k + 1)) = stepR (M, rs, false) (es[k]).en) := HTK
        have hk1 : (k : Int) < es.length := by omega
        have hbz := HI.out.b0.size
        have HAP : Hid (Calls Tryz.prog 49 #[.pointer (some ⟨b, 0, none⟩), (es[k]).val] wr (ResApp wr b S (applyM M (es[k]).en))) := Lib.hid (mapply_any HI.out.ma (fun h => by have := HI.out.lo 0 h; omega) (HG.out.below HI.out.b0 (Nat.le_refl _)) es[k] B (by have := HB0.out; omega) hxn hxr (fun hn j hj hs => by
          have h1 := rd_block hxr hn j hj
          have h2 := HI.out.lo j hs
          have := HB0.out
          omega))
        have HSM : Hid ((applyM M (es[k]).en).2.2 ≠ 0 → (applyM M (es[k]).en).1 = M) := Lib.hid (applyM_same M _)
        have HXR := Lib.hid hxr
        subst hA2
        clear hxr
        generalize es[k] = x at *
        obtain ⟨xi, xt, xA, xn, xc, xd⟩ := x
        dsimp only [EnV.en, EnV.val] at *
        obtain ⟨⟨M2, rp, er⟩, hap⟩ : ∃ r, applyM M ⟨xi, xt, xd⟩ = r := ⟨_, rfl⟩
        rw [hap] at HAP HSM
        have HA := Lib.hid hap
        dsimp only at HSM
        clear hap
        go_wp2_with fail
        refine HAP.out.mono ?_
        rintro e w2 ⟨rfl, hma2, hfr2⟩
        dsimp only at hma2 ⊢
        have hz2 := hfr2.size
        have hrbl : w1.heap.size < wr.heap.size := hzr
        have HMA2 := Lib.hid hma2
        have HF2 := Lib.hid hfr2
        have hp2 := (hfr2.block w1.heap.size hrbl HI.out.nr).trans HI.out.hp
        have HP2 := Lib.hid hp2
        have HO2 := Lib.hid (own_fr' HI.out.own hfr2 (fun j hj hs => (HI.out.na j (by rw [← hj]; cases A3 <;> rfl)).1 hs))
        have hres2 := (hfr2.block w.heap.size (by omega) (fun hs => by have := HI.out.lo _ hs; omega)).trans HI.out.res
        have HRES2 := Lib.hid hres2
        have HB2 : Hid (Below w.heap.size w w2) := Lib.hid (HI.out.b0.trans (hfr2.below hbz (fun j hj => by have := HI.out.lo j hj; omega)))
        have HLO2 : Hid (∀ j, (S j ∨ (wr.heap.size ≤ j ∧ j < w2.heap.size)) → w.heap.size + 1 ≤ j) := Lib.hid (fun j hj => by
          rcases hj with hj | hj
          · exact HI.out.lo j hj
          · omega)
        clear hma2 hfr2 hp2 hres2 x0 x1 x2
        by_cases her : er = 0
        · subst her
          obtain ⟨i0, hi0, hz0, hz1', hz2'⟩ := info_parts Tryz.infoReply
          have fhp2 := blk_cell HP2.out
          have hrl2 : w1.heap.size < w2.heap.size := by omega
          have hrsl : Hid (rs.length ≤ k) := Lib.hid (by
            have := (runF_len (Ma.new vo) ((es.map EnV.en).take k)).1
            rw [HQ.out] at this
            simp at this
            omega)
          have hrsl2 : rs.length ≤ 1000000 := by have := hrsl.out; omega
          go_wp2_with (at_builtin; refine wpList_app _ rfl (.tmp 40) (.tmp 42) _ rfl (w.heap.size + 1) 32 i0 _ 8 64 Tryz.underlying27 hi0 hz0 hz1' hz2' rfl (by omega) _ _ _ _ rfl ((HO2.out.alloc _).alloc _) (w2.heap.size + 2) _ 1 _ _ rfl (Rd.oneR (by simp) rp _ _) (Rp.cells_one rp) (by unfold maxLen; omega) (by omega) (by simp <;> omega) ?_; intro A5 c5 w5 hown5 hg5 hl5; have hg1 := fr_app HP2.out hg5 HI.out.na hrl2; have fhp5 := blk_cell hg1; have ghp5 := blk_frozen hg1)
          have HSTP := Lib.hid (HI.out.step hrbl HMA2.out HF2.out hown5 hg5 hl5)
          clear hown5 hg5 hl5 hg1
          refine ⟨⟨k + 1, (fun j => S j ∨ (wr.heap.size ≤ j ∧ j < w2.heap.size)), A5, c5, by omega, by go_num, ?_, ?_, ?_⟩, by simp [intOf]; omega⟩
          · rw [HTK.out, stepR_go rfl (by rw [HA.out])]
            dsimp only
            rw [HA.out]
            exact HSTP.out.1
          · rw [HTK.out, stepR_go rfl (by rw [HA.out])]
          · exact HSTP.out.2
        · have hbe : (er != 0) = true := by simpa using her
          have hM2 : M2 = M := HSM.out her
          subst hM2
          have HRUN : Hid (runF (Ma.new vo) (es.map EnV.en) = (M2, rs, true)) := Lib.hid (by
            have h1 : runF (Ma.new vo) ((es.map EnV.en).take (k + 1)) = (M2, rs, true) := by
              rw [HTK.out, stepR_no rfl (by rw [HA.out]; exact her)]
            rw [runF_stop (k := k + 1) (by rw [h1]), h1])
          have HRL : Hid (replP vo (es.map EnV.en) = rs) := Lib.hid (by rw [HREP.out, HRUN.out])
          have HRM : Hid ((runF (Ma.new vo) (es.map EnV.en)).1 = M2) := Lib.hid (by rw [HRUN.out])
          clear her
          have fhp := blk_cell HP2.out
          have fres := blk_cell HRES2.out
          have gres := blk_frozen HRES2.out
          have hsx := HB2.out.size
          have hzz : w.heap.size < w2.heap.size := by omega
          have hzy : w1.heap.size < w2.heap.size := by omega
          go_wp2_with fail
          refine bodyPost_ret (v := .agg #[.slice A3 rs.length c3, .pointer (some ⟨b, 0, none⟩)]) (by simp [results, Tryz.results30, go_sem, fres, hzz]) rfl ?_
          have hf9 : Fr (fun k => k = w.heap.size) w2 (((w2.setCell ⟨w.heap.size, 0, none⟩ (.slice A3 rs.length c3)).setCell ⟨w.heap.size, 1, none⟩ (.pointer (some ⟨b, 0, none⟩))).alloc (.cells #[.int .i64 rp.er, .int .i64 rp.ss, .int .i64 rp.gn, .int .i64 rp.ad, .int .i64 rp.sa, .int .i64 rp.ot, .int .i64 rp.cy, .int .i64 rp.fu] 32 (0, 0))) := (((Fr.refl (fun k => k = w.heap.size) w2).setCell (p := ⟨w.heap.size, 0, none⟩) rfl _).setCell (p := ⟨w.heap.size, 1, none⟩) rfl _).alloc _
          refine ⟨A3, c3, some ⟨b, 0, none⟩, by rw [HRL.out], ?_, HB2.out.trans (hf9.below hsx (fun k hk => by omega)), .inl ⟨HOK.out, b, (fun j => S j ∨ (wr.heap.size ≤ j ∧ j < w2.heap.size)), rfl, ?_⟩⟩
          · rw [HRL.out]
            exact own_le (own_fr' HO2.out hf9 (fun k hk e => by have := HI.out.na k (by rw [← hk]; cases A3 <;> rfl); omega)) (by omega)
          · rw [HRM.out]
            exact HMA2.out.fr hf9 (fun k hk e => by have := HLO2.out k hk; omega)
      · have hke : k = es.length := by omega
        have HRUN : Hid (runF (Ma.new vo) (es.map EnV.en) = (M, rs, false)) := Lib.hid (by
          have h := HQ.out
          rwa [hke, List.take_of_length_le (by simp)] at h)
        have HRL : Hid (replP vo (es.map EnV.en) = rs) := Lib.hid (by rw [HREP.out, HRUN.out])
        have HRM : Hid ((runF (Ma.new vo) (es.map EnV.en)).1 = M) := Lib.hid (by rw [HRUN.out])
        have hk1 : ¬ (k : Int) < es.length := by omega
        clear hke
        have fhp := blk_cell HI.out.hp
        have fres := blk_cell HI.out.res
        have gres := blk_frozen HI.out.res
        have hsx := HI.out.b0.size
        go_wp2_with fail
        refine bodyPost_ret (v := .agg #[.slice A3 rs.length c3, .pointer (some ⟨b, 0, none⟩)]) (by simp [results, Tryz.results30, go_sem, fres]) rfl ?_
        have hf9 : Fr (fun k => k = w.heap.size) wr ((wr.setCell ⟨w.heap.size, 0, none⟩ (.slice A3 rs.length c3)).setCell ⟨w.heap.size, 1, none⟩ (.pointer (some ⟨b, 0, none⟩))) := ((Fr.refl (fun k => k = w.heap.size) wr).setCell (p := ⟨w.heap.size, 0, none⟩) rfl _).setCell (p := ⟨w.heap.size, 1, none⟩) rfl _
        refine ⟨A3, c3, some ⟨b, 0, none⟩, by rw [HRL.out], ?_, HI.out.b0.trans (hf9.below hsx (fun k hk => by omega)), .inl ⟨HOK.out, b, S, rfl, ?_⟩⟩
        · rw [HRL.out]
          exact own_le (own_fr' HI.out.own hf9 (fun k hk e => by have := HI.out.na k (by rw [← hk]; cases A3 <;> rfl); omega)) (by omega)
        · rw [HRM.out]
          exact HI.out.ma.fr hf9 (fun k hk e => by have := HI.out.lo k hk; omega)
  · have HOK := Lib.hid hok
    have HB1 := Lib.hid hb1
    have HRL : Hid (replP vo (es.map EnV.en) = []) := Lib.hid (by unfold replP; rw [if_neg (by rw [hok]; exact Bool.false_ne_true)])
    have hz1 := hb1.size
    simp only [World.size_alloc] at hz1
    have hres1 := (hb1.block w.heap.size (by simp)).trans HRS.out
    have fres := blk_cell hres1
    have gres := blk_frozen hres1
    have hzz : w.heap.size < w1.heap.size := by omega
    clear hok hb1 hres1
    go_wp2_with fail
    refine wp_loop_rounds 1 ?_
    rw [rounds_succ]
    by_cases h0 : 0 < es.length
    · have h0i : (0 : Int) < es.length := by omega
      go_wp2_with fail
      refine bodyPost_ret (v := .agg #[.slice none 0 0, .pointer none]) (by simp [results, Tryz.results30, go_sem, fres, hzz]) rfl ?_
      have hf9 : Fr (fun k => k = w.heap.size) w1 (((w1.setCell ⟨w.heap.size, 0, none⟩ (.slice none 0 0)).setCell ⟨w.heap.size, 1, none⟩ (.pointer none)).alloc (.cells #[.slice none 0 0, .pointer none] 68 (0, 0))) := (((Fr.refl (fun k => k = w.heap.size) w1).setCell (p := ⟨w.heap.size, 0, none⟩) rfl _).setCell (p := ⟨w.heap.size, 1, none⟩) rfl _).alloc _
      exact ⟨none, 0, none, by rw [HRL.out]; rfl, by rw [HRL.out]; exact World.ownsRow_nil _ _ _ _, (HBW.out.trans (HB1.out.mono (by simp))).trans (hf9.below (by omega) (fun k hk => by omega)), .inr ⟨HOK.out, rfl⟩⟩
    · have h0i : ¬ (0 : Int) < es.length := by omega
      go_wp2_with fail
      refine bodyPost_ret (v := .agg #[.slice none 0 0, .pointer none]) (by simp [results, Tryz.results30, go_sem, fres, hzz]) rfl ?_
      have hf9 : Fr (fun k => k = w.heap.size) w1 (((w1.setCell ⟨w.heap.size, 0, none⟩ (.slice none 0 0)).setCell ⟨w.heap.size, 1, none⟩ (.pointer none)).alloc (.cells #[.slice none 0 0, .pointer none] 68 (0, 0))) := (((Fr.refl (fun k => k = w.heap.size) w1).setCell (p := ⟨w.heap.size, 0, none⟩) rfl _).setCell (p := ⟨w.heap.size, 1, none⟩) rfl _).alloc _
      exact ⟨none, 0, none, by rw [HRL.out]; rfl, by rw [HRL.out]; exact World.ownsRow_nil _ _ _ _, (HBW.out.trans (HB1.out.mono (by simp))).trans (hf9.below (by omega) (fun k hk => by omega)), .inr ⟨HOK.out, rfl⟩⟩
/-- What entries answer. -/
def ResRp (w : World) (l : List Rp) (e : Ending) (w' : World) : Prop :=
  ∃ A c, e = .returned (.slice A l.length c) ∧ w'.ownsRow w.heap.size 32 8 (.slice A l.length c) l.length (l.flatMap Rp.cells) ∧ Below w.heap.size w w'
theorem replay_fld (a0 a1 : Value) (w : World) : (Instr.field 68 (.agg #[a0, a1]) 0).run Tryz.prog w = .ok a0 w := by kernel_rfl
set_option maxRecDepth 100000 in
theorem replay_any (A : Option Addr) (n cap : Nat) (A2 : Option Addr) (n2 cap2 B : Nat) (vo : List Int) (es : List EnV) (w : World) (hB : B ≤ w.heap.size) (hbig : n ≤ 140737488355328) (hbig2 : n2 ≤ 1000000) (hen : ∀ e ∈ es, e.n ≤ 4294967296) (hg : ErrT w) (hr : RdI w B A n vo) (hr2 : RdEn w B A2 n2 es) :
    Calls Tryz.prog 13 #[.slice A n cap, .slice A2 n2 cap2] w (ResRp w (replP vo (es.map EnV.en))) := by
  have HRUN := Lib.hid (run_any A n cap A2 n2 cap2 B vo es w hB hbig hbig2 hen hg hr hr2)
  clear hB hbig hbig2 hen hg hr hr2
  have hfd := replay_fld
  go_enter Tryz.func13, Tryz.ntmps13
  go_wp2_with fail
  refine HRUN.out.mono ?_
  rintro e w1 ⟨A3, c3, p, rfl, hown, hb, _⟩
  have HO := Lib.hid hown
  have HB := Lib.hid hb
  clear hown hb
  go_wp2_with fail
  go_ret
  exact ⟨A3, c3, rfl, HO.out, HB.out⟩
end Go.Proofs.YtfjpenbahoeklaaGreatDoor
namespace Go.Proofs.YtfjpenbahoeklaaGreatDoor
open Go Go.RowKit

theorem encN_take (l : List Int) (k : Nat) (h : k < l.length) : encN (l.take (k + 1)) = encN (l.take k) ++ digits (l[k]).toNat := by
  unfold encN; rw [List.take_succ_eq_append_getElem h, List.flatMap_append]; simp
theorem number_int (A : Option Addr) (m cap B : Nat) (l : List UInt8) (z : Int) (w : World) (hB : B ≤ w.heap.size) (hbig : m ≤ 35184372088832) (h0 : 0 ≤ z) (h1 : z ≤ 9223372036854775807) (hr : RdB w B A m l) :
    Calls Tryz.prog 94 #[.slice A m cap, .int .i64 z] w (ResB w (l ++ digits z.toNat)) := by
  have h := number_nat A m cap B l z.toNat w hB hbig (by omega) hr
  rwa [Int.toNat_of_nonneg h0] at h
set_option maxRecDepth 100000 in
set_option maxHeartbeats 4000000 in
theorem mput2_any {w : World} (v : CmV) (B : Nat) (hB : B ≤ w.heap.size) (hok : v.c.ok = true) (hki : v.c.ki = 2) (hr : RdCm w B v) :
    Calls Tryz.prog 59 #[v.val] w (ResBE w (cmEnc v.c, 0)) := by
  obtain ⟨⟨ki, se, sq, at_, sp, vo⟩, As, ns, cs, Av, nv, cv⟩ := v
  dsimp only [CmV.val] at *
  subst hki
  obtain ⟨hfb, h8, hsp, hvo⟩ := Cm.ok_parts hok
  have hfb := (fieldsB_iff _).1 hfb
  dsimp only at hfb h8 hsp hvo
  have hlen : sp.length = ns := hr.sp.len
  have hvlen : vo.length = nv := hr.vo.len
  have HR := Lib.hid hr
  have HB0 := Lib.hid hB
  have HSP := Lib.hid hsp
  have hnum := hfb.2.1
  have hat0 := hfb.2.2.1
  have hat1 := hfb.2.2.2.1
  have HFB := Lib.hid hfb
  have HNM : Hid (∀ s ∈ sp, s.nm.size ≤ 140737488355328) := Lib.hid (fun s hs => by
    have := (Sp.ok_parts (List.all_eq_true.1 hsp s hs)).2.1
    omega)
  have hns8 : ns ≤ 8 := by omega
  clear hfb hsp
  generalize hW0 : w.alloc (.cells #[.int .i64 2, .int .i64 se, .int .i64 sq, .int .i64 at_, .slice As ns cs, .slice Av nv cv] 50 (0, 0)) = W0
  have hz0 : W0.heap.size = w.heap.size + 1 := by rw [← hW0]; simp
  have hb0 : Below w.heap.size w W0 := by rw [← hW0]; exact (Below.refl _ _).alloc (Nat.le_refl _) _
  have hc0 : W0.heap[w.heap.size]? = some (.cells #[.int .i64 2, .int .i64 se, .int .i64 sq, .int .i64 at_, .slice As ns cs, .slice Av nv cv] 50 (0, 0)) := by
    rw [← hW0]
    exact heap_alloc_new w _
  have hz0x : w.heap.size + 1 ≤ W0.heap.size := by omega
  have HX : Hid (∀ W, Below (w.heap.size + 1) W0 W → Below w.heap.size w W ∧ w.heap.size + 1 ≤ W.heap.size ∧ (∀ j, W.cell? ⟨w.heap.size, j, none⟩ = (#[.int .i64 2, .int .i64 se, .int .i64 sq, .int .i64 at_, .slice As ns cs, .slice Av nv cv] : Array Value)[j]?) ∧ RdCm W B ⟨⟨2, se, sq, at_, sp, vo⟩, As, ns, cs, Av, nv, cv⟩) := Lib.hid (fun W hW => by
    have hz := hW.size
    have hb1 : Below w.heap.size w W := hb0.trans (hW.mono (by omega))
    exact ⟨hb1, by omega, blk_cell ((hW.block _ (by omega)).trans hc0), hr.below hb1 hB⟩)
  have HCH : Hid (Calls Tryz.prog 73 #[.agg #[.int .i64 2, .int .i64 se, .int .i64 sq, .int .i64 at_, .slice As ns cs, .slice Av nv cv]] W0 fun e w' => e = .returned (.int .i64 0) ∧ Below W0.heap.size W0 w') := Lib.hid (by
    have h := mcheck_any ⟨⟨2, se, sq, at_, sp, vo⟩, As, ns, cs, Av, nv, cv⟩ B W0 (by omega) (by dsimp only; omega) (by dsimp only; have := HFB.out.2.2.2.2.2; omega) HNM.out (hr.below hb0 hB)
    unfold Cm.check at h
    rw [hok, if_pos rfl] at h
    exact h)
  have HBB : Hid (∀ W W', Below (w.heap.size + 1) W0 W → Below W.heap.size W W' → Below (w.heap.size + 1) W0 W') := Lib.hid (fun W W' h1 h2 => h1.trans (h2.mono (HX.out W h1).2.1))
  have fc0 := blk_cell hc0
  clear hr hB hok hb0 hc0 hz0
  go_enter Tryz.func59, Tryz.ntmps59
  go_wp2_with fail
  clear hW0 fc0
  refine HCH.out.mono ?_
  rintro e w1 ⟨rfl, hb1⟩
  have HB1 : Hid (Below (w.heap.size + 1) W0 w1) := Lib.hid (hb1.mono hz0x)
  have fc := (HX.out w1 HB1.out).2.2.1
  have hz1 := (HX.out w1 HB1.out).2.1
  clear hb1
  go_wp2_with fail
  refine (number_int none 0 0 0 [] 2 w1 (Nat.zero_le _) (by omega) (by omega) (by omega) Rd.nil).mono ?_
  rintro e w2 ⟨A2, c2, rfl, hown2, hb2⟩
  rw [List.nil_append] at hown2 ⊢
  have hl2 := (digits_len (n := Int.toNat 2) (by omega)).2
  have HB2 : Hid (Below (w.heap.size + 1) W0 w2) := Lib.hid (HBB.out _ _ HB1.out hb2)
  have HO2 : Hid (w2.ownsRow (w.heap.size + 1) 5 1 (.slice A2 (digits (Int.toNat 2)).length c2) (digits (Int.toNat 2)).length ((digits (Int.toNat 2)).map u8v)) := Lib.hid (own_le hown2 hz1)
  have hz2 := (HX.out w2 HB2.out).2.1
  clear hown2 hb2 fc
  have fc := (HX.out w2 HB2.out).2.2.1
  have HENC : Hid (cmEnc ⟨2, se, sq, at_, sp, vo⟩ = digits (Int.toNat 2) ++ (digits se.toNat ++ (digits sq.toNat ++ (digits (putEnc sp).length ++ putEnc sp)))) := Lib.hid (by
    unfold cmEnc
    dsimp only
    rw [if_pos rfl])
  generalize hd0 : digits (Int.toNat 2) = d0 at *
  clear hd0
  have hse : 1 ≤ se ∧ se ≤ 1099511627776 ∧ 1 ≤ sq ∧ sq ≤ 1099511627776 := by rcases hnum with h | h <;> omega
  clear hnum
  go_wp2_with fail
  refine wp_region_sched [(0, true), (1, true), (2, true), (4, true), (5, true), (3, false), (6, false), (7, true)] (fun W => Below (w.heap.size + 1) W0 W) (by kernel_rfl) (by kernel_rfl) rfl (by kernel_rfl) (HB2.out.drew) ?_
  repeat (first | (apply sched_take rfl; (focus (first | rfl | (go_simp; done))); (focus (intro W hW; have f1 := (HX.out W hW).2.2.1; go_simp; rfl)); (focus (intro K hK; go_simp; refine hK _ ?_; clear hK K))) | (apply sched_skip rfl; (focus (first | rfl | (go_simp; done))); (focus (intro K hK; go_simp; refine hK _ ?_; clear hK K))))
  apply sched_op rfl
  intro K hK
  go_simp
  go_wp2_with (fail)
  refine (number_int A2 d0.length c2 w2.heap.size d0 se w2.drew (Nat.le_refl _) (by omega) (by omega) (by omega) (Rd.drew (Rd.of_own HO2.out))).mono ?_
  rintro e w3 ⟨A3, c3, rfl, hown3, hb3⟩
  have hl3 := (digits_len (n := se.toNat) (by omega)).2
  have HB3 : Hid (Below (w.heap.size + 1) W0 w3) := Lib.hid (HBB.out _ _ HB2.out.drew hb3)
  have hz3 := (HX.out w3 HB3.out).2.1
  have HO3 := Lib.hid hown3
  have HL3 : Hid ((d0 ++ digits se.toNat).length ≤ 18) := Lib.hid (by rw [List.length_append]; omega)
  generalize hd1 : d0 ++ digits se.toNat = d1 at *
  have HD1 := Lib.hid hd1
  clear hown3 hb3 hd1
  go_wp2_with fail
  refine ⟨by exact HB3.out, ?_⟩
  repeat (first | (apply sched_take rfl; (focus (first | rfl | (go_simp; done))); (focus (intro W hW; have f1 := (HX.out W hW).2.2.1; go_simp; rfl)); (focus (intro K hK; go_simp; refine hK _ ?_; clear hK K))) | (apply sched_skip rfl; (focus (first | rfl | (go_simp; done))); (focus (intro K hK; go_simp; refine hK _ ?_; clear hK K))))
  apply sched_op rfl
  intro K hK
  go_simp
  go_wp2_with (fail)
  refine (number_int A3 d1.length c3 w3.heap.size d1 sq w3 (Nat.le_refl _) (by have := HL3.out; omega) (by omega) (by omega) (Rd.of_own HO3.out)).mono ?_
  rintro e w4 ⟨A4, c4, rfl, hown4, hb4⟩
  have hl4 := (digits_len (n := sq.toNat) (by omega)).2
  have HB4 : Hid (Below (w.heap.size + 1) W0 w4) := Lib.hid (HBB.out _ _ HB3.out hb4)
  have hz4 := (HX.out w4 HB4.out).2.1
  have HO4 := Lib.hid (own_le hown4 hz3)
  have HL4 : Hid ((d1 ++ digits sq.toNat).length ≤ 27) := Lib.hid (by have := HL3.out; rw [List.length_append]; omega)
  generalize hd2 : d1 ++ digits sq.toNat = d2 at *
  have HD2 := Lib.hid hd2
  clear hown4 hb4 hd2 fc
  go_wp2_with fail
  refine ⟨by exact HB4.out, ?_⟩
  repeat (first | (apply sched_take rfl; (focus (first | rfl | (go_simp; done))); (focus (intro W hW; have f1 := (HX.out W hW).2.2.1; go_simp; rfl)); (focus (intro K hK; go_simp; refine hK _ ?_; clear hK K))) | (apply sched_skip rfl; (focus (first | rfl | (go_simp; done))); (focus (intro K hK; go_simp; refine hK _ ?_; clear hK K))))
  refine sched_nil ?_
  have fc := (HX.out w4 HB4.out).2.2.1
  go_wp2_with fail
  refine (Put_any As ns cs B sp w4 (by have := HB0.out; omega) (by omega) HNM.out (HX.out w4 HB4.out).2.2.2.sp).mono ?_
  rintro e w5 ⟨A5, c5, rfl, hown5, hb5⟩
  rw [putAns_ok HSP.out] at hown5 ⊢
  dsimp only at hown5 ⊢
  have hpl : (putEnc sp).length ≤ 9 + 86 * 8 := by
    have h1 := encL_len sp (fun s hs => List.all_eq_true.1 HSP.out s hs)
    have h2 := (digits_len (n := sp.length) (by omega)).2
    have h3 : sp.length ≤ 8 := by omega
    unfold putEnc
    rw [List.length_append]
    omega
  have HB5 : Hid (Below (w.heap.size + 1) W0 w5) := Lib.hid (HBB.out _ _ HB4.out hb5)
  have hz5 := (HX.out w5 HB5.out).2.1
  have HO5 := Lib.hid hown5
  have HO45 := Lib.hid (own_below HO4.out hb5)
  have hcv := run_conv_bs (P := Tryz.prog) (w := w5) Tryz.underlying73 Tryz.underlying5 Tryz.underlying9 (RdB.of_own HO5.out) c5
  have htsz : (⟨(putEnc sp).toArray⟩ : ByteArray).size = (putEnc sp).length := by show (putEnc sp).toArray.size = _; simp
  have HTS := Lib.hid htsz
  clear hown5 hb5 fc htsz
  go_wp2_with fail
  clear hcv
  refine (text_any A4 d2.length c4 w5.heap.size d2 ⟨(putEnc sp).toArray⟩ w5 (Nat.le_refl _) (by have := HL4.out; omega) (by rw [HTS.out]; omega) (Rd.of_own HO45.out)).mono ?_
  rintro e w6 ⟨A6, c6, rfl, hown6, hb6⟩
  have he : d2 ++ digits (⟨(putEnc sp).toArray⟩ : ByteArray).size ++ (⟨(putEnc sp).toArray⟩ : ByteArray).data.toList = cmEnc ⟨2, se, sq, at_, sp, vo⟩ := by
    rw [HENC.out, HTS.out, ← HD2.out, ← HD1.out]
    simp
  rw [he] at hown6 ⊢
  have HB6 : Hid (Below (w.heap.size + 1) W0 w6) := Lib.hid (HBB.out _ _ HB5.out hb6)
  have HO6 := Lib.hid hown6
  clear hown6 hb6 he
  go_wp2_with fail
  go_ret2
  exact ⟨A6, c6, rfl, own_le HO6.out (by omega), (HX.out _ HB6.out).1⟩
set_option maxRecDepth 100000 in
set_option maxHeartbeats 4000000 in
theorem mput3_any {w : World} (v : CmV) (B : Nat) (hB : B ≤ w.heap.size) (hok : v.c.ok = true) (hki : v.c.ki = 3) (hr : RdCm w B v) :
    Calls Tryz.prog 59 #[v.val] w (ResBE w (cmEnc v.c, 0)) := by
  obtain ⟨⟨ki, se, sq, at_, sp, vo⟩, As, ns, cs, Av, nv, cv⟩ := v
  dsimp only [CmV.val] at *
  subst hki
  obtain ⟨hfb, h8, hsp, hvo⟩ := Cm.ok_parts hok
  have hfb := (fieldsB_iff _).1 hfb
  dsimp only at hfb h8 hsp hvo
  have hlen : sp.length = ns := hr.sp.len
  have hvlen : vo.length = nv := hr.vo.len
  have HR := Lib.hid hr
  have HB0 := Lib.hid hB
  have HSP := Lib.hid hsp
  have hnum := hfb.2.1
  have hat0 := hfb.2.2.1
  have hat1 := hfb.2.2.2.1
  have HFB := Lib.hid hfb
  have HNM : Hid (∀ s ∈ sp, s.nm.size ≤ 140737488355328) := Lib.hid (fun s hs => by
    have := (Sp.ok_parts (List.all_eq_true.1 hsp s hs)).2.1
    omega)
  have hns8 : ns ≤ 8 := by omega
  clear hfb hsp
  generalize hW0 : w.alloc (.cells #[.int .i64 3, .int .i64 se, .int .i64 sq, .int .i64 at_, .slice As ns cs, .slice Av nv cv] 50 (0, 0)) = W0
  have hz0 : W0.heap.size = w.heap.size + 1 := by rw [← hW0]; simp
  have hb0 : Below w.heap.size w W0 := by rw [← hW0]; exact (Below.refl _ _).alloc (Nat.le_refl _) _
  have hc0 : W0.heap[w.heap.size]? = some (.cells #[.int .i64 3, .int .i64 se, .int .i64 sq, .int .i64 at_, .slice As ns cs, .slice Av nv cv] 50 (0, 0)) := by
    rw [← hW0]
    exact heap_alloc_new w _
  have hz0x : w.heap.size + 1 ≤ W0.heap.size := by omega
  have HX : Hid (∀ W, Below (w.heap.size + 1) W0 W → Below w.heap.size w W ∧ w.heap.size + 1 ≤ W.heap.size ∧ (∀ j, W.cell? ⟨w.heap.size, j, none⟩ = (#[.int .i64 3, .int .i64 se, .int .i64 sq, .int .i64 at_, .slice As ns cs, .slice Av nv cv] : Array Value)[j]?) ∧ RdCm W B ⟨⟨3, se, sq, at_, sp, vo⟩, As, ns, cs, Av, nv, cv⟩) := Lib.hid (fun W hW => by
    have hz := hW.size
    have hb1 : Below w.heap.size w W := hb0.trans (hW.mono (by omega))
    exact ⟨hb1, by omega, blk_cell ((hW.block _ (by omega)).trans hc0), hr.below hb1 hB⟩)
  have HCH : Hid (Calls Tryz.prog 73 #[.agg #[.int .i64 3, .int .i64 se, .int .i64 sq, .int .i64 at_, .slice As ns cs, .slice Av nv cv]] W0 fun e w' => e = .returned (.int .i64 0) ∧ Below W0.heap.size W0 w') := Lib.hid (by
    have h := mcheck_any ⟨⟨3, se, sq, at_, sp, vo⟩, As, ns, cs, Av, nv, cv⟩ B W0 (by omega) (by dsimp only; omega) (by dsimp only; have := HFB.out.2.2.2.2.2; omega) HNM.out (hr.below hb0 hB)
    unfold Cm.check at h
    rw [hok, if_pos rfl] at h
    exact h)
  have HBB : Hid (∀ W W', Below (w.heap.size + 1) W0 W → Below W.heap.size W W' → Below (w.heap.size + 1) W0 W') := Lib.hid (fun W W' h1 h2 => h1.trans (h2.mono (HX.out W h1).2.1))
  have fc0 := blk_cell hc0
  clear hr hB hok hb0 hc0 hz0
  go_enter Tryz.func59, Tryz.ntmps59
  go_wp2_with fail
  clear hW0 fc0
  refine HCH.out.mono ?_
  rintro e w1 ⟨rfl, hb1⟩
  have HB1 : Hid (Below (w.heap.size + 1) W0 w1) := Lib.hid (hb1.mono hz0x)
  have fc := (HX.out w1 HB1.out).2.2.1
  have hz1 := (HX.out w1 HB1.out).2.1
  clear hb1
  go_wp2_with fail
  refine (number_int none 0 0 0 [] 3 w1 (Nat.zero_le _) (by omega) (by omega) (by omega) Rd.nil).mono ?_
  rintro e w2 ⟨A2, c2, rfl, hown2, hb2⟩
  rw [List.nil_append] at hown2 ⊢
  have hl2 := (digits_len (n := Int.toNat 3) (by omega)).2
  have HB2 : Hid (Below (w.heap.size + 1) W0 w2) := Lib.hid (HBB.out _ _ HB1.out hb2)
  have HO2 : Hid (w2.ownsRow (w.heap.size + 1) 5 1 (.slice A2 (digits (Int.toNat 3)).length c2) (digits (Int.toNat 3)).length ((digits (Int.toNat 3)).map u8v)) := Lib.hid (own_le hown2 hz1)
  have hz2 := (HX.out w2 HB2.out).2.1
  clear hown2 hb2 fc
  have fc := (HX.out w2 HB2.out).2.2.1
  have HENC : Hid (cmEnc ⟨3, se, sq, at_, sp, vo⟩ = digits (Int.toNat 3) ++ digits at_.toNat) := Lib.hid (by
    unfold cmEnc
    dsimp only
    rw [if_neg (by decide), if_pos (.inl rfl)])
  have hat2 : at_ ≤ 1099511627777 := Int.le_trans hat1 (by unfold atM; decide)
  generalize hd0 : digits (Int.toNat 3) = d0 at *
  clear hd0 hat1 hnum
  go_wp2_with fail
  refine (number_int A2 d0.length c2 w2.heap.size d0 at_ w2 (Nat.le_refl _) (by omega) (by omega) (by omega) (Rd.of_own HO2.out)).mono ?_
  rintro e w3 ⟨A3, c3, rfl, hown3, hb3⟩
  rw [← HENC.out] at hown3 ⊢
  have HB3 : Hid (Below (w.heap.size + 1) W0 w3) := Lib.hid (HBB.out _ _ HB2.out hb3)
  have HO3 := Lib.hid hown3
  clear hown3 hb3
  go_wp2_with fail
  go_ret2
  exact ⟨A3, c3, rfl, own_le HO3.out (by omega), (HX.out _ HB3.out).1⟩
set_option maxRecDepth 100000 in
set_option maxHeartbeats 4000000 in
theorem mput4_any {w : World} (v : CmV) (B : Nat) (hB : B ≤ w.heap.size) (hok : v.c.ok = true) (hki : v.c.ki = 4) (hr : RdCm w B v) :
    Calls Tryz.prog 59 #[v.val] w (ResBE w (cmEnc v.c, 0)) := by
  obtain ⟨⟨ki, se, sq, at_, sp, vo⟩, As, ns, cs, Av, nv, cv⟩ := v
  dsimp only [CmV.val] at *
  subst hki
  obtain ⟨hfb, h8, hsp, hvo⟩ := Cm.ok_parts hok
  have hfb := (fieldsB_iff _).1 hfb
  dsimp only at hfb h8 hsp hvo
  have hlen : sp.length = ns := hr.sp.len
  have hvlen : vo.length = nv := hr.vo.len
  have HR := Lib.hid hr
  have HB0 := Lib.hid hB
  have HSP := Lib.hid hsp
  have hnum := hfb.2.1
  have hat0 := hfb.2.2.1
  have hat1 := hfb.2.2.2.1
  have HFB := Lib.hid hfb
  have HNM : Hid (∀ s ∈ sp, s.nm.size ≤ 140737488355328) := Lib.hid (fun s hs => by
    have := (Sp.ok_parts (List.all_eq_true.1 hsp s hs)).2.1
    omega)
  have hns8 : ns ≤ 8 := by omega
  clear hfb hsp
  generalize hW0 : w.alloc (.cells #[.int .i64 4, .int .i64 se, .int .i64 sq, .int .i64 at_, .slice As ns cs, .slice Av nv cv] 50 (0, 0)) = W0
  have hz0 : W0.heap.size = w.heap.size + 1 := by rw [← hW0]; simp
  have hb0 : Below w.heap.size w W0 := by rw [← hW0]; exact (Below.refl _ _).alloc (Nat.le_refl _) _
  have hc0 : W0.heap[w.heap.size]? = some (.cells #[.int .i64 4, .int .i64 se, .int .i64 sq, .int .i64 at_, .slice As ns cs, .slice Av nv cv] 50 (0, 0)) := by
    rw [← hW0]
    exact heap_alloc_new w _
  have hz0x : w.heap.size + 1 ≤ W0.heap.size := by omega
  have HX : Hid (∀ W, Below (w.heap.size + 1) W0 W → Below w.heap.size w W ∧ w.heap.size + 1 ≤ W.heap.size ∧ (∀ j, W.cell? ⟨w.heap.size, j, none⟩ = (#[.int .i64 4, .int .i64 se, .int .i64 sq, .int .i64 at_, .slice As ns cs, .slice Av nv cv] : Array Value)[j]?) ∧ RdCm W B ⟨⟨4, se, sq, at_, sp, vo⟩, As, ns, cs, Av, nv, cv⟩) := Lib.hid (fun W hW => by
    have hz := hW.size
    have hb1 : Below w.heap.size w W := hb0.trans (hW.mono (by omega))
    exact ⟨hb1, by omega, blk_cell ((hW.block _ (by omega)).trans hc0), hr.below hb1 hB⟩)
  have HCH : Hid (Calls Tryz.prog 73 #[.agg #[.int .i64 4, .int .i64 se, .int .i64 sq, .int .i64 at_, .slice As ns cs, .slice Av nv cv]] W0 fun e w' => e = .returned (.int .i64 0) ∧ Below W0.heap.size W0 w') := Lib.hid (by
    have h := mcheck_any ⟨⟨4, se, sq, at_, sp, vo⟩, As, ns, cs, Av, nv, cv⟩ B W0 (by omega) (by dsimp only; omega) (by dsimp only; have := HFB.out.2.2.2.2.2; omega) HNM.out (hr.below hb0 hB)
    unfold Cm.check at h
    rw [hok, if_pos rfl] at h
    exact h)
  have HBB : Hid (∀ W W', Below (w.heap.size + 1) W0 W → Below W.heap.size W W' → Below (w.heap.size + 1) W0 W') := Lib.hid (fun W W' h1 h2 => h1.trans (h2.mono (HX.out W h1).2.1))
  have fc0 := blk_cell hc0
  clear hr hB hok hb0 hc0 hz0
  go_enter Tryz.func59, Tryz.ntmps59
  go_wp2_with fail
  clear hW0 fc0
  refine HCH.out.mono ?_
  rintro e w1 ⟨rfl, hb1⟩
  have HB1 : Hid (Below (w.heap.size + 1) W0 w1) := Lib.hid (hb1.mono hz0x)
  have fc := (HX.out w1 HB1.out).2.2.1
  have hz1 := (HX.out w1 HB1.out).2.1
  clear hb1
  go_wp2_with fail
  refine (number_int none 0 0 0 [] 4 w1 (Nat.zero_le _) (by omega) (by omega) (by omega) Rd.nil).mono ?_
  rintro e w2 ⟨A2, c2, rfl, hown2, hb2⟩
  rw [List.nil_append] at hown2 ⊢
  have hl2 := (digits_len (n := Int.toNat 4) (by omega)).2
  have HB2 : Hid (Below (w.heap.size + 1) W0 w2) := Lib.hid (HBB.out _ _ HB1.out hb2)
  have HO2 : Hid (w2.ownsRow (w.heap.size + 1) 5 1 (.slice A2 (digits (Int.toNat 4)).length c2) (digits (Int.toNat 4)).length ((digits (Int.toNat 4)).map u8v)) := Lib.hid (own_le hown2 hz1)
  have hz2 := (HX.out w2 HB2.out).2.1
  clear hown2 hb2 fc
  have fc := (HX.out w2 HB2.out).2.2.1
  have HENC : Hid (cmEnc ⟨4, se, sq, at_, sp, vo⟩ = digits (Int.toNat 4) ++ digits at_.toNat) := Lib.hid (by
    unfold cmEnc
    dsimp only
    rw [if_neg (by decide), if_pos (.inr rfl)])
  have hat2 : at_ ≤ 1099511627777 := Int.le_trans hat1 (by unfold atM; decide)
  generalize hd0 : digits (Int.toNat 4) = d0 at *
  clear hd0 hat1 hnum
  go_wp2_with fail
  refine (number_int A2 d0.length c2 w2.heap.size d0 at_ w2 (Nat.le_refl _) (by omega) (by omega) (by omega) (Rd.of_own HO2.out)).mono ?_
  rintro e w3 ⟨A3, c3, rfl, hown3, hb3⟩
  rw [← HENC.out] at hown3 ⊢
  have HB3 : Hid (Below (w.heap.size + 1) W0 w3) := Lib.hid (HBB.out _ _ HB2.out hb3)
  have HO3 := Lib.hid hown3
  clear hown3 hb3
  go_wp2_with fail
  go_ret2
  exact ⟨A3, c3, rfl, own_le HO3.out (by omega), (HX.out _ HB3.out).1⟩
set_option maxRecDepth 100000 in
set_option maxHeartbeats 4000000 in
theorem mput0_any {w : World} (v : CmV) (B : Nat) (hB : B ≤ w.heap.size) (hok : v.c.ok = true) (hki : v.c.ki = 0 ∨ v.c.ki = 1) (hr : RdCm w B v) :
    Calls Tryz.prog 59 #[v.val] w (ResBE w (cmEnc v.c, 0)) := by
  obtain ⟨⟨ki, se, sq, at_, sp, vo⟩, As, ns, cs, Av, nv, cv⟩ := v
  dsimp only [CmV.val] at *
  obtain ⟨hfb, h8, hsp, hvo⟩ := Cm.ok_parts hok
  have hfb := (fieldsB_iff _).1 hfb
  dsimp only at hfb h8 hsp hvo
  have hlen : sp.length = ns := hr.sp.len
  have hvlen : vo.length = nv := hr.vo.len
  have HR := Lib.hid hr
  have HB0 := Lib.hid hB
  have HSP := Lib.hid hsp
  have hnum := hfb.2.1
  have hat0 := hfb.2.2.1
  have hat1 := hfb.2.2.2.1
  have HFB := Lib.hid hfb
  have HNM : Hid (∀ s ∈ sp, s.nm.size ≤ 140737488355328) := Lib.hid (fun s hs => by
    have := (Sp.ok_parts (List.all_eq_true.1 hsp s hs)).2.1
    omega)
  have hns8 : ns ≤ 8 := by omega
  clear hfb hsp
  have hb2 : (ki == 2) = false := by simp; omega
  have hb3 : (ki == 3) = false := by simp; omega
  have hb4 : (ki == 4) = false := by simp; omega
  have hb5 : (ki == 5) = false := by simp; omega
  have hk01 : 0 ≤ ki ∧ ki ≤ 1 := by omega
  have HKI := Lib.hid hki
  clear hki
  generalize hW0 : w.alloc (.cells #[.int .i64 ki, .int .i64 se, .int .i64 sq, .int .i64 at_, .slice As ns cs, .slice Av nv cv] 50 (0, 0)) = W0
  have hz0 : W0.heap.size = w.heap.size + 1 := by rw [← hW0]; simp
  have hb0 : Below w.heap.size w W0 := by rw [← hW0]; exact (Below.refl _ _).alloc (Nat.le_refl _) _
  have hc0 : W0.heap[w.heap.size]? = some (.cells #[.int .i64 ki, .int .i64 se, .int .i64 sq, .int .i64 at_, .slice As ns cs, .slice Av nv cv] 50 (0, 0)) := by
    rw [← hW0]
    exact heap_alloc_new w _
  have hz0x : w.heap.size + 1 ≤ W0.heap.size := by omega
  have HX : Hid (∀ W, Below (w.heap.size + 1) W0 W → Below w.heap.size w W ∧ w.heap.size + 1 ≤ W.heap.size ∧ (∀ j, W.cell? ⟨w.heap.size, j, none⟩ = (#[.int .i64 ki, .int .i64 se, .int .i64 sq, .int .i64 at_, .slice As ns cs, .slice Av nv cv] : Array Value)[j]?) ∧ RdCm W B ⟨⟨ki, se, sq, at_, sp, vo⟩, As, ns, cs, Av, nv, cv⟩) := Lib.hid (fun W hW => by
    have hz := hW.size
    have hb1 : Below w.heap.size w W := hb0.trans (hW.mono (by omega))
    exact ⟨hb1, by omega, blk_cell ((hW.block _ (by omega)).trans hc0), hr.below hb1 hB⟩)
  have HCH : Hid (Calls Tryz.prog 73 #[.agg #[.int .i64 ki, .int .i64 se, .int .i64 sq, .int .i64 at_, .slice As ns cs, .slice Av nv cv]] W0 fun e w' => e = .returned (.int .i64 0) ∧ Below W0.heap.size W0 w') := Lib.hid (by
    have h := mcheck_any ⟨⟨ki, se, sq, at_, sp, vo⟩, As, ns, cs, Av, nv, cv⟩ B W0 (by omega) (by dsimp only; omega) (by dsimp only; have := HFB.out.2.2.2.2.2; have := HKI.out; omega) HNM.out (hr.below hb0 hB)
    unfold Cm.check at h
    rw [hok, if_pos rfl] at h
    exact h)
  have HBB : Hid (∀ W W', Below (w.heap.size + 1) W0 W → Below W.heap.size W W' → Below (w.heap.size + 1) W0 W') := Lib.hid (fun W W' h1 h2 => h1.trans (h2.mono (HX.out W h1).2.1))
  have fc0 := blk_cell hc0
  clear hr hB hok hb0 hc0 hz0
  go_enter Tryz.func59, Tryz.ntmps59
  go_wp2_with fail
  clear hW0 fc0
  refine HCH.out.mono ?_
  rintro e w1 ⟨rfl, hb1⟩
  have HB1 : Hid (Below (w.heap.size + 1) W0 w1) := Lib.hid (hb1.mono hz0x)
  have fc := (HX.out w1 HB1.out).2.2.1
  have hz1 := (HX.out w1 HB1.out).2.1
  clear hb1
  go_wp2_with fail
  refine (number_int none 0 0 0 [] ki w1 (Nat.zero_le _) (by omega) (by omega) (by omega) Rd.nil).mono ?_
  rintro e w2 ⟨A2, c2, rfl, hown2, hb2⟩
  rw [List.nil_append] at hown2 ⊢
  have hl2 := (digits_len (n := ki.toNat) (by omega)).2
  have HB2 : Hid (Below (w.heap.size + 1) W0 w2) := Lib.hid (HBB.out _ _ HB1.out hb2)
  have HO2 : Hid (w2.ownsRow (w.heap.size + 1) 5 1 (.slice A2 (digits (ki.toNat)).length c2) (digits (ki.toNat)).length ((digits (ki.toNat)).map u8v)) := Lib.hid (own_le hown2 hz1)
  have hz2 := (HX.out w2 HB2.out).2.1
  clear hown2 hb2 fc
  have fc := (HX.out w2 HB2.out).2.2.1
  have HENC : Hid (cmEnc ⟨ki, se, sq, at_, sp, vo⟩ = digits ki.toNat) := Lib.hid (by
    unfold cmEnc
    dsimp only
    rw [if_neg (by have := HKI.out; omega), if_neg (by have := HKI.out; omega), if_neg (by have := HKI.out; omega), List.append_nil])
  generalize hd0 : digits (ki.toNat) = d0 at *
  clear hd0
  go_wp2_with fail
  go_ret2
  rw [HENC.out]
  exact ⟨A2, c2, rfl, own_le HO2.out (by omega), (HX.out _ HB2.out).1⟩
set_option maxRecDepth 100000 in
set_option maxHeartbeats 4000000 in
theorem mput5_any {w : World} (v : CmV) (B : Nat) (hB : B ≤ w.heap.size) (hok : v.c.ok = true) (hki : v.c.ki = 5) (hr : RdCm w B v) :
    Calls Tryz.prog 59 #[v.val] w (ResBE w (cmEnc v.c, 0)) := by
  obtain ⟨⟨ki, se, sq, at_, sp, vo⟩, As, ns, cs, Av, nv, cv⟩ := v
  dsimp only [CmV.val] at *
  subst hki
  obtain ⟨hfb, h8, hsp, hvo⟩ := Cm.ok_parts hok
  have hfb := (fieldsB_iff _).1 hfb
  dsimp only at hfb h8 hsp hvo
  have hlen : sp.length = ns := hr.sp.len
  have hvlen : vo.length = nv := hr.vo.len
  have HR := Lib.hid hr
  have HB0 := Lib.hid hB
  have HSP := Lib.hid hsp
  have hnum := hfb.2.1
  have hat0 := hfb.2.2.1
  have hat1 := hfb.2.2.2.1
  have HFB := Lib.hid hfb
  have HNM : Hid (∀ s ∈ sp, s.nm.size ≤ 140737488355328) := Lib.hid (fun s hs => by
    have := (Sp.ok_parts (List.all_eq_true.1 hsp s hs)).2.1
    omega)
  have hns8 : ns ≤ 8 := by omega
  clear hfb hsp
  have HVO := Lib.hid (hvo rfl)
  have hvl := (okV_len HVO.out).2
  subst hvlen
  generalize hW0 : w.alloc (.cells #[.int .i64 5, .int .i64 se, .int .i64 sq, .int .i64 at_, .slice As ns cs, .slice Av vo.length cv] 50 (0, 0)) = W0
  have hz0 : W0.heap.size = w.heap.size + 1 := by rw [← hW0]; simp
  have hb0 : Below w.heap.size w W0 := by rw [← hW0]; exact (Below.refl _ _).alloc (Nat.le_refl _) _
  have hc0 : W0.heap[w.heap.size]? = some (.cells #[.int .i64 5, .int .i64 se, .int .i64 sq, .int .i64 at_, .slice As ns cs, .slice Av vo.length cv] 50 (0, 0)) := by
    rw [← hW0]
    exact heap_alloc_new w _
  have hz0x : w.heap.size + 1 ≤ W0.heap.size := by omega
  have HX : Hid (∀ W, Below (w.heap.size + 1) W0 W → Below w.heap.size w W ∧ w.heap.size + 1 ≤ W.heap.size ∧ (∀ j, W.cell? ⟨w.heap.size, j, none⟩ = (#[.int .i64 5, .int .i64 se, .int .i64 sq, .int .i64 at_, .slice As ns cs, .slice Av vo.length cv] : Array Value)[j]?) ∧ RdCm W B ⟨⟨5, se, sq, at_, sp, vo⟩, As, ns, cs, Av, vo.length, cv⟩) := Lib.hid (fun W hW => by
    have hz := hW.size
    have hb1 : Below w.heap.size w W := hb0.trans (hW.mono (by omega))
    exact ⟨hb1, by omega, blk_cell ((hW.block _ (by omega)).trans hc0), hr.below hb1 hB⟩)
  have HCH : Hid (Calls Tryz.prog 73 #[.agg #[.int .i64 5, .int .i64 se, .int .i64 sq, .int .i64 at_, .slice As ns cs, .slice Av vo.length cv]] W0 fun e w' => e = .returned (.int .i64 0) ∧ Below W0.heap.size W0 w') := Lib.hid (by
    have h := mcheck_any ⟨⟨5, se, sq, at_, sp, vo⟩, As, ns, cs, Av, vo.length, cv⟩ B W0 (by omega) (by dsimp only; omega) (by dsimp only; omega) HNM.out (hr.below hb0 hB)
    unfold Cm.check at h
    rw [hok, if_pos rfl] at h
    exact h)
  have HBB : Hid (∀ W W', Below (w.heap.size + 1) W0 W → Below W.heap.size W W' → Below (w.heap.size + 1) W0 W') := Lib.hid (fun W W' h1 h2 => h1.trans (h2.mono (HX.out W h1).2.1))
  have fc0 := blk_cell hc0
  clear hr hB hok hb0 hc0 hz0
  go_enter Tryz.func59, Tryz.ntmps59
  go_wp2_with fail
  clear hW0 fc0
  refine HCH.out.mono ?_
  rintro e w1 ⟨rfl, hb1⟩
  have HB1 : Hid (Below (w.heap.size + 1) W0 w1) := Lib.hid (hb1.mono hz0x)
  have fc := (HX.out w1 HB1.out).2.2.1
  have hz1 := (HX.out w1 HB1.out).2.1
  clear hb1
  go_wp2_with fail
  refine (number_int none 0 0 0 [] 5 w1 (Nat.zero_le _) (by omega) (by omega) (by omega) Rd.nil).mono ?_
  rintro e w2 ⟨A2, c2, rfl, hown2, hb2⟩
  rw [List.nil_append] at hown2 ⊢
  have hl2 := (digits_len (n := Int.toNat 5) (by omega)).2
  have HB2 : Hid (Below (w.heap.size + 1) W0 w2) := Lib.hid (HBB.out _ _ HB1.out hb2)
  have HO2 : Hid (w2.ownsRow (w.heap.size + 1) 5 1 (.slice A2 (digits (Int.toNat 5)).length c2) (digits (Int.toNat 5)).length ((digits (Int.toNat 5)).map u8v)) := Lib.hid (own_le hown2 hz1)
  have hz2 := (HX.out w2 HB2.out).2.1
  clear hown2 hb2 fc
  have fc := (HX.out w2 HB2.out).2.2.1
  have HENC : Hid (cmEnc ⟨5, se, sq, at_, sp, vo⟩ = digits (Int.toNat 5) ++ (digits vo.length ++ encN vo)) := Lib.hid (by
    unfold cmEnc
    dsimp only
    rw [if_neg (by decide), if_neg (by decide), if_pos rfl])
  generalize hd0 : digits (Int.toNat 5) = d0 at *
  clear hd0
  clear hat1 hnum
  go_wp2_with fail
  refine (number_int A2 d0.length c2 w2.heap.size d0 vo.length w2 (Nat.le_refl _) (by omega) (by omega) (by omega) (Rd.of_own HO2.out)).mono ?_
  rintro e w3 ⟨A3, c3, rfl, hown3, hb3⟩
  rw [Int.toNat_natCast] at hown3 ⊢
  have hl3 := (digits_len (n := vo.length) (by omega)).2
  have HB3 : Hid (Below (w.heap.size + 1) W0 w3) := Lib.hid (HBB.out _ _ HB2.out hb3)
  have hz3 := (HX.out w3 HB3.out).2.1
  have HO3 := Lib.hid (own_le hown3 hz2)
  have HL3 : Hid ((d0 ++ digits vo.length).length ≤ 18) := Lib.hid (by rw [List.length_append]; omega)
  have HE3 : Hid (cmEnc ⟨5, se, sq, at_, sp, vo⟩ = d0 ++ digits vo.length ++ encN vo) := Lib.hid (by rw [HENC.out, List.append_assoc])
  generalize d0 ++ digits vo.length = d1 at *
  clear hown3 hb3 fc
  have fc := (HX.out w3 HB3.out).2.2.1
  go_wp2_with fail
  go_loopw [5, 56] (fun v i wr => ∃ (k : Nat) (A : Option Addr) (c : Nat) (l : List UInt8), k ≤ vo.length ∧ i = .int .i64 k ∧ v = .slice A l.length c ∧ l = d1 ++ encN (vo.take k) ∧ l.length ≤ 18 + 9 * k ∧ wr.ownsRow (w.heap.size + 1) 5 1 (.slice A l.length c) l.length (l.map u8v) ∧ Below (w.heap.size + 1) W0 wr) (fun _ i _ => vo.length - (intOf i).toNat)
  case atStart => exact ⟨0, A3, c3, d1, by omega, rfl, rfl, by simp [encN], HL3.out, HO3.out, HB3.out⟩
  case round =>
    obtain ⟨k, A4, c4, l, hk, rfl, rfl, hl, hll, hown, hwr⟩ := hrel
    have HL := Lib.hid hl
    have HO := Lib.hid hown
    have HWR := Lib.hid hwr
    clear hl hown hwr fc
    by_cases hlt : k < vo.length
    · obtain ⟨vb, voff, rfl, _, hcell⟩ := (HX.out wr HWR.out).2.2.2.vo.at_ hlt
      have hx := okV_mem HVO.out (List.getElem_mem hlt)
      have HT := Lib.hid (encN_take vo k hlt)
      generalize vo[k] = x at *
      have hk1 : (k : Int) < vo.length := by omega
      go_wp2_with fail
      refine (number_int A4 l.length c4 wr.heap.size l x wr (Nat.le_refl _) (by omega) (by omega) (by omega) (Rd.of_own HO.out)).mono ?_
      rintro e w5 ⟨A5, c5, rfl, hown5, hb5⟩
      have hl5 := (digits_len (n := x.toNat) (by omega)).2
      have HB5 : Hid (Below (w.heap.size + 1) W0 w5) := Lib.hid (HBB.out _ _ HWR.out hb5)
      have HO5 := Lib.hid (own_le hown5 (HX.out wr HWR.out).2.1)
      clear hown5 hb5
      go_wp2_with fail
      go_roundw
      case rel => exact ⟨k + 1, A5, c5, l ++ digits x.toNat, by omega, by go_num, by rw [List.length_append], by rw [HT.out, HL.out, List.append_assoc], by rw [List.length_append]; omega, HO5.out, HB5.out⟩
      case measure => simp [intOf]; omega
    · have hke : k = vo.length := by omega
      obtain rfl : l = cmEnc ⟨5, se, sq, at_, sp, vo⟩ := by
        rw [HE3.out, HL.out, hke, List.take_length]
      have hk1 : ¬ (k : Int) < vo.length := by omega
      go_wp2_with fail
      go_ret2
      exact ⟨A4, c4, rfl, own_le HO.out (by omega), (HX.out _ HWR.out).1⟩
set_option maxRecDepth 100000 in
theorem mputNo_any {w : World} (v : CmV) (B : Nat) (hB : B ≤ w.heap.size) (hok : v.c.ok = false) (hns : v.ns ≤ 140737488355328) (hnv : v.nv ≤ 140737488355328) (hnm : ∀ s ∈ v.c.sp, s.nm.size ≤ 140737488355328) (hr : RdCm w B v) :
    Calls Tryz.prog 59 #[v.val] w (ResBE w ([], 90)) := by
  obtain ⟨⟨ki, se, sq, at_, sp, vo⟩, As, ns, cs, Av, nv, cv⟩ := v
  dsimp only [CmV.val] at *
  have HCH : Hid (∀ W, Below w.heap.size w W → Calls Tryz.prog 73 #[.agg #[.int .i64 ki, .int .i64 se, .int .i64 sq, .int .i64 at_, .slice As ns cs, .slice Av nv cv]] W fun e w' => e = .returned (.int .i64 90) ∧ Below W.heap.size W w') := Lib.hid (fun W hW => by
    have h := mcheck_any ⟨⟨ki, se, sq, at_, sp, vo⟩, As, ns, cs, Av, nv, cv⟩ B W (Nat.le_trans hB hW.size) hns hnv hnm (hr.below hW hB)
    unfold Cm.check at h
    rw [hok, if_neg Bool.false_ne_true] at h
    exact h)
  have HB : Hid (∀ o, Below w.heap.size w (w.alloc o)) := Lib.hid (fun o => (Below.refl _ _).alloc (Nat.le_refl _) o)
  clear hr hB hok hnm
  go_enter Tryz.func59, Tryz.ntmps59
  go_wp2_with fail
  refine (HCH.out _ (HB.out _)).mono ?_
  rintro e w1 ⟨rfl, hb1⟩
  have HB1 := Lib.hid ((HB.out (.cells #[.int .i64 ki, .int .i64 se, .int .i64 sq, .int .i64 at_, .slice As ns cs, .slice Av nv cv] 50 (0, 0))).trans (hb1.mono (by simp)))
  clear hb1
  go_wp2_with fail
  go_ret2
  exact ⟨none, 0, rfl, World.ownsRow_nil _ _ _ _, HB1.out⟩
/-- A command as bytes; 90: it may not be. -/
theorem mput_any {w : World} (v : CmV) (B : Nat) (hB : B ≤ w.heap.size) (hns : v.ns ≤ 140737488355328) (hnv : v.nv ≤ 140737488355328) (hnm : ∀ s ∈ v.c.sp, s.nm.size ≤ 140737488355328) (hr : RdCm w B v) :
    Calls Tryz.prog 59 #[v.val] w (ResBE w (mputAns v.c)) := by
  unfold mputAns
  cases hok : v.c.ok with
  | false => rw [if_neg Bool.false_ne_true]; exact mputNo_any v B hB hok hns hnv hnm hr
  | true =>
    rw [if_pos rfl]
    have hk := ((fieldsB_iff _).1 (Cm.ok_parts hok).1).1
    by_cases h2 : v.c.ki = 2
    · exact mput2_any v B hB hok h2 hr
    by_cases h3 : v.c.ki = 3
    · exact mput3_any v B hB hok h3 hr
    by_cases h4 : v.c.ki = 4
    · exact mput4_any v B hB hok h4 hr
    by_cases h5 : v.c.ki = 5
    · exact mput5_any v B hB hok h5 hr
    exact mput0_any v B hB hok (by omega) hr
end Go.Proofs.YtfjpenbahoeklaaGreatDoor
namespace Go.Proofs.YtfjpenbahoeklaaGreatDoor
open Go Go.RowKit

/-- A row of replies. -/
def RdRp (w : World) (B : Nat) (A : Option Addr) (n : Nat) (rs : List Rp) : Prop := Rd w B 8 A n (rs.flatMap Rp.cells)
theorem RdRp.len {w : World} {B n : Nat} {A : Option Addr} {rs : List Rp} (h : RdRp w B A n rs) : rs.length = n := by
  have h1 := h.1
  rw [flat_len Rp.cells 8 Rp.cells_len] at h1
  omega
theorem look_len9 {T : List Tr} (h : GrT T) (x : Int) : (lookT T x).length ≤ 64 := by
  cases hg : getT T x with
  | none => simp [lookT, hg]
  | some L =>
    have h1 := (branches_perm (h.ok _ (getT_some hg)).1).length_eq
    have h2 := (h.ok _ (getT_some hg)).1.len
    unfold lookT
    rw [hg]
    rw [List.length_map] at h1
    dsimp only at h1 h2 ⊢
    omega
/-- Not more than memory bears. -/
structure ClFit (c : ClV) : Prop where
  ns : c.v.ns ≤ 140737488355328
  nv : c.v.nv ≤ 140737488355328
  nm : ∀ s ∈ c.v.c.sp, s.nm.size ≤ 140737488355328
set_option maxRecDepth 100000 in
set_option maxHeartbeats 8000000 in
theorem expl0_any (A1 : Option Addr) (n1 c1 : Nat) (A2 : Option Addr) (n2 c2 : Nat) (A3 : Option Addr) (n3 c3 B : Nat) (vo : List Int) (es : List EnV) (rs : List Rp) (c : ClV) (w : World) (hB : B ≤ w.heap.size) (hbig : n1 ≤ 140737488355328) (hbig2 : n2 ≤ 1000000) (hcap : n2 ≤ c2) (hlen : rs.length ≤ es.length) (hen : ∀ e ∈ es, e.n ≤ 4294967296) (hg : ErrT w)
    (hr1 : RdI w B A1 n1 vo) (hr2 : RdEn w B A2 n2 es) (hr3 : RdRp w B A3 n3 rs) (hrc : RdCl w B c) (hfit : ClFit c) (hix : wfI c.ix) (htr : wfI c.tr) (hki : c.v.c.ki = 0) :
    Calls Tryz.prog 35 #[.slice A1 n1 c1, .slice A2 n2 c2, .slice A3 n3 c3, c.val] w (ResQ w (ExplP vo (es.map EnV.en) rs c.pl)) := by
  have hl2 := hr2.len
  have hl3 := hr3.len
  subst hl2
  subst hl3
  have HB : Hid (∀ o, Below w.heap.size w (w.alloc o)) := Lib.hid (fun o => (Below.refl _ _).alloc (Nat.le_refl _) o)
  have HR1 := Lib.hid hr1
  have HR2 := Lib.hid hr2
  have HR3 := Lib.hid hr3
  have HRC := Lib.hid hrc
  have HFT := Lib.hid hfit
  have HB0 := Lib.hid hB
  have HG := Lib.hid hg
  have HEN := Lib.hid hen
  have HTR := Lib.hid htr
  have hrsl : rs.length ≤ 1000000 := by omega
  obtain ⟨qz, hqz⟩ := rp_dec c.r Rp.zero
  have HQZ := Lib.hid hqz
  have hcmp := rp_neq c.r Rp.zero hqz
  dsimp only [Rp.val, Rp.zero] at hcmp
  clear hr1 hr2 hr3 hrc hfit hB hg hen htr hqz
  generalize hW0 : w.alloc (.cells #[.int .i64 c.cl, .int .i64 c.v.c.ki, .int .i64 c.v.c.se, .int .i64 c.v.c.sq, .int .i64 c.v.c.at_, .slice c.v.As c.v.ns c.v.cs, .slice c.v.Av c.v.nv c.v.cv, .int .i64 c.tr, .int .i64 c.be, .int .i64 c.en, .int .i64 c.ix, .int .i64 c.r.er, .int .i64 c.r.ss, .int .i64 c.r.gn, .int .i64 c.r.ad, .int .i64 c.r.sa, .int .i64 c.r.ot, .int .i64 c.r.cy, .int .i64 c.r.fu, .slice c.fA c.fn c.fc] 53 (0, 0)) = W0
  have hb0 : Below w.heap.size w W0 := by rw [← hW0]; exact HB.out _
  have hc0 : W0.heap[w.heap.size]? = some (.cells #[.int .i64 c.cl, .int .i64 c.v.c.ki, .int .i64 c.v.c.se, .int .i64 c.v.c.sq, .int .i64 c.v.c.at_, .slice c.v.As c.v.ns c.v.cs, .slice c.v.Av c.v.nv c.v.cv, .int .i64 c.tr, .int .i64 c.be, .int .i64 c.en, .int .i64 c.ix, .int .i64 c.r.er, .int .i64 c.r.ss, .int .i64 c.r.gn, .int .i64 c.r.ad, .int .i64 c.r.sa, .int .i64 c.r.ot, .int .i64 c.r.cy, .int .i64 c.r.fu, .slice c.fA c.fn c.fc] 53 (0, 0)) := by rw [← hW0]; exact heap_alloc_new w _
  have hz0 : W0.heap.size = w.heap.size + 1 := by rw [← hW0]; simp
  have HX : Hid (∀ W, Below (w.heap.size + 1) W0 W → Below w.heap.size w W ∧ w.heap.size + 1 ≤ W.heap.size ∧ (∀ j, W.cell? ⟨w.heap.size, j, none⟩ = (#[.int .i64 c.cl, .int .i64 c.v.c.ki, .int .i64 c.v.c.se, .int .i64 c.v.c.sq, .int .i64 c.v.c.at_, .slice c.v.As c.v.ns c.v.cs, .slice c.v.Av c.v.nv c.v.cv, .int .i64 c.tr, .int .i64 c.be, .int .i64 c.en, .int .i64 c.ix, .int .i64 c.r.er, .int .i64 c.r.ss, .int .i64 c.r.gn, .int .i64 c.r.ad, .int .i64 c.r.sa, .int .i64 c.r.ot, .int .i64 c.r.cy, .int .i64 c.r.fu, .slice c.fA c.fn c.fc] : Array Value)[j]?)) := Lib.hid (fun W hW => by
    have hz := hW.size
    exact ⟨hb0.trans (hW.mono (by omega)), by omega, blk_cell ((hW.block _ (by omega)).trans hc0)⟩)
  have fc := (HX.out W0 (Below.refl _ _)).2.2
  have hz0x : w.heap.size + 1 ≤ W0.heap.size := by omega
  have HB1 : Hid (Below w.heap.size w W0) := Lib.hid hb0
  clear hb0 hc0 hz0
  have HE : Hid (ExplP vo (es.map EnV.en) rs c.pl ↔ 0 ≤ c.ix ∧ c.ix ≤ rs.length ∧ c.r = Rp.zero ∧ (stateP vo ((es.map EnV.en).take c.ix.toNat) c.tr).map Br.z = c.fo) := Lib.hid (by unfold ExplP; rw [if_pos (show c.pl.c.ki = 0 from hki)]; rfl)
  obtain ⟨ccl, ⟨⟨ki, se, sq, at_, sp, vo2⟩, As, ns, ccs, Av, nv, cv⟩, tr, be, en, ix, r, fA, fn, fcc, fo⟩ := c
  dsimp only [ClV.val] at *
  subst hki
  by_cases h1 : ix < 0
  · have HNO : Hid (¬ ExplP vo (es.map EnV.en) rs (ClV.pl ⟨ccl, ⟨⟨0, se, sq, at_, sp, vo2⟩, As, ns, ccs, Av, nv, cv⟩, tr, be, en, ix, r, fA, fn, fcc, fo⟩)) := Lib.hid (fun h => by have := (HE.out.1 h).1; omega)
    go_enter Tryz.func35, Tryz.ntmps35
    go_wp2_with fail
    go_ret
    exact ⟨false, rfl, ⟨(fun h => by cases h), fun h => absurd h HNO.out⟩, HB1.out⟩
  by_cases h2 : (rs.length : Int) < ix
  · have HNO : Hid (¬ ExplP vo (es.map EnV.en) rs (ClV.pl ⟨ccl, ⟨⟨0, se, sq, at_, sp, vo2⟩, As, ns, ccs, Av, nv, cv⟩, tr, be, en, ix, r, fA, fn, fcc, fo⟩)) := Lib.hid (fun h => by have := (HE.out.1 h).2.1; omega)
    have h1b : decide (ix < 0) = false := decide_eq_false h1
    go_enter Tryz.func35, Tryz.ntmps35
    go_wp2_with fail
    go_ret
    exact ⟨false, rfl, ⟨(fun h => by cases h), fun h => absurd h HNO.out⟩, HB1.out⟩
  have h1b : decide (ix < 0) = false := decide_eq_false h1
  have h2b : decide ((rs.length : Int) < ix) = false := decide_eq_false h2
  cases qz
  · have HNO : Hid (¬ ExplP vo (es.map EnV.en) rs (ClV.pl ⟨ccl, ⟨⟨0, se, sq, at_, sp, vo2⟩, As, ns, ccs, Av, nv, cv⟩, tr, be, en, ix, r, fA, fn, fcc, fo⟩)) := Lib.hid (fun h => by have := HQZ.out.2 (HE.out.1 h).2.2.1; cases this)
    go_enter Tryz.func35, Tryz.ntmps35
    go_wp2_with fail
    go_ret
    exact ⟨false, rfl, ⟨(fun h => by cases h), fun h => absurd h HNO.out⟩, HB1.out⟩
  obtain ⟨k, rfl⟩ : ∃ k : Nat, ix = (k : Int) := ⟨ix.toNat, by omega⟩
  have hkl : k ≤ es.length := by omega
  have HE2 : Hid (ExplP vo (es.map EnV.en) rs (ClV.pl ⟨ccl, ⟨⟨0, se, sq, at_, sp, vo2⟩, As, ns, ccs, Av, nv, cv⟩, tr, be, en, (k : Int), r, fA, fn, fcc, fo⟩) ↔ (stateP vo ((es.take k).map EnV.en) tr).map Br.z = fo) := Lib.hid (by
    rw [HE.out, Int.toNat_natCast, List.map_take]
    exact ⟨fun h => h.2.2.2, fun h => ⟨by omega, by omega, HQZ.out.1 rfl, h⟩⟩)
  have HRUN : Hid (∀ W, Below (w.heap.size + 1) W0 W → Calls Tryz.prog 30 #[.slice A1 n1 c1, .slice A2 k c2] W (ResRun W vo ((es.take k).map EnV.en))) := Lib.hid (fun W hW => by
    have h := HX.out W hW
    exact run_any A1 n1 c1 A2 k c2 B vo (es.take k) W (by have := HB0.out; omega) hbig (by omega) (fun e he => HEN.out e (List.mem_of_mem_take he)) (HG.out.below h.1 (Nat.le_refl _)) (Rd.below' HR1.out h.1 HB0.out (Nat.le_refl _)) ((HR2.out.take hkl).below h.1 HB0.out))
  have hkc : (k : Int) ≤ (c2 : Int) := by omega
  have hk0 : (0 : Int) ≤ (k : Int) := by omega
  go_enter Tryz.func35, Tryz.ntmps35
  go_wp2_with fail
  clear hW0
  refine (HRUN.out W0 (Below.refl _ _)).mono ?_
  rintro e w2 ⟨A4, c4, p, rfl, hown4, hb2, hm⟩
  have HB2 : Hid (Below (w.heap.size + 1) W0 w2) := Lib.hid (hb2.mono hz0x)
  have hz2 : w.heap.size + 1 ≤ w2.heap.size := (HX.out w2 HB2.out).2.1
  generalize replP vo ((es.take k).map EnV.en) = rp at *
  have hbx : Below (w.heap.size + 1) W0 (w2.alloc (.cells #[.slice A4 rp.length c4, .pointer p] 68 (0, 0))) := below_alloc hz0x HB2.out _
  have HBX := Lib.hid hbx
  have hsl : (stateP vo ((es.take k).map EnV.en) tr).length ≤ 64 := by
    rcases hm with ⟨hok, b, S, _, hma⟩ | ⟨hok, _⟩
    · unfold stateP; rw [if_pos hok]; exact look_len9 hma.gr.t tr
    · unfold stateP; rw [if_neg (by rw [hok]; exact Bool.false_ne_true)]; exact Nat.zero_le _
  have HLK : Hid (∀ W, Below (w2.heap.size + 1) (w2.alloc (.cells #[.slice A4 rp.length c4, .pointer p] 68 (0, 0))) W → Calls Tryz.prog 58 #[.pointer p, .int .i64 tr] W (ResBr W (stateP vo ((es.take k).map EnV.en) tr))) := Lib.hid (fun W hW => by
    rcases hm with ⟨hok, b, S, rfl, hma⟩ | ⟨hok, rfl⟩
    · unfold stateP
      rw [if_pos hok]
      exact mlook_any (hma.below (((Below.refl w2.heap.size w2).alloc (Nat.le_refl _) _).trans (hW.mono (by omega))) (Nat.le_refl _)) tr HTR.out
    · unfold stateP
      rw [if_neg (by rw [hok]; exact Bool.false_ne_true)]
      exact mlookNil_any W tr)
  generalize stateP vo ((es.take k).map EnV.en) tr = st at *
  have HC5 : Hid (∀ W, Below (w2.heap.size + 1) (w2.alloc (.cells #[.slice A4 rp.length c4, .pointer p] 68 (0, 0))) W → (∀ j, W.cell? ⟨w2.heap.size, j, none⟩ = (#[.slice A4 rp.length c4, .pointer p] : Array Value)[j]?) ∧ (∀ j, W.cell? ⟨w.heap.size, j, none⟩ = (#[.int .i64 ccl, .int .i64 0, .int .i64 se, .int .i64 sq, .int .i64 at_, .slice As ns ccs, .slice Av nv cv, .int .i64 tr, .int .i64 be, .int .i64 en, .int .i64 (k : Int), .int .i64 r.er, .int .i64 r.ss, .int .i64 r.gn, .int .i64 r.ad, .int .i64 r.sa, .int .i64 r.ot, .int .i64 r.cy, .int .i64 r.fu, .slice fA fn fcc] : Array Value)[j]?)) := Lib.hid (fun W hW => ⟨blk_cell ((hW.block w2.heap.size (by omega)).trans (heap_at rfl)), (HX.out W (HBX.out.trans (hW.mono (by omega)))).2.2⟩)
  have HFO : Hid (∀ W, Below (w2.heap.size + 1) (w2.alloc (.cells #[.slice A4 rp.length c4, .pointer p] 68 (0, 0))) W → RdBrZ W B fA fn fo) := Lib.hid (fun W hW => Rd.below' HRC.out.fo (HX.out W (HBX.out.trans (hW.mono (by omega)))).1 HB0.out (Nat.le_refl _))
  clear hown4 hb2 hm hbx fc
  go_wp2_with fail
  refine wp_region_sched [(0, true), (1, true), (2, true), (3, true), (5, true), (6, true), (4, false), (7, false), (8, true)] (fun W => Below (w2.heap.size + 1) (w2.alloc (.cells #[.slice A4 rp.length c4, .pointer p] 68 (0, 0))) W) (by kernel_rfl) (by kernel_rfl) rfl (by kernel_rfl) ((Below.refl _ _).drew) ?_
  repeat (first | (apply sched_take rfl; (focus (first | rfl | (go_simp; done))); (focus (intro W hW; have f12 := HC5.out W hW; have f1 := f12.1; have f2 := f12.2; clear f12; go_simp; rfl)); (focus (intro K hK; go_simp; refine hK _ ?_; clear hK K))) | (apply sched_skip rfl; (focus (first | rfl | (go_simp; done))); (focus (intro K hK; go_simp; refine hK _ ?_; clear hK K))))
  apply sched_op rfl
  intro K hK
  go_simp
  go_wp2_with (fail)
  refine (HLK.out _ ((Below.refl _ _).drew)).mono ?_
  rintro e w3 ⟨A5, c5, rfl, hown5, hb3⟩
  have HB3 : Hid (Below (w2.heap.size + 1) (w2.alloc (.cells #[.slice A4 rp.length c4, .pointer p] 68 (0, 0))) w3) := Lib.hid ((Below.refl _ _).drew.trans (hb3.mono (by show w2.heap.size + 1 ≤ (w2.alloc _).heap.size; simp)))
  have HO5 : Hid (RdBr w3 w3.heap.size A5 st.length st) := Lib.hid (Rd.of_own hown5)
  clear hown5 hb3
  go_wp2_with fail
  refine ⟨by exact HB3.out, ?_⟩
  repeat (first | (apply sched_take rfl; (focus (first | rfl | (go_simp; done))); (focus (intro W hW; have f12 := HC5.out W hW; have f1 := f12.1; have f2 := f12.2; clear f12; go_simp; rfl)); (focus (intro K hK; go_simp; refine hK _ ?_; clear hK K))) | (apply sched_skip rfl; (focus (first | rfl | (go_simp; done))); (focus (intro K hK; go_simp; refine hK _ ?_; clear hK K))))
  apply sched_op rfl
  intro K hK
  go_simp
  go_wp2_with (fail)
  refine (eqBZ_any A5 fA st.length fn c5 fcc _ B (st.map Br.z) fo w3 HO5.out.z (HFO.out _ HB3.out) (by omega)).mono ?_
  rintro e w4 ⟨q, rfl, hq, m, rfl⟩
  have HQ2 : Hid (q = true ↔ ExplP vo (es.map EnV.en) rs (ClV.pl ⟨ccl, ⟨⟨0, se, sq, at_, sp, vo2⟩, As, ns, ccs, Av, nv, cv⟩, tr, be, en, (k : Int), r, fA, fn, fcc, fo⟩)) := Lib.hid (hq.trans HE2.out.symm)
  have HB4 : Hid (Below (w2.heap.size + 1) (w2.alloc (.cells #[.slice A4 rp.length c4, .pointer p] 68 (0, 0))) (w3.drewN m)) := Lib.hid (below_dN HB3.out m)
  clear hq
  go_wp2_with fail
  refine ⟨by exact HB4.out, ?_⟩
  repeat (first | (apply sched_take rfl; (focus (first | rfl | (go_simp; done))); (focus (intro W hW; have f12 := HC5.out W hW; have f1 := f12.1; have f2 := f12.2; clear f12; go_simp; rfl)); (focus (intro K hK; go_simp; refine hK _ ?_; clear hK K))) | (apply sched_skip rfl; (focus (first | rfl | (go_simp; done))); (focus (intro K hK; go_simp; refine hK _ ?_; clear hK K))))
  refine sched_nil ?_
  go_wp2_with fail
  go_ret
  exact ⟨q, rfl, HQ2.out, (HX.out _ (HBX.out.trans (HB4.out.mono (by omega)))).1⟩
set_option maxRecDepth 100000 in
set_option maxHeartbeats 8000000 in
theorem expl1_any (A1 : Option Addr) (n1 c1 : Nat) (A2 : Option Addr) (n2 c2 : Nat) (A3 : Option Addr) (n3 c3 B : Nat) (vo : List Int) (es : List EnV) (rs : List Rp) (c : ClV) (w : World) (hB : B ≤ w.heap.size) (_hbig : n1 ≤ 140737488355328) (hbig2 : n2 ≤ 1000000) (_hcap : n2 ≤ c2) (hlen : rs.length ≤ es.length) (hen : ∀ e ∈ es, e.n ≤ 4294967296) (hg : ErrT w)
    (hr1 : RdI w B A1 n1 vo) (hr2 : RdEn w B A2 n2 es) (hr3 : RdRp w B A3 n3 rs) (hrc : RdCl w B c) (hfit : ClFit c) (_hix : wfI c.ix) (htr : wfI c.tr) (hki : c.v.c.ki ≠ 0) :
    Calls Tryz.prog 35 #[.slice A1 n1 c1, .slice A2 n2 c2, .slice A3 n3 c3, c.val] w (ResQ w (ExplP vo (es.map EnV.en) rs c.pl)) := by
  have hl2 := hr2.len
  have hl3 := hr3.len
  subst hl2
  subst hl3
  have HB : Hid (∀ o, Below w.heap.size w (w.alloc o)) := Lib.hid (fun o => (Below.refl _ _).alloc (Nat.le_refl _) o)
  have HR1 := Lib.hid hr1
  have HR2 := Lib.hid hr2
  have HR3 := Lib.hid hr3
  have HRC := Lib.hid hrc
  have HFT := Lib.hid hfit
  have HB0 := Lib.hid hB
  have HG := Lib.hid hg
  have HEN := Lib.hid hen
  have HTR := Lib.hid htr
  have hrsl : rs.length ≤ 1000000 := by omega
  obtain ⟨qz, hqz⟩ := rp_dec c.r Rp.zero
  have HQZ := Lib.hid hqz
  have hcmp := rp_neq c.r Rp.zero hqz
  dsimp only [Rp.val, Rp.zero] at hcmp
  clear hr1 hr2 hr3 hrc hfit hB hg hen htr hqz
  generalize hW0 : w.alloc (.cells #[.int .i64 c.cl, .int .i64 c.v.c.ki, .int .i64 c.v.c.se, .int .i64 c.v.c.sq, .int .i64 c.v.c.at_, .slice c.v.As c.v.ns c.v.cs, .slice c.v.Av c.v.nv c.v.cv, .int .i64 c.tr, .int .i64 c.be, .int .i64 c.en, .int .i64 c.ix, .int .i64 c.r.er, .int .i64 c.r.ss, .int .i64 c.r.gn, .int .i64 c.r.ad, .int .i64 c.r.sa, .int .i64 c.r.ot, .int .i64 c.r.cy, .int .i64 c.r.fu, .slice c.fA c.fn c.fc] 53 (0, 0)) = W0
  have hb0 : Below w.heap.size w W0 := by rw [← hW0]; exact HB.out _
  have hc0 : W0.heap[w.heap.size]? = some (.cells #[.int .i64 c.cl, .int .i64 c.v.c.ki, .int .i64 c.v.c.se, .int .i64 c.v.c.sq, .int .i64 c.v.c.at_, .slice c.v.As c.v.ns c.v.cs, .slice c.v.Av c.v.nv c.v.cv, .int .i64 c.tr, .int .i64 c.be, .int .i64 c.en, .int .i64 c.ix, .int .i64 c.r.er, .int .i64 c.r.ss, .int .i64 c.r.gn, .int .i64 c.r.ad, .int .i64 c.r.sa, .int .i64 c.r.ot, .int .i64 c.r.cy, .int .i64 c.r.fu, .slice c.fA c.fn c.fc] 53 (0, 0)) := by rw [← hW0]; exact heap_alloc_new w _
  have hz0 : W0.heap.size = w.heap.size + 1 := by rw [← hW0]; simp
  have HX : Hid (∀ W, Below (w.heap.size + 1) W0 W → Below w.heap.size w W ∧ w.heap.size + 1 ≤ W.heap.size ∧ (∀ j, W.cell? ⟨w.heap.size, j, none⟩ = (#[.int .i64 c.cl, .int .i64 c.v.c.ki, .int .i64 c.v.c.se, .int .i64 c.v.c.sq, .int .i64 c.v.c.at_, .slice c.v.As c.v.ns c.v.cs, .slice c.v.Av c.v.nv c.v.cv, .int .i64 c.tr, .int .i64 c.be, .int .i64 c.en, .int .i64 c.ix, .int .i64 c.r.er, .int .i64 c.r.ss, .int .i64 c.r.gn, .int .i64 c.r.ad, .int .i64 c.r.sa, .int .i64 c.r.ot, .int .i64 c.r.cy, .int .i64 c.r.fu, .slice c.fA c.fn c.fc] : Array Value)[j]?)) := Lib.hid (fun W hW => by
    have hz := hW.size
    exact ⟨hb0.trans (hW.mono (by omega)), by omega, blk_cell ((hW.block _ (by omega)).trans hc0)⟩)
  have fc := (HX.out W0 (Below.refl _ _)).2.2
  have hz0x : w.heap.size + 1 ≤ W0.heap.size := by omega
  have HB1 : Hid (Below w.heap.size w W0) := Lib.hid hb0
  clear hb0 hc0 hz0
  have HE : Hid (ExplP vo (es.map EnV.en) rs c.pl ↔ 1 ≤ c.ix ∧ c.ix ≤ rs.length ∧ c.fo = [] ∧ c.v.c.ok = true ∧ ∃ e x, (es.map EnV.en)[c.ix.toNat - 1]? = some e ∧ rs[c.ix.toNat - 1]? = some x ∧ cmEnc c.v.c = e.da ∧ c.r = x) := Lib.hid (by unfold ExplP; rw [if_neg (show ¬ c.pl.c.ki = 0 from hki)]; rfl)
  have hfl : c.fo.length = c.fn := HRC.out.fo.len
  have HPUT : Hid (∀ W, Below (w.heap.size + 1) W0 W → Calls Tryz.prog 59 #[c.v.val] W (ResBE W (mputAns c.v.c))) := Lib.hid (fun W hW => by
    have h := HX.out W hW
    exact mput_any c.v B (by have := HB0.out; omega) HFT.out.ns HFT.out.nv HFT.out.nm (HRC.out.v.below h.1 HB0.out))
  have hkb : (c.v.c.ki == 0) = false := by simpa using hki
  obtain ⟨ccl, ⟨⟨ki, se, sq, at_, sp, vo2⟩, As, ns, ccs, Av, nv, cv⟩, tr, be, en, ix, r, fA, fn, fcc, fo⟩ := c
  dsimp only [ClV.val, CmV.val] at *
  have HFL := Lib.hid hfl
  clear hki hfl hcmp
  generalize hEP : ExplP vo (es.map EnV.en) rs (ClV.pl ⟨ccl, ⟨⟨ki, se, sq, at_, sp, vo2⟩, As, ns, ccs, Av, nv, cv⟩, tr, be, en, ix, r, fA, fn, fcc, fo⟩) = EP at *
  clear hEP
  by_cases h1 : ix < 1
  · have HNO : Hid (¬ EP) := Lib.hid (fun h => by have := (HE.out.1 h).1; omega)
    go_enter Tryz.func35, Tryz.ntmps35
    go_wp2_with fail
    go_ret
    exact ⟨false, rfl, ⟨(fun h => by cases h), fun h => absurd h HNO.out⟩, HB1.out⟩
  by_cases h2 : (rs.length : Int) < ix
  · have HNO : Hid (¬ EP) := Lib.hid (fun h => by have := (HE.out.1 h).2.1; omega)
    have h1b : decide (ix < 1) = false := decide_eq_false h1
    go_enter Tryz.func35, Tryz.ntmps35
    go_wp2_with fail
    go_ret
    exact ⟨false, rfl, ⟨(fun h => by cases h), fun h => absurd h HNO.out⟩, HB1.out⟩
  have h1b : decide (ix < 1) = false := decide_eq_false h1
  have h2b : decide ((rs.length : Int) < ix) = false := decide_eq_false h2
  by_cases h3 : 0 < fn
  · have HNO : Hid (¬ EP) := Lib.hid (fun h => by
      have h4 := (HE.out.1 h).2.2.1
      have h5 := HFL.out
      rw [h4] at h5
      simp at h5
      omega)
    have h3i : (0 : Int) < (fn : Int) := by omega
    go_enter Tryz.func35, Tryz.ntmps35
    go_wp2_with fail
    go_ret
    exact ⟨false, rfl, ⟨(fun h => by cases h), fun h => absurd h HNO.out⟩, HB1.out⟩
  obtain rfl : fn = 0 := by omega
  have HFO : Hid (fo = []) := Lib.hid (List.length_eq_zero_iff.1 HFL.out)
  obtain ⟨k, rfl⟩ : ∃ k : Nat, ix = (k : Int) + 1 := ⟨(ix - 1).toNat, by omega⟩
  have hkr : k < rs.length := by omega
  have hke : k < es.length := by omega
  have HWK : Hid (IntKind.i64.wrap ((k : Int) + 1 - 1) = (k : Int)) := Lib.hid (((IntWalk.i64_left _).trans (IntWalk.wrap64_in _ (by omega))).trans (by omega))
  have HWL : Hid (IntKind.i64.wrap (k : Int) = (k : Int)) := Lib.hid ((IntWalk.i64_left _).trans (IntWalk.wrap64_in _ (by omega)))
  have hk0 : (0 : Int) ≤ (k : Int) := by omega
  have hk1 : (k : Int) < rs.length := by omega
  have hk2 : (k : Int) < es.length := by omega
  have HE2 : Hid (EP ↔ (⟨ki, se, sq, at_, sp, vo2⟩ : Cm).ok = true ∧ cmEnc ⟨ki, se, sq, at_, sp, vo2⟩ = (es[k]).da ∧ r = rs[k]) := Lib.hid (by
    rw [HE.out]
    have e1 : ((k : Int) + 1).toNat - 1 = k := by omega
    rw [e1]
    have e2 : (es.map EnV.en)[k]? = some (es[k]).en := by rw [List.getElem?_map, List.getElem?_eq_getElem hke]; rfl
    have e3 : rs[k]? = some rs[k] := List.getElem?_eq_getElem hkr
    rw [e2, e3]
    constructor
    · rintro ⟨_, _, _, h4, e, x, h5, h6, h7, h8⟩
      cases h5
      cases h6
      exact ⟨h4, h7, h8⟩
    · rintro ⟨h4, h5, h6⟩
      exact ⟨by omega, by omega, HFO.out, h4, _, _, rfl, rfl, h5, h6⟩)
  go_enter Tryz.func35, Tryz.ntmps35
  go_wp2_with fail
  clear hW0
  refine (HPUT.out W0 (Below.refl _ _)).mono ?_
  rintro e w2 ⟨A4, c4, rfl, hown4, hb2⟩
  have HB2 : Hid (Below (w.heap.size + 1) W0 w2) := Lib.hid (hb2.mono hz0x)
  clear fc
  cases hok : (⟨ki, se, sq, at_, sp, vo2⟩ : Cm).ok with
  | false =>
    have hpa : mputAns ⟨ki, se, sq, at_, sp, vo2⟩ = ([], 90) := by unfold mputAns; rw [hok]; rfl
    rw [hpa]
    have HNO : Hid (¬ EP) := Lib.hid (fun h => by have := (HE2.out.1 h).1; rw [hok] at this; cases this)
    clear hown4 hb2 hpa hok
    go_wp2_with fail
    refine wp_region_sched [(0, true), (1, true), (2, true), (3, true), (4, true), (5, true), (6, true), (7, true), (8, true), (9, true), (10, true), (11, true), (12, true), (13, true), (14, true), (15, true), (16, true), (17, true), (18, true), (19, true), (20, true), (21, true), (22, true), (23, true), (24, true), (25, true), (26, true)] (fun W => Fr (fun _ => False) w2 W) (by kernel_rfl) (by kernel_rfl) rfl (by kernel_rfl) ((Fr.refl _ _).drew) ?_
    repeat (first | (apply sched_take rfl; (focus (first | rfl | (go_simp; done))); (focus (intro W hW; go_simp; rfl)); (focus (intro K hK; go_simp; refine hK _ ?_; clear hK K))) | (apply sched_skip rfl; (focus (first | rfl | (go_simp; done))); (focus (intro K hK; go_simp; refine hK _ ?_; clear hK K))))
    refine sched_nil ?_
    go_wp2_with fail
    go_ret
    exact ⟨false, rfl, ⟨(fun h => by cases h), fun h => absurd h HNO.out⟩, (HX.out _ HB2.out).1.drew⟩
  | true =>
    have hpa : mputAns ⟨ki, se, sq, at_, sp, vo2⟩ = (cmEnc ⟨ki, se, sq, at_, sp, vo2⟩, 0) := by unfold mputAns; rw [hok]; rfl
    rw [hpa] at hown4 ⊢
    dsimp only at hown4 ⊢
    have HOK := Lib.hid hok
    have HRB : Hid (RdB w2 w2.heap.size A4 (cmEnc ⟨ki, se, sq, at_, sp, vo2⟩).length (cmEnc ⟨ki, se, sq, at_, sp, vo2⟩)) := Lib.hid (Rd.of_own hown4)
    generalize cmEnc ⟨ki, se, sq, at_, sp, vo2⟩ = bb at *
    have hbw := (HX.out w2 HB2.out).1
    obtain ⟨eb, eoff, hA2, heb, x0, x1, x2, hxr⟩ := (HR2.out.below hbw HB0.out).at_ hke
    obtain ⟨sb, soff, hA3, hsb, hsc⟩ := Rd.elem Rp.cells_len (Rd.below' HR3.out hbw HB0.out (Nat.le_refl _)) (k := k) hkr hkr
    subst hA2
    subst hA3
    have HS0 : Hid (∀ W, Fr (fun _ => False) w2 W → W.cell? ⟨eb, eoff + k * 3 + 2, none⟩ = some (.slice (es[k]).A (es[k]).n (es[k]).c) ∧ W.cell? ⟨sb, soff + k * 8, none⟩ = some (.int .i64 (rs[k]).er) ∧ W.cell? ⟨sb, soff + k * 8 + 1, none⟩ = some (.int .i64 (rs[k]).ss) ∧ W.cell? ⟨sb, soff + k * 8 + 2, none⟩ = some (.int .i64 (rs[k]).gn) ∧ W.cell? ⟨sb, soff + k * 8 + 3, none⟩ = some (.int .i64 (rs[k]).ad) ∧ W.cell? ⟨sb, soff + k * 8 + 4, none⟩ = some (.int .i64 (rs[k]).sa) ∧ W.cell? ⟨sb, soff + k * 8 + 5, none⟩ = some (.int .i64 (rs[k]).ot) ∧ W.cell? ⟨sb, soff + k * 8 + 6, none⟩ = some (.int .i64 (rs[k]).cy) ∧ W.cell? ⟨sb, soff + k * 8 + 7, none⟩ = some (.int .i64 (rs[k]).fu)) := Lib.hid (fun W hW => by
      have hcell : ∀ (b' o : Nat) (v : Value), w2.cell? ⟨b', o, none⟩ = some v → W.cell? ⟨b', o, none⟩ = some v := fun b' o v h => by
        rw [← h]
        have hb := hW.block b' (lt_of_cell h) (fun h => h)
        simp only [World.cell?, hb]
      exact ⟨hcell _ _ _ x2, hcell _ _ _ (hsc 0 (by omega)), hcell _ _ _ (hsc 1 (by omega)), hcell _ _ _ (hsc 2 (by omega)), hcell _ _ _ (hsc 3 (by omega)), hcell _ _ _ (hsc 4 (by omega)), hcell _ _ _ (hsc 5 (by omega)), hcell _ _ _ (hsc 6 (by omega)), hcell _ _ _ (hsc 7 (by omega))⟩)
    have HCV : Hid (∀ W, Fr (fun _ => False) w2 W → (convert 73 9 (.slice A4 bb.length c4)).run Tryz.prog W = .ok (.string ⟨bb.toArray⟩) W ∧ (convert 73 9 (.slice (es[k]).A (es[k]).n (es[k]).c)).run Tryz.prog W = .ok (.string ⟨(es[k]).da.toArray⟩) W) := Lib.hid (fun W hW =>
      ⟨run_conv_bs Tryz.underlying73 Tryz.underlying5 Tryz.underlying9 (Fr.rd' HRB.out hW (Nat.le_refl _) (fun k _ h => h)) c4, run_conv_bs Tryz.underlying73 Tryz.underlying5 Tryz.underlying9 (Fr.rd' hxr hW (by have := HB0.out; have := hbw.size; omega) (fun k _ h => h)) _⟩)
    have HCC : Hid (∀ W, Fr (fun _ => False) w2 W → (∀ j, W.cell? ⟨w.heap.size, j, none⟩ = (#[.int .i64 ccl, .int .i64 ki, .int .i64 se, .int .i64 sq, .int .i64 at_, .slice As ns ccs, .slice Av nv cv, .int .i64 tr, .int .i64 be, .int .i64 en, .int .i64 ((k : Int) + 1), .int .i64 r.er, .int .i64 r.ss, .int .i64 r.gn, .int .i64 r.ad, .int .i64 r.sa, .int .i64 r.ot, .int .i64 r.cy, .int .i64 r.fu, .slice fA 0 fcc] : Array Value)[j]?)) := Lib.hid (fun W hW => (HX.out W (HB2.out.trans (hW.below (by have := (HX.out w2 HB2.out).2.1; omega) (fun k hk => hk.elim)))).2.2)
    obtain ⟨qe, hqe⟩ := rp_dec r rs[k]
    have hcmp := rp_eql r rs[k] hqe
    dsimp only [Rp.val] at hcmp
    have HCMP := Lib.hid hcmp
    have HQE := Lib.hid hqe
    clear hown4 hb2 hpa hok hbw x0 x1 x2 hxr hsc hcmp hqe
    by_cases hd : bb = (es[k]).da
    · have hdb : (bb == (es[k]).da) = true := by simpa using hd
      have HEQ : Hid (qe = true ↔ EP) := Lib.hid (by rw [HE2.out, HQE.out]; exact ⟨fun h => ⟨HOK.out, hd, h⟩, fun h => h.2.2⟩)
      have HD := Lib.hid hd
      clear hd
      generalize es[k] = x at *
      generalize rs[k] = y at *
      go_wp2_with fail
      refine wp_region_sched [(0, true), (1, true), (2, true), (3, true), (4, true), (5, true), (6, true), (7, true), (8, true), (9, true), (10, true), (11, true), (12, true), (13, true), (14, true), (15, true), (16, true), (17, true), (18, true), (19, true), (20, true), (21, true), (22, true), (23, true), (24, true), (25, true), (26, true)] (fun W => Fr (fun _ => False) w2 W) (by kernel_rfl) (by kernel_rfl) rfl (by kernel_rfl) ((Fr.refl _ _).drew) ?_
      repeat (first | (apply sched_take rfl; (focus (first | rfl | (go_simp; done))); (focus (intro W hW; have f1 := HCC.out W hW; have f2 := HS0.out W hW; have f3 := HCV.out W hW; have q1 := HWK.out; have q3 := HWL.out; have q2 := HCMP.out; obtain ⟨g0, g1, g2, g3, g4, g5, g6, g7, g8⟩ := f2; obtain ⟨k1, k2⟩ := f3; go_simp; rfl)); (focus (intro K hK; go_simp; refine hK _ ?_; clear hK K))) | (apply sched_skip rfl; (focus (first | rfl | (go_simp; done))); (focus (intro K hK; go_simp; refine hK _ ?_; clear hK K))))
      refine sched_nil ?_
      go_wp2_with fail
      go_ret
      exact ⟨qe, rfl, HEQ.out, (HX.out _ HB2.out).1.drew⟩
    · have hdb : (bb == (es[k]).da) = false := by simpa using hd
      have HNO : Hid (¬ EP) := Lib.hid (fun h => hd (HE2.out.1 h).2.1)
      clear hd
      generalize es[k] = x at *
      generalize rs[k] = y at *
      go_wp2_with fail
      refine wp_region_sched [(0, true), (1, true), (2, true), (3, true), (4, true), (5, true), (6, true), (7, true), (8, true), (9, true), (10, true), (11, true), (12, true), (13, true), (14, true), (15, true), (16, true), (17, true), (18, true), (19, true), (20, true), (21, true), (22, true), (23, true), (24, true), (25, true), (26, true)] (fun W => Fr (fun _ => False) w2 W) (by kernel_rfl) (by kernel_rfl) rfl (by kernel_rfl) ((Fr.refl _ _).drew) ?_
      repeat (first | (apply sched_take rfl; (focus (first | rfl | (go_simp; done))); (focus (intro W hW; have f1 := HCC.out W hW; have f2 := HS0.out W hW; have f3 := HCV.out W hW; have q1 := HWK.out; have q3 := HWL.out; have q2 := HCMP.out; obtain ⟨g0, g1, g2, g3, g4, g5, g6, g7, g8⟩ := f2; obtain ⟨k1, k2⟩ := f3; go_simp; rfl)); (focus (intro K hK; go_simp; refine hK _ ?_; clear hK K))) | (apply sched_skip rfl; (focus (first | rfl | (go_simp; done))); (focus (intro K hK; go_simp; refine hK _ ?_; clear hK K))))
      refine sched_nil ?_
      go_wp2_with fail
      go_ret
      exact ⟨false, rfl, ⟨(fun h => by cases h), fun h => absurd h HNO.out⟩, (HX.out _ HB2.out).1.drew⟩
/-- Is a call explained? -/
theorem expl_any (A1 : Option Addr) (n1 c1 : Nat) (A2 : Option Addr) (n2 c2 : Nat) (A3 : Option Addr) (n3 c3 B : Nat) (vo : List Int) (es : List EnV) (rs : List Rp) (c : ClV) (w : World) (hB : B ≤ w.heap.size) (hbig : n1 ≤ 140737488355328) (hbig2 : n2 ≤ 1000000) (hcap : n2 ≤ c2) (hlen : rs.length ≤ es.length) (hen : ∀ e ∈ es, e.n ≤ 4294967296) (hg : ErrT w)
    (hr1 : RdI w B A1 n1 vo) (hr2 : RdEn w B A2 n2 es) (hr3 : RdRp w B A3 n3 rs) (hrc : RdCl w B c) (hfit : ClFit c) (hix : wfI c.ix) (htr : wfI c.tr) :
    Calls Tryz.prog 35 #[.slice A1 n1 c1, .slice A2 n2 c2, .slice A3 n3 c3, c.val] w (ResQ w (ExplP vo (es.map EnV.en) rs c.pl)) := by
  by_cases hki : c.v.c.ki = 0
  · exact expl0_any A1 n1 c1 A2 n2 c2 A3 n3 c3 B vo es rs c w hB hbig hbig2 hcap hlen hen hg hr1 hr2 hr3 hrc hfit hix htr hki
  · exact expl1_any A1 n1 c1 A2 n2 c2 A3 n3 c3 B vo es rs c w hB hbig hbig2 hcap hlen hen hg hr1 hr2 hr3 hrc hfit hix htr hki
end Go.Proofs.YtfjpenbahoeklaaGreatDoor
namespace Go.Proofs.YtfjpenbahoeklaaGreatDoor
open Go Go.RowKit

/-- A load of a whole struct whose guard is met. -/
theorem wpList_load_midG {P : Program} {ops : Array Oper} {rest : List Oper} {op : Oper} {a : Act} {w : World} {Q : Exit → Act → World → Prop} (hw : Region.wanted op (yielded ops a.tmps) = true) (ty : TypeId) (x : Operand) (ho : op.op = .load ty x)
    (b o : Nat) (hx : a.eval x = .pointer (some ⟨b, o, none⟩)) (cs : List Value) (d : TypeDesc) (hc : w.rangeAt b o cs)
    (hu : P.underlying ty = some d) (hd : d.isRow = true) (hi : (P.info? ty).map (·.size) = some cs.length)
    (h : wpList P ops Q rest (a.put op.dst (.agg cs.toArray)) w) : wpList P ops Q (op :: rest) a w :=
  wpList_step fun K hK => by rw [if_pos hw]; exact wp_load_mid ty x ho b o hx cs d hc hu hd hi (hK _ _ h)
theorem RdCl.more {w : World} {B C : Nat} {c : ClV} (h : RdCl w B c) (hB : B ≤ C) : RdCl w C c := ⟨⟨h.v.sp.more hB, h.v.vo.more hB⟩, Rd.more h.fo hB⟩
set_option maxRecDepth 100000 in
set_option maxHeartbeats 8000000 in
theorem lin1_any (c : ClV) (bv bl br bs : Nat) (s1 s2 s3 s4 : Value) (w : World) (PE PB : Prop) (h1 : w.cell? ⟨bv, 0, none⟩ = some s1) (h2 : w.cell? ⟨bl, 0, none⟩ = some s2) (h3 : w.cell? ⟨br, 0, none⟩ = some s3) (h4 : w.cell? ⟨bs, 0, none⟩ = some s4)
    (hex : ∀ W, Below w.heap.size w W → Calls Tryz.prog 35 #[s1, s2, s3, c.val] W (ResQ W PE)) (hbe : ∀ W, Below w.heap.size w W → Calls Tryz.prog 36 #[s2, s4, c.val] W (ResQ W PB)) :
    Calls Tryz.prog 34 #[c.val, .pointer (some ⟨bv, 0, none⟩), .pointer (some ⟨bl, 0, none⟩), .pointer (some ⟨br, 0, none⟩), .pointer (some ⟨bs, 0, none⟩)] w (ResQ w (c.en ≠ 0 ∧ (c.en < c.be ∨ ¬ PE ∨ ¬ PB))) := by
  have l1 := lt_of_cell h1
  have l2 := lt_of_cell h2
  have l3 := lt_of_cell h3
  have l4 := lt_of_cell h4
  generalize hW0 : w.alloc (.cells #[.int .i64 c.cl, .int .i64 c.v.c.ki, .int .i64 c.v.c.se, .int .i64 c.v.c.sq, .int .i64 c.v.c.at_, .slice c.v.As c.v.ns c.v.cs, .slice c.v.Av c.v.nv c.v.cv, .int .i64 c.tr, .int .i64 c.be, .int .i64 c.en, .int .i64 c.ix, .int .i64 c.r.er, .int .i64 c.r.ss, .int .i64 c.r.gn, .int .i64 c.r.ad, .int .i64 c.r.sa, .int .i64 c.r.ot, .int .i64 c.r.cy, .int .i64 c.r.fu, .slice c.fA c.fn c.fc] 53 (0, 0)) = W0
  have hb0 : Below w.heap.size w W0 := by rw [← hW0]; exact (Below.refl _ _).alloc (Nat.le_refl _) _
  have hc0 : W0.heap[w.heap.size]? = some (.cells #[.int .i64 c.cl, .int .i64 c.v.c.ki, .int .i64 c.v.c.se, .int .i64 c.v.c.sq, .int .i64 c.v.c.at_, .slice c.v.As c.v.ns c.v.cs, .slice c.v.Av c.v.nv c.v.cv, .int .i64 c.tr, .int .i64 c.be, .int .i64 c.en, .int .i64 c.ix, .int .i64 c.r.er, .int .i64 c.r.ss, .int .i64 c.r.gn, .int .i64 c.r.ad, .int .i64 c.r.sa, .int .i64 c.r.ot, .int .i64 c.r.cy, .int .i64 c.r.fu, .slice c.fA c.fn c.fc] 53 (0, 0)) := by rw [← hW0]; exact heap_alloc_new w _
  have hz0 : W0.heap.size = w.heap.size + 1 := by rw [← hW0]; simp
  have HX : Hid (∀ W, Below (w.heap.size + 1) W0 W → Below w.heap.size w W ∧ w.heap.size + 1 ≤ W.heap.size ∧ (∀ j, W.cell? ⟨w.heap.size, j, none⟩ = (#[.int .i64 c.cl, .int .i64 c.v.c.ki, .int .i64 c.v.c.se, .int .i64 c.v.c.sq, .int .i64 c.v.c.at_, .slice c.v.As c.v.ns c.v.cs, .slice c.v.Av c.v.nv c.v.cv, .int .i64 c.tr, .int .i64 c.be, .int .i64 c.en, .int .i64 c.ix, .int .i64 c.r.er, .int .i64 c.r.ss, .int .i64 c.r.gn, .int .i64 c.r.ad, .int .i64 c.r.sa, .int .i64 c.r.ot, .int .i64 c.r.cy, .int .i64 c.r.fu, .slice c.fA c.fn c.fc] : Array Value)[j]?) ∧ W.cell? ⟨bv, 0, none⟩ = some s1 ∧ W.cell? ⟨bl, 0, none⟩ = some s2 ∧ W.cell? ⟨br, 0, none⟩ = some s3 ∧ W.cell? ⟨bs, 0, none⟩ = some s4) := Lib.hid (fun W hW => by
    have hz := hW.size
    have hb : Below w.heap.size w W := hb0.trans (hW.mono (by omega))
    exact ⟨hb, by omega, blk_cell ((hW.block _ (by omega)).trans hc0), (hb.cell (p := ⟨bv, 0, none⟩) l1).trans h1, (hb.cell (p := ⟨bl, 0, none⟩) l2).trans h2, (hb.cell (p := ⟨br, 0, none⟩) l3).trans h3, (hb.cell (p := ⟨bs, 0, none⟩) l4).trans h4⟩)
  have HEX := Lib.hid hex
  have HBE := Lib.hid hbe
  have HB1 : Hid (Below w.heap.size w W0) := Lib.hid hb0
  obtain ⟨_, _, fc, f1, f2, f3, f4⟩ := HX.out W0 (Below.refl _ _)
  have HLD : Hid (W0.rangeAt w.heap.size 0 [.int .i64 c.cl, .int .i64 c.v.c.ki, .int .i64 c.v.c.se, .int .i64 c.v.c.sq, .int .i64 c.v.c.at_, .slice c.v.As c.v.ns c.v.cs, .slice c.v.Av c.v.nv c.v.cv, .int .i64 c.tr, .int .i64 c.be, .int .i64 c.en, .int .i64 c.ix, .int .i64 c.r.er, .int .i64 c.r.ss, .int .i64 c.r.gn, .int .i64 c.r.ad, .int .i64 c.r.sa, .int .i64 c.r.ot, .int .i64 c.r.cy, .int .i64 c.r.fu, .slice c.fA c.fn c.fc]) := Lib.hid (fun j v h => by rw [Nat.zero_add]; rw [fc j]; simpa using h)
  have HLX : Hid (∀ W, Below (w.heap.size + 1) W0 W → W.rangeAt w.heap.size 0 [.int .i64 c.cl, .int .i64 c.v.c.ki, .int .i64 c.v.c.se, .int .i64 c.v.c.sq, .int .i64 c.v.c.at_, .slice c.v.As c.v.ns c.v.cs, .slice c.v.Av c.v.nv c.v.cv, .int .i64 c.tr, .int .i64 c.be, .int .i64 c.en, .int .i64 c.ix, .int .i64 c.r.er, .int .i64 c.r.ss, .int .i64 c.r.gn, .int .i64 c.r.ad, .int .i64 c.r.sa, .int .i64 c.r.ot, .int .i64 c.r.cy, .int .i64 c.r.fu, .slice c.fA c.fn c.fc]) := Lib.hid (fun W hW j v h => by rw [Nat.zero_add]; rw [(HX.out W hW).2.2.1 j]; simpa using h)
  have hz0x : w.heap.size + 1 ≤ W0.heap.size := by omega
  clear hex hbe hb0 hc0 hz0 h1 h2 h3 h4 l1 l2 l3 l4
  obtain ⟨ccl, ⟨⟨ki, se, sq, at_, sp, vo⟩, As, ns, ccs, Av, nv, cv⟩, tr, be, en, ix, r, fA, fn, fcc, fo⟩ := c
  dsimp only [ClV.val] at *
  by_cases g1 : en = 0
  · subst g1
    go_enter Tryz.func34, Tryz.ntmps34
    go_wp2_with fail
    go_ret
    exact ⟨false, rfl, ⟨(fun h => by cases h), fun h => absurd rfl h.1⟩, HB1.out⟩
  have g1b : (en != 0) = true := by simpa using g1
  by_cases g2 : en < be
  · have G : Hid (en ≠ 0 ∧ (en < be ∨ ¬ PE ∨ ¬ PB)) := Lib.hid ⟨g1, .inl g2⟩
    go_enter Tryz.func34, Tryz.ntmps34
    go_wp2_with fail
    go_ret
    exact ⟨true, rfl, ⟨fun _ => G.out, fun _ => rfl⟩, HB1.out⟩
  have g2b : decide (en < be) = false := decide_eq_false g2
  have G2 := Lib.hid g2
  have G1 := Lib.hid g1
  clear g1 g2
  go_enter Tryz.func34, Tryz.ntmps34
  go_wp2_with (first | refine wpList_load_midG (by first | rfl | (go_simp; done)) 53 (.tmp 5) rfl w.heap.size 0 rfl _ _ HLD.out Tryz.underlying53 rfl (by kernel_rfl) ?_)
  clear hW0
  refine (HEX.out W0 HB1.out).mono ?_
  rintro e w1 ⟨q, rfl, hq, hb1⟩
  have HQ := Lib.hid hq
  have HW1 : Hid (Below (w.heap.size + 1) W0 w1) := Lib.hid (hb1.mono hz0x)
  clear hb1 hq fc f1 f2 f3 f4
  cases q
  · have G : Hid (en ≠ 0 ∧ (en < be ∨ ¬ PE ∨ ¬ PB)) := Lib.hid ⟨G1.out, .inr (.inl fun h => by have := HQ.out.2 h; cases this)⟩
    go_wp2_with fail
    go_ret
    exact ⟨true, rfl, ⟨fun _ => G.out, fun _ => rfl⟩, (HX.out _ HW1.out).1⟩
  · obtain ⟨_, _, fc, f1, f2, f3, f4⟩ := HX.out w1 HW1.out
    have HLE := Lib.hid (HLX.out w1 HW1.out)
    have HPE : Hid PE := Lib.hid (HQ.out.1 rfl)
    go_wp2_with (first | refine wpList_load_midG (by first | rfl | (go_simp; done)) 53 (.tmp 5) rfl w.heap.size 0 rfl _ _ HLE.out Tryz.underlying53 rfl (by kernel_rfl) ?_)
    refine (HBE.out w1 (HX.out w1 HW1.out).1).mono ?_
    rintro e w2 ⟨q2, rfl, hq2, hb2⟩
    have hz1 := (HX.out w1 HW1.out).2.1
    have HW2 : Hid (Below (w.heap.size + 1) W0 w2) := Lib.hid (HW1.out.trans (hb2.mono hz1))
    have HR : Hid (((!q2) = true) ↔ en ≠ 0 ∧ (en < be ∨ ¬ PE ∨ ¬ PB)) := Lib.hid (by
      constructor
      · intro h
        refine ⟨G1.out, .inr (.inr fun hp => ?_)⟩
        rw [hq2.2 hp] at h
        cases h
      · rintro ⟨_, h | h | h⟩
        · exact absurd h (by have := G2.out; omega)
        · exact absurd HPE.out h
        · cases q2
          · rfl
          · exact absurd (hq2.1 rfl) h)
    clear hb2 hq2 fc f1 f2 f3 f4
    cases q2
    · go_wp2_with fail
      go_ret
      exact ⟨true, rfl, HR.out, (HX.out _ HW2.out).1⟩
    · go_wp2_with fail
      go_ret
      exact ⟨false, rfl, HR.out, (HX.out _ HW2.out).1⟩
/-- z is the first place of which P; -1: there is none. -/
def IxP (cs : List ClV) (P : ClV → Prop) (z : Int) : Prop :=
  (z = -1 ∧ ∀ c ∈ cs, ¬ P c) ∨ ∃ (k : Nat) (h : k < cs.length), z = k ∧ P cs[k] ∧ ∀ j, (hj : j < k) → ¬ P (cs[j]'(Nat.lt_trans hj h))
def ResIx (w : World) (cs : List ClV) (P : ClV → Prop) (e : Ending) (w' : World) : Prop := ∃ z : Int, e = .returned (.int .i64 z) ∧ IxP cs P z ∧ Below w.heap.size w w'
set_option maxRecDepth 100000 in
set_option maxHeartbeats 8000000 in
theorem indexC_any (A : Option Addr) (n cap B F : Nat) (b1 b2 b3 b4 : Nat) (cs : List ClV) (P : ClV → Prop) (w : World) (hB : B ≤ w.heap.size) (hbig : n ≤ 140737488355328) (hr : RdCls w B A n cs)
    (hen : ∀ args w, (callFunc F args).run Tryz.prog w = .ok (.enter F args) w)
    (hq : ∀ (W : World) (c : ClV), Below w.heap.size w W → c ∈ cs → Calls Tryz.prog F #[c.val, .pointer (some ⟨b1, 0, none⟩), .pointer (some ⟨b2, 0, none⟩), .pointer (some ⟨b3, 0, none⟩), .pointer (some ⟨b4, 0, none⟩)] W (ResQ W (P c))) :
    Calls Tryz.prog 33 #[.slice A n cap, .func (.func F) #[] #[.pointer (some ⟨b1, 0, none⟩), .pointer (some ⟨b2, 0, none⟩), .pointer (some ⟨b3, 0, none⟩), .pointer (some ⟨b4, 0, none⟩)]] w (ResIx w cs P) := by
  have hl := hr.len
  subst hl
  have HR := Lib.hid hr
  have HQ := Lib.hid hq
  have HB0 := Lib.hid hB
  clear hr hq hB
  go_enter Tryz.func33, Tryz.ntmps33
  go_wp2_with fail
  go_loopw [5, 8] (fun _ i wr => ∃ k : Nat, k ≤ cs.length ∧ i = .int .i64 k ∧ (∀ j, (h : j < k) → (hj : j < cs.length) → ¬ P cs[j]) ∧ Below w.heap.size w wr) (fun _ i _ => cs.length - (intOf i).toNat)
  case atStart => exact ⟨0, by omega, rfl, fun j h => by omega, Below.refl _ _⟩
  case round =>
    obtain ⟨k, hk, rfl, hall, hwr⟩ := hrel
    have HALL := Lib.hid hall
    have HWR := Lib.hid hwr
    have hzr := hwr.size
    clear hall hwr
    by_cases hlt : k < cs.length
    · obtain ⟨eb, off, hA, heb, hcell⟩ := Rd.elem ClV.cells_len (HR.out.below HWR.out HB0.out).1 (k := k) hlt hlt
      have HLX : Hid (wr.rangeAt eb (off + k * 20) (cs[k]).cells) := Lib.hid (fun j v h => (hcell j (by have h1 := (List.getElem?_eq_some_iff.1 h).1; rw [ClV.cells_len] at h1; exact h1)).trans h)
      have HCALL := Lib.hid (HQ.out wr cs[k] HWR.out (List.getElem_mem hlt))
      have HNXT : Hid (¬ P cs[k] → ∀ j, (h : j < k + 1) → (hj : j < cs.length) → ¬ P cs[j]) := Lib.hid (fun hf j h hj => by
        by_cases e : j = k
        · subst e; exact hf
        · exact HALL.out j (by omega) hj)
      have HYES : Hid (P cs[k] → IxP cs P k) := Lib.hid (fun h => .inr ⟨k, hlt, rfl, h, fun j hj => HALL.out j hj (by omega)⟩)
      have hk1 : (k : Int) < cs.length := by omega
      subst hA
      clear hcell
      generalize cs[k] = c at *
      obtain ⟨ccl, ⟨⟨ki, se, sq, at_, sp, vo⟩, As, ns, ccs, Av, nv, cv⟩, tr, be, en, ix, r, fA, fn, fcc, fo⟩ := c
      dsimp only [ClV.cells, ClV.val] at *
      generalize P _ = Q at *
      go_wp2_with (first | refine wpList_load_mid rfl 53 (.tmp 14) rfl eb (off + k * 20) rfl _ _ HLX.out Tryz.underlying53 rfl (by kernel_rfl) ?_)
      refine HCALL.out.mono ?_
      rintro e w1 ⟨q, rfl, hq, hb1⟩
      have HW1 : Hid (Below w.heap.size w w1) := Lib.hid (HWR.out.trans (hb1.mono hzr))
      have HQQ := Lib.hid hq
      clear hq hb1
      cases q
      · have HNX := Lib.hid (HNXT.out (fun h => by have := HQQ.out.2 h; cases this))
        go_wp2_with fail
        go_roundw
        case rel => exact ⟨k + 1, by omega, by go_num, HNX.out, HW1.out⟩
        case measure => simp [intOf]; omega
      · have HY := Lib.hid (HYES.out (HQQ.out.1 rfl))
        go_wp2_with fail
        go_ret
        exact ⟨_, rfl, HY.out, HW1.out⟩
    · have hk1 : ¬ (k : Int) < cs.length := by omega
      have HNO : Hid (IxP cs P (-1)) := Lib.hid (.inl ⟨rfl, fun c hc => by
        obtain ⟨j, hj, rfl⟩ := List.getElem_of_mem hc
        exact HALL.out j (by omega) hj⟩)
      go_wp2_with fail
      go_ret
      exact ⟨_, rfl, HNO.out, HWR.out⟩
/-- What Linear leaves. -/
def ResLin (w : World) (vo : List Int) (log : List En) (l : List Cl) (e : Ending) (w' : World) : Prop := ∃ z : Int, e = .returned (.int .i64 z) ∧ LinP vo log l z ∧ Below w.heap.size w w'
set_option maxRecDepth 100000 in
set_option maxHeartbeats 8000000 in
theorem linear_any (A1 : Option Addr) (n1 c1 : Nat) (A2 : Option Addr) (n2 c2 : Nat) (A4 : Option Addr) (n4 c4 B : Nat) (vo : List Int) (es : List EnV) (cs : List ClV) (w : World) (hB : B ≤ w.heap.size) (hbig : n1 ≤ 140737488355328) (hbig2 : n2 ≤ 1000000) (hcap : n2 ≤ c2) (hbig4 : n4 ≤ 140737488355328) (hen : ∀ e ∈ es, e.n ≤ 4294967296) (hg : ErrT w)
    (hr1 : RdI w B A1 n1 vo) (hr2 : RdEn w B A2 n2 es) (hr4 : RdCls w B A4 n4 cs) (hfit : ∀ c ∈ cs, ClFit c) (hix : ∀ c ∈ cs, wfI c.ix) (htr : ∀ c ∈ cs, wfI c.tr) :
    Calls Tryz.prog 15 #[.slice A1 n1 c1, .slice A2 n2 c2, .slice A4 n4 c4] w (ResLin w vo (es.map EnV.en) (cs.map ClV.pl)) := by
  have hl2 := hr2.len
  have hbw : Below w.heap.size w (((w.alloc (.cells #[.slice A1 n1 c1] 22 (0, 0))).alloc (.cells #[.slice A2 n2 c2] 23 (0, 0))).alloc (.cells #[.slice A4 n4 c4] 36 (0, 0))) := (((Below.refl _ _).alloc (Nat.le_refl _) _).alloc (by simp) _).alloc (by simp; omega) _
  generalize hW0 : ((w.alloc (.cells #[.slice A1 n1 c1] 22 (0, 0))).alloc (.cells #[.slice A2 n2 c2] 23 (0, 0))).alloc (.cells #[.slice A4 n4 c4] 36 (0, 0)) = W0 at *
  have hz0 : W0.heap.size = w.heap.size + 3 := by rw [← hW0]; simp
  have hc1 : W0.cell? ⟨w.heap.size, 0, none⟩ = some (.slice A1 n1 c1) := by
    rw [← hW0]
    exact blk_cell ((Below.heap_alloc _ _ _ (by simp; omega)).trans ((Below.heap_alloc _ _ _ (by simp)).trans (heap_alloc_new w _))) 0
  have hc2 : W0.cell? ⟨w.heap.size + 1, 0, none⟩ = some (.slice A2 n2 c2) := by
    rw [← hW0]
    exact blk_cell ((Below.heap_alloc _ _ _ (by simp)).trans (heap_at (by simp))) 0
  have hc4 : W0.cell? ⟨w.heap.size + 2, 0, none⟩ = some (.slice A4 n4 c4) := by
    rw [← hW0]
    exact blk_cell (heap_at (by simp)) 0
  have HX : Hid (∀ W, Below (w.heap.size + 3) W0 W → Below w.heap.size w W ∧ w.heap.size + 3 ≤ W.heap.size ∧ W.cell? ⟨w.heap.size, 0, none⟩ = some (.slice A1 n1 c1) ∧ W.cell? ⟨w.heap.size + 1, 0, none⟩ = some (.slice A2 n2 c2) ∧ W.cell? ⟨w.heap.size + 2, 0, none⟩ = some (.slice A4 n4 c4)) := Lib.hid (fun W hW => by
    have hz := hW.size
    exact ⟨hbw.trans (hW.mono (by omega)), by omega, (hW.cell (p := ⟨w.heap.size, 0, none⟩) (by simp)).trans hc1, (hW.cell (p := ⟨w.heap.size + 1, 0, none⟩) (by simp)).trans hc2, (hW.cell (p := ⟨w.heap.size + 2, 0, none⟩) (by simp)).trans hc4⟩)
  have HRP : Hid (Calls Tryz.prog 13 #[.slice A1 n1 c1, .slice A2 n2 c2] W0 (ResRp W0 (replP vo (es.map EnV.en)))) := Lib.hid (replay_any A1 n1 c1 A2 n2 c2 B vo es W0 (by omega) hbig hbig2 hen (hg.below hbw (Nat.le_refl _)) (Rd.below' hr1 hbw hB (Nat.le_refl _)) (hr2.below hbw hB))
  have HRL : Hid ((replP vo (es.map EnV.en)).length ≤ es.length) := Lib.hid (by have := replP_len vo (es.map EnV.en); rwa [List.length_map] at this)
  have HEXP : Hid (∀ (A3 : Option Addr) (c3 B3 : Nat) (W1 : World) (c : ClV), c ∈ cs → B ≤ B3 → B3 ≤ W1.heap.size → Below w.heap.size w W1 → RdRp W1 B3 A3 (replP vo (es.map EnV.en)).length (replP vo (es.map EnV.en)) → Calls Tryz.prog 35 #[.slice A1 n1 c1, .slice A2 n2 c2, .slice A3 (replP vo (es.map EnV.en)).length c3, c.val] W1 (ResQ W1 (ExplP vo (es.map EnV.en) (replP vo (es.map EnV.en)) c.pl))) := Lib.hid (fun A3 c3 B3 W1 c hc hB3 hB31 hW1 hr3 =>
    expl_any A1 n1 c1 A2 n2 c2 A3 _ c3 B3 vo es _ c W1 hB31 hbig hbig2 hcap HRL.out hen (hg.below hW1 (Nat.le_refl _)) (Rd.below' hr1 hW1 hB hB3) ((hr2.below hW1 hB).more hB3) hr3 (((hr4.2 c hc).below hW1 hB).more hB3) (hfit c hc) (hix c hc) (htr c hc))
  have HBEH : Hid (∀ (W1 : World) (c : ClV), c ∈ cs → Below w.heap.size w W1 → Calls Tryz.prog 36 #[.slice A2 n2 c2, .slice A4 n4 c4, c.val] W1 (ResQ W1 (BehP (es.map EnV.en) (cs.map ClV.pl) c.pl))) := Lib.hid (fun W1 c _ hW1 =>
    behind_any A2 n2 c2 B es A4 n4 c4 cs c W1 (Nat.le_trans hB hW1.size) (by omega) hbig4 hen (hr2.below hW1 hB) (hr4.below hW1 hB))
  have HR4 := Lib.hid hr4
  have HB0 := Lib.hid hB
  have HIX : Hid (∀ z, IxP cs (fun c => c.en ≠ 0 ∧ (c.en < c.be ∨ ¬ ExplP vo (es.map EnV.en) (replP vo (es.map EnV.en)) c.pl ∨ ¬ BehP (es.map EnV.en) (cs.map ClV.pl) c.pl)) z → LinP vo (es.map EnV.en) (cs.map ClV.pl) z) := Lib.hid (fun z hz => by
    rcases hz with ⟨hz, h⟩ | ⟨k, hk, hz, h, hall⟩
    · refine .inl ⟨hz, fun c hc => ?_⟩
      obtain ⟨x, hx, rfl⟩ := List.mem_map.1 hc
      exact h x hx
    · refine .inr ⟨k, by simpa using hk, hz, ?_, fun j hj => ?_⟩
      · rw [List.getElem_map]; exact h
      · rw [List.getElem_map]; exact hall j hj)
  have hfin : Tryz.prog.follows .mixedOrders = true := by kernel_rfl
  have hen1 : ∀ args w, (callFunc 34 args).run Tryz.prog w = .ok (.enter 34 args) w := enters_of Tryz.func34 (by kernel_rfl) rfl
  have HEN1 := Lib.hid hen1
  have HB1 := Lib.hid hbw
  have HW0 := Lib.hid hW0
  clear hg hr1 hr2 hr4 hfit hix htr hB hbw hen hl2 hen1 hc1 hc2 hc4 hW0 hfin
  generalize replP vo (es.map EnV.en) = rp at *
  have f0 := HX.out W0 (Below.refl _ _)
  rw [← HW0.out] at f0
  obtain ⟨_, _, f1, f2, f4⟩ := f0
  go_enter Tryz.func15, Tryz.ntmps15
  go_wp2_with fail
  rw [HW0.out]
  clear f1 f2 f4
  refine HRP.out.mono ?_
  rintro e w1 ⟨A3, c3, rfl, hown, hb1⟩
  have HR3 : Hid (RdRp w1 w1.heap.size A3 rp.length rp) := Lib.hid (Rd.of_own hown)
  have HW1 : Hid (Below (w.heap.size + 3) W0 w1) := Lib.hid (hb1.mono (by omega))
  have HBX : Hid (Below w1.heap.size w1 (w1.alloc (.cells #[.slice A3 rp.length c3] 27 (0, 0)))) := Lib.hid ((Below.refl _ _).alloc (Nat.le_refl _) _)
  have hz1 := (HX.out w1 HW1.out).2.1
  have hbx2 : Below (w.heap.size + 3) W0 (w1.alloc (.cells #[.slice A3 rp.length c3] 27 (0, 0))) := HW1.out.trans (HBX.out.mono hz1)
  have HW2 := Lib.hid hbx2
  obtain ⟨_, _, f1, f2, f4⟩ := HX.out _ hbx2
  clear hown hb1 hbx2
  go_wp2_with fail
  have HC3 : Hid ((w1.alloc (.cells #[.slice A3 rp.length c3] 27 (0, 0))).cell? ⟨w1.heap.size, 0, none⟩ = some (.slice A3 rp.length c3)) := Lib.hid (blk_cell (heap_at rfl) 0)
  refine (indexC_any A4 n4 c4 B 34 w.heap.size (w.heap.size + 1) w1.heap.size (w.heap.size + 2) cs (fun c => c.en ≠ 0 ∧ (c.en < c.be ∨ ¬ ExplP vo (es.map EnV.en) rp c.pl ∨ ¬ BehP (es.map EnV.en) (cs.map ClV.pl) c.pl)) _ (by have := HB0.out; simp; omega) hbig4 (HR4.out.below (HX.out _ HW2.out).1 HB0.out) HEN1.out (fun W c hW hc => ?_)).mono ?_
  · have hW3 : Below (w.heap.size + 3) W0 W := HW2.out.trans (hW.mono (by simp; omega))
    have hx := HX.out W hW3
    have h13 : Below w1.heap.size w1 W := HBX.out.trans (hW.mono (by simp))
    refine lin1_any c w.heap.size (w.heap.size + 1) w1.heap.size (w.heap.size + 2) (.slice A1 n1 c1) (.slice A2 n2 c2) (.slice A3 rp.length c3) (.slice A4 n4 c4) W _ _ hx.2.2.1 hx.2.2.2.1 ((hW.cell (p := ⟨w1.heap.size, 0, none⟩) (by simp)).trans HC3.out) hx.2.2.2.2 (fun W2 hW2 => ?_) (fun W2 hW2 => HBEH.out W2 c hc (hx.1.trans (hW2.mono hx.1.size)))
    exact HEXP.out A3 c3 w1.heap.size W2 c hc (by have := HB0.out; omega) (by have h1 := hW2.size; have h2 := h13.size; omega) (hx.1.trans (hW2.mono hx.1.size)) (Rd.below' HR3.out (h13.trans (hW2.mono h13.size)) (Nat.le_refl _) (Nat.le_refl _))
  rintro e w3 ⟨z, rfl, hz, hb3⟩
  have HZ := Lib.hid (HIX.out z hz)
  have HB3 : Hid (Below w.heap.size w w3) := Lib.hid ((HX.out _ HW2.out).1.trans (hb3.mono (by simp; omega)))
  clear hz hb3 f1 f2 f4
  go_wp2_with fail
  go_ret
  exact ⟨z, rfl, HZ.out, HB3.out⟩
end Go.Proofs.YtfjpenbahoeklaaGreatDoor
