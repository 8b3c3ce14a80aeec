/-
  The walks of audit.Explained and of the law AuditOrder: the Go text answers true. Conditions: what came in reads as lists; the package variable errors.errorType lies as it is laid.
  Commands, replies, branches and calls that came in as arguments, opened to their parts. No condition: plain lemmas over the reading of data.
-/
import Derived.Test.YtfjpenbahoeklaaGreatDoorHMachW
import Derived.Test.YtfjpenbahoeklaaGreatDoorHLaw16a
namespace Go.Proofs.YtfjpenbahoeklaaGreatDoor
open Go Go.RowKit

/-- A load of a whole struct in a drawn region. -/
theorem sched_load {P : Program} {ops : Array Oper} {Q : Exit → Act → World → Prop} {C : World → Prop} {i : Nat} {rest : List (Nat × Bool)} {op : Oper} {a : Act} {w : World} (ho : ops[i]? = some op) (hw : Region.wanted op (yielded ops a.tmps) = true) (ty : TypeId) (x : Operand) (hop : op.op = .load ty x)
    (b o : Nat) (hx : a.eval x = .pointer (some ⟨b, o, none⟩)) (cs : List Value) (d : TypeDesc) (hc : ∀ W, C W → W.rangeAt b o cs) (hu : P.underlying ty = some d) (hd : d.isRow = true) (hi : (P.info? ty).map (·.size) = some cs.length)
    (h : ∀ K : Act → Prop, (∀ a, wpSched P ops Q C rest a w → K a) → K (a.put op.dst (.agg cs.toArray))) : wpSched P ops Q C ((i, true) :: rest) a w :=
  sched_take ho hw (fun W hW => by
    unfold execOp
    simp only [hop, hx, Instr.loadAt, Instr.sureAddr, Sem.run_bind, Sem.run_pure, Result.andThen_ok, run_loadVar_mid W b o ty cs d (hc W hW) hu hd hi]) h
set_option maxRecDepth 100000 in
set_option maxHeartbeats 4000000 in
theorem explained16_any (A1 : Option Addr) (n1 c1 : Nat) (A2 : Option Addr) (n2 c2 B : Nat) (vo : List Int) (es : List EnV) (c : ClV) (w : World) (hB : B ≤ w.heap.size) (hbig : n1 ≤ 140737488355328) (hbig2 : n2 ≤ 1000000) (hcap : n2 ≤ c2) (hen : ∀ e ∈ es, e.n ≤ 4294967296) (hg : ErrT w)
    (hr1 : RdI w B A1 n1 vo) (hr2 : RdEn w B A2 n2 es) (hrc : RdCl w B c) (hfit : ClFit c) (hix : wfI c.ix) (htr : wfI c.tr) :
    Calls Tryz.prog 21 #[.slice A1 n1 c1, .slice A2 n2 c2, c.val] w (ResQ w (ExplP vo (es.map EnV.en) (replP vo (es.map EnV.en)) c.pl)) := by
  have hb0 : Below w.heap.size w (w.alloc (.cells #[.int .i64 c.cl, .int .i64 c.v.c.ki, .int .i64 c.v.c.se, .int .i64 c.v.c.sq, .int .i64 c.v.c.at_, .slice c.v.As c.v.ns c.v.cs, .slice c.v.Av c.v.nv c.v.cv, .int .i64 c.tr, .int .i64 c.be, .int .i64 c.en, .int .i64 c.ix, .int .i64 c.r.er, .int .i64 c.r.ss, .int .i64 c.r.gn, .int .i64 c.r.ad, .int .i64 c.r.sa, .int .i64 c.r.ot, .int .i64 c.r.cy, .int .i64 c.r.fu, .slice c.fA c.fn c.fc] 53 (0, 0))) := (Below.refl _ _).alloc (Nat.le_refl _) _
  have hc0 := heap_alloc_new w (.cells #[.int .i64 c.cl, .int .i64 c.v.c.ki, .int .i64 c.v.c.se, .int .i64 c.v.c.sq, .int .i64 c.v.c.at_, .slice c.v.As c.v.ns c.v.cs, .slice c.v.Av c.v.nv c.v.cv, .int .i64 c.tr, .int .i64 c.be, .int .i64 c.en, .int .i64 c.ix, .int .i64 c.r.er, .int .i64 c.r.ss, .int .i64 c.r.gn, .int .i64 c.r.ad, .int .i64 c.r.sa, .int .i64 c.r.ot, .int .i64 c.r.cy, .int .i64 c.r.fu, .slice c.fA c.fn c.fc] 53 (0, 0))
  generalize hW0 : w.alloc (.cells #[.int .i64 c.cl, .int .i64 c.v.c.ki, .int .i64 c.v.c.se, .int .i64 c.v.c.sq, .int .i64 c.v.c.at_, .slice c.v.As c.v.ns c.v.cs, .slice c.v.Av c.v.nv c.v.cv, .int .i64 c.tr, .int .i64 c.be, .int .i64 c.en, .int .i64 c.ix, .int .i64 c.r.er, .int .i64 c.r.ss, .int .i64 c.r.gn, .int .i64 c.r.ad, .int .i64 c.r.sa, .int .i64 c.r.ot, .int .i64 c.r.cy, .int .i64 c.r.fu, .slice c.fA c.fn c.fc] 53 (0, 0)) = W0 at *
  have hz0 : W0.heap.size = w.heap.size + 1 := by rw [← hW0]; simp
  have HX : Hid (∀ W, Below (w.heap.size + 1) W0 W → Below w.heap.size w W ∧ w.heap.size + 1 ≤ W.heap.size ∧ W.rangeAt w.heap.size 0 [.int .i64 c.cl, .int .i64 c.v.c.ki, .int .i64 c.v.c.se, .int .i64 c.v.c.sq, .int .i64 c.v.c.at_, .slice c.v.As c.v.ns c.v.cs, .slice c.v.Av c.v.nv c.v.cv, .int .i64 c.tr, .int .i64 c.be, .int .i64 c.en, .int .i64 c.ix, .int .i64 c.r.er, .int .i64 c.r.ss, .int .i64 c.r.gn, .int .i64 c.r.ad, .int .i64 c.r.sa, .int .i64 c.r.ot, .int .i64 c.r.cy, .int .i64 c.r.fu, .slice c.fA c.fn c.fc]) := Lib.hid (fun W hW => by
    have hz := hW.size
    refine ⟨hb0.trans (hW.mono (by omega)), by omega, fun j v h => ?_⟩
    rw [Nat.zero_add, blk_cell ((hW.block _ (by omega)).trans hc0) j]
    simpa using h)
  have HRP : Hid (∀ W, Below (w.heap.size + 1) W0 W → Calls Tryz.prog 13 #[.slice A1 n1 c1, .slice A2 n2 c2] W (ResRp W (replP vo (es.map EnV.en)))) := Lib.hid (fun W hW => by
    have h := HX.out W hW
    exact replay_any A1 n1 c1 A2 n2 c2 B vo es W (Nat.le_trans hB h.1.size) hbig hbig2 hen (hg.below h.1 (Nat.le_refl _)) (Rd.below' hr1 h.1 hB (Nat.le_refl _)) (hr2.below h.1 hB))
  have hlen : (replP vo (es.map EnV.en)).length ≤ es.length := by have := replP_len vo (es.map EnV.en); rwa [List.length_map] at this
  have HEX : Hid (∀ (W : World) (A3 : Option Addr) (c3 : Nat), Below (w.heap.size + 1) W0 W → RdRp W W.heap.size A3 (replP vo (es.map EnV.en)).length (replP vo (es.map EnV.en)) → Calls Tryz.prog 35 #[.slice A1 n1 c1, .slice A2 n2 c2, .slice A3 (replP vo (es.map EnV.en)).length c3, c.val] W (ResQ W (ExplP vo (es.map EnV.en) (replP vo (es.map EnV.en)) c.pl))) := Lib.hid (fun W A3 c3 hW h3 => by
    have h := HX.out W hW
    have hBW : B ≤ W.heap.size := Nat.le_trans hB h.1.size
    exact expl_any A1 n1 c1 A2 n2 c2 A3 _ c3 W.heap.size vo es _ c W (Nat.le_refl _) hbig hbig2 hcap hlen hen (hg.below h.1 (Nat.le_refl _)) (Rd.below' hr1 h.1 hB hBW) ((hr2.below h.1 hB).more hBW) h3 ((hrc.below h.1 hB).more hBW) hfit hix htr)
  clear hr1 hr2 hrc hfit hg hen hb0 hc0 hlen
  generalize replP vo (es.map EnV.en) = rp at *
  go_enter Tryz.func21, Tryz.ntmps21
  go_wp2_with fail
  refine wp_region_sched [(0, true), (1, true), (2, true), (3, true), (5, true), (4, false), (6, false), (7, true)] (fun W => Below (w.heap.size + 1) W0 W) (by kernel_rfl) (by kernel_rfl) rfl (by kernel_rfl) ((Below.refl _ _).drew) ?_
  clear hW0
  repeat (first | (apply sched_load rfl (by first | rfl | (go_simp; done)) 53 (.tmp 5) rfl w.heap.size 0 rfl _ _ (fun W hW => (HX.out W hW).2.2) Tryz.underlying53 rfl (by kernel_rfl); (focus (intro K hK; go_simp; refine hK _ ?_; clear hK K))) | (apply sched_take rfl; (focus (first | rfl | (go_simp; done))); (focus (intro W hW; go_simp; rfl)); (focus (intro K hK; go_simp; refine hK _ ?_; clear hK K))) | (apply sched_skip rfl; (focus (first | rfl | (go_simp; done))); (focus (intro K hK; go_simp; refine hK _ ?_; clear hK K))))
  apply sched_op rfl
  intro K hK
  go_simp
  go_wp2_with (fail)
  refine (HRP.out _ ((Below.refl _ _).drew)).mono ?_
  rintro e w3 ⟨A3, c3, rfl, hown3, hb3⟩
  have HB3 : Hid (Below (w.heap.size + 1) W0 w3) := Lib.hid ((Below.refl _ _).drew.trans (hb3.mono (by show w.heap.size + 1 ≤ W0.heap.size; omega)))
  have HO3 : Hid (RdRp w3 w3.heap.size A3 rp.length rp) := Lib.hid (Rd.of_own hown3)
  clear hown3 hb3
  go_wp2_with fail
  refine ⟨by exact HB3.out, ?_⟩
  apply sched_op rfl
  intro K hK
  go_simp
  go_wp2_with (fail)
  refine (HEX.out w3 A3 c3 HB3.out HO3.out).mono ?_
  rintro e w4 ⟨q, rfl, hq, hb4⟩
  have HB4 : Hid (Below (w.heap.size + 1) W0 w4) := Lib.hid (HB3.out.trans (hb4.mono (HX.out _ HB3.out).2.1))
  have HQ := Lib.hid hq
  clear hb4 hq
  go_wp2_with fail
  refine ⟨by exact HB4.out, ?_⟩
  repeat (first | (apply sched_take rfl; (focus (first | rfl | (go_simp; done))); (focus (intro W hW; go_simp; rfl)); (focus (intro K hK; go_simp; refine hK _ ?_; clear hK K))) | (apply sched_skip rfl; (focus (first | rfl | (go_simp; done))); (focus (intro K hK; go_simp; refine hK _ ?_; clear hK K))))
  refine sched_nil ?_
  go_wp2_with fail
  go_ret
  exact ⟨q, rfl, HQ.out, (HX.out _ HB4.out).1⟩
set_option maxRecDepth 100000 in
set_option maxHeartbeats 8000000 in
theorem order16_any (A1 : Option Addr) (n1 c1 : Nat) (A2 : Option Addr) (n2 c2 : Nat) (A3 : Option Addr) (n3 c3 B : Nat) (vo : List Int) (es : List EnV) (cs : List ClV) (w : World) (hB : B ≤ w.heap.size) (hcap : n2 ≤ c2) (hg : ErrT w) (hr1 : RdI w B A1 n1 vo) (hr2 : RdEn w B A2 n2 es) (hr3 : RdCls w B A3 n3 cs) (hix : ∀ c ∈ cs, wfI c.ix) (htr : ∀ c ∈ cs, wfI c.tr) :
    Calls Tryz.prog 8 #[.slice A1 n1 c1, .slice A2 n2 c2, .slice A3 n3 c3] w fun e w' => e = .returned (.bool true) ∧ Below w.heap.size w w' := by
  have HLT := Lib.hid (light16_any A1 n1 c1 A2 n2 c2 A3 n3 c3 B es cs w hr2 hr3)
  have hl2 := hr2.len
  have hl3 := hr3.len
  subst hl3
  have HR1 := Lib.hid hr1
  have HR2 := Lib.hid hr2
  have HR3 := Lib.hid hr3
  have HG := Lib.hid hg
  have HB0 := Lib.hid hB
  have HAW : Hid (∀ W, Below w.heap.size w W → Calls Tryz.prog 11 #[] W fun e w' => e = .returned (.bool true) ∧ Below W.heap.size W w') := Lib.hid (fun W hW => awake16_any W (hg.below hW (Nat.le_refl _)))
  clear hr1 hr2 hr3 hg hB
  go_enter Tryz.func8, Tryz.ntmps8
  go_wp2_with fail
  refine HLT.out.mono ?_
  rintro e w1 ⟨q, rfl, hq, m, rfl⟩
  have HW : Hid (Below w.heap.size w (w.drewN m)) := Lib.hid (below_drew' w m)
  cases q with
  | false =>
    clear hq
    go_wp2_with fail
    refine (HAW.out _ HW.out).mono ?_
    rintro e w2 ⟨rfl, hb2⟩
    go_wp2_with fail
    go_ret
    exact ⟨rfl, HW.out.trans hb2⟩
  | true =>
    obtain ⟨q1, q2, q3, q4, q5⟩ := hq rfl
    have HEN : Hid (∀ e ∈ es, e.n ≤ 4294967296) := Lib.hid (fun e he => by have := q4 e he; omega)
    have HFIT : Hid (∀ c ∈ cs, ClFit c) := Lib.hid (fun c hc => by
      obtain ⟨h1, h2, _, h4⟩ := q5 c hc
      exact ⟨by omega, by omega, fun s hs => by have := h4 s hs; omega⟩)
    have HLIN := Lib.hid (linear_any A1 n1 c1 A2 n2 c2 A3 cs.length c3 B vo es cs (w.drewN m) (by have := HB0.out; simpa using this) (by omega) (by omega) hcap (by omega) HEN.out (HG.out.below HW.out (Nat.le_refl _)) (Rd.below' HR1.out HW.out HB0.out (Nat.le_refl _)) (HR2.out.below HW.out HB0.out) (HR3.out.below HW.out HB0.out) HFIT.out hix htr)
    have HIX := Lib.hid hix
    have HTR := Lib.hid htr
    clear hq q4 q5 hix htr
    go_wp2_with fail
    refine HLIN.out.mono ?_
    rintro e w2 ⟨z, rfl, hz, hb2⟩
    have HB2 : Hid (Below w.heap.size w w2) := Lib.hid (HW.out.trans (hb2.mono (by simp)))
    clear hb2
    by_cases hz0 : 0 ≤ z
    · clear hz
      go_wp2_with fail
      refine (HAW.out _ HB2.out).mono ?_
      rintro e w3 ⟨rfl, hb3⟩
      have HB3 : Hid (Below w.heap.size w w3) := Lib.hid (HB2.out.trans (hb3.mono HB2.out.size))
      clear hb3
      go_wp2_with fail
      go_ret
      exact ⟨rfl, HB3.out⟩
    have hzm : z = -1 := by
      rcases hz with ⟨h, _⟩ | ⟨k, _, h, _⟩ <;> omega
    subst hzm
    have HZ := Lib.hid hz
    have HEXP : Hid (∀ c ∈ cs, c.en ≠ 0 → ∀ W, Below w.heap.size w W → Calls Tryz.prog 21 #[.slice A1 n1 c1, .slice A2 n2 c2, c.val] W fun e w' => e = .returned (.bool true) ∧ Below W.heap.size W w') := Lib.hid (fun c hc he W hW => by
      have hz := hW.size
      refine (explained16_any A1 n1 c1 A2 n2 c2 B vo es c W (by have := HB0.out; omega) (by omega) (by omega) hcap HEN.out (HG.out.below hW (Nat.le_refl _)) (Rd.below' HR1.out hW HB0.out (Nat.le_refl _)) (HR2.out.below hW HB0.out) ((HR3.out.2 c hc).below hW HB0.out) (HFIT.out c hc) (HIX.out c hc) (HTR.out c hc)).mono ?_
      rintro e w' ⟨q, rfl, hq, hb⟩
      have h := (lin_right HZ.out (c := c.pl) (List.mem_map.2 ⟨c, hc, rfl⟩) he).2.1
      rw [hq.2 h]
      exact ⟨rfl, hb⟩)
    have HFST : Hid (∀ c ∈ cs, ∀ W, Below w.heap.size w W → Calls Tryz.prog 23 #[.slice A2 n2 c2, c.val] W fun e w' => e = .returned (.int .i64 (firstP (es.map EnV.en) c.pl)) ∧ Below W.heap.size W w') := Lib.hid (fun c hc W hW => by
      have hz := hW.size
      exact first_any A2 n2 c2 B es c W (by have := HB0.out; omega) (by omega) HEN.out (HR2.out.below hW HB0.out))
    have HBND : Hid (∀ c ∈ cs, c.en ≠ 0 → 0 ≤ firstP (es.map EnV.en) c.pl ∧ firstP (es.map EnV.en) c.pl ≤ 60) := Lib.hid (fun c hc he => by
      have h := expl_first (lin_right HZ.out (c := c.pl) (List.mem_map.2 ⟨c, hc, rfl⟩) he).2.1
      rw [List.length_map] at h
      omega)
    have HORD : Hid (∀ a ∈ cs, ∀ b ∈ cs, a.en ≠ 0 → b.en ≠ 0 → a.en < b.be → ¬ (2 * firstP (es.map EnV.en) b.pl + (if b.v.c.ki = 0 then 1 else 0) < 2 * firstP (es.map EnV.en) a.pl + (if a.v.c.ki = 0 then 1 else 0)) ∧ ¬ (2 * firstP (es.map EnV.en) a.pl + (if a.v.c.ki = 0 then 1 else 0) = 2 * firstP (es.map EnV.en) b.pl + (if b.v.c.ki = 0 then 1 else 0) ∧ a.v.c.ki ≠ 0)) := Lib.hid (fun a ha b hb hae hbe hlt =>
      lin_order HZ.out (a := a.pl) (b := b.pl) (List.mem_map.2 ⟨a, ha, rfl⟩) (List.mem_map.2 ⟨b, hb, rfl⟩) hae hbe hlt)
    clear hz hz0
    go_wp2_with fail
    go_loopw [28] (fun i wr => ∃ k : Nat, k ≤ cs.length ∧ i = .int .i64 k ∧ Below w.heap.size w wr) (fun i _ => cs.length - (intOf i).toNat)
    case atStart => exact ⟨0, by omega, rfl, HB2.out⟩
    case round =>
      obtain ⟨k, hk, rfl, hwr⟩ := hrel
      have HWR := Lib.hid hwr
      have hzr := hwr.size
      clear hwr
      by_cases hlt : k < cs.length
      · have hk1 : (k : Int) < cs.length := by omega
        obtain ⟨eb, off, hA, heb, hcell⟩ := Rd.elem ClV.cells_len (HR3.out.below HWR.out HB0.out).1 (k := k) hlt hlt
        have HLX : Hid (wr.rangeAt eb (off + k * 20) (cs[k]).cells) := Lib.hid (fun j v h => (hcell j (by have h1 := (List.getElem?_eq_some_iff.1 h).1; rw [ClV.cells_len] at h1; exact h1)).trans h)
        have HMA := Lib.hid (List.getElem_mem hlt)
        have hA2 := hA
        subst hA2
        clear hcell
        generalize cs[k] = a at *
        dsimp only [ClV.cells] at HLX
        go_upto_region 6 with (first | refine wpList_store_mid rfl 53 (.tmp 8) (.tmp 31) rfl wr.heap.size 0 _ rfl rfl (call_there wr) (by kernel_rfl) (call_one a) ?_ | refine wpList_load_mid rfl 53 (.tmp 30) rfl eb (off + k * 20) rfl _ _ HLX.out Tryz.underlying53 rfl (by kernel_rfl) ?_)
        have hset := call_set wr a
        generalize hwx : (wr.alloc (.cells #[.int .i64 0, .int .i64 0, .int .i64 0, .int .i64 0, .int .i64 0, .slice none 0 0, .slice none 0 0, .int .i64 0, .int .i64 0, .int .i64 0, .int .i64 0, .int .i64 0, .int .i64 0, .int .i64 0, .int .i64 0, .int .i64 0, .int .i64 0, .int .i64 0, .int .i64 0, .slice none 0 0] 53 (0, 0))).setCells wr.heap.size 0 [.int .i64 a.cl, .int .i64 a.v.c.ki, .int .i64 a.v.c.se, .int .i64 a.v.c.sq, .int .i64 a.v.c.at_, .slice a.v.As a.v.ns a.v.cs, .slice a.v.Av a.v.nv a.v.cv, .int .i64 a.tr, .int .i64 a.be, .int .i64 a.en, .int .i64 a.ix, .int .i64 a.r.er, .int .i64 a.r.ss, .int .i64 a.r.gn, .int .i64 a.r.ad, .int .i64 a.r.sa, .int .i64 a.r.ot, .int .i64 a.r.cy, .int .i64 a.r.fu, .slice a.fA a.fn a.fc] = wx at *
        obtain ⟨hbx, hzx, hra⟩ := hset
        have HBX : Hid (Below w.heap.size w wx) := Lib.hid (HWR.out.trans (hbx.mono hzr))
        have HRA : Hid (∀ W, Below wx.heap.size wx W → W.rangeAt wr.heap.size 0 [.int .i64 a.cl, .int .i64 a.v.c.ki, .int .i64 a.v.c.se, .int .i64 a.v.c.sq, .int .i64 a.v.c.at_, .slice a.v.As a.v.ns a.v.cs, .slice a.v.Av a.v.nv a.v.cv, .int .i64 a.tr, .int .i64 a.be, .int .i64 a.en, .int .i64 a.ix, .int .i64 a.r.er, .int .i64 a.r.ss, .int .i64 a.r.gn, .int .i64 a.r.ad, .int .i64 a.r.sa, .int .i64 a.r.ot, .int .i64 a.r.cy, .int .i64 a.r.fu, .slice a.fA a.fn a.fc]) := Lib.hid (fun W hW j v h => (hW.cell (p := ⟨wr.heap.size, 0 + j, none⟩) hzx).trans (hra j v h))
        have fa9 : wx.cell? ⟨wr.heap.size, 9, none⟩ = some (.int .i64 a.en) := hra 9 _ rfl
        have HRX := Lib.hid hra
        clear hwx hbx hra HLX
        by_cases hae : a.en = 0
        · rw [hae] at fa9
          go_wp2_with fail
          go_roundw
          case rel => exact ⟨k + 1, by omega, by go_num, HBX.out⟩
          case measure => simp [intOf]; omega
        have haeb : (a.en == 0) = false := by simpa using hae
        have HAE := Lib.hid hae
        have hzwx := HBX.out.size
        clear hae
        go_upto_region 7 with fail
        clear fa9
        go_wp2_with (first | refine wpList_load_mid rfl 53 (.tmp 8) rfl wr.heap.size 0 rfl _ _ HRX.out Tryz.underlying53 rfl (by kernel_rfl) ?_)
        refine (HEXP.out a HMA.out HAE.out wx HBX.out).mono ?_
        rintro e w3 ⟨rfl, hb3⟩
        have HB3 : Hid (Below wx.heap.size wx w3) := Lib.hid hb3
        clear hb3
        go_wp2_with fail
        obtain ⟨wB, rfl⟩ : ∃ wB, wB = wr := ⟨_, rfl⟩
        go_loopw [42] (fun i wr => ∃ k2 : Nat, k2 ≤ cs.length ∧ i = .int .i64 k2 ∧ Below wx.heap.size wx wr) (fun i _ => cs.length - (intOf i).toNat)
        case atStart => exact ⟨0, by omega, rfl, HB3.out⟩
        case round =>
          obtain ⟨k2, hk2, rfl, hwr2⟩ := hrel
          have HWR2 := Lib.hid hwr2
          have hzr2 := hwr2.size
          have hbw2 : Below w.heap.size w wr := HBX.out.trans (hwr2.mono hzwx)
          have HBW2 := Lib.hid hbw2
          have hzw2 := hbw2.size
          clear hwr2 hbw2
          by_cases hlt2 : k2 < cs.length
          · have hk21 : (k2 : Int) < cs.length := by omega
            obtain ⟨yb, yoff, hYA, hyb, hycell⟩ := Rd.elem ClV.cells_len (HR3.out.below HBW2.out HB0.out).1 (k := k2) hlt2 hlt2
            cases hYA
            have HLY : Hid (wr.rangeAt eb (off + k2 * 20) (cs[k2]).cells) := Lib.hid (fun j v h => (hycell j (by have h1 := (List.getElem?_eq_some_iff.1 h).1; rw [ClV.cells_len] at h1; exact h1)).trans h)
            have HMB := Lib.hid (List.getElem_mem hlt2)
            clear hycell
            generalize cs[k2] = b at *
            dsimp only [ClV.cells] at HLY
            go_upto_region 12 with (first | refine wpList_store_mid rfl 53 (.tmp 10) (.tmp 45) rfl wr.heap.size 0 _ rfl rfl (call_there wr) (by kernel_rfl) (call_one b) ?_ | refine wpList_load_mid rfl 53 (.tmp 44) rfl eb (off + k2 * 20) rfl _ _ HLY.out Tryz.underlying53 rfl (by kernel_rfl) ?_)
            have hset := call_set wr b
            generalize hwx : (wr.alloc (.cells #[.int .i64 0, .int .i64 0, .int .i64 0, .int .i64 0, .int .i64 0, .slice none 0 0, .slice none 0 0, .int .i64 0, .int .i64 0, .int .i64 0, .int .i64 0, .int .i64 0, .int .i64 0, .int .i64 0, .int .i64 0, .int .i64 0, .int .i64 0, .int .i64 0, .int .i64 0, .slice none 0 0] 53 (0, 0))).setCells wr.heap.size 0 [.int .i64 b.cl, .int .i64 b.v.c.ki, .int .i64 b.v.c.se, .int .i64 b.v.c.sq, .int .i64 b.v.c.at_, .slice b.v.As b.v.ns b.v.cs, .slice b.v.Av b.v.nv b.v.cv, .int .i64 b.tr, .int .i64 b.be, .int .i64 b.en, .int .i64 b.ix, .int .i64 b.r.er, .int .i64 b.r.ss, .int .i64 b.r.gn, .int .i64 b.r.ad, .int .i64 b.r.sa, .int .i64 b.r.ot, .int .i64 b.r.cy, .int .i64 b.r.fu, .slice b.fA b.fn b.fc] = wy at *
            obtain ⟨hby, hzy, hrb⟩ := hset
            have HBY : Hid (Below wx.heap.size wx wy) := Lib.hid (HWR2.out.trans (hby.mono hzr2))
            have HRB : Hid (∀ W, Below wy.heap.size wy W → W.rangeAt wr.heap.size 0 [.int .i64 b.cl, .int .i64 b.v.c.ki, .int .i64 b.v.c.se, .int .i64 b.v.c.sq, .int .i64 b.v.c.at_, .slice b.v.As b.v.ns b.v.cs, .slice b.v.Av b.v.nv b.v.cv, .int .i64 b.tr, .int .i64 b.be, .int .i64 b.en, .int .i64 b.ix, .int .i64 b.r.er, .int .i64 b.r.ss, .int .i64 b.r.gn, .int .i64 b.r.ad, .int .i64 b.r.sa, .int .i64 b.r.ot, .int .i64 b.r.cy, .int .i64 b.r.fu, .slice b.fA b.fn b.fc]) := Lib.hid (fun W hW j v h => (hW.cell (p := ⟨wr.heap.size, 0 + j, none⟩) hzy).trans (hrb j v h))
            have hra := HRA.out wy HBY.out
            have fa9 : wy.cell? ⟨wB.heap.size, 9, none⟩ = some (.int .i64 a.en) := hra 9 _ rfl
            have fb8 : wy.cell? ⟨wr.heap.size, 8, none⟩ = some (.int .i64 b.be) := hrb 8 _ rfl
            have fb9 : wy.cell? ⟨wr.heap.size, 9, none⟩ = some (.int .i64 b.en) := hrb 9 _ rfl
            clear hwx hby hra hrb HLY
            by_cases hbe : b.en = 0
            · rw [hbe] at fb9
              go_wp2_with fail
              go_roundw
              case rel => exact ⟨k2 + 1, by omega, by go_num, HBY.out⟩
              case measure => simp [intOf]; omega
            have hbeb : (b.en == 0) = false := by simpa using hbe
            by_cases hge : b.be ≤ a.en
            · go_wp2_with fail
              go_roundw
              case rel => exact ⟨k2 + 1, by omega, by go_num, HBY.out⟩
              case measure => simp [intOf]; omega
            have hgeb : decide (b.be ≤ a.en) = false := decide_eq_false hge
            have hord := HORD.out a HMA.out b HMB.out HAE.out hbe (by omega)
            have hfa := HBND.out a HMA.out HAE.out
            have hfb := HBND.out b HMB.out hbe
            have HFA := Lib.hid (fun W hW => HFST.out a HMA.out W hW)
            have HFB := Lib.hid (fun W hW => HFST.out b HMB.out W hW)
            have HC : Hid (∀ W, Below wy.heap.size wy W → Below w.heap.size w W ∧ W.rangeAt wB.heap.size 0 [.int .i64 a.cl, .int .i64 a.v.c.ki, .int .i64 a.v.c.se, .int .i64 a.v.c.sq, .int .i64 a.v.c.at_, .slice a.v.As a.v.ns a.v.cs, .slice a.v.Av a.v.nv a.v.cv, .int .i64 a.tr, .int .i64 a.be, .int .i64 a.en, .int .i64 a.ix, .int .i64 a.r.er, .int .i64 a.r.ss, .int .i64 a.r.gn, .int .i64 a.r.ad, .int .i64 a.r.sa, .int .i64 a.r.ot, .int .i64 a.r.cy, .int .i64 a.r.fu, .slice a.fA a.fn a.fc] ∧ W.rangeAt wr.heap.size 0 [.int .i64 b.cl, .int .i64 b.v.c.ki, .int .i64 b.v.c.se, .int .i64 b.v.c.sq, .int .i64 b.v.c.at_, .slice b.v.As b.v.ns b.v.cs, .slice b.v.Av b.v.nv b.v.cv, .int .i64 b.tr, .int .i64 b.be, .int .i64 b.en, .int .i64 b.ix, .int .i64 b.r.er, .int .i64 b.r.ss, .int .i64 b.r.gn, .int .i64 b.r.ad, .int .i64 b.r.sa, .int .i64 b.r.ot, .int .i64 b.r.cy, .int .i64 b.r.fu, .slice b.fA b.fn b.fc]) := Lib.hid (fun W hW => by
              have h := HBY.out.trans (hW.mono HBY.out.size)
              exact ⟨HBX.out.trans (h.mono hzwx), HRA.out W h, HRB.out W hW⟩)
            generalize firstP (es.map EnV.en) a.pl = fa at *
            generalize firstP (es.map EnV.en) b.pl = fb at *
            have HWA : Hid (IntKind.i64.wrap (2 * fa) = 2 * fa) := Lib.hid ((IntWalk.i64_left _).trans (IntWalk.wrap64_in _ (by omega)))
            have HWB : Hid (IntKind.i64.wrap (2 * fb) = 2 * fb) := Lib.hid ((IntWalk.i64_left _).trans (IntWalk.wrap64_in _ (by omega)))
            clear hbe hge
            go_upto_region 13 with fail
            clear fa9 fb8 fb9
            refine wp_region_sched [(0, true), (1, true), (4, true), (5, true), (2, false), (3, true), (6, false), (7, true), (8, true), (9, true)] (fun W => Below wy.heap.size wy W) (by kernel_rfl) (by kernel_rfl) rfl (by kernel_rfl) ((Below.refl _ _).drew) ?_
            repeat (first | (apply sched_load rfl (by first | rfl | (go_simp; done)) 53 (.tmp 8) rfl wB.heap.size 0 rfl _ _ (fun W hW => (HC.out W hW).2.1) Tryz.underlying53 rfl (by kernel_rfl); (focus (intro K hK; go_simp; refine hK _ ?_; clear hK K))) | (apply sched_load rfl (by first | rfl | (go_simp; done)) 53 (.tmp 10) rfl wr.heap.size 0 rfl _ _ (fun W hW => (HC.out W hW).2.2) Tryz.underlying53 rfl (by kernel_rfl); (focus (intro K hK; go_simp; refine hK _ ?_; clear hK K))) | (apply sched_take rfl; (focus (first | rfl | (go_simp; done))); (focus (intro W hW; go_simp; rfl)); (focus (intro K hK; go_simp; refine hK _ ?_; clear hK K))) | (apply sched_skip rfl; (focus (first | rfl | (go_simp; done))); (focus (intro K hK; go_simp; refine hK _ ?_; clear hK K))))
            apply sched_op rfl
            intro K hK
            go_simp
            go_wp2_with (fail)
            refine (HFA.out _ (HC.out _ ((Below.refl _ _).drew)).1).mono ?_
            rintro e w5 ⟨rfl, hb5⟩
            have HB5 : Hid (Below wy.heap.size wy w5) := Lib.hid ((Below.refl _ _).drew.trans (hb5.mono (by simp)))
            clear hb5
            go_wp2_with fail
            refine ⟨by exact HB5.out, ?_⟩
            repeat (first | (apply sched_take rfl; (focus (first | rfl | (go_simp; done))); (focus (intro W hW; have q1 := HWA.out; go_simp; rfl)); (focus (intro K hK; go_simp; refine hK _ ?_; clear hK K))) | (apply sched_skip rfl; (focus (first | rfl | (go_simp; done))); (focus (intro K hK; go_simp; refine hK _ ?_; clear hK K))))
            apply sched_op rfl
            intro K hK
            go_simp
            go_wp2_with (fail)
            refine (HFB.out _ (HC.out _ HB5.out).1).mono ?_
            rintro e w6 ⟨rfl, hb6⟩
            have HB6 : Hid (Below wy.heap.size wy w6) := Lib.hid (HB5.out.trans (hb6.mono HB5.out.size))
            clear hb6
            go_wp2_with fail
            refine ⟨by exact HB6.out, ?_⟩
            repeat (first | (apply sched_take rfl; (focus (first | rfl | (go_simp; done))); (focus (intro W hW; have q1 := HWA.out; have q2 := HWB.out; go_simp; rfl)); (focus (intro K hK; go_simp; refine hK _ ?_; clear hK K))) | (apply sched_skip rfl; (focus (first | rfl | (go_simp; done))); (focus (intro K hK; go_simp; refine hK _ ?_; clear hK K))))
            refine sched_nil ?_
            have h6 := HC.out _ HB6.out
            have ga1 : w6.cell? ⟨wB.heap.size, 1, none⟩ = some (.int .i64 a.v.c.ki) := h6.2.1 1 _ rfl
            have gb1 : w6.cell? ⟨wr.heap.size, 1, none⟩ = some (.int .i64 b.v.c.ki) := h6.2.2 1 _ rfl
            have HFIN : Hid (Below wx.heap.size wx w6) := Lib.hid (HBY.out.trans (HB6.out.mono HBY.out.size))
            clear h6
            by_cases ka : a.v.c.ki = 0
            · rw [ka] at ga1
              by_cases kb : b.v.c.ki = 0
              · rw [kb] at gb1
                rw [if_pos ka, if_pos kb] at hord
                have o1 : decide (2 * fb + 1 < 2 * fa + 1) = false := decide_eq_false (by omega)
                by_cases o2 : 2 * fa + 1 = 2 * fb + 1
                · obtain rfl : fa = fb := by omega
                  clear o1 o2 hord
                  have o1 : decide (2 * fa + 1 < 2 * fa + 1) = false := decide_eq_false (by omega)
                  go_wp2_with fail
                  go_roundw
                  case rel => exact ⟨k2 + 1, by omega, by go_num, HFIN.out⟩
                  case measure => simp [intOf]; omega
                · have o3 : ¬ fa = fb := by omega
                  have o4 : decide (fb < fa) = false := decide_eq_false (by omega)
                  have o5 : (fa == fb) = false := beq_eq_false_iff_ne.2 o3
                  have o2b : (2 * fa + 1 == 2 * fb + 1) = false := beq_eq_false_iff_ne.2 o2
                  go_wp2_with fail
                  go_roundw
                  case rel => exact ⟨k2 + 1, by omega, by go_num, HFIN.out⟩
                  case measure => simp [intOf]; omega
              · have kbb : (b.v.c.ki == 0) = false := by simpa using kb
                rw [if_pos ka, if_neg kb] at hord
                have o1 : decide (2 * fb < 2 * fa + 1) = false := decide_eq_false (by omega)
                have o2b : (2 * fa + 1 == 2 * fb) = false := beq_eq_false_iff_ne.2 (by omega)
                go_wp2_with fail
                go_roundw
                case rel => exact ⟨k2 + 1, by omega, by go_num, HFIN.out⟩
                case measure => simp [intOf]; omega
            · have kab : (a.v.c.ki == 0) = false := by simpa using ka
              have kan : (a.v.c.ki != 0) = true := by simpa using ka
              by_cases kb : b.v.c.ki = 0
              · rw [kb] at gb1
                rw [if_neg ka, if_pos kb] at hord
                have o1 : decide (2 * fb + 1 < 2 * fa) = false := decide_eq_false (by omega)
                have o2b : (2 * fa == 2 * fb + 1) = false := beq_eq_false_iff_ne.2 (by omega)
                go_wp2_with fail
                go_roundw
                case rel => exact ⟨k2 + 1, by omega, by go_num, HFIN.out⟩
                case measure => simp [intOf]; omega
              · have kbb : (b.v.c.ki == 0) = false := by simpa using kb
                rw [if_neg ka, if_neg kb] at hord
                have o1 : decide (2 * fb < 2 * fa) = false := decide_eq_false (by omega)
                have o2b : (2 * fa == 2 * fb) = false := beq_eq_false_iff_ne.2 (by
                  have := hord.2
                  omega)
                go_wp2_with fail
                go_roundw
                case rel => exact ⟨k2 + 1, by omega, by go_num, HFIN.out⟩
                case measure => simp [intOf]; omega
          · have hk21 : ¬ (k2 : Int) < cs.length := by omega
            go_wp2_with fail
            go_roundw
            case rel => exact ⟨k + 1, by omega, by go_num, HBW2.out⟩
            case measure => simp [intOf]; omega
      · have hk1 : ¬ (k : Int) < cs.length := by omega
        go_wp2_with fail
        refine (HAW.out _ HWR.out).mono ?_
        rintro e w3 ⟨rfl, hb3⟩
        have HB3 : Hid (Below w.heap.size w w3) := Lib.hid (HWR.out.trans (hb3.mono hzr))
        clear hb3
        go_wp2_with fail
        go_ret
        exact ⟨rfl, HB3.out⟩
end Go.Proofs.YtfjpenbahoeklaaGreatDoor
namespace Go.Proofs.YtfjpenbahoeklaaGreatDoor
open Go.ChangeShapes Go.WideShapes Go.ChangeAt Go.RowKit Go.Deep

def CmV.cells (v : CmV) : List Value := [.int .i64 v.c.ki, .int .i64 v.c.se, .int .i64 v.c.sq, .int .i64 v.c.at_, .slice v.As v.ns v.cs, .slice v.Av v.nv v.cv]
section
variable {H : Type} {enc : TypeId × Value → H} {w : World} {base : Nat} {spare : Nat → Bool} {held : Bool}
theorem wfI_lit {z : Int} (h : (Lit.int .i64 z).wf = true) : wfI z := by
  simp [Lit.wf, IntKind.min, IntKind.max, IntKind.signed, IntKind.bits] at h
  exact wfI_of (by omega) (by omega)
theorem slice_of_spans {n : Nat} {c : Value} {y : DataW H × List MemPlace} (g : DataW.trod enc Tryz.prog w base spare held n 48 [c] = some y) : ∃ A len cap l, c = .slice A len cap ∧ RdS w w.heap.size A len l ∧ ((l = [] ∧ y.1 = .nil) ∨ ∃ sp, y.1 = .slice (l.map Sp.datum) sp) := by
  have hc : ∀ v : Value, v.cells.toList = [v] → v = c → ∃ A len cap l, c = .slice A len cap ∧ RdS w w.heap.size A len l ∧ ((l = [] ∧ y.1 = .nil) ∨ ∃ sp, y.1 = .slice (l.map Sp.datum) sp) := fun v hv hvc => by
    subst hvc
    obtain ⟨A, len, cap, l, h1, h2, _, h3⟩ := open_spans (d := y.1) (p := y.2) hv ⟨n, by rw [hv]; exact g⟩
    exact ⟨A, len, cap, l, h1, h2, h3⟩
  rcases open_slice Tryz.underlying48 g with ⟨hcs, _⟩ | ⟨a, len, cap, m, n, D, Pl, hcs, _⟩
  · exact hc (.slice none 0 0) rfl (by simpa using hcs.symm)
  · exact hc (.slice (some a) len cap) rfl (by simpa using hcs.symm)
set_option maxRecDepth 100000 in
theorem open_counts_cells {fuel : Nat} {cs : List Value} {x : DataW H × List MemPlace} (hf : DataW.trod enc Tryz.prog w base spare held fuel 30 cs = some x) :
    ∃ a b c d e : Int, cs = [.int .i64 a, .int .i64 b, .int .i64 c, .int .i64 d, .int .i64 e] := by
  obtain ⟨xs, n, _, hx, hlen, hxl, hg⟩ := DataW.trod_struct Tryz.underlying30 hf
  have hC : Tryz.prog.cellsOf 30 = 5 := by kernel_rfl
  have k1 : Tryz.prog.cellsOf 3 = 1 := by kernel_rfl
  match cs, hlen.trans hC with
  | [c0, c1, c2, c3, c4], _ =>
    match xs, hxl with
    | [y0, y1, y2, y3, y4], _ =>
      have g0 : DataW.trod enc Tryz.prog w base spare held n 3 [c0] = some y0 := by simpa [k1] using hg 0 _ rfl
      obtain ⟨a0, e0, _, f0⟩ := DataW.trod_int Tryz.underlying3 g0
      simp only [List.cons.injEq, and_true] at e0
      subst e0
      have g1 : DataW.trod enc Tryz.prog w base spare held n 3 [c1] = some y1 := by simpa [k1] using hg 1 _ rfl
      obtain ⟨a1, e1, _, f1⟩ := DataW.trod_int Tryz.underlying3 g1
      simp only [List.cons.injEq, and_true] at e1
      subst e1
      have g2 : DataW.trod enc Tryz.prog w base spare held n 3 [c2] = some y2 := by simpa [k1] using hg 2 _ rfl
      obtain ⟨a2, e2, _, f2⟩ := DataW.trod_int Tryz.underlying3 g2
      simp only [List.cons.injEq, and_true] at e2
      subst e2
      have g3 : DataW.trod enc Tryz.prog w base spare held n 3 [c3] = some y3 := by simpa [k1] using hg 3 _ rfl
      obtain ⟨a3, e3, _, f3⟩ := DataW.trod_int Tryz.underlying3 g3
      simp only [List.cons.injEq, and_true] at e3
      subst e3
      have g4 : DataW.trod enc Tryz.prog w base spare held n 3 [c4] = some y4 := by simpa [k1] using hg 4 _ rfl
      obtain ⟨a4, e4, _, f4⟩ := DataW.trod_int Tryz.underlying3 g4
      simp only [List.cons.injEq, and_true] at e4
      subst e4
      exact ⟨a0, a1, a2, a3, a4, rfl⟩
set_option maxRecDepth 100000 in
theorem open_reply_cells {fuel : Nat} {cs : List Value} {x : DataW H × List MemPlace} (hf : DataW.trod enc Tryz.prog w base spare held fuel 32 cs = some x) :
    ∃ r : Rp, cs = r.cells := by
  obtain ⟨xs, n, _, hx, hlen, hxl, hg⟩ := DataW.trod_struct Tryz.underlying32 hf
  have hC : Tryz.prog.cellsOf 32 = 8 := by kernel_rfl
  have k1 : Tryz.prog.cellsOf 3 = 1 := by kernel_rfl
  have k4 : Tryz.prog.cellsOf 30 = 5 := by kernel_rfl
  have k5 : Tryz.prog.cellsOf 28 = 1 := by kernel_rfl
  match cs, hlen.trans hC with
  | [c0, c1, c2, c3, c4, c5, c6, c7], _ =>
    match xs, hxl with
    | [y0, y1, y2, y3], _ =>
      have g0 : DataW.trod enc Tryz.prog w base spare held n 28 [c0] = some y0 := by simpa [k1, k4, k5] using hg 0 _ rfl
      obtain ⟨a0, e0, _, f0⟩ := DataW.trod_int Tryz.underlying28 g0
      simp only [List.cons.injEq, and_true] at e0
      subst e0
      have g1 : DataW.trod enc Tryz.prog w base spare held n 3 [c1] = some y1 := by simpa [k1, k4, k5] using hg 1 _ rfl
      obtain ⟨a1, e1, _, f1⟩ := DataW.trod_int Tryz.underlying3 g1
      simp only [List.cons.injEq, and_true] at e1
      subst e1
      have g2 : DataW.trod enc Tryz.prog w base spare held n 3 [c2] = some y2 := by simpa [k1, k4, k5] using hg 2 _ rfl
      obtain ⟨a2, e2, _, f2⟩ := DataW.trod_int Tryz.underlying3 g2
      simp only [List.cons.injEq, and_true] at e2
      subst e2
      have g3 : DataW.trod enc Tryz.prog w base spare held n 30 [c3, c4, c5, c6, c7] = some y3 := by simpa [k1, k4, k5] using hg 3 _ rfl
      obtain ⟨u0, u1, u2, u3, u4, e3⟩ := open_counts_cells g3
      simp only [List.cons.injEq, and_true] at e3
      obtain ⟨rfl, rfl, rfl, rfl, rfl⟩ := e3
      exact ⟨⟨a0, a1, a2, u0, u1, u2, u3, u4⟩, rfl⟩
set_option maxRecDepth 100000 in
theorem open_branch_cells {fuel : Nat} {cs : List Value} {x : DataW H × List MemPlace} (hf : DataW.trod enc Tryz.prog w base spare held fuel 115 cs = some x) :
    ∃ b : BrZ, cs = b.cells ∧ True := by
  obtain ⟨xs, n, _, hx, hlen, hxl, hg⟩ := DataW.trod_struct Tryz.underlying115 hf
  have hC : Tryz.prog.cellsOf 115 = 8 := by kernel_rfl
  have k1 : Tryz.prog.cellsOf 3 = 1 := by kernel_rfl
  have k9 : Tryz.prog.cellsOf 93 = 6 := by kernel_rfl
  have k10 : Tryz.prog.cellsOf 4 = 1 := by kernel_rfl
  match cs, hlen.trans hC with
  | [c0, c1, c2, c3, c4, c5, c6, c7], _ =>
    match xs, hxl with
    | [y0, y1, y2], _ =>
      have g0 : DataW.trod enc Tryz.prog w base spare held n 3 [c0] = some y0 := by simpa [k1, k9, k10] using hg 0 _ rfl
      obtain ⟨a0, e0, _, f0⟩ := DataW.trod_int Tryz.underlying3 g0
      simp only [List.cons.injEq, and_true] at e0
      subst e0
      have g1 : DataW.trod enc Tryz.prog w base spare held n 4 [c1] = some y1 := by simpa [k1, k9, k10] using hg 1 _ rfl
      obtain ⟨a1, e1, _⟩ := DataW.trod_bool Tryz.underlying4 g1
      simp only [List.cons.injEq, and_true] at e1
      subst e1
      have g2 : DataW.trod enc Tryz.prog w base spare held n 93 [c2, c3, c4, c5, c6, c7] = some y2 := by simpa [k1, k9, k10] using hg 2 _ rfl
      obtain ⟨s2, e2, _, _⟩ := open_span_cells g2
      simp only [Sp.cells, List.cons.injEq, and_true] at e2
      obtain ⟨rfl, rfl, rfl, rfl, rfl, rfl⟩ := e2
      exact ⟨⟨a0, a1, s2⟩, rfl, trivial⟩
theorem slice_of_branches {n : Nat} {c : Value} {y : DataW H × List MemPlace} (g : DataW.trod enc Tryz.prog w base spare held n 51 [c] = some y) : ∃ A len cap l, c = .slice A len cap ∧ RdBrZ w w.heap.size A len l := by
  have hc : ∀ v : Value, v.cells.toList = [v] → v = c → ∃ A len cap l, c = .slice A len cap ∧ RdBrZ w w.heap.size A len l := fun v hv hvc => by
    subst hvc
    obtain ⟨A, len, cap, l, h1, h2, _, _⟩ := open_rows (enc := enc) (base := base) (spare := spare) (held := held) (d := y.1) (p := y.2) (f := BrZ.cells) (q := fun _ : BrZ => True) Tryz.underlying51 (by kernel_rfl) (by omega) BrZ.cells_len open_branch_cells hv ⟨n, by rw [hv]; exact g⟩
    exact ⟨A, len, cap, l, h1, h2⟩
  rcases open_slice Tryz.underlying51 g with ⟨hcs, _⟩ | ⟨a, len, cap, m, n, D, Pl, hcs, _⟩
  · exact hc (.slice none 0 0) rfl (by simpa using hcs.symm)
  · exact hc (.slice (some a) len cap) rfl (by simpa using hcs.symm)
set_option maxRecDepth 100000 in
theorem open_cmd_cells {fuel : Nat} {cs : List Value} {x : DataW H × List MemPlace} (hf : DataW.trod enc Tryz.prog w base spare held fuel 50 cs = some x) :
    ∃ v : CmV, cs = v.cells ∧ RdCm w w.heap.size v := by
  obtain ⟨xs, n, _, hx, hlen, hxl, hg⟩ := DataW.trod_struct Tryz.underlying50 hf
  have hC : Tryz.prog.cellsOf 50 = 6 := by kernel_rfl
  have k1 : Tryz.prog.cellsOf 3 = 1 := by kernel_rfl
  have k2 : Tryz.prog.cellsOf 22 = 1 := by kernel_rfl
  have k3 : Tryz.prog.cellsOf 48 = 1 := by kernel_rfl
  match cs, hlen.trans hC with
  | [c0, c1, c2, c3, c4, c5], _ =>
    match xs, hxl with
    | [y0, y1, y2, y3, y4, y5], _ =>
      have g0 : DataW.trod enc Tryz.prog w base spare held n 3 [c0] = some y0 := by simpa [k1, k2, k3] using hg 0 _ rfl
      obtain ⟨a0, e0, _, f0⟩ := DataW.trod_int Tryz.underlying3 g0
      simp only [List.cons.injEq, and_true] at e0
      subst e0
      have g1 : DataW.trod enc Tryz.prog w base spare held n 3 [c1] = some y1 := by simpa [k1, k2, k3] using hg 1 _ rfl
      obtain ⟨a1, e1, _, f1⟩ := DataW.trod_int Tryz.underlying3 g1
      simp only [List.cons.injEq, and_true] at e1
      subst e1
      have g2 : DataW.trod enc Tryz.prog w base spare held n 3 [c2] = some y2 := by simpa [k1, k2, k3] using hg 2 _ rfl
      obtain ⟨a2, e2, _, f2⟩ := DataW.trod_int Tryz.underlying3 g2
      simp only [List.cons.injEq, and_true] at e2
      subst e2
      have g3 : DataW.trod enc Tryz.prog w base spare held n 3 [c3] = some y3 := by simpa [k1, k2, k3] using hg 3 _ rfl
      obtain ⟨a3, e3, _, f3⟩ := DataW.trod_int Tryz.underlying3 g3
      simp only [List.cons.injEq, and_true] at e3
      subst e3
      have g4 : DataW.trod enc Tryz.prog w base spare held n 48 [c4] = some y4 := by simpa [k1, k2, k3] using hg 4 _ rfl
      obtain ⟨A4, n4, p4, l4, rfl, r4, q4⟩ := slice_of_spans g4
      have g5 : DataW.trod enc Tryz.prog w base spare held n 22 [c5] = some y5 := by simpa [k1, k2, k3] using hg 5 _ rfl
      obtain ⟨A5, n5, p5, l5, rfl, r5, q5⟩ := slice_of_ints g5
      exact ⟨⟨⟨a0, a1, a2, a3, l4, l5⟩, A4, n4, p4, A5, n5, p5⟩, rfl, ⟨r4, r5⟩⟩
set_option maxRecDepth 100000 in
theorem open_call_cells {fuel : Nat} {cs : List Value} {x : DataW H × List MemPlace} (hf : DataW.trod enc Tryz.prog w base spare held fuel 53 cs = some x) :
    ∃ c : ClV, cs = c.cells ∧ RdCl w w.heap.size c ∧ wfI c.ix ∧ wfI c.tr := by
  obtain ⟨xs, n, _, hx, hlen, hxl, hg⟩ := DataW.trod_struct Tryz.underlying53 hf
  have hC : Tryz.prog.cellsOf 53 = 20 := by kernel_rfl
  have k1 : Tryz.prog.cellsOf 3 = 1 := by kernel_rfl
  have k6 : Tryz.prog.cellsOf 50 = 6 := by kernel_rfl
  have k7 : Tryz.prog.cellsOf 32 = 8 := by kernel_rfl
  have k8 : Tryz.prog.cellsOf 51 = 1 := by kernel_rfl
  match cs, hlen.trans hC with
  | [c0, c1, c2, c3, c4, c5, c6, c7, c8, c9, c10, c11, c12, c13, c14, c15, c16, c17, c18, c19], _ =>
    match xs, hxl with
    | [y0, y1, y2, y3, y4, y5, y6, y7], _ =>
      have g0 : DataW.trod enc Tryz.prog w base spare held n 3 [c0] = some y0 := by simpa [k1, k6, k7, k8] using hg 0 _ rfl
      obtain ⟨a0, e0, _, f0⟩ := DataW.trod_int Tryz.underlying3 g0
      simp only [List.cons.injEq, and_true] at e0
      subst e0
      have g1 : DataW.trod enc Tryz.prog w base spare held n 50 [c1, c2, c3, c4, c5, c6] = some y1 := by simpa [k1, k6, k7, k8] using hg 1 _ rfl
      obtain ⟨v1, e1, r1⟩ := open_cmd_cells g1
      simp only [CmV.cells, List.cons.injEq, and_true] at e1
      obtain ⟨rfl, rfl, rfl, rfl, rfl, rfl⟩ := e1
      have g2 : DataW.trod enc Tryz.prog w base spare held n 3 [c7] = some y2 := by simpa [k1, k6, k7, k8] using hg 2 _ rfl
      obtain ⟨a2, e2, _, f2⟩ := DataW.trod_int Tryz.underlying3 g2
      simp only [List.cons.injEq, and_true] at e2
      subst e2
      have g3 : DataW.trod enc Tryz.prog w base spare held n 3 [c8] = some y3 := by simpa [k1, k6, k7, k8] using hg 3 _ rfl
      obtain ⟨a3, e3, _, f3⟩ := DataW.trod_int Tryz.underlying3 g3
      simp only [List.cons.injEq, and_true] at e3
      subst e3
      have g4 : DataW.trod enc Tryz.prog w base spare held n 3 [c9] = some y4 := by simpa [k1, k6, k7, k8] using hg 4 _ rfl
      obtain ⟨a4, e4, _, f4⟩ := DataW.trod_int Tryz.underlying3 g4
      simp only [List.cons.injEq, and_true] at e4
      subst e4
      have g5 : DataW.trod enc Tryz.prog w base spare held n 3 [c10] = some y5 := by simpa [k1, k6, k7, k8] using hg 5 _ rfl
      obtain ⟨a5, e5, _, f5⟩ := DataW.trod_int Tryz.underlying3 g5
      simp only [List.cons.injEq, and_true] at e5
      subst e5
      have g6 : DataW.trod enc Tryz.prog w base spare held n 32 [c11, c12, c13, c14, c15, c16, c17, c18] = some y6 := by simpa [k1, k6, k7, k8] using hg 6 _ rfl
      obtain ⟨v6, e6⟩ := open_reply_cells g6
      simp only [Rp.cells, List.cons.injEq, and_true] at e6
      obtain ⟨rfl, rfl, rfl, rfl, rfl, rfl, rfl, rfl⟩ := e6
      have g7 : DataW.trod enc Tryz.prog w base spare held n 51 [c19] = some y7 := by simpa [k1, k6, k7, k8] using hg 7 _ rfl
      obtain ⟨A7, n7, p7, l7, rfl, r7⟩ := slice_of_branches g7
      exact ⟨⟨a0, v1, a2, a3, a4, a5, v6, A7, n7, p7, l7⟩, rfl, ⟨r1, r7⟩, wfI_lit f5, wfI_lit f2⟩
theorem open_calls {d : DataW H} {p : List MemPlace} {v : Value} (hv : v.cells.toList = [v]) (h : DataW.Trod enc Tryz.prog w base spare held 36 v d p) :
    ∃ (A : Option Addr) (len cap : Nat) (cs : List ClV), v = .slice A len cap ∧ RdCls w w.heap.size A len cs ∧ (∀ c ∈ cs, wfI c.ix ∧ wfI c.tr) ∧ len ≤ cap := by
  obtain ⟨A, len, cap, l, h1, h2, h3, h4⟩ := open_rows (f := ClV.cells) (q := fun c : ClV => RdCl w w.heap.size c ∧ wfI c.ix ∧ wfI c.tr) Tryz.underlying36 (by kernel_rfl) (by omega) ClV.cells_len open_call_cells hv h
  exact ⟨A, len, cap, l, h1, ⟨h2, fun c hc => (h3 c hc).1⟩, fun c hc => (h3 c hc).2, h4⟩
set_option maxRecDepth 100000 in
theorem open_call {r : Reach} {b0 : Nat} {v : Value} {d : DataW H} {p : List MemPlace} (hv : Value.okWide Tryz.prog w r b0 53 v) (h : DataW.Trod enc Tryz.prog w base spare held 53 v d p) :
    ∃ c : ClV, v = c.val ∧ RdCl w w.heap.size c ∧ wfI c.ix ∧ wfI c.tr := by
  obtain ⟨cs, rfl, hsz⟩ := okWide_struct Tryz.underlying53 hv
  obtain ⟨fuel, hf⟩ := h
  obtain ⟨c, hc, h2⟩ := open_call_cells hf
  refine ⟨c, ?_, h2⟩
  obtain ⟨l⟩ := cs
  simp only [Value.cells] at hc
  simp only [hc, ClV.cells, ClV.val]
end
end Go.Proofs.YtfjpenbahoeklaaGreatDoor
