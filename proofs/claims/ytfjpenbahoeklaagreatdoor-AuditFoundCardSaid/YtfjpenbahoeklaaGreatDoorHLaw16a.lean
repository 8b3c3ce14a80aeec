/-
  The walks of the audit laws' example: it answers true. Condition: the package variable errors.errorType lies as it is laid.
  The walk of the law AuditFronts: the Go text answers true. Conditions: what came in reads as lists; the package variable errors.errorType lies as it is laid.
-/
import Derived.Test.YtfjpenbahoeklaaGreatDoorHAudL
import Derived.Test.YtfjpenbahoeklaaGreatDoorHLook3
import Derived.Test.YtfjpenbahoeklaaGreatDoorHMachW
namespace Go.Proofs.YtfjpenbahoeklaaGreatDoor
open Go Go.RowKit

def ResOpen (w : World) (e : Ending) (w' : World) : Prop := ∃ (A : Option Addr) (x : EnV), e = .returned (.slice A 1 1) ∧ RdEn w' w'.heap.size A 1 [x] ∧ x.en = ⟨1, 1, [1]⟩ ∧ x.n = 1 ∧ Below w.heap.size w w'
set_option maxRecDepth 100000 in
theorem open16_any (w : World) : Calls Tryz.prog 28 #[] w (ResOpen w) := by
  go_enter Tryz.func28, Tryz.ntmps28
  go_wp2_with fail
  go_ret
  refine ⟨some ⟨w.heap.size + 1, 0, none⟩, ⟨1, 1, some ⟨w.heap.size, 0, none⟩, 1, 1, [1]⟩, rfl, ⟨?_, fun e he => ?_⟩, rfl, rfl, ((Below.refl _ _).alloc (Nat.le_refl _) _).alloc (by simp) _⟩
  · refine Rd.more (Rd.new (H := w.heap.size + 1) (by simp) rfl (by
      intro j hj
      simp only [List.flatMap_cons, List.flatMap_nil, List.append_nil, EnV.cells_len] at hj
      match j, hj with
      | 0, _ => rfl
      | 1, _ => rfl
      | 2, _ => rfl)) (by simp)
  · obtain rfl := List.mem_singleton.1 he
    exact Rd.alloc (Rd.new (H := w.heap.size) rfl rfl (by
      intro j hj
      simp only [List.map_cons, List.map_nil, List.length_cons, List.length_nil] at hj
      match j, hj with
      | 0, _ => rfl)) _ (by simp) (by simp)
def exV (s : Int) : ClV := ⟨0, ⟨⟨1, 0, 0, 0, [], []⟩, none, 0, 0, none, 0, 0⟩, 0, 2, 3, 1, ⟨0, s, 0, 0, 0, 0, 0, 0⟩, none, 0, 0, []⟩
theorem results_cell1 {P : Program} {fn : Func} {t : Tmp} {ty : TypeId} {tmps : Array Value} {w : World} {v : Value} {p : Addr} (h : fn.results = #[.cell t ty]) (hp : tmps.getD t undef = .pointer (some p)) (hv : (loadVar ty p).run P w = .ok v w) :
    (results fn tmps).run P w = .ok v w := by
  have hp' : tmps[t]?.getD undef = .pointer (some p) := by simpa using hp
  simp [results, h, hp', asAddr, hv]
theorem call_there (w : World) : (w.alloc (.cells #[.int .i64 0, .int .i64 0, .int .i64 0, .int .i64 0, .int .i64 0, .slice none 0 0, .slice none 0 0, .int .i64 0, .int .i64 0, .int .i64 0, .int .i64 0, .int .i64 0, .int .i64 0, .int .i64 0, .int .i64 0, .int .i64 0, .int .i64 0, .int .i64 0, .int .i64 0, .slice none 0 0] 53 (0, 0))).there w.heap.size 0 20 := fun j hj => by
  rw [Nat.zero_add]
  refine ⟨?_, blk_frozen (heap_at rfl) j⟩
  rw [blk_cell (heap_at rfl) j]
  simp only [Array.getElem?_eq_getElem (show j < (#[.int .i64 0, .int .i64 0, .int .i64 0, .int .i64 0, .int .i64 0, .slice none 0 0, .slice none 0 0, .int .i64 0, .int .i64 0, .int .i64 0, .int .i64 0, .int .i64 0, .int .i64 0, .int .i64 0, .int .i64 0, .int .i64 0, .int .i64 0, .int .i64 0, .int .i64 0, .slice none 0 0] : Array Value).size from hj), Option.isSome_some]
theorem call_set (w : World) (c : ClV) : Below w.heap.size w ((w.alloc (.cells #[.int .i64 0, .int .i64 0, .int .i64 0, .int .i64 0, .int .i64 0, .slice none 0 0, .slice none 0 0, .int .i64 0, .int .i64 0, .int .i64 0, .int .i64 0, .int .i64 0, .int .i64 0, .int .i64 0, .int .i64 0, .int .i64 0, .int .i64 0, .int .i64 0, .int .i64 0, .slice none 0 0] 53 (0, 0))).setCells w.heap.size 0 [.int .i64 c.cl, .int .i64 c.v.c.ki, .int .i64 c.v.c.se, .int .i64 c.v.c.sq, .int .i64 c.v.c.at_, .slice c.v.As c.v.ns c.v.cs, .slice c.v.Av c.v.nv c.v.cv, .int .i64 c.tr, .int .i64 c.be, .int .i64 c.en, .int .i64 c.ix, .int .i64 c.r.er, .int .i64 c.r.ss, .int .i64 c.r.gn, .int .i64 c.r.ad, .int .i64 c.r.sa, .int .i64 c.r.ot, .int .i64 c.r.cy, .int .i64 c.r.fu, .slice c.fA c.fn c.fc]) ∧ w.heap.size < ((w.alloc (.cells #[.int .i64 0, .int .i64 0, .int .i64 0, .int .i64 0, .int .i64 0, .slice none 0 0, .slice none 0 0, .int .i64 0, .int .i64 0, .int .i64 0, .int .i64 0, .int .i64 0, .int .i64 0, .int .i64 0, .int .i64 0, .int .i64 0, .int .i64 0, .int .i64 0, .int .i64 0, .slice none 0 0] 53 (0, 0))).setCells w.heap.size 0 [.int .i64 c.cl, .int .i64 c.v.c.ki, .int .i64 c.v.c.se, .int .i64 c.v.c.sq, .int .i64 c.v.c.at_, .slice c.v.As c.v.ns c.v.cs, .slice c.v.Av c.v.nv c.v.cv, .int .i64 c.tr, .int .i64 c.be, .int .i64 c.en, .int .i64 c.ix, .int .i64 c.r.er, .int .i64 c.r.ss, .int .i64 c.r.gn, .int .i64 c.r.ad, .int .i64 c.r.sa, .int .i64 c.r.ot, .int .i64 c.r.cy, .int .i64 c.r.fu, .slice c.fA c.fn c.fc]).heap.size ∧ ((w.alloc (.cells #[.int .i64 0, .int .i64 0, .int .i64 0, .int .i64 0, .int .i64 0, .slice none 0 0, .slice none 0 0, .int .i64 0, .int .i64 0, .int .i64 0, .int .i64 0, .int .i64 0, .int .i64 0, .int .i64 0, .int .i64 0, .int .i64 0, .int .i64 0, .int .i64 0, .int .i64 0, .slice none 0 0] 53 (0, 0))).setCells w.heap.size 0 [.int .i64 c.cl, .int .i64 c.v.c.ki, .int .i64 c.v.c.se, .int .i64 c.v.c.sq, .int .i64 c.v.c.at_, .slice c.v.As c.v.ns c.v.cs, .slice c.v.Av c.v.nv c.v.cv, .int .i64 c.tr, .int .i64 c.be, .int .i64 c.en, .int .i64 c.ix, .int .i64 c.r.er, .int .i64 c.r.ss, .int .i64 c.r.gn, .int .i64 c.r.ad, .int .i64 c.r.sa, .int .i64 c.r.ot, .int .i64 c.r.cy, .int .i64 c.r.fu, .slice c.fA c.fn c.fc]).rangeAt w.heap.size 0 [.int .i64 c.cl, .int .i64 c.v.c.ki, .int .i64 c.v.c.se, .int .i64 c.v.c.sq, .int .i64 c.v.c.at_, .slice c.v.As c.v.ns c.v.cs, .slice c.v.Av c.v.nv c.v.cv, .int .i64 c.tr, .int .i64 c.be, .int .i64 c.en, .int .i64 c.ix, .int .i64 c.r.er, .int .i64 c.r.ss, .int .i64 c.r.gn, .int .i64 c.r.ad, .int .i64 c.r.sa, .int .i64 c.r.ot, .int .i64 c.r.cy, .int .i64 c.r.fu, .slice c.fA c.fn c.fc] := by
  have hf : Fr (fun k => k = w.heap.size) (w.alloc (.cells #[.int .i64 0, .int .i64 0, .int .i64 0, .int .i64 0, .int .i64 0, .slice none 0 0, .slice none 0 0, .int .i64 0, .int .i64 0, .int .i64 0, .int .i64 0, .int .i64 0, .int .i64 0, .int .i64 0, .int .i64 0, .int .i64 0, .int .i64 0, .int .i64 0, .int .i64 0, .slice none 0 0] 53 (0, 0))) ((w.alloc (.cells #[.int .i64 0, .int .i64 0, .int .i64 0, .int .i64 0, .int .i64 0, .slice none 0 0, .slice none 0 0, .int .i64 0, .int .i64 0, .int .i64 0, .int .i64 0, .int .i64 0, .int .i64 0, .int .i64 0, .int .i64 0, .int .i64 0, .int .i64 0, .int .i64 0, .int .i64 0, .slice none 0 0] 53 (0, 0))).setCells w.heap.size 0 [.int .i64 c.cl, .int .i64 c.v.c.ki, .int .i64 c.v.c.se, .int .i64 c.v.c.sq, .int .i64 c.v.c.at_, .slice c.v.As c.v.ns c.v.cs, .slice c.v.Av c.v.nv c.v.cv, .int .i64 c.tr, .int .i64 c.be, .int .i64 c.en, .int .i64 c.ix, .int .i64 c.r.er, .int .i64 c.r.ss, .int .i64 c.r.gn, .int .i64 c.r.ad, .int .i64 c.r.sa, .int .i64 c.r.ot, .int .i64 c.r.cy, .int .i64 c.r.fu, .slice c.fA c.fn c.fc]) := fr_setCells w.heap.size [.int .i64 c.cl, .int .i64 c.v.c.ki, .int .i64 c.v.c.se, .int .i64 c.v.c.sq, .int .i64 c.v.c.at_, .slice c.v.As c.v.ns c.v.cs, .slice c.v.Av c.v.nv c.v.cv, .int .i64 c.tr, .int .i64 c.be, .int .i64 c.en, .int .i64 c.ix, .int .i64 c.r.er, .int .i64 c.r.ss, .int .i64 c.r.gn, .int .i64 c.r.ad, .int .i64 c.r.sa, .int .i64 c.r.ot, .int .i64 c.r.cy, .int .i64 c.r.fu, .slice c.fA c.fn c.fc] 0 _
  refine ⟨((Below.refl _ _).alloc (Nat.le_refl _) _).trans (hf.below (by simp) (fun k hk => by omega)), ?_, World.rangeAt_setCells_same _ _ _ _ (call_there w)⟩
  have := hf.size
  simp only [World.size_alloc] at this
  omega
set_option maxRecDepth 100000 in
set_option maxHeartbeats 1000000 in
theorem asked16_any (s : Int) (w : World) : Calls Tryz.prog 29 #[.int .i64 s] w fun e w' => e = .returned (exV s).val ∧ Below w.heap.size w w' := by
  have hset := call_set w (exV s)
  have hone := call_one (exV s)
  dsimp only [exV, ClV.cells] at hset hone
  have HS := Lib.hid hset
  have HONE := Lib.hid hone
  clear hset hone
  go_enter Tryz.func29, Tryz.ntmps29
  go_wp2_with (first | refine wpList_store_mid rfl 53 (.tmp 2) (.tmp 6) rfl w.heap.size 0 _ rfl rfl (call_there w) (by kernel_rfl) HONE.out ?_)
  obtain ⟨hb, _, hra⟩ := HS.out
  generalize (w.alloc _).setCells w.heap.size 0 _ = wx at *
  have hld := run_loadVar_mid wx w.heap.size 0 53 _ _ hra Tryz.underlying53 rfl (by kernel_rfl)
  exact bodyPost_ret (results_cell1 Tryz.results29 rfl hld) rfl ⟨rfl, hb⟩
set_option maxRecDepth 100000 in
theorem exLin_any (s z : Int) (hz : LinP [0] exE [exC s] z) (W : World) (b0 : Nat) (A1 : Option Addr) (x : EnV) (h0 : RdI W W.heap.size (some ⟨b0, 0, none⟩) 1 [0]) (hx : RdEn W W.heap.size A1 1 [x]) (hxe : x.en = ⟨1, 1, [1]⟩) (hxn : x.n = 1) (hg : ErrT W) :
    Calls Tryz.prog 15 #[.slice (some ⟨b0, 0, none⟩) 1 1, .slice A1 1 1, .slice (some ⟨W.heap.size, 0, none⟩) 1 1] (W.alloc (.cells #[.int .i64 0, .int .i64 1, .int .i64 0, .int .i64 0, .int .i64 0, .slice none 0 0, .slice none 0 0, .int .i64 0, .int .i64 2, .int .i64 3, .int .i64 1, .int .i64 0, .int .i64 s, .int .i64 0, .int .i64 0, .int .i64 0, .int .i64 0, .int .i64 0, .int .i64 0, .slice none 0 0] 53 (0, 0))) fun e w' => e = .returned (.int .i64 z) ∧ Below W.heap.size W w' := by
  have hba : Below W.heap.size W (W.alloc (.cells #[.int .i64 0, .int .i64 1, .int .i64 0, .int .i64 0, .int .i64 0, .slice none 0 0, .slice none 0 0, .int .i64 0, .int .i64 2, .int .i64 3, .int .i64 1, .int .i64 0, .int .i64 s, .int .i64 0, .int .i64 0, .int .i64 0, .int .i64 0, .int .i64 0, .int .i64 0, .slice none 0 0] 53 (0, 0))) := (Below.refl _ _).alloc (Nat.le_refl _) _
  have hrc : RdCls (W.alloc (.cells #[.int .i64 0, .int .i64 1, .int .i64 0, .int .i64 0, .int .i64 0, .slice none 0 0, .slice none 0 0, .int .i64 0, .int .i64 2, .int .i64 3, .int .i64 1, .int .i64 0, .int .i64 s, .int .i64 0, .int .i64 0, .int .i64 0, .int .i64 0, .int .i64 0, .int .i64 0, .slice none 0 0] 53 (0, 0))) (W.heap.size + 1) (some ⟨W.heap.size, 0, none⟩) 1 [exV s] := by
    refine ⟨Rd.new (H := W.heap.size) rfl rfl (by
      intro j hj
      simp only [List.flatMap_cons, List.flatMap_nil, List.append_nil, ClV.cells_len] at hj
      match j, hj with
      | 0, _ => rfl
      | 1, _ => rfl
      | 2, _ => rfl
      | 3, _ => rfl
      | 4, _ => rfl
      | 5, _ => rfl
      | 6, _ => rfl
      | 7, _ => rfl
      | 8, _ => rfl
      | 9, _ => rfl
      | 10, _ => rfl
      | 11, _ => rfl
      | 12, _ => rfl
      | 13, _ => rfl
      | 14, _ => rfl
      | 15, _ => rfl
      | 16, _ => rfl
      | 17, _ => rfl
      | 18, _ => rfl
      | 19, _ => rfl
      | n + 20, h => exact absurd h (by omega)), fun c hc => ?_⟩
    obtain rfl := List.mem_singleton.1 hc
    exact ⟨⟨Rd.nil, Rd.nil⟩, Rd.nil⟩
  refine (linear_any (some ⟨b0, 0, none⟩) 1 1 A1 1 1 (some ⟨W.heap.size, 0, none⟩) 1 1 (W.heap.size + 1) [0] [x] [exV s] _ (by simp) (by omega) (by omega) (by omega) (by omega) (fun e he => by
    obtain rfl := List.mem_singleton.1 he
    omega) (hg.below hba (Nat.le_refl _)) (Rd.below' h0 hba (Nat.le_refl _) (by omega)) ((hx.below hba (Nat.le_refl _)).more (by omega)) hrc (fun c hc => by
    obtain rfl := List.mem_singleton.1 hc
    exact ⟨by simp [exV], by simp [exV], by simp [exV]⟩) (fun c hc => by
    obtain rfl := List.mem_singleton.1 hc
    exact wfI_of (by simp [exV]) (by simp [exV])) (fun c hc => by
    obtain rfl := List.mem_singleton.1 hc
    exact wfI_of (by simp [exV]) (by simp [exV]))).mono ?_
  rintro e w' ⟨z', rfl, hz', hb⟩
  rw [List.map_cons, List.map_nil, hxe] at hz'
  have e1 : z' = z := linP_one hz' hz
  subst e1
  exact ⟨rfl, hba.trans (hb.mono (by simp))⟩
def exW : VwV := ⟨0, 2, 0, 3, 0, 0, 0, 0, none, 0, 0, none, 0, 0, []⟩
theorem ex_look : lookL [exW.vw, exW.vw] = [(2, 0, 1)] := by decide
set_option maxRecDepth 100000 in
theorem exLook_any (W : World) : Calls Tryz.prog 19 #[.slice (some ⟨W.heap.size, 0, none⟩) 2 2] (W.alloc (.cells #[.int .i64 0, .int .i64 2, .int .i64 0, .int .i64 3, .int .i64 0, .int .i64 0, .int .i64 0, .int .i64 0, .slice none 0 0, .slice none 0 0, .int .i64 0, .int .i64 2, .int .i64 0, .int .i64 3, .int .i64 0, .int .i64 0, .int .i64 0, .int .i64 0, .slice none 0 0, .slice none 0 0] 59 (0, 0))) fun e w' => ∃ A c, e = .returned (.slice A 1 c) ∧ RdFi w' w'.heap.size A 1 [(2, 0, 1)] ∧ Below W.heap.size W w' := by
  have hba : Below W.heap.size W (W.alloc (.cells #[.int .i64 0, .int .i64 2, .int .i64 0, .int .i64 3, .int .i64 0, .int .i64 0, .int .i64 0, .int .i64 0, .slice none 0 0, .slice none 0 0, .int .i64 0, .int .i64 2, .int .i64 0, .int .i64 3, .int .i64 0, .int .i64 0, .int .i64 0, .int .i64 0, .slice none 0 0, .slice none 0 0] 59 (0, 0))) := (Below.refl _ _).alloc (Nat.le_refl _) _
  refine (look_any (some ⟨W.heap.size, 0, none⟩) 2 2 (W.heap.size + 1) [exW, exW] _ (by simp) (by omega) (by omega) (fun v hv => by
    have : v = exW := by simpa using hv
    subst this
    simp [exW]) ⟨Rd.new (H := W.heap.size) rfl rfl (by
      intro j hj
      simp only [List.flatMap_cons, List.flatMap_nil, List.append_nil, List.length_append, VwV.cells_len] at hj
      match j, hj with
      | 0, _ => rfl
      | 1, _ => rfl
      | 2, _ => rfl
      | 3, _ => rfl
      | 4, _ => rfl
      | 5, _ => rfl
      | 6, _ => rfl
      | 7, _ => rfl
      | 8, _ => rfl
      | 9, _ => rfl
      | 10, _ => rfl
      | 11, _ => rfl
      | 12, _ => rfl
      | 13, _ => rfl
      | 14, _ => rfl
      | 15, _ => rfl
      | 16, _ => rfl
      | 17, _ => rfl
      | 18, _ => rfl
      | 19, _ => rfl
      | n + 20, h => exact absurd h (by omega)), fun v hv => by
    have : v = exW := by simpa using hv
    subst this
    exact ⟨Rd.nil, by simp [exW]⟩⟩).mono ?_
  rintro e w' ⟨A, c, rfl, hown, hb⟩
  rw [List.map_cons, List.map_cons, List.map_nil, ex_look] at hown ⊢
  exact ⟨A, c, rfl, Rd.of_own hown, hba.trans (hb.mono (by simp))⟩
theorem one_zero {w : World} {H : Nat} (hH : w.heap.size = H) (t : TypeId) (fr : Nat × Nat) : RdI (w.alloc (.cells #[.int .i64 0] t fr)) (H + 1) (some ⟨H, 0, none⟩) 1 [0] := Rd.new hH rfl (by
  intro j hj
  simp only [List.map_cons, List.map_nil, List.length_cons, List.length_nil] at hj
  match j, hj with
  | 0, _ => rfl)
set_option maxRecDepth 100000 in
set_option maxHeartbeats 4000000 in
theorem awake16_any (w : World) (hg : ErrT w) : Calls Tryz.prog 11 #[] w fun e w' => e = .returned (.bool true) ∧ Below w.heap.size w w' := by
  have HG := Lib.hid hg
  clear hg
  have hb0 : Below w.heap.size w (w.alloc (.cells #[.int .i64 0, .int .i64 2, .int .i64 0, .int .i64 3, .int .i64 0, .int .i64 0, .int .i64 0, .int .i64 0, .slice none 0 0, .slice none 0 0] 59 (0, 0))) := (Below.refl _ _).alloc (Nat.le_refl _) _
  have HV : Hid (∀ W, Below (w.heap.size + 1) (w.alloc (.cells #[.int .i64 0, .int .i64 2, .int .i64 0, .int .i64 3, .int .i64 0, .int .i64 0, .int .i64 0, .int .i64 0, .slice none 0 0, .slice none 0 0] 59 (0, 0))) W → Below w.heap.size w W ∧ w.heap.size + 1 ≤ W.heap.size ∧ ErrT W ∧ (∀ j, W.cell? ⟨w.heap.size, j, none⟩ = (#[.int .i64 0, .int .i64 2, .int .i64 0, .int .i64 3, .int .i64 0, .int .i64 0, .int .i64 0, .int .i64 0, .slice none 0 0, .slice none 0 0] : Array Value)[j]?)) := Lib.hid (fun W hW => by
    have hz := hW.size
    simp only [World.size_alloc] at hz
    have hb := hb0.trans (hW.mono (by omega))
    exact ⟨hb, hz, HG.out.below hb (Nat.le_refl _), blk_cell ((hW.block _ (by omega)).trans (heap_at rfl))⟩)
  clear hb0
  go_enter Tryz.func11, Tryz.ntmps11
  go_wp2_with fail
  have h0 := one_zero (w := w.alloc (.cells #[.int .i64 0, .int .i64 2, .int .i64 0, .int .i64 3, .int .i64 0, .int .i64 0, .int .i64 0, .int .i64 0, .slice none 0 0, .slice none 0 0] 59 (0, 0))) (H := w.heap.size + 1) (by simp) 3 (0, 0)
  have HZ := Lib.hid h0
  have HB1 : Hid (Below (w.heap.size + 1) (w.alloc (.cells #[.int .i64 0, .int .i64 2, .int .i64 0, .int .i64 3, .int .i64 0, .int .i64 0, .int .i64 0, .int .i64 0, .slice none 0 0, .slice none 0 0] 59 (0, 0))) ((w.alloc (.cells #[.int .i64 0, .int .i64 2, .int .i64 0, .int .i64 3, .int .i64 0, .int .i64 0, .int .i64 0, .int .i64 0, .slice none 0 0, .slice none 0 0] 59 (0, 0))).alloc (.cells #[.int .i64 0] 3 (0, 0)))) := Lib.hid ((Below.refl _ _).alloc (by simp) _)
  clear h0
  refine (open16_any _).mono ?_
  rintro e w2 ⟨A1, x, rfl, hre, hxe, hxn, hb2⟩
  have HRE := Lib.hid hre
  have HXE := Lib.hid hxe
  have HXN := Lib.hid hxn
  have HB2 : Hid (Below (w.heap.size + 1) (w.alloc (.cells #[.int .i64 0, .int .i64 2, .int .i64 0, .int .i64 3, .int .i64 0, .int .i64 0, .int .i64 0, .int .i64 0, .slice none 0 0, .slice none 0 0] 59 (0, 0))) w2) := Lib.hid (HB1.out.trans (hb2.mono (by simp)))
  have HZ2 : Hid (RdI w2 w2.heap.size (some ⟨w.heap.size + 1, 0, none⟩) 1 [0]) := Lib.hid (Rd.below' HZ.out hb2 (by simp) (by have := hb2.size; simp at this; omega))
  clear hre hxe hxn hb2
  go_wp2_with fail
  refine (asked16_any _ _).mono ?_
  rintro e w3 ⟨rfl, hb3⟩
  have HRE3 : Hid (RdEn w3 w3.heap.size A1 1 [x]) := Lib.hid ((HRE.out.below hb3 (Nat.le_refl _)).more hb3.size)
  have HZ3 : Hid (RdI w3 w3.heap.size (some ⟨w.heap.size + 1, 0, none⟩) 1 [0]) := Lib.hid (Rd.below' HZ2.out hb3 (Nat.le_refl _) hb3.size)
  have HB3 : Hid (Below (w.heap.size + 1) (w.alloc (.cells #[.int .i64 0, .int .i64 2, .int .i64 0, .int .i64 3, .int .i64 0, .int .i64 0, .int .i64 0, .int .i64 0, .slice none 0 0, .slice none 0 0] 59 (0, 0))) w3) := Lib.hid (HB2.out.trans (hb3.mono (HV.out w2 HB2.out).2.1))
  clear hb3
  dsimp only [exV]
  go_wp2_with fail
  refine (exLin_any 1 (-1) ex_one w3 (w.heap.size + 1) A1 x HZ3.out HRE3.out HXE.out HXN.out (HV.out w3 HB3.out).2.2.1).mono ?_
  rintro e w4 ⟨rfl, hb4⟩
  have HB4 : Hid (Below (w.heap.size + 1) (w.alloc (.cells #[.int .i64 0, .int .i64 2, .int .i64 0, .int .i64 3, .int .i64 0, .int .i64 0, .int .i64 0, .int .i64 0, .slice none 0 0, .slice none 0 0] 59 (0, 0))) w4) := Lib.hid (HB3.out.trans (hb4.mono (HV.out w3 HB3.out).2.1))
  clear hb4
  go_wp2_with fail
  have h0 := one_zero (w := w4) (H := w4.heap.size) rfl 3 (0, 0)
  have HZ5 := Lib.hid h0
  have HB5 : Hid (Below (w.heap.size + 1) (w.alloc (.cells #[.int .i64 0, .int .i64 2, .int .i64 0, .int .i64 3, .int .i64 0, .int .i64 0, .int .i64 0, .int .i64 0, .slice none 0 0, .slice none 0 0] 59 (0, 0))) (w4.alloc (.cells #[.int .i64 0] 3 (0, 0)))) := Lib.hid (HB4.out.trans ((Below.refl w4.heap.size w4).alloc (Nat.le_refl _) _ |>.mono (HV.out w4 HB4.out).2.1))
  clear h0
  refine (open16_any _).mono ?_
  rintro e w5 ⟨A5, x5, rfl, hre, hxe, hxn, hb5⟩
  have HRE5 := Lib.hid hre
  have HXE5 := Lib.hid hxe
  have HXN5 := Lib.hid hxn
  have HB6 : Hid (Below (w.heap.size + 1) (w.alloc (.cells #[.int .i64 0, .int .i64 2, .int .i64 0, .int .i64 3, .int .i64 0, .int .i64 0, .int .i64 0, .int .i64 0, .slice none 0 0, .slice none 0 0] 59 (0, 0))) w5) := Lib.hid (HB5.out.trans (hb5.mono (HV.out _ HB5.out).2.1))
  have HZ6 : Hid (RdI w5 w5.heap.size (some ⟨w4.heap.size, 0, none⟩) 1 [0]) := Lib.hid (Rd.below' HZ5.out hb5 (by simp) (by have := hb5.size; simp at this; omega))
  clear hre hxe hxn hb5
  go_wp2_with fail
  refine (asked16_any _ _).mono ?_
  rintro e w6 ⟨rfl, hb6⟩
  have HRE7 : Hid (RdEn w6 w6.heap.size A5 1 [x5]) := Lib.hid ((HRE5.out.below hb6 (Nat.le_refl _)).more hb6.size)
  have HZ7 : Hid (RdI w6 w6.heap.size (some ⟨w4.heap.size, 0, none⟩) 1 [0]) := Lib.hid (Rd.below' HZ6.out hb6 (Nat.le_refl _) hb6.size)
  have HB7 : Hid (Below (w.heap.size + 1) (w.alloc (.cells #[.int .i64 0, .int .i64 2, .int .i64 0, .int .i64 3, .int .i64 0, .int .i64 0, .int .i64 0, .int .i64 0, .slice none 0 0, .slice none 0 0] 59 (0, 0))) w6) := Lib.hid (HB6.out.trans (hb6.mono (HV.out w5 HB6.out).2.1))
  clear hb6
  dsimp only [exV]
  go_wp2_with fail
  refine (exLin_any 2 0 ex_two w6 w4.heap.size A5 x5 HZ7.out HRE7.out HXE5.out HXN5.out (HV.out w6 HB7.out).2.2.1).mono ?_
  rintro e w7 ⟨rfl, hb7⟩
  have HB8 : Hid (Below (w.heap.size + 1) (w.alloc (.cells #[.int .i64 0, .int .i64 2, .int .i64 0, .int .i64 3, .int .i64 0, .int .i64 0, .int .i64 0, .int .i64 0, .slice none 0 0, .slice none 0 0] 59 (0, 0))) w7) := Lib.hid (HB7.out.trans (hb7.mono (HV.out w6 HB7.out).2.1))
  clear hb7
  have fv := (HV.out w7 HB8.out).2.2.2
  go_wp2_with fail
  clear fv
  refine (exLook_any w7).mono ?_
  rintro e w8 ⟨A8, c8, rfl, hfi, hb8⟩
  have HFI := Lib.hid hfi
  have HB9 : Hid (Below (w.heap.size + 1) (w.alloc (.cells #[.int .i64 0, .int .i64 2, .int .i64 0, .int .i64 3, .int .i64 0, .int .i64 0, .int .i64 0, .int .i64 0, .slice none 0 0, .slice none 0 0] 59 (0, 0))) w8) := Lib.hid (HB8.out.trans (hb8.mono (HV.out w7 HB8.out).2.1))
  clear hfi hb8
  go_wp2_with fail
  have HF2 : Hid (RdFi (w8.alloc (.cells #[.int .i64 2, .int .i64 0, .int .i64 1] 43 (0, 0))) (w8.heap.size + 1) (some ⟨w8.heap.size, 0, none⟩) 1 [(2, 0, 1)]) := Lib.hid (Rd.oneF rfl (2, 0, 1) _ _)
  have HB10 : Hid (Below (w.heap.size + 1) (w.alloc (.cells #[.int .i64 0, .int .i64 2, .int .i64 0, .int .i64 3, .int .i64 0, .int .i64 0, .int .i64 0, .int .i64 0, .slice none 0 0, .slice none 0 0] 59 (0, 0))) (w8.alloc (.cells #[.int .i64 2, .int .i64 0, .int .i64 1] 43 (0, 0)))) := Lib.hid (HB9.out.trans ((Below.refl w8.heap.size w8).alloc (Nat.le_refl _) _ |>.mono (HV.out w8 HB9.out).2.1))
  refine (eqF_any A8 _ 1 1 c8 1 w8.heap.size (w8.heap.size + 1) [(2, 0, 1)] [(2, 0, 1)] _ (Rd.alloc HFI.out _ (Nat.le_refl _) (Nat.le_refl _)) HF2.out (by omega)).mono ?_
  rintro e w9 ⟨q, rfl, hq, m, rfl⟩
  obtain rfl : q = true := hq.2 rfl
  have HB11 : Hid (Below (w.heap.size + 1) (w.alloc (.cells #[.int .i64 0, .int .i64 2, .int .i64 0, .int .i64 3, .int .i64 0, .int .i64 0, .int .i64 0, .int .i64 0, .slice none 0 0, .slice none 0 0] 59 (0, 0))) ((w8.alloc (.cells #[.int .i64 2, .int .i64 0, .int .i64 1] 43 (0, 0))).drewN m)) := Lib.hid (below_dN HB10.out m)
  generalize (w8.alloc (.cells #[.int .i64 2, .int .i64 0, .int .i64 1] 43 (0, 0))).drewN m = w9 at *
  clear hq HF2 HFI HB10
  go_wp2_with fail
  have h0 := one_zero (w := w9) (H := w9.heap.size) rfl 3 (0, 0)
  have HZ12 := Lib.hid h0
  have HB12 : Hid (Below (w.heap.size + 1) (w.alloc (.cells #[.int .i64 0, .int .i64 2, .int .i64 0, .int .i64 3, .int .i64 0, .int .i64 0, .int .i64 0, .int .i64 0, .slice none 0 0, .slice none 0 0] 59 (0, 0))) (w9.alloc (.cells #[.int .i64 0] 3 (0, 0)))) := Lib.hid (HB11.out.trans ((Below.refl w9.heap.size w9).alloc (Nat.le_refl _) _ |>.mono (HV.out w9 HB11.out).2.1))
  clear h0
  refine (open16_any _).mono ?_
  rintro e w10 ⟨A10, x10, rfl, hre, hxe, hxn, hb10⟩
  have HRE10 := Lib.hid hre
  have HXE10 := Lib.hid hxe
  have HXN10 := Lib.hid hxn
  have HB13 : Hid (Below (w.heap.size + 1) (w.alloc (.cells #[.int .i64 0, .int .i64 2, .int .i64 0, .int .i64 3, .int .i64 0, .int .i64 0, .int .i64 0, .int .i64 0, .slice none 0 0, .slice none 0 0] 59 (0, 0))) w10) := Lib.hid (HB12.out.trans (hb10.mono (HV.out _ HB12.out).2.1))
  have HZ13 : Hid (RdI w10 w10.heap.size (some ⟨w9.heap.size, 0, none⟩) 1 [0]) := Lib.hid (Rd.below' HZ12.out hb10 (by simp) (by have := hb10.size; simp at this; omega))
  clear hre hxe hxn hb10
  go_wp2_with fail
  refine (replay_any (some ⟨w9.heap.size, 0, none⟩) 1 1 A10 1 1 w10.heap.size [0] [x10] w10 (Nat.le_refl _) (by omega) (by omega) (fun e he => by
    obtain rfl := List.mem_singleton.1 he
    have := HXN10.out
    omega) (HV.out w10 HB13.out).2.2.1 HZ13.out HRE10.out).mono ?_
  rintro e w11 ⟨A11, c11, rfl, _, hb11⟩
  have hlen : (replP [0] [x10.en]).length = 1 := by rw [HXE10.out]; exact congrArg List.length ex_replies
  rw [List.map_cons, List.map_nil, hlen]
  have HB14 : Hid (Below w.heap.size w w11) := Lib.hid ((HV.out w10 HB13.out).1.trans (hb11.mono (HV.out w10 HB13.out).1.size))
  clear hb11 hlen
  go_wp2_with fail
  go_ret
  exact ⟨rfl, HB14.out⟩
end Go.Proofs.YtfjpenbahoeklaaGreatDoor
namespace Go.Proofs.YtfjpenbahoeklaaGreatDoor
open Go Go.RowKit

theorem RdRp.take {w : World} {B n k : Nat} {A : Option Addr} {l : List Rp} (h : RdRp w B A n l) (hk : k ≤ n) : RdRp w B A k (l.take k) := by
  have h1 := Rd.take h hk
  unfold RdRp
  rw [flat_take Rp.cells 8 Rp.cells_len]; exact h1
theorem rdCls_nil (w : World) (B : Nat) : RdCls w B none 0 [] := ⟨Rd.nil, fun c hc => by cases hc⟩
theorem rem_fits (z : Int) (n : Nat) (hn : n ≤ 1000) : ∃ K : Nat, K ≤ n ∧ wrap64 ((IntKind.u64.wrap z).tmod ((n : Int) + 1)) = (K : Int) := by
  have h0 : 0 ≤ IntKind.u64.wrap z := by rw [IntKind.wrap_u64]; omega
  rw [Int.tmod_eq_emod_of_nonneg h0]
  have h1 : 0 ≤ IntKind.u64.wrap z % ((n : Int) + 1) := Int.emod_nonneg _ (by omega)
  have h2 : IntKind.u64.wrap z % ((n : Int) + 1) < (n : Int) + 1 := Int.emod_lt_of_pos _ (by omega)
  exact ⟨(IntKind.u64.wrap z % ((n : Int) + 1)).toNat, by omega, (IntWalk.wrap64_in _ (by omega)).trans (by omega)⟩
set_option maxRecDepth 100000 in
set_option maxHeartbeats 4000000 in
theorem fronts_any (A1 : Option Addr) (n1 c1 : Nat) (A2 : Option Addr) (n2 c2 : Nat) (z : Int) (B : Nat) (vo : List Int) (es : List EnV) (w : World) (hB : B ≤ w.heap.size) (hcap : n2 ≤ c2) (hg : ErrT w) (hr1 : RdI w B A1 n1 vo) (hr2 : RdEn w B A2 n2 es) :
    Calls Tryz.prog 6 #[.slice A1 n1 c1, .slice A2 n2 c2, .int .i64 z] w fun e w' => e = .returned (.bool true) ∧ Below w.heap.size w w' := by
  have HLT := Lib.hid (light16_any A1 n1 c1 A2 n2 c2 none 0 0 B es [] w hr2 (rdCls_nil w B))
  have HR1 := Lib.hid hr1
  have HR2 := Lib.hid hr2
  have HG := Lib.hid hg
  have HB0 := Lib.hid hB
  have hl2 := hr2.len
  clear hr1 hr2 hg hB
  go_enter Tryz.func6, Tryz.ntmps6
  go_wp2_with fail
  refine HLT.out.mono ?_
  rintro e w1 ⟨q, rfl, hq, m, rfl⟩
  have HQ := Lib.hid hq
  clear hq
  cases q with
  | false =>
    go_wp2_with fail
    refine (awake16_any _ (HG.out.below (below_drew' w m) (Nat.le_refl _))).mono ?_
    rintro e w2 ⟨rfl, hb2⟩
    go_wp2_with fail
    go_ret
    exact ⟨rfl, (below_drew' w m).trans hb2⟩
  | true =>
    obtain ⟨h1, h2, _, h4, _⟩ := HQ.out rfl
    have HEN : Hid (∀ e ∈ es, e.n ≤ 4294967296) := Lib.hid (fun e he => by have := h4 e he; omega)
    obtain ⟨K, hK, hKz⟩ := rem_fits z n2 (by omega)
    have hW : Below w.heap.size w (w.drewN m) := below_drew' w m
    have HW := Lib.hid hW
    have HR1' : Hid (∀ W, Below w.heap.size w W → Calls Tryz.prog 13 #[.slice A1 n1 c1, .slice A2 n2 c2] W (ResRp W (replP vo (es.map EnV.en)))) := Lib.hid (fun W hW => by
      have hz := hW.size
      exact replay_any A1 n1 c1 A2 n2 c2 B vo es W (by have := HB0.out; omega) (by omega) (by omega) HEN.out (HG.out.below hW (Nat.le_refl _)) (Rd.below' HR1.out hW HB0.out (Nat.le_refl _)) (HR2.out.below hW HB0.out))
    have HR2' : Hid (∀ W, Below w.heap.size w W → Calls Tryz.prog 13 #[.slice A1 n1 c1, .slice A2 K c2] W (ResRp W ((replP vo (es.map EnV.en)).take K))) := Lib.hid (fun W hW => by
      have hz := hW.size
      have h := replay_any A1 n1 c1 A2 K c2 B vo (es.take K) W (by have := HB0.out; omega) (by omega) (by omega) (fun e he => HEN.out e (List.mem_of_mem_take he)) (HG.out.below hW (Nat.le_refl _)) (Rd.below' HR1.out hW HB0.out (Nat.le_refl _)) ((HR2.out.take hK).below hW HB0.out)
      rw [List.map_take, replP_front] at h
      exact h)
    have HLEN : Hid ((replP vo (es.map EnV.en)).length ≤ n2) := Lib.hid (by
      have := replP_len vo (es.map EnV.en)
      rw [List.length_map] at this
      omega)
    generalize replP vo (es.map EnV.en) = rp at *
    obtain ⟨sp, hsp⟩ : ∃ sp, rp.take K = sp := ⟨_, rfl⟩
    have HTL : Hid (sp.length = min K rp.length) := Lib.hid (by rw [← hsp]; exact List.length_take)
    rw [hsp] at HR2'
    have HSP := Lib.hid hsp
    clear hsp
    have hk0 : (0 : Int) ≤ (K : Int) := by omega
    have hkc : (K : Int) ≤ (c2 : Int) := by omega
    clear h4
    go_wp2_with fail
    refine wp_region_sched [(0, true), (1, true), (3, true), (4, true), (5, true), (6, true), (2, false), (7, false), (8, true), (9, true)] (fun W => Below w.heap.size w W) (by kernel_rfl) (by kernel_rfl) rfl (by kernel_rfl) (HW.out.drew) ?_
    repeat (first | (apply sched_take rfl; (focus (first | rfl | (go_simp; done))); (focus (intro W hW; go_simp; rfl)); (focus (intro K1 hK1; go_simp; refine hK1 _ ?_; clear hK1 K1))) | (apply sched_skip rfl; (focus (first | rfl | (go_simp; done))); (focus (intro K1 hK1; go_simp; refine hK1 _ ?_; clear hK1 K1))))
    apply sched_op rfl
    intro K' hK'
    go_simp
    go_wp2_with (fail)
    refine (HR1'.out _ HW.out.drew).mono ?_
    rintro e w3 ⟨A3, c3, rfl, hown3, hb3⟩
    have HB3 : Hid (Below w.heap.size w w3) := Lib.hid (HW.out.drew.trans (hb3.mono (by simp)))
    have HO3 : Hid (RdRp w3 w3.heap.size A3 rp.length rp) := Lib.hid (Rd.of_own hown3)
    have HC3 : Hid (rp.length ≤ c3) := Lib.hid (own_cap hown3)
    clear hown3 hb3
    go_wp2_with fail
    refine ⟨by exact HB3.out, ?_⟩
    apply sched_op rfl
    intro K' hK'
    go_simp
    go_wp2_with (fail)
    refine (HR2'.out _ HB3.out).mono ?_
    rintro e w4 ⟨A4, c4, rfl, hown4, hb4⟩
    have hz3 := HB3.out.size
    have HB4 : Hid (Below w.heap.size w w4) := Lib.hid (HB3.out.trans (hb4.mono hz3))
    have HO4 : Hid (RdRp w4 w4.heap.size A4 sp.length sp) := Lib.hid (Rd.of_own hown4)
    have HO34 : Hid (RdRp w4 w3.heap.size A3 rp.length rp) := Lib.hid (Rd.below' HO3.out hb4 (Nat.le_refl _) (Nat.le_refl _))
    clear hown4 hb4
    go_wp2_with fail
    refine ⟨by exact HB4.out, ?_⟩
    repeat (first | (apply sched_take rfl; (focus (first | rfl | (go_simp; done))); (focus (intro W hW; go_simp; rfl)); (focus (intro K1 hK1; go_simp; refine hK1 _ ?_; clear hK1 K1))) | (apply sched_skip rfl; (focus (first | rfl | (go_simp; done))); (focus (intro K1 hK1; go_simp; refine hK1 _ ?_; clear hK1 K1))))
    refine sched_nil ?_
    have hl1 : sp.length ≤ K := by have := HTL.out; omega
    have hl1' : ((sp.length : Nat) : Int) ≤ (K : Int) := by omega
    have hl3 := HLEN.out
    have hl3' : ((rp.length : Nat) : Int) ≤ (n2 : Int) := by omega
    have hc3 := HC3.out
    obtain ⟨M, hM, hMl, hMK⟩ : ∃ M : Nat, min (K : Int) (rp.length : Int) = (M : Int) ∧ M ≤ rp.length ∧ sp = rp.take M := ⟨min K rp.length, by omega, by omega, by
      rw [← HSP.out]
      by_cases h : K ≤ rp.length
      · rw [Nat.min_eq_left h]
      · rw [Nat.min_eq_right (by omega), List.take_of_length_le (by omega), List.take_of_length_le (Nat.le_refl _)]⟩
    have HMK := Lib.hid hMK
    have hMc : (M : Int) ≤ (c3 : Int) := by omega
    have hM0 : (0 : Int) ≤ (M : Int) := by omega
    clear hMK
    go_wp2_with fail
    refine (eqR_any A4 A3 sp.length M c4 c3 w4.heap.size w3.heap.size sp (rp.take M) w4 HO4.out (HO34.out.take hMl) (by omega)).mono ?_
    rintro e w5 ⟨q, rfl, hq, m5, rfl⟩
    obtain rfl : q = true := hq.2 HMK.out
    have HB5 : Hid (Below w.heap.size w (w4.drewN m5)) := Lib.hid (below_dN HB4.out m5)
    clear hq
    go_wp2_with fail
    refine (awake16_any _ (HG.out.below HB5.out (Nat.le_refl _))).mono ?_
    rintro e w6 ⟨rfl, hb6⟩
    have HB6 : Hid (Below w.heap.size w w6) := Lib.hid (HB5.out.trans (hb6.mono (by have := HB5.out.size; simpa using this)))
    clear hb6
    go_wp2_with fail
    go_ret
    exact ⟨rfl, HB6.out⟩
end Go.Proofs.YtfjpenbahoeklaaGreatDoor
