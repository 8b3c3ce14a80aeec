/-
  The walks of what tells whether a command may be: vault's voters and Check, machine's fields and Check. Conditions: slices that read as lists.
-/
import Derived.Test.YtempkjnaahgbhaaGreatDoorMachP
import Derived.Test.YtempkjnaahgbhaaGreatDoorCheck
import Derived.Test.YtempkjnaahgbhaaGreatDoorFr
namespace Go.Proofs.YtempkjnaahgbhaaGreatDoor
open Go Go.RowKit

theorem getD_at {l : List Int} {k : Nat} (hk : k < l.length) : l.getD k 0 = l[k] := by
  rw [List.getD_eq_getElem?_getD, List.getElem?_eq_getElem hk, Option.getD_some]
set_option maxRecDepth 100000 in
set_option maxHeartbeats 1000000 in
theorem voters_any (A : Option Addr) (n cap B : Nat) (l : List Int) (w : World) (hbig : n ≤ 140737488355328) (hr : RdI w B A n l) :
    Calls Tryz.prog 107 #[.slice A n cap] w fun e w' => e = .returned (.bool (okV l)) ∧ w = w' := by
  have hlen := hr.len
  subst hlen
  have HR := Lib.hid hr
  clear hr
  generalize hq : okV l = q
  have HQ := Lib.hid hq
  clear hq
  go_enter Tryz.func107, Tryz.ntmps107
  go_wp2_with fail
  go_loop [7] (fun i => ∃ k : Nat, k ≤ l.length ∧ i = .int .i64 k ∧ (List.range k).all (vB l) = true) (fun i => l.length - (intOf i).toNat)
  case atStart => exact ⟨0, by omega, rfl, rfl⟩
  case round =>
    obtain ⟨k, hk, rfl, ha⟩ := hrel
    have HA := Lib.hid ha
    clear ha
    by_cases hlt : k < l.length
    · obtain ⟨b, off, rfl, _, hcell⟩ := HR.out.at_ hlt
      have HX : Hid (l.getD k 0 = l[k]) := Lib.hid (getD_at hlt)
      have HP : Hid (0 < k → ∃ y, l.getD (k - 1) 0 = y ∧ w.cell? ⟨b, off + (k - 1), none⟩ = some (.int .i64 y)) := Lib.hid (fun h0 => by
        obtain ⟨b2, off2, e2, _, hc2⟩ := HR.out.at_ (k := k - 1) (by omega)
        cases e2
        exact ⟨_, getD_at (by omega), hc2⟩)
      generalize l[k] = x at *
      have hk1 : (k : Int) < l.length := by omega
      by_cases h1 : x < 0
      · have hq1 : q = false := by rw [← HQ.out]; exact okV_f hlt (by unfold vB; rw [HX.out, decide_eq_false (by omega)]; rfl)
        subst hq1
        go_wp2_with fail
        go_ret
        exact ⟨rfl, rfl⟩
      · by_cases h2 : 7 ≤ x
        · have hq1 : q = false := by rw [← HQ.out]; exact okV_f hlt (by unfold vB; rw [HX.out, decide_eq_false (p := x < 7) (by omega), Bool.and_false]; rfl)
          subst hq1
          go_wp2_with fail
          go_ret
          exact ⟨rfl, rfl⟩
        · by_cases h3 : k = 0
          · have HV : Hid (vB l k = true) := Lib.hid (by unfold vB; rw [HX.out, decide_eq_true (by omega), decide_eq_true (by omega), decide_eq_true h3]; rfl)
            subst h3
            rw [Nat.add_zero] at hcell
            go_wp2_with fail
            go_round
            case rel => exact ⟨1, by omega, by go_num, by rw [vB_all_succ, HA.out, HV.out]; rfl⟩
            case measure => simp [intOf]; omega
          · obtain ⟨y, hy, hcy⟩ := HP.out (by omega)
            have HY := Lib.hid hy
            clear hy
            have hk0 : (0 : Int) < k := by omega
            have hwk : IntKind.i64.wrap ((k : Int) - 1) = ((k - 1 : Nat) : Int) := ((IntWalk.i64_left _).trans (IntWalk.wrap64_in _ (by omega))).trans (by omega)
            have hk9 : ((k - 1 : Nat) : Int) < l.length := by omega
            have hk8 : (0 : Int) ≤ ((k - 1 : Nat) : Int) := by omega
            by_cases h4 : x ≤ y
            · have hq1 : q = false := by rw [← HQ.out]; exact okV_f hlt (by unfold vB; rw [HX.out, HY.out, decide_eq_false (p := k = 0) h3, decide_eq_false (p := y < x) (by omega)]; simp)
              subst hq1
              generalize k - 1 = k2 at *
              go_wp2_with fail
              go_ret
              exact ⟨rfl, rfl⟩
            · have HV : Hid (vB l k = true) := Lib.hid (by unfold vB; rw [HX.out, HY.out, decide_eq_true (by omega), decide_eq_true (by omega), decide_eq_true (p := y < x) (by omega)]; simp)
              generalize k - 1 = k2 at *
              go_wp2_with fail
              go_round
              case rel => exact ⟨k + 1, by omega, by go_num, by rw [vB_all_succ, HA.out, HV.out]; rfl⟩
              case measure => simp [intOf]; omega
    · have hke : k = l.length := by omega
      have hq1 : q = decide (0 < l.length) := by
        rw [← HQ.out]
        unfold okV goodV
        rw [← hke, HA.out, Bool.and_true]
      by_cases h0 : 0 < l.length
      · rw [decide_eq_true h0] at hq1
        subst hq1
        have h0i : (0 : Int) < l.length := by omega
        go_wp2_with fail
        go_ret
        exact ⟨rfl, rfl⟩
      · rw [decide_eq_false h0] at hq1
        subst hq1
        have h0i : ¬ (0 : Int) < l.length := by omega
        go_wp2_with fail
        go_ret
        exact ⟨rfl, rfl⟩

set_option maxRecDepth 100000 in
theorem vcheck1_any (A : Option Addr) (n cap B : Nat) (l : List Int) (w : World) (hB : B ≤ w.heap.size) (hbig : n ≤ 140737488355328) (hr : RdI w B A n l) :
    Calls Tryz.prog 60 #[.agg #[.int .i64 1, .int .i64 1, .slice A n cap, .slice none 0 0]] w fun e w' => e = .returned (.int .i64 (if okV l then 0 else 60)) ∧ Below w.heap.size w w' := by
  have HB : Hid (∀ o, Below w.heap.size w (w.alloc o)) := Lib.hid (fun o => (Below.refl _ _).alloc (Nat.le_refl _) o)
  have HV : Hid (∀ W, Below w.heap.size w W → Calls Tryz.prog 107 #[.slice A n cap] W fun e w' => e = .returned (.bool (okV l)) ∧ W = w') := Lib.hid (fun W hW => voters_any A n cap B l W hbig (hr.below' hW hB (Nat.le_refl _)))
  clear hr
  generalize okV l = q at *
  cases q
  · rw [if_neg Bool.false_ne_true]
    go_enter Tryz.func60, Tryz.ntmps60
    go_wp2_with fail
    refine (HV.out _ (HB.out _)).mono ?_
    rintro e w1 ⟨rfl, rfl⟩
    go_wp2_with fail
    go_ret
    exact ⟨rfl, HB.out _⟩
  · rw [if_pos rfl]
    go_enter Tryz.func60, Tryz.ntmps60
    go_wp2_with fail
    refine (HV.out _ (HB.out _)).mono ?_
    rintro e w1 ⟨rfl, rfl⟩
    go_wp2_with fail
    go_ret
    exact ⟨rfl, HB.out _⟩

/-- A command as a value. -/
structure CmV where
  c : Cm
  As : Option Addr
  ns : Nat
  cs : Nat
  Av : Option Addr
  nv : Nat
  cv : Nat
abbrev CmV.val (v : CmV) : Value := .agg #[.int .i64 v.c.ki, .int .i64 v.c.se, .int .i64 v.c.sq, .int .i64 v.c.at_, .slice v.As v.ns v.cs, .slice v.Av v.nv v.cv]
structure RdCm (w : World) (B : Nat) (v : CmV) : Prop where
  sp : RdS w B v.As v.ns v.c.sp
  vo : RdI w B v.Av v.nv v.c.vo
theorem RdCm.below {w w' : World} {B C : Nat} {v : CmV} (h : RdCm w B v) (hb : Below C w w') (hC : B ≤ C) : RdCm w' B v := ⟨h.sp.below' hb hC (Nat.le_refl _), h.vo.below' hb hC (Nat.le_refl _)⟩

theorem fieldsB_iff (c : Cm) : fieldsB c = true ↔ (0 ≤ c.ki ∧ c.ki ≤ 5) ∧ ((c.ki = 2 ∧ 1 ≤ c.se ∧ c.se ≤ 1099511627776 ∧ 1 ≤ c.sq ∧ c.sq ≤ 1099511627776) ∨ (c.ki ≠ 2 ∧ c.se = 0 ∧ c.sq = 0)) ∧ 0 ≤ c.at_ ∧ c.at_ ≤ atM c.ki ∧ (c.ki = 2 ↔ 0 < c.sp.length) ∧ (c.ki = 5 ↔ 0 < c.vo.length) := by
  unfold fieldsB numB
  by_cases h : c.ki = 2
  · simp only [h, if_true, Bool.and_eq_true, decide_eq_true_eq, beq_iff_eq, true_and, ne_eq, not_true_eq_false, false_and, or_false, decide_eq_decide]
    simp only [and_assoc, true_iff]
  · simp only [h, if_false, Bool.and_eq_true, decide_eq_true_eq, beq_iff_eq, false_and, ne_eq, not_false_eq_true, true_and, false_or, decide_eq_decide]
    simp only [and_assoc, false_iff]
/-- What fields answers of a kind. -/
def FieldsK (ki : Int) : Prop := ∀ (se sq at_ : Int) (sp : List Sp) (vo : List Int) (As : Option Addr) (ns cs : Nat) (Av : Option Addr) (nv cv : Nat) (w : World), sp.length = ns → vo.length = nv →
  Calls Tryz.prog 58 #[.agg #[.int .i64 ki, .int .i64 se, .int .i64 sq, .int .i64 at_, .slice As ns cs, .slice Av nv cv]] w fun e w' => e = .returned (.bool (fieldsB ⟨ki, se, sq, at_, sp, vo⟩)) ∧ Below w.heap.size w w'
set_option maxRecDepth 100000 in
set_option maxHeartbeats 4000000 in
theorem fields_0 : FieldsK 0 := by
  intro se sq at_ sp vo As ns cs Av nv cv w hS hV
  have HB : Hid (∀ o, Below w.heap.size w (w.alloc o)) := Lib.hid (fun o => (Below.refl _ _).alloc (Nat.le_refl _) o)
  generalize hq : fieldsB ⟨0, se, sq, at_, sp, vo⟩ = q
  have HQ := Lib.hid hq
  have HNS := Lib.hid hS
  have HNV := Lib.hid hV
  clear hq hS hV
  go_enter Tryz.func58, Tryz.ntmps58
  go_wp2_with fail
  all_goals
    go_ret
    refine ⟨congrArg (fun b => Ending.returned (Value.bool b)) ?_, HB.out _⟩
    rw [← HQ.out, Bool.eq_iff_iff, fieldsB_iff]
    simp only [HNS.out, HNV.out, show atM 0 = 0 from rfl]
    first | omega | (simp; done) | (simp; omega)
set_option maxRecDepth 100000 in
set_option maxHeartbeats 4000000 in
theorem fields_1 : FieldsK 1 := by
  intro se sq at_ sp vo As ns cs Av nv cv w hS hV
  have HB : Hid (∀ o, Below w.heap.size w (w.alloc o)) := Lib.hid (fun o => (Below.refl _ _).alloc (Nat.le_refl _) o)
  generalize hq : fieldsB ⟨1, se, sq, at_, sp, vo⟩ = q
  have HQ := Lib.hid hq
  have HNS := Lib.hid hS
  have HNV := Lib.hid hV
  clear hq hS hV
  go_enter Tryz.func58, Tryz.ntmps58
  go_wp2_with fail
  all_goals
    go_ret
    refine ⟨congrArg (fun b => Ending.returned (Value.bool b)) ?_, HB.out _⟩
    rw [← HQ.out, Bool.eq_iff_iff, fieldsB_iff]
    simp only [HNS.out, HNV.out, show atM 1 = 0 from rfl]
    first | omega | (simp; done) | (simp; omega)
set_option maxRecDepth 100000 in
set_option maxHeartbeats 4000000 in
theorem fields_2 : FieldsK 2 := by
  intro se sq at_ sp vo As ns cs Av nv cv w hS hV
  have HB : Hid (∀ o, Below w.heap.size w (w.alloc o)) := Lib.hid (fun o => (Below.refl _ _).alloc (Nat.le_refl _) o)
  generalize hq : fieldsB ⟨2, se, sq, at_, sp, vo⟩ = q
  have HQ := Lib.hid hq
  have HNS := Lib.hid hS
  have HNV := Lib.hid hV
  clear hq hS hV
  go_enter Tryz.func58, Tryz.ntmps58
  go_wp2_with fail
  all_goals
    go_ret
    refine ⟨congrArg (fun b => Ending.returned (Value.bool b)) ?_, HB.out _⟩
    rw [← HQ.out, Bool.eq_iff_iff, fieldsB_iff]
    simp only [HNS.out, HNV.out, show atM 2 = 0 from rfl]
    first | omega | (simp; done) | (simp; omega)
set_option maxRecDepth 100000 in
set_option maxHeartbeats 4000000 in
theorem fields_3 : FieldsK 3 := by
  intro se sq at_ sp vo As ns cs Av nv cv w hS hV
  have HB : Hid (∀ o, Below w.heap.size w (w.alloc o)) := Lib.hid (fun o => (Below.refl _ _).alloc (Nat.le_refl _) o)
  generalize hq : fieldsB ⟨3, se, sq, at_, sp, vo⟩ = q
  have HQ := Lib.hid hq
  have HNS := Lib.hid hS
  have HNV := Lib.hid hV
  clear hq hS hV
  go_enter Tryz.func58, Tryz.ntmps58
  go_wp2_with fail
  all_goals
    go_ret
    refine ⟨congrArg (fun b => Ending.returned (Value.bool b)) ?_, HB.out _⟩
    rw [← HQ.out, Bool.eq_iff_iff, fieldsB_iff]
    simp only [HNS.out, HNV.out, show atM 3 = 1099511627776 from rfl]
    first | omega | (simp; done) | (simp; omega)
set_option maxRecDepth 100000 in
set_option maxHeartbeats 4000000 in
theorem fields_4 : FieldsK 4 := by
  intro se sq at_ sp vo As ns cs Av nv cv w hS hV
  have HB : Hid (∀ o, Below w.heap.size w (w.alloc o)) := Lib.hid (fun o => (Below.refl _ _).alloc (Nat.le_refl _) o)
  generalize hq : fieldsB ⟨4, se, sq, at_, sp, vo⟩ = q
  have HQ := Lib.hid hq
  have HNS := Lib.hid hS
  have HNV := Lib.hid hV
  clear hq hS hV
  go_enter Tryz.func58, Tryz.ntmps58
  go_wp2_with fail
  all_goals
    go_ret
    refine ⟨congrArg (fun b => Ending.returned (Value.bool b)) ?_, HB.out _⟩
    rw [← HQ.out, Bool.eq_iff_iff, fieldsB_iff]
    simp only [HNS.out, HNV.out, show atM 4 = 1099511627777 from rfl]
    first | omega | (simp; done) | (simp; omega)
set_option maxRecDepth 100000 in
set_option maxHeartbeats 4000000 in
theorem fields_5 : FieldsK 5 := by
  intro se sq at_ sp vo As ns cs Av nv cv w hS hV
  have HB : Hid (∀ o, Below w.heap.size w (w.alloc o)) := Lib.hid (fun o => (Below.refl _ _).alloc (Nat.le_refl _) o)
  generalize hq : fieldsB ⟨5, se, sq, at_, sp, vo⟩ = q
  have HQ := Lib.hid hq
  have HNS := Lib.hid hS
  have HNV := Lib.hid hV
  clear hq hS hV
  go_enter Tryz.func58, Tryz.ntmps58
  go_wp2_with fail
  all_goals
    go_ret
    refine ⟨congrArg (fun b => Ending.returned (Value.bool b)) ?_, HB.out _⟩
    rw [← HQ.out, Bool.eq_iff_iff, fieldsB_iff]
    simp only [HNS.out, HNV.out, show atM 5 = 0 from rfl]
    first | omega | (simp; done) | (simp; omega)
set_option maxRecDepth 100000 in
set_option maxHeartbeats 4000000 in
theorem fields_else (ki : Int) (h0 : ¬ ki = 0) (h1 : ¬ ki = 1) (h2 : ¬ ki = 2) (h3 : ¬ ki = 3) (h4 : ¬ ki = 4) (h5 : ¬ ki = 5) : FieldsK ki := by
  intro se sq at_ sp vo As ns cs Av nv cv w _ _
  have HB : Hid (∀ o, Below w.heap.size w (w.alloc o)) := Lib.hid (fun o => (Below.refl _ _).alloc (Nat.le_refl _) o)
  have hq : fieldsB ⟨ki, se, sq, at_, sp, vo⟩ = false := by
    rw [Bool.eq_false_iff]
    intro h
    have := ((fieldsB_iff _).1 h).1
    simp only at this
    omega
  rw [hq]
  clear hq
  go_enter Tryz.func58, Tryz.ntmps58
  go_wp2_with fail
  go_ret
  exact ⟨rfl, HB.out _⟩
theorem fields_any (v : CmV) (w : World) (hs : v.c.sp.length = v.ns) (hv : v.c.vo.length = v.nv) :
    Calls Tryz.prog 58 #[v.val] w fun e w' => e = .returned (.bool (fieldsB v.c)) ∧ Below w.heap.size w w' := by
  obtain ⟨⟨ki, se, sq, at_, sp, vo⟩, As, ns, cs, Av, nv, cv⟩ := v
  have key : FieldsK ki := by
    by_cases h0 : ki = 0
    · exact h0 ▸ fields_0
    by_cases h1 : ki = 1
    · exact h1 ▸ fields_1
    by_cases h2 : ki = 2
    · exact h2 ▸ fields_2
    by_cases h3 : ki = 3
    · exact h3 ▸ fields_3
    by_cases h4 : ki = 4
    · exact h4 ▸ fields_4
    by_cases h5 : ki = 5
    · exact h5 ▸ fields_5
    exact fields_else ki h0 h1 h2 h3 h4 h5
  exact key se sq at_ sp vo As ns cs Av nv cv w hs hv
end Go.Proofs.YtempkjnaahgbhaaGreatDoor
