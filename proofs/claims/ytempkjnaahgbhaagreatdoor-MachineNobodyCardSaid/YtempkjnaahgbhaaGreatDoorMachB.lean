/-
  The walk of machine's Check. Conditions: a command whose slices read as lists, its names not longer than memory bears.
-/
import Derived.Test.YtempkjnaahgbhaaGreatDoorMachA
namespace Go.Proofs.YtempkjnaahgbhaaGreatDoor
open Go Go.RowKit

/-- What of a command's Check is known ahead of its spans. -/
def Cm.pre (c : Cm) : Bool := fieldsB c && decide (c.sp.length ≤ 8)
theorem Cm.ok_eq (c : Cm) : c.ok = (c.pre && c.sp.all Sp.ok && (decide (c.ki ≠ 5) || okV c.vo)) := rfl
set_option maxRecDepth 100000 in
set_option maxHeartbeats 4000000 in
theorem mcheck_any (v : CmV) (B : Nat) (w : World) (hB : B ≤ w.heap.size) (hns : v.ns ≤ 140737488355328) (hnv : v.nv ≤ 140737488355328) (hnm : ∀ s ∈ v.c.sp, s.nm.size ≤ 140737488355328) (hr : RdCm w B v) :
    Calls Tryz.prog 21 #[v.val] w fun e w' => e = .returned (.int .i64 v.c.check) ∧ Below w.heap.size w w' := by
  have hls := hr.sp.len
  have hlv := hr.vo.len
  have HB : Hid (∀ o, Below w.heap.size w (w.alloc o)) := Lib.hid (fun o => (Below.refl _ _).alloc (Nat.le_refl _) o)
  have HF : Hid (∀ W, Calls Tryz.prog 58 #[v.val] W fun e w' => e = .returned (.bool (fieldsB v.c)) ∧ Below W.heap.size W w') := Lib.hid (fun W => fields_any v W hls hlv)
  have HR : Hid (∀ W, Below w.heap.size w W → RdS W W.heap.size v.As v.ns v.c.sp) := Lib.hid (fun W hW => hr.sp.below' hW hB (Nat.le_trans hB hW.size))
  have HV : Hid (∀ W, Below w.heap.size w W → Calls Tryz.prog 60 #[.agg #[.int .i64 1, .int .i64 1, .slice v.Av v.nv v.cv, .slice none 0 0]] W fun e w' => e = .returned (.int .i64 (if okV v.c.vo then 0 else 60)) ∧ Below W.heap.size W w') := Lib.hid (fun W hW => vcheck1_any v.Av v.nv v.cv B v.c.vo W (Nat.le_trans hB hW.size) hnv (hr.vo.below' hW hB (Nat.le_refl _)))
  have HNM := Lib.hid hnm
  have HOK : Hid (v.c.ok = (v.c.pre && v.c.sp.all Sp.ok && (decide (v.c.ki ≠ 5) || okV v.c.vo))) := Lib.hid v.c.ok_eq
  have HPRE : Hid (v.c.pre = (fieldsB v.c && decide (v.c.sp.length ≤ 8))) := Lib.hid rfl
  generalize hz : v.c.check = z
  have HZ : Hid ((if v.c.ok then 0 else 90) = z) := Lib.hid hz
  clear hz hr hnm hB hlv
  obtain ⟨c, As, ns, cs, Av, nv, cv⟩ := v
  dsimp only [CmV.val] at *
  subst hls
  generalize fieldsB c = f at *
  generalize c.pre = pre at *
  have HX : Hid (∀ W, Below (w.heap.size + 1) (w.alloc (.cells #[.int .i64 c.ki, .int .i64 c.se, .int .i64 c.sq, .int .i64 c.at_, .slice As c.sp.length cs, .slice Av nv cv] 25 (0, 0))) W → Below w.heap.size w W ∧ (∀ j, W.cell? ⟨w.heap.size, j, none⟩ = (#[.int .i64 c.ki, .int .i64 c.se, .int .i64 c.sq, .int .i64 c.at_, .slice As c.sp.length cs, .slice Av nv cv] : Array Value)[j]?) ∧ w.heap.size < W.heap.size) := Lib.hid (fun W hW => ⟨((Below.refl _ _).alloc (Nat.le_refl _) _).trans (hW.mono (by omega)), blk_cell ((hW.block w.heap.size (by omega)).trans (heap_alloc_new w _)), by have := hW.size; simp at this; omega⟩)
  cases f
  · have HPF : Hid (pre = false) := Lib.hid (by rw [HPRE.out]; rfl)
    go_enter Tryz.func21, Tryz.ntmps21
    go_wp2_with fail
    refine (HF.out _).mono ?_
    rintro e w1 ⟨rfl, hb1⟩
    have hb2 : Below (w.heap.size + 1) (w.alloc (.cells #[.int .i64 c.ki, .int .i64 c.se, .int .i64 c.sq, .int .i64 c.at_, .slice As c.sp.length cs, .slice Av nv cv] 25 (0, 0))) w1 := hb1.mono (by simp)
    obtain ⟨g1, g2, g3⟩ := HX.out w1 hb2
    have HB2 := Lib.hid hb2
    clear hb1 hb2
    go_wp2_with fail
    go_loopw [3, 17] (fun v i wr => ∃ (k : Nat) (g : Bool), k ≤ c.sp.length ∧ i = .int .i64 k ∧ v = .bool g ∧ g = false ∧ Below (w.heap.size + 1) (w.alloc (.cells #[.int .i64 c.ki, .int .i64 c.se, .int .i64 c.sq, .int .i64 c.at_, .slice As c.sp.length cs, .slice Av nv cv] 25 (0, 0))) wr) (fun _ i _ => c.sp.length - (intOf i).toNat)
    case atStart => exact ⟨0, false, by omega, rfl, rfl, rfl, HB2.out⟩
    case round =>
      obtain ⟨k, g, hk, rfl, rfl, hg, hbr⟩ := hrel
      have HG := Lib.hid hg
      have HBR := Lib.hid hbr
      obtain ⟨q1, q2, q3⟩ := HX.out wr hbr
      have hrd := HR.out wr q1
      have HQ1 := Lib.hid q1
      clear hg hbr q1 g1 g2
      by_cases hlt : k < c.sp.length
      · obtain ⟨b, off, rfl, hbb, x0, x1, x2, x3, x4, x5⟩ := hrd.at_ hlt
        have hk1 : (k : Int) < c.sp.length := by omega
        have HN1 := Lib.hid (HNM.out _ (List.getElem_mem hlt))
        have HTK := Lib.hid (all_take_succ c.sp Sp.ok k hlt)
        generalize c.sp[k] = s at *
        have HAL := Lib.hid (HBR.out.alloc (by omega) (.cells #[.int .i64 s.tr, .int .i64 s.id, .int .i64 s.pa, .int .i64 s.st, .int .i64 s.en, .string s.nm] 30 (0, 0)))
        clear hrd
        have hg0 := HG.out
        subst hg0
        go_wp2_with fail
        go_roundw
        case rel => exact ⟨k + 1, false, by omega, by go_num, rfl, rfl, HAL.out⟩
        case measure => simp [intOf]; omega
      · have hke : k = c.sp.length := by omega
        subst hke
        clear hrd
        have hg0 := HG.out
        subst hg0
        have hz : z = 90 := by rw [← HZ.out, HOK.out, HPF.out, Bool.false_and, Bool.false_and]; rfl
        subst hz
        by_cases h5 : c.ki = 5
        · go_wp2_with fail
          go_ret
          exact ⟨rfl, HQ1.out⟩
        · go_wp2_with fail
          go_ret
          exact ⟨rfl, HQ1.out⟩
  · by_cases h8 : c.sp.length ≤ 8
    · have HPT : Hid (pre = true) := Lib.hid (by rw [HPRE.out, decide_eq_true h8]; rfl)
      have h8i : (c.sp.length : Int) ≤ 8 := by omega
      go_enter Tryz.func21, Tryz.ntmps21
      go_wp2_with fail
      refine (HF.out _).mono ?_
      rintro e w1 ⟨rfl, hb1⟩
      have hb2 : Below (w.heap.size + 1) (w.alloc (.cells #[.int .i64 c.ki, .int .i64 c.se, .int .i64 c.sq, .int .i64 c.at_, .slice As c.sp.length cs, .slice Av nv cv] 25 (0, 0))) w1 := hb1.mono (by simp)
      obtain ⟨g1, g2, g3⟩ := HX.out w1 hb2
      have HB2 := Lib.hid hb2
      clear hb1 hb2
      go_wp2_with fail
      go_loopw [3, 17] (fun v i wr => ∃ (k : Nat) (g : Bool), k ≤ c.sp.length ∧ i = .int .i64 k ∧ v = .bool g ∧ g = (c.sp.take k).all Sp.ok ∧ Below (w.heap.size + 1) (w.alloc (.cells #[.int .i64 c.ki, .int .i64 c.se, .int .i64 c.sq, .int .i64 c.at_, .slice As c.sp.length cs, .slice Av nv cv] 25 (0, 0))) wr) (fun _ i _ => c.sp.length - (intOf i).toNat)
      case atStart => exact ⟨0, true, by omega, rfl, rfl, rfl, HB2.out⟩
      case round =>
        obtain ⟨k, g, hk, rfl, rfl, hg, hbr⟩ := hrel
        have HG := Lib.hid hg
        have HBR := Lib.hid hbr
        obtain ⟨q1, q2, q3⟩ := HX.out wr hbr
        have hrd := HR.out wr q1
        have HQ1 := Lib.hid q1
        clear hg hbr q1 g1 g2
        by_cases hlt : k < c.sp.length
        · obtain ⟨b, off, rfl, hbb, x0, x1, x2, x3, x4, x5⟩ := hrd.at_ hlt
          have hk1 : (k : Int) < c.sp.length := by omega
          have HN1 := Lib.hid (HNM.out _ (List.getElem_mem hlt))
          have HTK := Lib.hid (all_take_succ c.sp Sp.ok k hlt)
          generalize c.sp[k] = s at *
          have HAL := Lib.hid (HBR.out.alloc (by omega) (.cells #[.int .i64 s.tr, .int .i64 s.id, .int .i64 s.pa, .int .i64 s.st, .int .i64 s.en, .string s.nm] 30 (0, 0)))
          clear hrd
          cases g
          · go_wp2_with fail
            go_roundw
            case rel => exact ⟨k + 1, false, by omega, by go_num, rfl, by rw [HTK.out, ← HG.out]; rfl, HAL.out⟩
            case measure => simp [intOf]; omega
          · go_wp2_with fail
            refine (check_any s _ HN1.out).mono ?_
            rintro e w3 ⟨rfl, hb3⟩
            have HB3 := Lib.hid (HAL.out.trans (hb3.mono (by simp <;> omega)))
            clear hb3
            cases hso : s.ok
            · have hc := Sp.check_f hso
              rw [hc]
              go_wp2_with fail
              go_roundw
              case rel => exact ⟨k + 1, false, by omega, by go_num, rfl, by rw [HTK.out, ← HG.out, hso]; rfl, HB3.out⟩
              case measure => simp [intOf]; omega
            · have hc := Sp.check_t hso
              rw [hc]
              go_wp2_with fail
              go_roundw
              case rel => exact ⟨k + 1, true, by omega, by go_num, rfl, by rw [HTK.out, ← HG.out, hso]; rfl, HB3.out⟩
              case measure => simp [intOf]; omega
        · have hke : k = c.sp.length := by omega
          subst hke
          clear hrd
          have HGE : Hid (c.sp.all Sp.ok = g) := Lib.hid (by rw [HG.out, List.take_of_length_le (Nat.le_refl _)])
          have HV2 := Lib.hid (HV.out wr HQ1.out)
          cases g
          · have hz : z = 90 := by rw [← HZ.out, HOK.out, HGE.out, Bool.and_false, Bool.false_and]; rfl
            subst hz
            by_cases h5 : c.ki = 5
            · go_wp2_with fail
              go_ret
              exact ⟨rfl, HQ1.out⟩
            · go_wp2_with fail
              go_ret
              exact ⟨rfl, HQ1.out⟩
          · by_cases h5 : c.ki = 5
            · have hz : (if okV c.vo then (0 : Int) else 90) = z := by rw [← HZ.out, HOK.out, HGE.out, HPT.out, decide_eq_false (p := c.ki ≠ 5) (fun h => h h5)]; rfl
              have HZ5 := Lib.hid hz
              clear hz
              go_wp2_with fail
              refine HV2.out.mono ?_
              rintro e w4 ⟨rfl, hb4⟩
              have HB4 : Hid (Below w.heap.size w w4) := Lib.hid (HQ1.out.trans (hb4.mono HQ1.out.size))
              clear hb4
              cases hv : okV c.vo
              · have hz := HZ5.out
                rw [hv] at hz
                subst hz
                rw [if_neg Bool.false_ne_true]
                go_wp2_with fail
                go_ret
                exact ⟨rfl, HB4.out⟩
              · have hz := HZ5.out
                rw [hv] at hz
                subst hz
                rw [if_pos rfl]
                go_wp2_with fail
                go_ret
                exact ⟨rfl, HB4.out⟩
            · have hz : z = 0 := by rw [← HZ.out, HOK.out, HGE.out, HPT.out, decide_eq_true (p := c.ki ≠ 5) h5]; rfl
              subst hz
              go_wp2_with fail
              go_ret
              exact ⟨rfl, HQ1.out⟩
    · have HPF : Hid (pre = false) := Lib.hid (by rw [HPRE.out, decide_eq_false h8]; rfl)
      have h8i : ¬ (c.sp.length : Int) ≤ 8 := by omega
      go_enter Tryz.func21, Tryz.ntmps21
      go_wp2_with fail
      refine (HF.out _).mono ?_
      rintro e w1 ⟨rfl, hb1⟩
      have hb2 : Below (w.heap.size + 1) (w.alloc (.cells #[.int .i64 c.ki, .int .i64 c.se, .int .i64 c.sq, .int .i64 c.at_, .slice As c.sp.length cs, .slice Av nv cv] 25 (0, 0))) w1 := hb1.mono (by simp)
      obtain ⟨g1, g2, g3⟩ := HX.out w1 hb2
      have HB2 := Lib.hid hb2
      clear hb1 hb2
      go_wp2_with fail
      go_loopw [3, 17] (fun v i wr => ∃ (k : Nat) (g : Bool), k ≤ c.sp.length ∧ i = .int .i64 k ∧ v = .bool g ∧ g = false ∧ Below (w.heap.size + 1) (w.alloc (.cells #[.int .i64 c.ki, .int .i64 c.se, .int .i64 c.sq, .int .i64 c.at_, .slice As c.sp.length cs, .slice Av nv cv] 25 (0, 0))) wr) (fun _ i _ => c.sp.length - (intOf i).toNat)
      case atStart => exact ⟨0, false, by omega, rfl, by rw [decide_eq_false (by omega)], rfl, HB2.out⟩
      case round =>
        obtain ⟨k, g, hk, rfl, rfl, hg, hbr⟩ := hrel
        have HG := Lib.hid hg
        have HBR := Lib.hid hbr
        obtain ⟨q1, q2, q3⟩ := HX.out wr hbr
        have hrd := HR.out wr q1
        have HQ1 := Lib.hid q1
        clear hg hbr q1 g1 g2
        by_cases hlt : k < c.sp.length
        · obtain ⟨b, off, rfl, hbb, x0, x1, x2, x3, x4, x5⟩ := hrd.at_ hlt
          have hk1 : (k : Int) < c.sp.length := by omega
          have HN1 := Lib.hid (HNM.out _ (List.getElem_mem hlt))
          have HTK := Lib.hid (all_take_succ c.sp Sp.ok k hlt)
          generalize c.sp[k] = s at *
          have HAL := Lib.hid (HBR.out.alloc (by omega) (.cells #[.int .i64 s.tr, .int .i64 s.id, .int .i64 s.pa, .int .i64 s.st, .int .i64 s.en, .string s.nm] 30 (0, 0)))
          clear hrd
          have hg0 := HG.out
          subst hg0
          go_wp2_with fail
          go_roundw
          case rel => exact ⟨k + 1, false, by omega, by go_num, rfl, rfl, HAL.out⟩
          case measure => simp [intOf]; omega
        · have hke : k = c.sp.length := by omega
          subst hke
          clear hrd
          have hg0 := HG.out
          subst hg0
          have hz : z = 90 := by rw [← HZ.out, HOK.out, HPF.out, Bool.false_and, Bool.false_and]; rfl
          subst hz
          by_cases h5 : c.ki = 5
          · go_wp2_with fail
            go_ret
            exact ⟨rfl, HQ1.out⟩
          · go_wp2_with fail
            go_ret
            exact ⟨rfl, HQ1.out⟩
end Go.Proofs.YtempkjnaahgbhaaGreatDoor
