/-
  The walks of cmp.Compare, cmp.Or and span's compare and Less. No condition.
  The plain law of the spans' order: it is an order of all spans, and 0 is said of equals alone. No condition.
  The plain law of sorting spans: there is one sorted list of any spans, however they come; each put at its place one by one comes to it. No condition.
-/
import Derived.Test.YtempkjnaahgbhaaGreatDoorSpanRow
import Derived.Test.YtempkjnaahgbhaaGreatDoorSched
import Derived.Shelf.SlSortCmp.InsertionK
namespace Go.Proofs.YtempkjnaahgbhaaGreatDoor
open Go.RowKit

/-- Below 0, 0, above 0. -/
def cmpI (a b : Int) : Int := if a < b then -1 else if b < a then 1 else 0
def cmpS (a b : ByteArray) : Int := if Op.bytesLess a.toList b.toList = true then -1 else if a.toList = b.toList then 0 else 1
/-- The first that is not 0. -/
def orL : List Int → Int
  | [] => 0
  | x :: r => if x = 0 then orL r else x
def Sp.cmpL (s t : Sp) : List Int := [cmpI s.tr t.tr, cmpI s.st t.st, cmpI s.id t.id, cmpI s.pa t.pa, cmpI s.en t.en, cmpS s.nm t.nm]
def Sp.cmp (s t : Sp) : Int := orL (s.cmpL t)

/-- Draws and new blocks, no more. -/
def Gr (w W : World) : Prop := ∃ (q : Nat) (os : Array Obj), W = { w.drewN q with heap := w.heap ++ os }
section
variable {w W V : World}
theorem Gr.refl (w : World) : Gr w w := ⟨0, #[], by simp [World.drewN]⟩
theorem Gr.drewN (h : Gr w W) (n : Nat) : Gr w (W.drewN n) := by
  obtain ⟨q, os, rfl⟩ := h
  exact ⟨q + n, os, by simp [World.drewN, Nat.add_assoc]⟩
theorem Gr.drew (h : Gr w W) : Gr w W.drew := h.drewN 1
theorem Gr.alloc (h : Gr w W) (o : Obj) : Gr w (W.alloc o) := by
  obtain ⟨q, os, rfl⟩ := h
  exact ⟨q, os.push o, by simp [World.alloc, World.drewN, Array.push_append]⟩
theorem Gr.trans (h : Gr w W) (k : Gr W V) : Gr w V := by
  obtain ⟨q, os, rfl⟩ := h
  obtain ⟨p, os', rfl⟩ := k
  exact ⟨q + p, os ++ os', by simp [World.drewN, Nat.add_assoc, Array.append_assoc]⟩
theorem Gr.below (h : Gr w W) : Below w.heap.size w W := by
  obtain ⟨q, os, rfl⟩ := h
  refine ⟨rfl, rfl, rfl, by simp, fun k hk => ?_⟩
  simp [Array.getElem?_append_left hk]
end

set_option maxRecDepth 100000 in
set_option maxHeartbeats 400000 in
theorem compareInt_any (a b : Int) (w : World) :
    Calls Tryz.prog 183 #[.int .i64 a, .int .i64 b] w fun e w' => e = .returned (.int .i64 (cmpI a b)) ∧ w = w' := by
  go_enter Tryz.func183, Tryz.ntmps183
  go_wp2
  all_goals go_ret
  all_goals refine ⟨ret_int ?_, rfl⟩
  all_goals simp [cmpI]
  all_goals omega

set_option maxRecDepth 100000 in
set_option maxHeartbeats 400000 in
theorem compareStr_any (a b : ByteArray) (w : World) :
    Calls Tryz.prog 184 #[.string a, .string b] w fun e w' => e = .returned (.int .i64 (cmpS a b)) ∧ w = w' := by
  go_enter Tryz.func184, Tryz.ntmps184
  go_wp2
  all_goals go_ret
  all_goals refine ⟨ret_int ?_, rfl⟩
  all_goals simp [cmpS, *]
  all_goals (rename_i h; simpa using h)

set_option maxRecDepth 100000 in
set_option maxHeartbeats 400000 in
theorem or_any (A : Option Addr) (n cap B : Nat) (zs : List Int) (w : World) (hb : n ≤ 140737488355328) (hn : zs.length = n) (hr : Rd w B 1 A n (zs.map (Value.int .i64))) :
    Calls Tryz.prog 182 #[.slice A n cap] w fun e w' => e = .returned (.int .i64 (orL zs)) ∧ w = w' := by
  subst hn
  go_enter Tryz.func182, Tryz.ntmps182
  go_wp2
  go_loop [8] (fun i => ∃ k : Nat, k ≤ zs.length ∧ i = .int .i64 k ∧ orL zs = orL (zs.drop k)) (fun i => zs.length - (intOf i).toNat)
  case atStart => exact ⟨0, by omega, rfl, rfl⟩
  case round =>
    obtain ⟨k, hk, rfl, ho⟩ := hrel
    have HO := Lib.hid ho; clear ho
    by_cases hlt : k < zs.length
    · obtain ⟨b, off, rfl, _, hcell⟩ := hr.at_ (k := k) hlt (by simpa using hlt)
      rw [List.getElem_map] at hcell
      have hd : orL (zs.drop k) = if zs[k] = 0 then orL (zs.drop (k + 1)) else zs[k] := by rw [List.drop_eq_getElem_cons hlt]; rfl
      have HD := Lib.hid hd
      have hki : (k : Int) < (zs.length : Int) := by omega
      generalize zs[k] = z at *
      clear hr hd
      by_cases hz : z = 0
      · subst hz
        go_wp2
        go_round
        case rel => exact ⟨k + 1, by omega, by go_num, by rw [HO.out, HD.out, if_pos rfl]⟩
        case measure => simp [intOf]; omega
      · have hne : (z != 0) = true := by simpa using hz
        have HZ := Lib.hid hz
        clear hz
        go_wp2
        go_ret
        exact ⟨ret_int (by rw [HO.out, HD.out, if_neg HZ.out]), rfl⟩
    · go_wp2
      go_ret
      exact ⟨ret_int (by rw [HO.out, List.drop_of_length_le (by omega)]; rfl), rfl⟩

set_option maxRecDepth 100000 in
set_option maxHeartbeats 2000000 in
theorem compare_any (s t : Sp) (w : World) :
    Calls Tryz.prog 175 #[s.val, t.val] w fun e w' => e = .returned (.int .i64 (s.cmp t)) ∧ Gr w w' := by
  obtain ⟨w0, hw0⟩ : ∃ w0, w0 = (w.alloc (.cells #[.int .i64 s.tr, .int .i64 s.id, .int .i64 s.pa, .int .i64 s.st, .int .i64 s.en, .string s.nm] 30)).alloc (.cells #[.int .i64 t.tr, .int .i64 t.id, .int .i64 t.pa, .int .i64 t.st, .int .i64 t.en, .string t.nm] 30) := ⟨_, rfl⟩
  have hz0 : w0.heap.size = w.heap.size + 2 := by rw [hw0]; simp
  have hG : Gr w w0 := by rw [hw0]; exact ((Gr.refl w).alloc _).alloc _
  have hS : ∀ W, Below (w.heap.size + 2) w0 W →
      (W.cell? ⟨w.heap.size, 0, none⟩ = some (.int .i64 s.tr) ∧ W.cell? ⟨w.heap.size, 1, none⟩ = some (.int .i64 s.id) ∧ W.cell? ⟨w.heap.size, 2, none⟩ = some (.int .i64 s.pa) ∧ W.cell? ⟨w.heap.size, 3, none⟩ = some (.int .i64 s.st) ∧ W.cell? ⟨w.heap.size, 4, none⟩ = some (.int .i64 s.en) ∧ W.cell? ⟨w.heap.size, 5, none⟩ = some (.string s.nm)) ∧
      (W.cell? ⟨w.heap.size + 1, 0, none⟩ = some (.int .i64 t.tr) ∧ W.cell? ⟨w.heap.size + 1, 1, none⟩ = some (.int .i64 t.id) ∧ W.cell? ⟨w.heap.size + 1, 2, none⟩ = some (.int .i64 t.pa) ∧ W.cell? ⟨w.heap.size + 1, 3, none⟩ = some (.int .i64 t.st) ∧ W.cell? ⟨w.heap.size + 1, 4, none⟩ = some (.int .i64 t.en) ∧ W.cell? ⟨w.heap.size + 1, 5, none⟩ = some (.string t.nm)) := by
    intro W hW
    have h1 : w0.heap[w.heap.size]? = some (.cells #[.int .i64 s.tr, .int .i64 s.id, .int .i64 s.pa, .int .i64 s.st, .int .i64 s.en, .string s.nm] 30 (0, 0)) := by
      rw [hw0]; exact blk_below ((Below.refl (w.heap.size + 1) _).alloc (by simp) _) (by omega) (heap_alloc_new w _)
    have h2 : w0.heap[w.heap.size + 1]? = some (.cells #[.int .i64 t.tr, .int .i64 t.id, .int .i64 t.pa, .int .i64 t.st, .int .i64 t.en, .string t.nm] 30 (0, 0)) := by
      have h := heap_alloc_new (w.alloc (.cells #[.int .i64 s.tr, .int .i64 s.id, .int .i64 s.pa, .int .i64 s.st, .int .i64 s.en, .string s.nm] 30)) (.cells #[.int .i64 t.tr, .int .i64 t.id, .int .i64 t.pa, .int .i64 t.st, .int .i64 t.en, .string t.nm] 30)
      rw [World.size_alloc] at h
      rw [hw0]; exact h
    have hc := blk_cell (blk_below hW (by omega) h1)
    have hd := blk_cell (blk_below hW (by omega) h2)
    exact ⟨⟨hc 0, hc 1, hc 2, hc 3, hc 4, hc 5⟩, ⟨hd 0, hd 1, hd 2, hd 3, hd 4, hd 5⟩⟩
  have HSS := Lib.hid hS
  have HW0 := Lib.hid hw0
  have HZ0 := Lib.hid hz0
  have HC : Hid (s.cmp t = orL (s.cmpL t)) := Lib.hid rfl
  clear hS hw0 hz0
  go_enter Tryz.func175, Tryz.ntmps175
  go_wp2_with fail
  rw [← HW0.out]
  refine wp_region_sched [(0, true), (1, true), (2, true), (3, true), (5, true), (6, true), (7, true), (8, true), (10, true), (11, true), (12, true), (13, true), (15, true), (16, true), (17, true), (18, true), (20, true), (21, true), (22, true), (23, true), (25, true), (26, true), (27, true), (28, true), (4, false), (9, false), (14, false), (19, false), (24, false), (29, false), (30, false), (31, false), (32, true)] (fun W => Below (w.heap.size + 2) w0 W ∧ Gr w W) (by kernel_rfl) (by kernel_rfl) rfl (by kernel_rfl) (⟨(Below.refl _ _).drew, hG.drew⟩) ?_
  repeat (first | (apply sched_take rfl; (focus (first | rfl | (go_simp; done))); (focus (intro W hW; obtain ⟨⟨c0, c1, c2, c3, c4, c5⟩, d0, d1, d2, d3, d4, d5⟩ := HSS.out W hW.1; go_simp; rfl)); (focus (intro K hK; go_simp; refine hK _ ?_; clear hK K))) | (apply sched_skip rfl; (focus (first | rfl | (go_simp; done))); (focus (intro K hK; go_simp; refine hK _ ?_; clear hK K))))
  apply sched_op rfl
  intro K hK
  go_simp
  go_wp2_with (fail)
  refine (compareInt_any _ _ _).mono ?_
  rintro e w2 ⟨rfl, rfl⟩
  go_wp2_with fail
  refine ⟨by exact ⟨(Below.refl _ _).drew, hG.drew⟩, ?_⟩
  repeat (first | (apply sched_take rfl; (focus (first | rfl | (go_simp; done))); (focus (intro W hW; obtain ⟨⟨c0, c1, c2, c3, c4, c5⟩, d0, d1, d2, d3, d4, d5⟩ := HSS.out W hW.1; go_simp; rfl)); (focus (intro K hK; go_simp; refine hK _ ?_; clear hK K))) | (apply sched_skip rfl; (focus (first | rfl | (go_simp; done))); (focus (intro K hK; go_simp; refine hK _ ?_; clear hK K))))
  apply sched_op rfl
  intro K hK
  go_simp
  go_wp2_with (fail)
  refine (compareInt_any _ _ _).mono ?_
  rintro e w2 ⟨rfl, rfl⟩
  go_wp2_with fail
  refine ⟨by exact ⟨(Below.refl _ _).drew, hG.drew⟩, ?_⟩
  repeat (first | (apply sched_take rfl; (focus (first | rfl | (go_simp; done))); (focus (intro W hW; obtain ⟨⟨c0, c1, c2, c3, c4, c5⟩, d0, d1, d2, d3, d4, d5⟩ := HSS.out W hW.1; go_simp; rfl)); (focus (intro K hK; go_simp; refine hK _ ?_; clear hK K))) | (apply sched_skip rfl; (focus (first | rfl | (go_simp; done))); (focus (intro K hK; go_simp; refine hK _ ?_; clear hK K))))
  apply sched_op rfl
  intro K hK
  go_simp
  go_wp2_with (fail)
  refine (compareInt_any _ _ _).mono ?_
  rintro e w2 ⟨rfl, rfl⟩
  go_wp2_with fail
  refine ⟨by exact ⟨(Below.refl _ _).drew, hG.drew⟩, ?_⟩
  repeat (first | (apply sched_take rfl; (focus (first | rfl | (go_simp; done))); (focus (intro W hW; obtain ⟨⟨c0, c1, c2, c3, c4, c5⟩, d0, d1, d2, d3, d4, d5⟩ := HSS.out W hW.1; go_simp; rfl)); (focus (intro K hK; go_simp; refine hK _ ?_; clear hK K))) | (apply sched_skip rfl; (focus (first | rfl | (go_simp; done))); (focus (intro K hK; go_simp; refine hK _ ?_; clear hK K))))
  apply sched_op rfl
  intro K hK
  go_simp
  go_wp2_with (fail)
  refine (compareInt_any _ _ _).mono ?_
  rintro e w2 ⟨rfl, rfl⟩
  go_wp2_with fail
  refine ⟨by exact ⟨(Below.refl _ _).drew, hG.drew⟩, ?_⟩
  repeat (first | (apply sched_take rfl; (focus (first | rfl | (go_simp; done))); (focus (intro W hW; obtain ⟨⟨c0, c1, c2, c3, c4, c5⟩, d0, d1, d2, d3, d4, d5⟩ := HSS.out W hW.1; go_simp; rfl)); (focus (intro K hK; go_simp; refine hK _ ?_; clear hK K))) | (apply sched_skip rfl; (focus (first | rfl | (go_simp; done))); (focus (intro K hK; go_simp; refine hK _ ?_; clear hK K))))
  apply sched_op rfl
  intro K hK
  go_simp
  go_wp2_with (fail)
  refine (compareInt_any _ _ _).mono ?_
  rintro e w2 ⟨rfl, rfl⟩
  go_wp2_with fail
  refine ⟨by exact ⟨(Below.refl _ _).drew, hG.drew⟩, ?_⟩
  repeat (first | (apply sched_take rfl; (focus (first | rfl | (go_simp; done))); (focus (intro W hW; obtain ⟨⟨c0, c1, c2, c3, c4, c5⟩, d0, d1, d2, d3, d4, d5⟩ := HSS.out W hW.1; go_simp; rfl)); (focus (intro K hK; go_simp; refine hK _ ?_; clear hK K))) | (apply sched_skip rfl; (focus (first | rfl | (go_simp; done))); (focus (intro K hK; go_simp; refine hK _ ?_; clear hK K))))
  apply sched_op rfl
  intro K hK
  go_simp
  go_wp2_with (fail)
  refine (compareStr_any _ _ _).mono ?_
  rintro e w2 ⟨rfl, rfl⟩
  go_wp2_with fail
  refine ⟨by exact ⟨(Below.refl _ _).drew, hG.drew⟩, ?_⟩
  repeat (first | (apply sched_take rfl; (focus (first | rfl | (go_simp; done))); (focus (intro W hW; obtain ⟨⟨c0, c1, c2, c3, c4, c5⟩, d0, d1, d2, d3, d4, d5⟩ := HSS.out W hW.1; go_simp; rfl)); (focus (intro K hK; go_simp; refine hK _ ?_; clear hK K))) | (apply sched_skip rfl; (focus (first | rfl | (go_simp; done))); (focus (intro K hK; go_simp; refine hK _ ?_; clear hK K))))
  apply sched_op rfl
  intro K hK
  go_simp
  go_wp2_with (fail)
  refine ⟨by exact ⟨((Below.refl _ _).alloc (Nat.le_of_eq HZ0.out.symm) _).drew, (hG.alloc _).drew⟩, ?_⟩
  repeat (first | (apply sched_take rfl; (focus (first | rfl | (go_simp; done))); (focus (intro W hW; obtain ⟨⟨c0, c1, c2, c3, c4, c5⟩, d0, d1, d2, d3, d4, d5⟩ := HSS.out W hW.1; go_simp; rfl)); (focus (intro K hK; go_simp; refine hK _ ?_; clear hK K))) | (apply sched_skip rfl; (focus (first | rfl | (go_simp; done))); (focus (intro K hK; go_simp; refine hK _ ?_; clear hK K))))
  apply sched_op rfl
  intro K hK
  go_simp
  go_wp2_with (fail)
  refine (or_any _ _ _ (w0.heap.size + 1) (s.cmpL t) _ (by simp [Sp.cmpL]) rfl (Rd.drew (Rd.new rfl rfl (by intro j hj; simp [Sp.cmpL] at hj; match j, hj with | 0, _ => rfl | 1, _ => rfl | 2, _ => rfl | 3, _ => rfl | 4, _ => rfl | 5, _ => rfl)))).mono ?_
  rintro e w2 ⟨rfl, rfl⟩
  go_wp2_with fail
  refine ⟨by exact ⟨((Below.refl _ _).alloc (Nat.le_of_eq HZ0.out.symm) _).drew, (hG.alloc _).drew⟩, ?_⟩
  repeat (first | (apply sched_take rfl; (focus (first | rfl | (go_simp; done))); (focus (intro W hW; obtain ⟨⟨c0, c1, c2, c3, c4, c5⟩, d0, d1, d2, d3, d4, d5⟩ := HSS.out W hW.1; go_simp; rfl)); (focus (intro K hK; go_simp; refine hK _ ?_; clear hK K))) | (apply sched_skip rfl; (focus (first | rfl | (go_simp; done))); (focus (intro K hK; go_simp; refine hK _ ?_; clear hK K))))
  refine sched_nil ?_
  go_wp2_with fail
  go_ret
  exact ⟨ret_int HC.out.symm, (hG.alloc _).drew⟩
end Go.Proofs.YtempkjnaahgbhaaGreatDoor
namespace Go.Proofs.YtempkjnaahgbhaaGreatDoor
open Go.RowKit

theorem rd_newL {w : World} {H : Nat} (hH : w.heap.size = H) {cs : Array Value} {t : TypeId} {fr : Nat × Nat} {xs : List Value} {n sz : Nat} (hx : xs.length = n * sz) (h : cs.toList = xs) :
    Rd (w.alloc (.cells cs t fr)) (H + 1) sz (some ⟨H, 0, none⟩) n xs := Rd.new hH hx (by subst h; intro j hj; simp)

theorem bl_cons (x y : UInt8) (a b : List UInt8) : Op.bytesLess (x :: a) (y :: b) = true ↔ x.toNat < y.toNat ∨ (x = y ∧ Op.bytesLess a b = true) := by
  simp only [Op.bytesLess, Bool.or_eq_true, Bool.and_eq_true, decide_eq_true_eq, beq_iff_eq, UInt8.lt_iff_toNat_lt]
theorem bl_irrefl : ∀ l : List UInt8, ¬ Op.bytesLess l l = true := by
  intro l
  induction l with
  | nil => simp [Op.bytesLess]
  | cons x l ih => rw [bl_cons]; rintro (h | ⟨_, h⟩); omega; exact ih h
theorem bl_tri : ∀ a b : List UInt8, ¬ Op.bytesLess a b = true → ¬ Op.bytesLess b a = true → a = b := by
  intro a
  induction a with
  | nil => intro b h1 h2; cases b with
    | nil => rfl
    | cons y b => simp [Op.bytesLess] at h1
  | cons x a ih =>
    intro b h1 h2
    cases b with
    | nil => simp [Op.bytesLess] at h2
    | cons y b =>
      rw [bl_cons] at h1 h2
      have hxy : x = y := UInt8.toNat_inj.1 (by omega)
      subst hxy
      rw [ih b (fun h => h1 (.inr ⟨rfl, h⟩)) (fun h => h2 (.inr ⟨rfl, h⟩))]
theorem bl_trans : ∀ a b c : List UInt8, Op.bytesLess a b = true → Op.bytesLess b c = true → Op.bytesLess a c = true := by
  intro a
  induction a with
  | nil =>
    intro b c h1 h2
    cases c with
    | nil => cases b <;> simp [Op.bytesLess] at h2
    | cons z c => simp [Op.bytesLess]
  | cons x a ih =>
    intro b c h1 h2
    cases b with
    | nil => simp [Op.bytesLess] at h1
    | cons y b =>
      cases c with
      | nil => simp [Op.bytesLess] at h2
      | cons z c =>
        rw [bl_cons] at h1 h2 ⊢
        rcases h1 with h1 | ⟨rfl, h1⟩
        · rcases h2 with h2 | ⟨rfl, h2⟩
          · left; omega
          · left; exact h1
        · rcases h2 with h2 | ⟨rfl, h2⟩
          · left; exact h2
          · right; exact ⟨rfl, ih _ _ h1 h2⟩
theorem bl_asymm {a b : List UInt8} (h : Op.bytesLess a b = true) : ¬ Op.bytesLess b a = true := fun k => bl_irrefl a (bl_trans _ _ _ h k)

/-- What makes an order by numbers. -/
structure IsCmp {α : Type} (c : α → α → Int) : Prop where
  swap : ∀ x y, c y x = - c x y
  trans : ∀ x y z, c x y ≤ 0 → c y z ≤ 0 → c x z ≤ 0
theorem IsCmp.zero {α : Type} {c : α → α → Int} (h : IsCmp c) (x y z : α) (h1 : c x y ≤ 0) (h2 : c y z ≤ 0) (h3 : c x z = 0) : c x y = 0 ∧ c y z = 0 := by
  have s1 := h.swap x z
  have s2 := h.swap y z
  have s3 := h.swap x y
  have t1 := h.trans z x y (by omega) h1
  have t2 := h.trans y z x h2 (by omega)
  omega
theorem IsCmp.lex {α : Type} {c d : α → α → Int} (hc : IsCmp c) (hd : IsCmp d) : IsCmp (fun x y => if c x y = 0 then d x y else c x y) := by
  constructor
  · intro x y
    have s1 := hc.swap x y
    have s2 := hd.swap x y
    by_cases h : c x y = 0
    · simp only [h, if_true, show c y x = 0 by omega]; exact s2
    · simp only [if_neg h, if_neg (show ¬ c y x = 0 by omega)]; exact s1
  · intro x y z h1 h2
    have a1 : c x y ≤ 0 := by by_cases h : c x y = 0; omega; simpa [h] using h1
    have a2 : c y z ≤ 0 := by by_cases h : c y z = 0; omega; simpa [h] using h2
    have a3 := hc.trans x y z a1 a2
    by_cases h : c x z = 0
    · obtain ⟨z1, z2⟩ := hc.zero x y z a1 a2 h
      simp only [z1, if_true] at h1
      simp only [z2, if_true] at h2
      simp only [h, if_true]
      exact hd.trans x y z h1 h2
    · simp only [if_neg h]; exact a3
theorem isCmp_int {α : Type} (f : α → Int) : IsCmp (fun x y => cmpI (f x) (f y)) := by
  constructor
  · intro x y; simp only [cmpI]; split <;> split <;> (try split) <;> omega
  · intro x y z h1 h2; simp only [cmpI] at *
    by_cases q1 : f y < f x
    · rw [if_neg (by omega), if_pos q1] at h1; omega
    · by_cases q2 : f z < f y
      · rw [if_neg (by omega), if_pos q2] at h2; omega
      · by_cases q3 : f x < f z
        · rw [if_pos q3]; omega
        · rw [if_neg q3, if_neg (by omega)]; omega
theorem toList_inj {a b : ByteArray} (h : a.toList = b.toList) : a = b := by
  rw [ByteArray.toList_eq, ByteArray.toList_eq] at h
  cases a; cases b
  simpa using h
theorem cmpS_lt {a b : ByteArray} (h : Op.bytesLess a.toList b.toList = true) : cmpS a b = -1 ∧ cmpS b a = 1 := by
  refine ⟨if_pos h, ?_⟩
  rw [cmpS, if_neg (bl_asymm h), if_neg]
  intro e; rw [e] at h; exact bl_irrefl _ h
theorem cmpS_self (a : ByteArray) : cmpS a a = 0 := by rw [cmpS, if_neg (bl_irrefl _), if_pos rfl]
theorem cmpS_cases (a b : ByteArray) : Op.bytesLess a.toList b.toList = true ∨ Op.bytesLess b.toList a.toList = true ∨ a = b := by
  by_cases h1 : Op.bytesLess a.toList b.toList = true
  · exact .inl h1
  · by_cases h2 : Op.bytesLess b.toList a.toList = true
    · exact .inr (.inl h2)
    · exact .inr (.inr (toList_inj (bl_tri _ _ h1 h2)))
theorem isCmp_str {α : Type} (f : α → ByteArray) : IsCmp (fun x y => cmpS (f x) (f y)) := by
  constructor
  · intro x y
    rcases cmpS_cases (f x) (f y) with h | h | h
    · have := cmpS_lt h; omega
    · have := cmpS_lt h; omega
    · simp only [h, cmpS_self]; rfl
  · intro x y z h1 h2
    rcases cmpS_cases (f x) (f y) with h | h | h
    · rcases cmpS_cases (f y) (f z) with k | k | k
      · have := cmpS_lt (bl_trans _ _ _ h k); omega
      · have := cmpS_lt k; omega
      · rw [← k]; exact h1
    · have := cmpS_lt h; omega
    · rw [h]; exact h2

theorem cmp_eq (s t : Sp) : s.cmp t = if cmpI s.tr t.tr = 0 then (if cmpI s.st t.st = 0 then (if cmpI s.id t.id = 0 then (if cmpI s.pa t.pa = 0 then (if cmpI s.en t.en = 0 then cmpS s.nm t.nm else cmpI s.en t.en) else cmpI s.pa t.pa) else cmpI s.id t.id) else cmpI s.st t.st) else cmpI s.tr t.tr := by
  simp only [Sp.cmp, Sp.cmpL, orL]
  have h : (if cmpS s.nm t.nm = 0 then (0 : Int) else cmpS s.nm t.nm) = cmpS s.nm t.nm := by
    by_cases h : cmpS s.nm t.nm = 0
    · rw [if_pos h, h]
    · rw [if_neg h]
  rw [h]
theorem isCmp_span : IsCmp Sp.cmp := by
  have h := (isCmp_int Sp.tr).lex ((isCmp_int Sp.st).lex ((isCmp_int Sp.id).lex ((isCmp_int Sp.pa).lex ((isCmp_int Sp.en).lex (isCmp_str Sp.nm)))))
  exact ⟨fun x y => by rw [cmp_eq, cmp_eq]; exact h.swap x y, fun x y z h1 h2 => by rw [cmp_eq] at *; exact h.trans x y z h1 h2⟩
theorem cmpI_zero {a b : Int} (h : cmpI a b = 0) : a = b := by
  simp only [cmpI] at h
  by_cases h1 : a < b
  · rw [if_pos h1] at h; omega
  · by_cases h2 : b < a
    · rw [if_neg h1, if_pos h2] at h; omega
    · omega
theorem cmp_zero {s t : Sp} : s.cmp t = 0 ↔ s = t := by
  constructor
  · intro h
    rw [cmp_eq] at h
    by_cases h1 : cmpI s.tr t.tr = 0
    · rw [if_pos h1] at h
      by_cases h2 : cmpI s.st t.st = 0
      · rw [if_pos h2] at h
        by_cases h3 : cmpI s.id t.id = 0
        · rw [if_pos h3] at h
          by_cases h4 : cmpI s.pa t.pa = 0
          · rw [if_pos h4] at h
            by_cases h5 : cmpI s.en t.en = 0
            · rw [if_pos h5] at h
              have h6 : s.nm = t.nm := by
                rcases cmpS_cases s.nm t.nm with k | k | k
                · have := cmpS_lt k; omega
                · have := cmpS_lt k; omega
                · exact k
              have e1 := cmpI_zero h1
              have e2 := cmpI_zero h2
              have e3 := cmpI_zero h3
              have e4 := cmpI_zero h4
              have e5 := cmpI_zero h5
              cases s; cases t; simp_all
            · rw [if_neg h5] at h; exact absurd h h5
          · rw [if_neg h4] at h; exact absurd h h4
        · rw [if_neg h3] at h; exact absurd h h3
      · rw [if_neg h2] at h; exact absurd h h2
    · rw [if_neg h1] at h; exact absurd h h1
  · rintro rfl
    have := isCmp_span.swap s s
    omega

end Go.Proofs.YtempkjnaahgbhaaGreatDoor
namespace Go.Proofs.YtempkjnaahgbhaaGreatDoor
open Go.RowKit Go.Sort

instance : Inhabited Sp := ⟨⟨0, 0, 0, 0, 0, ⟨#[]⟩⟩⟩

/-- The one sorted list of some spans. -/
def sortS (l : List Sp) : List Sp := l.mergeSort fun x y => !ltOf Sp.cmp y x
theorem leS_iff (x y : Sp) : (!ltOf Sp.cmp y x) = true ↔ x.cmp y ≤ 0 := by
  have := isCmp_span.swap x y
  simp only [ltOf, Bool.not_eq_true', decide_eq_false_iff_not]; omega
theorem leS_total (x y : Sp) : x.cmp y ≤ 0 ∨ y.cmp x ≤ 0 := by
  have := isCmp_span.swap x y; omega
theorem swoS : SWO (ltOf Sp.cmp) where
  irrefl x := by
    have := cmp_zero.2 (rfl : x = x)
    simp [ltOf, this]
  trans x y z h1 h2 := by
    simp only [ltOf, decide_eq_true_eq] at *
    have h3 := isCmp_span.trans x y z (by omega) (by omega)
    by_cases h : x.cmp z = 0
    · have := isCmp_span.zero x y z (by omega) (by omega) h; omega
    · omega
  ntrans x y z h1 h2 := by
    simp only [ltOf, decide_eq_false_iff_not] at *
    have a := isCmp_span.swap x y
    have b := isCmp_span.swap y z
    have c := isCmp_span.swap x z
    have h3 := isCmp_span.trans z y x (by omega) (by omega)
    omega
theorem totS (x y : Sp) (h1 : ltOf Sp.cmp x y = false) (h2 : ltOf Sp.cmp y x = false) : x = y := by
  simp only [ltOf, decide_eq_false_iff_not] at *
  have a := isCmp_span.swap x y
  exact cmp_zero.1 (by omega)
theorem sortS_perm (l : List Sp) : (sortS l).Perm l := List.mergeSort_perm _ _
theorem sortS_len (l : List Sp) : (sortS l).length = l.length := (sortS_perm l).length_eq
theorem sortS_mem {l : List Sp} {s : Sp} : s ∈ sortS l ↔ s ∈ l := (sortS_perm l).mem_iff
theorem sortS_sorted (l : List Sp) : (sortS l).Pairwise fun x y => x.cmp y ≤ 0 := by
  have h := List.pairwise_mergeSort (le := fun x y : Sp => !ltOf Sp.cmp y x) (by
    intro a b c h1 h2
    rw [leS_iff] at *
    exact isCmp_span.trans a b c h1 h2) (by
    intro a b
    rw [Bool.or_eq_true, leS_iff, leS_iff]
    exact leS_total a b) l
  exact h.imp (fun {a b} h => (leS_iff a b).1 h)
theorem sortS_unique {l m : List Sp} (hp : m.Perm l) (hs : m.Pairwise fun x y => x.cmp y ≤ 0) : m = sortS l := by
  refine List.Perm.eq_of_pairwise (le := fun x y : Sp => x.cmp y ≤ 0) ?_ hs (sortS_sorted l) (hp.trans (sortS_perm l).symm)
  intro a b _ _ h1 h2
  have a := isCmp_span.swap a b
  exact cmp_zero.1 (by omega)
theorem sortS_congr {l m : List Sp} (h : m.Perm l) : sortS m = sortS l := sortS_unique ((sortS_perm m).trans h) (sortS_sorted m)
theorem sortS_of {l : List Sp} (h : l.Pairwise fun x y => x.cmp y ≤ 0) : sortS l = l := (sortS_unique (List.Perm.refl l) h).symm
theorem sortS_idem (l : List Sp) : sortS (sortS l) = sortS l := sortS_of (sortS_sorted l)
theorem sortS_filter (p : Sp → Bool) (l : List Sp) : (sortS l).filter p = sortS (l.filter p) := sortS_unique ((sortS_perm l).filter p) ((sortS_sorted l).filter p)

/-- One put at its place. -/
def insS (s : Sp) : List Sp → List Sp
  | [] => [s]
  | x :: r => if s.cmp x < 0 then s :: x :: r else x :: insS s r
theorem insS_perm (s : Sp) (l : List Sp) : (insS s l).Perm (s :: l) := by
  induction l with
  | nil => exact List.Perm.refl _
  | cons x r ih =>
    rw [insS]
    by_cases h : s.cmp x < 0
    · rw [if_pos h]
    · rw [if_neg h]
      exact (ih.cons x).trans (List.Perm.swap s x r)
theorem insS_len (s : Sp) (l : List Sp) : (insS s l).length = l.length + 1 := (insS_perm s l).length_eq
theorem insS_sorted (s : Sp) (l : List Sp) (h : l.Pairwise fun x y => x.cmp y ≤ 0) : (insS s l).Pairwise fun x y => x.cmp y ≤ 0 := by
  induction l with
  | nil => simp [insS]
  | cons x r ih =>
    obtain ⟨h1, h2⟩ := List.pairwise_cons.1 h
    rw [insS]
    by_cases hc : s.cmp x < 0
    · rw [if_pos hc]
      refine List.pairwise_cons.2 ⟨fun y hy => ?_, h⟩
      rcases List.mem_cons.1 hy with rfl | hy
      · omega
      · exact isCmp_span.trans s x y (by omega) (h1 y hy)
    · rw [if_neg hc]
      refine List.pairwise_cons.2 ⟨fun y hy => ?_, ih h2⟩
      have hm := (insS_perm s r).mem_iff.1 hy
      rcases List.mem_cons.1 hm with rfl | hm
      · have := isCmp_span.swap x y; omega
      · exact h1 y hm
/-- Each at its place, from the left on. -/
def insAll (acc : List Sp) (l : List Sp) : List Sp := l.foldl (fun a s => insS s a) acc
theorem insAll_perm (l acc : List Sp) : (insAll acc l).Perm (acc ++ l) := by
  induction l generalizing acc with
  | nil => simp [insAll]
  | cons s l ih =>
    refine (ih (insS s acc)).trans ?_
    refine ((insS_perm s acc).append_right l).trans ?_
    rw [List.cons_append]
    exact List.perm_middle.symm
theorem insAll_sorted (l acc : List Sp) (h : acc.Pairwise fun x y => x.cmp y ≤ 0) : (insAll acc l).Pairwise fun x y => x.cmp y ≤ 0 := by
  induction l generalizing acc with
  | nil => exact h
  | cons s l ih => exact ih _ (insS_sorted s acc h)
theorem insAll_sortS (l : List Sp) : insAll [] l = sortS l := sortS_unique (by simpa using insAll_perm l []) (insAll_sorted l [] List.Pairwise.nil)
/-- What is ahead of the place of one, and what is behind it. -/
theorem insS_split (s : Sp) (a b : List Sp) (ha : ∀ x ∈ a, ¬ s.cmp x < 0) (hb : ∀ x ∈ b.head?, s.cmp x < 0) : insS s (a ++ b) = a ++ s :: b := by
  induction a with
  | nil =>
    cases b with
    | nil => rfl
    | cons x r => rw [List.nil_append, insS, if_pos (hb x (by simp))]; rfl
  | cons x a ih => rw [List.cons_append, insS, if_neg (ha x (by simp)), ih fun y hy => ha y (by simp [hy])]; rfl

/-! ### A row of the caller's own, sorted in place -/
theorem flatK_cells (l : List Sp) : flatK Sp.cells 6 l.toArray = (l.flatMap Sp.cells).toArray := by
  have hl := flat_len Sp.cells 6 Sp.cells_len l
  refine ext_get! (by simp [hl]) fun t ht => ?_
  have ht' : t < l.length * 6 := by simpa using ht
  rw [get_flatK _ _ _ _ (by simpa using ht')]
  have h6 : t / 6 < l.length := by omega
  have e1 : l.toArray[t / 6]! = l[t / 6] := by simp [h6]
  have e2 := flat_at Sp.cells 6 Sp.cells_len l (t / 6) (t % 6) h6 (by omega)
  rw [show t / 6 * 6 + t % 6 = t by omega] at e2
  rw [e1]
  simp only [getElem!_def, List.getElem?_toArray, e2]
theorem holds_of_own {w : World} {base g n c : Nat} {e : TypeId} {l : List Sp} (h : w.ownsRow base e 6 (.slice (some ⟨g, 0, none⟩) n c) n (l.flatMap Sp.cells)) : HoldsK Sp.cells 6 w g 0 l.toArray := by
  rcases h.2 with ⟨hv, _⟩ | ⟨g', cap, cur, hv, _, hh, hn, _, hs, ht⟩
  · cases hv
  · injection hv with ha
    injection ha with ha
    injection ha with ha
    subst ha
    unfold HoldsK
    rw [flatK_cells]
    intro j hj
    have hj' : j < (l.flatMap Sp.cells).length := by simpa using hj
    refine ⟨?_, by simp [World.frozen?, hh]⟩
    rw [Nat.zero_add, cell_of_row w g j cur e (0, 0) hh]
    have hl := h.1
    have h2 : (cur.toList.take (n * 6))[j]? = (l.flatMap Sp.cells)[j]? := by rw [ht]
    rw [List.getElem?_take_of_lt (by omega)] at h2
    rw [← Array.getElem?_toList, h2, List.getElem?_eq_getElem hj']
    simp [getElem!_def, List.getElem?_eq_getElem hj']
theorem own_sorted {w : World} {base g n c : Nat} {e : TypeId} {l m : List Sp} (h : w.ownsRow base e 6 (.slice (some ⟨g, 0, none⟩) n c) n (l.flatMap Sp.cells)) (hm : m.length = l.length) (q : Nat) (os : Array Obj) :
    (sortWorldK Sp.cells 6 w g 0 q m.toArray os).ownsRow base e 6 (.slice (some ⟨g, 0, none⟩) n c) n (m.flatMap Sp.cells) ∧ Below base w (sortWorldK Sp.cells 6 w g 0 q m.toArray os) := by
  have hl := h.1
  rw [flat_len Sp.cells 6 Sp.cells_len] at hl
  rcases h.2 with ⟨hv, _⟩ | ⟨g', cap, cur, hv, hb, hh, hn, hc, hs, ht⟩
  · cases hv
  · injection hv with ha hn' hc'
    injection ha with ha
    injection ha with ha
    subst ha hc'
    have hg : g < w.heap.size := (Array.getElem?_eq_some_iff.1 hh).1
    constructor
    · refine ⟨by rw [flat_len Sp.cells 6 Sp.cells_len, hm]; exact hl, .inr ⟨g, c, putCells id 0 (m.flatMap Sp.cells).toArray cur, rfl, hb, ?_, hn, hc, by simp [putCells, hs], ?_⟩⟩
      · unfold sortWorldK putRowK
        rw [heap_grow_old _ _ (by simpa [putRow, mapBlock, Sort.ahead] using hg), flatK_cells]
        simp [putRow, mapBlock, Sort.ahead, Array.getElem?_modify, hh, onCells]
      · apply List.ext_getElem?
        intro j
        have hf := flat_len Sp.cells 6 Sp.cells_len m
        have hnc : n * 6 ≤ c * 6 := Nat.mul_le_mul_right 6 hn
        by_cases hj : j < n * 6
        · rw [List.getElem?_take_of_lt hj, Array.getElem?_toList]
          simp only [putCells, Array.getElem?_mapIdx]
          have hj2 : j < cur.size := by omega
          have hj3 : j < (m.flatMap Sp.cells).length := by rw [hf, hm, hl]; exact hj
          rw [Array.getElem?_eq_getElem hj2, Option.map_some, if_pos ⟨Nat.zero_le _, by simpa using hj3⟩, List.getElem?_eq_getElem hj3]
          simp [getElem!_def, List.getElem?_eq_getElem hj3]
        · rw [List.getElem?_eq_none (by simp; omega), List.getElem?_eq_none (by rw [hf, hm, hl]; omega)]
    · refine ⟨rfl, rfl, rfl, ?_, ?_⟩
      · unfold sortWorldK putRowK; rw [size_grow]; simp [putRow, mapBlock, Sort.ahead]
      · intro k hk
        unfold sortWorldK putRowK
        rw [heap_grow_old _ _ (by simp [putRow, mapBlock, Sort.ahead]; omega)]
        simp [putRow, mapBlock, Sort.ahead, Array.getElem?_modify, show ¬ g = k by omega]
end Go.Proofs.YtempkjnaahgbhaaGreatDoor
