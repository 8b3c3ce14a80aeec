/-
  A table of sessions in memory: its map of seats; what keeps it; the look-ups. No condition: plain lemmas over the library's own on maps.
  The walks of a table's methods: New, made, index, Open, Ask, Expire. Conditions: the table lies in memory as New made it.
-/
import Derived.Test.YtempkjnaahgbhaaGreatDoorSessP
import Derived.Test.YtempkjnaahgbhaaGreatDoorForest6
namespace Go.Proofs.YtempkjnaahgbhaaGreatDoor
open Go Go.RowKit Go.Maps

open Classical in
/-- A seat reads as itself. -/
noncomputable def seElem : Value → Option (DataW Value × List MemPlace) := fun v => if ∃ s : Se, v = s.val then some (.held v, []) else none
theorem seElem_val (s : Se) : seElem s.val = some (.held s.val, []) := if_pos ⟨s, rfl⟩
theorem seElem_inv {v : Value} {y : DataW Value × List MemPlace} (h : seElem v = some y) : ∃ s : Se, v = s.val ∧ y = (.held s.val, []) := by
  unfold seElem at h
  split at h
  · rename_i hs
    obtain ⟨s, rfl⟩ := hs
    exact ⟨s, rfl, (Option.some.inj h).symm⟩
  · cases h
/-- An entry of the map; the map. -/
def entS (s : Se) : Lit × DataW Value := (.int .i64 s.ss, .held s.val)
def mapS (L : List Se) : DataW Value := .map (L.map entS)
theorem same_key (x y : Int) : (Lit.int .i64 x).sameKey (.int .i64 y) = decide (x = y) := by simp [Lit.sameKey]
theorem mapS_find (L : List Se) (x : Int) : (L.map entS).find? (fun q => q.1.sameKey (.int .i64 x)) = (seT L x).map entS := by
  rw [List.find?_map]
  unfold seT
  congr 2
  funext t
  simp [entS, same_key]
theorem mapS_at (L : List Se) (x : Int) (z : DataW Value) : (mapS L).atKey (.int .i64 x) z = match seT L x with
    | some s => .held s.val
    | none => z := by
  unfold mapS DataW.atKey
  simp only [mapS_find]
  cases seT L x with
  | none => rfl
  | some t => rfl
theorem mapS_has (L : List Se) (x : Int) : Maps.has (mapS L) (.int .i64 x) = (seT L x).isSome := by
  show (L.map entS).any (fun q => q.1.sameKey (.int .i64 x)) = _
  have h := mapS_find L x
  cases hf : seT L x with
  | none =>
    rw [hf] at h
    have h2 := List.find?_eq_none.1 h
    rw [List.any_eq_false.2 h2]; rfl
  | some t =>
    rw [hf] at h
    rw [List.any_eq_true.2 ⟨_, List.mem_of_find?_eq_some h, List.find?_some h⟩]; rfl
theorem mapS_size (L : List Se) : Maps.size (mapS L) = L.length := by simp [mapS, Maps.size]
/-- Put in, what stands at the key taken out before, is either a new one or one for an old one. -/
theorem insS_map (L : List Se) (s : Se) : DataW.insert (entS s) (L.map entS) = (insQ L s).map entS := by
  induction L with
  | nil => rfl
  | cons u L ih =>
    rw [insQ, List.map_cons, DataW.insert]
    by_cases h : s.ss < u.ss
    · rw [if_pos (by simpa [entS, Lit.before] using h), if_pos h]; rfl
    · rw [if_neg (by simpa [entS, Lit.before] using h), if_neg h, List.map_cons, ih]
theorem offS_map (L : List Se) (x : Int) : (L.map entS).filter (fun q => !q.1.sameKey (.int .i64 x)) = (L.filter fun u => decide (u.ss ≠ x)).map entS := by
  rw [List.filter_map]
  congr 2
  funext u
  simp [entS, same_key]
theorem mapS_put (L : List Se) (s : Se) : (mapS L).put (.int .i64 s.ss) (.held s.val) = mapS (insQ (L.filter fun u => decide (u.ss ≠ s.ss)) s) := by
  unfold mapS DataW.put
  simp only [offS_map]
  rw [← insS_map]; rfl
theorem offS_new {L : List Se} {x : Int} (h : seT L x = none) : L.filter (fun u => decide (u.ss ≠ x)) = L :=
  List.filter_eq_self.2 fun u hu => by simpa using seT_none h u hu
theorem insQ_low {L : List Se} {s : Se} (h : ∀ u ∈ L, s.ss < u.ss) : insQ L s = s :: L := by
  cases L with
  | nil => rfl
  | cons u L => rw [insQ, if_pos (h u (by simp))]
theorem insQ_old {L : List Se} (h : SrtS L) {s : Se} (hs : (seT L s.ss).isSome = true) : insQ (L.filter fun u => decide (u.ss ≠ s.ss)) s = setQ L s := by
  induction L with
  | nil => cases hs
  | cons u L ih =>
    obtain ⟨h1, h2⟩ := List.pairwise_cons.1 h
    by_cases he : u.ss = s.ss
    · have hL : ∀ v ∈ L, v.ss ≠ s.ss := fun v hv => by have := h1 v hv; omega
      have e1 : (u :: L).filter (fun v => decide (v.ss ≠ s.ss)) = L := by
        rw [List.filter_cons, if_neg (by simpa using he)]
        exact List.filter_eq_self.2 fun v hv => by simpa using hL v hv
      have e2 : setQ (u :: L) s = s :: L := by
        unfold setQ
        rw [List.map_cons, if_pos he]
        congr 1
        conv => rhs; rw [← List.map_id L]
        exact List.map_congr_left fun v hv => by rw [if_neg (hL v hv)]; rfl
      rw [e1, e2]
      exact insQ_low fun v hv => by have := h1 v hv; omega
    · have hs2 : (seT L s.ss).isSome = true := by
        unfold seT at hs ⊢
        rw [List.find?_cons, decide_eq_false he] at hs
        exact hs
      obtain ⟨v, hv⟩ := Option.isSome_iff_exists.1 hs2
      obtain ⟨hv1, hv2⟩ := seT_some hv
      have h3 := h1 v hv1
      rw [List.filter_cons, if_pos (by simpa using he), insQ, if_neg (by omega), ih h2 hs2]
      unfold setQ
      rw [List.map_cons, if_neg he]

/-- A table in block t, its map in block m. -/
structure Tb (w : World) (t m : Nat) (L : List Se) : Prop where
  hp : w.heap[t]? = some (.cells #[.map (some m)] 174 (0, 0))
  own : w.ownsMap Tryz.prog 3 seElem m L.length (mapS L)
  ne : t ≠ m
  gr : GrS L
section
variable {w w' : World} {t m : Nat} {L : List Se} {S2 : Nat → Prop}
theorem Tb.lt (h : Tb w t m L) : t < w.heap.size := (Array.getElem?_eq_some_iff.1 h.hp).1
theorem Tb.ltm (h : Tb w t m L) : m < w.heap.size := h.own.lt
theorem Tb.fr (h : Tb w t m L) (hf : Fr S2 w w') (h1 : ¬ S2 t) (h2 : ¬ S2 m) : Tb w' t m L :=
  ⟨(hf.block t h.lt h1).trans h.hp, owns_eq h.own (hf.block m h.ltm h2), h.ne, h.gr⟩
theorem Tb.below {B : Nat} (h : Tb w t m L) (hb : Below B w w') (hB : w.heap.size ≤ B) : Tb w' t m L :=
  h.fr (S2 := fun _ => False) ⟨hb.os, hb.tape, hb.output, hb.size, fun k hk _ => hb.block k (by omega)⟩ (fun h => h) (fun h => h)
theorem Tb.drewN (h : Tb w t m L) (n : Nat) : Tb (w.drewN n) t m L := h.below (below_drew' w n) (Nat.le_refl _)
/-- A seat of the table, or the seat of nobody. -/
def seatAt (L : List Se) (x : Int) : Se := (seT L x).getD Se.zero
theorem Tb.look (h : Tb w t m L) {x : Int} (hx : wfI x) (W : World) (he : W.heap[m]? = w.heap[m]?) :
    (Instr.lookup 172 (.map (some m)) (.int .i64 x) false).run Tryz.prog W = .ok (seatAt L x).val W ∧
    (Instr.lookup 172 (.map (some m)) (.int .i64 x) true).run Tryz.prog W = .ok (.tuple #[(seatAt L x).val, .bool (seT L x).isSome]) W := by
  have hz : (zeroValue 58).run Tryz.prog W = .ok Se.zero.val W := Tryz.zeroValue58 W
  obtain ⟨v, ps, hrun, hv⟩ := (owns_eq h.own he).lookup keyLaw Tryz.underlying172 hz (zd := .held Se.zero.val) (zp := []) (seElem_val _) (keyI hx)
  obtain ⟨v2, ps2, hrun2, hv2⟩ := (owns_eq h.own he).look_ok keyLaw Tryz.underlying172 hz (zd := .held Se.zero.val) (zp := []) (seElem_val _) (keyI hx)
  have key : (mapS L).atKey (.int .i64 x) (.held Se.zero.val) = .held (seatAt L x).val := by
    rw [mapS_at]
    unfold seatAt
    cases seT L x <;> rfl
  rw [key] at hv hv2
  have e1 : v = (seatAt L x).val := by
    obtain ⟨s, rfl, hy⟩ := seElem_inv hv
    exact (DataW.held.inj (congrArg Prod.fst hy)).symm
  have e2 : v2 = (seatAt L x).val := by
    obtain ⟨s, rfl, hy⟩ := seElem_inv hv2
    exact (DataW.held.inj (congrArg Prod.fst hy)).symm
  rw [e1] at hrun
  rw [e2, mapS_has] at hrun2
  exact ⟨hrun, hrun2⟩
theorem Tb.len (h : Tb w t m L) (ty : TypeId) : (Builtin.len_ #[172] ty #[.map (some m)]).run Tryz.prog w = .ok (.int .i64 L.length) w := by
  rw [h.own.len Tryz.underlying172 ty, mapS_size]
/-- A seat is laid into the map. -/
theorem Tb.put (h : Tb w t m L) (s : Se) (hx : wfI s.ss) {L2 : List Se} (he : insQ (L.filter fun u => decide (u.ss ≠ s.ss)) s = L2) (hg : GrS L2) (W : World) (hW : W.heap[t]? = w.heap[t]? ∧ W.heap[m]? = w.heap[m]?) :
    ∃ w2, (Instr.mapUpdate 172 (.map (some m)) (.int .i64 s.ss) s.val).run Tryz.prog W = .ok () w2 ∧ Fr (fun k => k = m) W w2 ∧ w2.heap.size = W.heap.size ∧ Tb w2 t m L2 := by
  have hlen := h.gr.len
  obtain ⟨w2, hrun, hown, ht⟩ := (owns_eq h.own hW.2).store keyLaw Tryz.underlying172 (by unfold maxLen; omega) (keyI hx) (val := s.val) (d := .held s.val) (ps := []) (seElem_val _)
  rw [mapS_put, he] at hown
  have hf2 : Fr (fun k => k = m) W w2 := Fr.of_grown ht.grown (fun k hk => (Option.some.inj hk).symm)
  have hz : w2.heap.size = W.heap.size := by
    obtain ⟨es, clock, es', clock', _, rfl⟩ := ht; simp [ChangeMaps.setBlock]
  have htl : t < W.heap.size := (Array.getElem?_eq_some_iff.1 (hW.1.trans h.hp)).1
  exact ⟨w2, hrun, hf2, hz, (hf2.block t htl h.ne).trans (hW.1.trans h.hp), own_shrink hown (by rw [mapS_size]; exact Nat.le_refl _), h.ne, hg⟩
end

/-- What a call leaves that makes a table. -/
def ResTb (w : World) (L : List Se) (e : Ending) (w' : World) : Prop :=
  ∃ t m, e = .returned (.pointer (some ⟨t, 0, none⟩)) ∧ Tb w' t m L ∧ w.heap.size ≤ t ∧ w.heap.size ≤ m ∧ Below w.heap.size w w'

set_option maxRecDepth 100000 in
theorem tnew_any (w : World) : Calls Tryz.prog 86 #[] w (ResTb w []) := by
  have hmm := @run_makeMap Tryz.prog
  go_enter Tryz.func86, Tryz.ntmps86
  go_wp2_with fail
  go_ret
  refine ⟨w.heap.size + 1, w.heap.size, rfl, ⟨?_, ?_, by omega, GrS.nil⟩, by omega, by omega, ?_⟩
  · exact heap_at (by simp)
  · have h := World.ownsMap_made w Tryz.prog 3 seElem
    exact h.alloc _
  · exact ((Below.refl _ _).alloc (Nat.le_refl _) _).alloc (by simp) _

set_option maxRecDepth 100000 in
theorem tmade_any {w : World} {t m : Nat} {L : List Se} (h : Tb w t m L) :
    Calls Tryz.prog 114 #[.pointer (some ⟨t, 0, none⟩)] w fun e w' => e = .returned (.bool true) ∧ w = w' := by
  have hc := blk_cell h.hp
  have hq := fun W : World => run_neq_map_nil (P := Tryz.prog) W 172 _ _ (some m) Tryz.underlying172
  clear h
  go_enter Tryz.func114, Tryz.ntmps114
  go_wp2_with fail
  go_ret
  exact ⟨rfl, rfl⟩

/-- May it be a session's number? -/
def idxB (x : Int) : Bool := decide (1 ≤ x) && decide (x ≤ 1099511627776)
set_option maxRecDepth 100000 in
theorem index_any (w : World) (x : Int) :
    Calls Tryz.prog 142 #[.int .i64 x] w fun e w' => e = .returned (.bool (idxB x)) ∧ w = w' := by
  unfold idxB
  go_enter Tryz.func142, Tryz.ntmps142
  by_cases h1 : 1 ≤ x
  · by_cases h2 : x ≤ 1099511627776
    · go_wp2_with fail
      go_ret
      exact ⟨by rw [decide_eq_true h1, decide_eq_true h2]; rfl, rfl⟩
    · go_wp2_with fail
      go_ret
      exact ⟨by rw [decide_eq_false (by omega)]; rfl, rfl⟩
  · go_wp2_with fail
    go_ret
    exact ⟨by rw [decide_eq_false (by omega)]; rfl, rfl⟩

theorem seat_fld (a0 a1 a2 a3 a4 a5 a6 a7 a8 a9 a10 : Value) (w : World) : (Instr.field 58 (.agg #[a0, a1, a2, a3, a4, a5, a6, a7, a8, a9, a10]) 0).run Tryz.prog w = .ok a0 w := by kernel_rfl
/-- What Open leaves. -/
def ResOpn (w : World) (t m : Nat) (L : List Se) (x : Int) (e : Ending) (w' : World) : Prop :=
  e = .returned (.int .i64 (opnS L x).2) ∧ Tb w' t m (opnS L x).1 ∧ Fr (fun k => k = m) w w'
set_option maxRecDepth 100000 in
set_option maxHeartbeats 1000000 in
theorem topen_any {w : World} {t m : Nat} {L : List Se} (h : Tb w t m L) (x : Int) (hx : wfI x) :
    Calls Tryz.prog 119 #[.pointer (some ⟨t, 0, none⟩), .int .i64 x] w (ResOpn w t m L x) := by
  have hc := blk_cell h.hp
  have HM := Lib.hid (tmade_any h)
  have HT := Lib.hid h
  have hl := (h.look hx w rfl).1
  have hlen := h.len 3
  have HI := Lib.hid (index_any w x)
  have h8 := h.gr.len
  have HGO := Lib.hid (h.gr.opn x)
  by_cases h1 : idxB x = true
  · cases hs : seT L x with
    | some s =>
      have he : opnS L x = (L, 1) := by unfold opnS; rw [if_pos (.inr (.inr (by rw [hs]; rfl)))]
      obtain ⟨hm, hsx⟩ := seT_some hs
      have hge : 1 ≤ s.ss := (h.gr.ok s hm).1
      have ea : seatAt L x = s := by unfold seatAt; rw [hs]; rfl
      rw [ea] at hl
      dsimp only [Se.val, Se.zero, Rp.zero] at hl
      have hfd := seat_fld
      unfold ResOpn
      rw [he]
      rw [h1] at HI
      clear h HGO he hm
      go_enter Tryz.func119, Tryz.ntmps119
      go_wp2_with fail
      refine HM.out.mono ?_
      rintro e w1 ⟨rfl, rfl⟩
      go_wp2_with fail
      refine HI.out.mono ?_
      rintro e w1 ⟨rfl, rfl⟩
      go_wp2_with fail
      go_ret
      exact ⟨rfl, HT.out, Fr.refl _ _⟩
    | none =>
      have h1b := h1
      unfold idxB at h1b
      simp only [Bool.and_eq_true, decide_eq_true_eq] at h1b
      have he : opnS L x = if 8 ≤ L.length then (L, 7) else (insQ L ⟨x, 0, x, Rp.zero⟩, 0) := by unfold opnS; rw [if_neg (by rw [hs]; simp only [Option.isSome_none]; rintro (h | h | h) <;> first | omega | cases h)]
      have ea : seatAt L x = Se.zero := by unfold seatAt; rw [hs]; rfl
      rw [ea] at hl
      dsimp only [Se.val, Se.zero, Rp.zero] at hl
      have hfd := seat_fld
      unfold ResOpn
      rw [h1] at HI
      rw [he] at HGO ⊢
      by_cases h8L : 8 ≤ L.length
      · rw [if_pos h8L]
        clear h HGO he hs
        generalize hn : L.length = n at *
        clear hn
        go_enter Tryz.func119, Tryz.ntmps119
        go_wp2_with fail
        refine HM.out.mono ?_
        rintro e w1 ⟨rfl, rfl⟩
        go_wp2_with fail
        refine HI.out.mono ?_
        rintro e w1 ⟨rfl, rfl⟩
        go_wp2_with fail
        go_ret
        exact ⟨rfl, HT.out, Fr.refl _ _⟩
      · rw [if_neg h8L] at HGO ⊢
        obtain ⟨w2, hrun, hfr, hz, htb⟩ := h.put ⟨x, 0, x, Rp.zero⟩ hx (by rw [offS_new hs]) HGO.out w ⟨rfl, rfl⟩
        dsimp only [Rp.zero] at hrun
        have HTB := Lib.hid htb
        have HFR := Lib.hid hfr
        clear h HGO he hs hfr htb hz
        generalize hn : L.length = n at *
        clear hn
        go_enter Tryz.func119, Tryz.ntmps119
        go_wp2_with fail
        refine HM.out.mono ?_
        rintro e w1 ⟨rfl, rfl⟩
        go_wp2_with fail
        refine HI.out.mono ?_
        rintro e w1 ⟨rfl, rfl⟩
        go_wp2_with fail
        go_ret
        exact ⟨rfl, HTB.out, HFR.out⟩
  · have h1f : idxB x = false := by simpa using h1
    have he : opnS L x = (L, 1) := by
      unfold opnS
      rw [if_pos]
      unfold idxB at h1f
      by_cases h2 : 1 ≤ x
      · rw [decide_eq_true h2, Bool.true_and, decide_eq_false_iff_not] at h1f
        exact .inr (.inl (by omega))
      · exact .inl (by omega)
    unfold ResOpn
    rw [he]
    rw [h1f] at HI
    clear h HGO he h1f h1 hl
    go_enter Tryz.func119, Tryz.ntmps119
    go_wp2_with fail
    refine HM.out.mono ?_
    rintro e w1 ⟨rfl, rfl⟩
    go_wp2_with fail
    refine HI.out.mono ?_
    rintro e w1 ⟨rfl, rfl⟩
    go_wp2_with fail
    go_ret
    exact ⟨rfl, HT.out, Fr.refl _ _⟩

/-- What Ask leaves. -/
def ResAsk (w : World) (L : List Se) (x q : Int) (e : Ending) (w' : World) : Prop :=
  e = .returned (.tuple #[(askS L x q).1.val, .bool (askS L x q).2.1, .int .i64 (askS L x q).2.2]) ∧ Below w.heap.size w w'
set_option maxRecDepth 100000 in
set_option maxHeartbeats 2000000 in
theorem task_any {w : World} {t m : Nat} {L : List Se} (h : Tb w t m L) (x q : Int) (hx : wfI x) (hq : q ≤ 9223372036854775807) :
    Calls Tryz.prog 150 #[.pointer (some ⟨t, 0, none⟩), .int .i64 x, .int .i64 q] w (ResAsk w L x q) := by
  have hc := blk_cell h.hp
  have hml := h.ltm
  have htl := h.lt
  have HB : Hid (∀ W, Below w.heap.size w W → Calls Tryz.prog 114 #[.pointer (some ⟨t, 0, none⟩)] W fun e w' => e = .returned (.bool true) ∧ W = w') := Lib.hid fun W hW => tmade_any (h.below hW (Nat.le_refl _))
  have HL : Hid (∀ W, Below w.heap.size w W → (Instr.lookup 172 (.map (some m)) (.int .i64 x) true).run Tryz.prog W = .ok (.tuple #[(seatAt L x).val, .bool (seT L x).isSome]) W) := Lib.hid fun W hW => (h.look hx W (hW.block m hml)).2
  unfold ResAsk
  clear h hml
  have hB2 : ∀ o1 o2, Below w.heap.size w ((w.alloc o1).alloc o2) := fun o1 o2 => ((Below.refl _ _).alloc (Nat.le_refl _) _).alloc (by simp) _
  have HB2 := Lib.hid hB2
  clear hB2
  unfold askS
  unfold seatAt at HL
  cases hs : seT L x with
  | none =>
    rw [hs] at HL
    dsimp only [Option.getD, Option.isSome, Se.zero, Rp.zero, Se.val, Rp.val] at HL ⊢
    go_enter Tryz.func150, Tryz.ntmps150
    go_wp2_with fail
    have hk := HB2.out (.cells #[.int .i64 0, .int .i64 0, .int .i64 0, .int .i64 0, .int .i64 0, .int .i64 0, .int .i64 0, .int .i64 0] 56 (0, 0)) (.cells #[.int .i64 0, .int .i64 0, .int .i64 0, .int .i64 0, .int .i64 0, .int .i64 0, .int .i64 0, .int .i64 0] 56 (0, 0))
    refine (HB.out _ hk).mono ?_
    rintro e w1 ⟨rfl, rfl⟩
    have hl := HL.out _ hk
    go_wp2_with fail
    refine bodyPost_ret (v := .tuple #[.agg #[.int .i64 0, .int .i64 0, .int .i64 0, .int .i64 0, .int .i64 0, .int .i64 0, .int .i64 0, .int .i64 0], .bool false, .int .i64 80]) (by simp [results, Tryz.results150, go_sem]) rfl ?_
    refine ⟨rfl, ?_⟩
    repeat (first | with_reducible exact hk | exact Below.refl _ _ | refine Below.setCell ?_ (by simp only <;> omega) _ | refine Below.alloc ?_ (by simp <;> omega) _)
  | some s =>
    rw [hs] at HL
    dsimp only [Option.getD, Option.isSome, Se.val, Rp.val, Rp.zero] at HL ⊢
    clear hs
    by_cases h1 : q < s.sq
    · rw [if_pos (.inl h1)]
      go_enter Tryz.func150, Tryz.ntmps150
      go_wp2_with fail
      have hk := HB2.out (.cells #[.int .i64 0, .int .i64 0, .int .i64 0, .int .i64 0, .int .i64 0, .int .i64 0, .int .i64 0, .int .i64 0] 56 (0, 0)) (.cells #[.int .i64 0, .int .i64 0, .int .i64 0, .int .i64 0, .int .i64 0, .int .i64 0, .int .i64 0, .int .i64 0] 56 (0, 0))
      refine (HB.out _ hk).mono ?_
      rintro e w1 ⟨rfl, rfl⟩
      have hl := HL.out _ hk
      go_wp2_with fail
      refine bodyPost_ret (v := .tuple #[.agg #[.int .i64 0, .int .i64 0, .int .i64 0, .int .i64 0, .int .i64 0, .int .i64 0, .int .i64 0, .int .i64 0], .bool false, .int .i64 81]) (by simp [results, Tryz.results150, go_sem]) rfl ?_
      refine ⟨rfl, ?_⟩
      repeat (first | with_reducible exact hk | exact Below.refl _ _ | refine Below.setCell ?_ (by simp only <;> omega) _ | refine Below.alloc ?_ (by simp <;> omega) _)
    · by_cases h2 : q < 1
      · rw [if_pos (.inr h2)]
        go_enter Tryz.func150, Tryz.ntmps150
        go_wp2_with fail
        have hk := HB2.out (.cells #[.int .i64 0, .int .i64 0, .int .i64 0, .int .i64 0, .int .i64 0, .int .i64 0, .int .i64 0, .int .i64 0] 56 (0, 0)) (.cells #[.int .i64 0, .int .i64 0, .int .i64 0, .int .i64 0, .int .i64 0, .int .i64 0, .int .i64 0, .int .i64 0] 56 (0, 0))
        refine (HB.out _ hk).mono ?_
        rintro e w1 ⟨rfl, rfl⟩
        have hl := HL.out _ hk
        go_wp2_with fail
        refine bodyPost_ret (v := .tuple #[.agg #[.int .i64 0, .int .i64 0, .int .i64 0, .int .i64 0, .int .i64 0, .int .i64 0, .int .i64 0, .int .i64 0], .bool false, .int .i64 81]) (by simp [results, Tryz.results150, go_sem]) rfl ?_
        refine ⟨rfl, ?_⟩
        repeat (first | with_reducible exact hk | exact Below.refl _ _ | refine Below.setCell ?_ (by simp only <;> omega) _ | refine Below.alloc ?_ (by simp <;> omega) _)
      · rw [if_neg (by omega)]
        by_cases h3 : q = s.sq
        · rw [if_pos h3]
          subst h3
          go_enter Tryz.func150, Tryz.ntmps150
          go_wp2_with fail
          have hk := HB2.out (.cells #[.int .i64 0, .int .i64 0, .int .i64 0, .int .i64 0, .int .i64 0, .int .i64 0, .int .i64 0, .int .i64 0] 56 (0, 0)) (.cells #[.int .i64 0, .int .i64 0, .int .i64 0, .int .i64 0, .int .i64 0, .int .i64 0, .int .i64 0, .int .i64 0] 56 (0, 0))
          refine (HB.out _ hk).mono ?_
          rintro e w1 ⟨rfl, rfl⟩
          have hl := HL.out _ hk
          go_wp2_with fail
          refine bodyPost_ret (v := .tuple #[.agg #[.int .i64 s.r.er, .int .i64 s.r.ss, .int .i64 s.r.gn, .int .i64 s.r.ad, .int .i64 s.r.sa, .int .i64 s.r.ot, .int .i64 s.r.cy, .int .i64 s.r.fu], .bool true, .int .i64 0]) (by simp [results, Tryz.results150, go_sem]) rfl ?_
          refine ⟨rfl, ?_⟩
          repeat (first | with_reducible exact hk | exact Below.refl _ _ | refine Below.setCell ?_ (by simp only <;> omega) _ | refine Below.alloc ?_ (by simp <;> omega) _)
        · rw [if_neg h3]
          have hw1 : IntKind.i64.wrap (q - 1) = q - 1 := (IntWalk.i64_left _).trans (IntWalk.wrap64_in _ (by omega))
          by_cases h4 : s.sq < q - 1
          · rw [if_pos h4]
            go_enter Tryz.func150, Tryz.ntmps150
            go_wp2_with fail
            have hk := HB2.out (.cells #[.int .i64 0, .int .i64 0, .int .i64 0, .int .i64 0, .int .i64 0, .int .i64 0, .int .i64 0, .int .i64 0] 56 (0, 0)) (.cells #[.int .i64 0, .int .i64 0, .int .i64 0, .int .i64 0, .int .i64 0, .int .i64 0, .int .i64 0, .int .i64 0] 56 (0, 0))
            refine (HB.out _ hk).mono ?_
            rintro e w1 ⟨rfl, rfl⟩
            have hl := HL.out _ hk
            go_wp2_with fail
            refine bodyPost_ret (v := .tuple #[.agg #[.int .i64 0, .int .i64 0, .int .i64 0, .int .i64 0, .int .i64 0, .int .i64 0, .int .i64 0, .int .i64 0], .bool false, .int .i64 82]) (by simp [results, Tryz.results150, go_sem]) rfl ?_
            refine ⟨rfl, ?_⟩
            repeat (first | with_reducible exact hk | exact Below.refl _ _ | refine Below.setCell ?_ (by simp only <;> omega) _ | refine Below.alloc ?_ (by simp <;> omega) _)
          · rw [if_neg h4]
            go_enter Tryz.func150, Tryz.ntmps150
            go_wp2_with fail
            have hk := HB2.out (.cells #[.int .i64 0, .int .i64 0, .int .i64 0, .int .i64 0, .int .i64 0, .int .i64 0, .int .i64 0, .int .i64 0] 56 (0, 0)) (.cells #[.int .i64 0, .int .i64 0, .int .i64 0, .int .i64 0, .int .i64 0, .int .i64 0, .int .i64 0, .int .i64 0] 56 (0, 0))
            refine (HB.out _ hk).mono ?_
            rintro e w1 ⟨rfl, rfl⟩
            have hl := HL.out _ hk
            go_wp2_with fail
            refine bodyPost_ret (v := .tuple #[.agg #[.int .i64 0, .int .i64 0, .int .i64 0, .int .i64 0, .int .i64 0, .int .i64 0, .int .i64 0, .int .i64 0], .bool false, .int .i64 0]) (by simp [results, Tryz.results150, go_sem]) rfl ?_
            refine ⟨rfl, ?_⟩
            repeat (first | with_reducible exact hk | exact Below.refl _ _ | refine Below.setCell ?_ (by simp only <;> omega) _ | refine Below.alloc ?_ (by simp <;> omega) _)
end Go.Proofs.YtempkjnaahgbhaaGreatDoor
