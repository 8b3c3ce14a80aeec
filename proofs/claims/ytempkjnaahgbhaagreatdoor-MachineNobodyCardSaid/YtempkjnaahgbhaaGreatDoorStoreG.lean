/-
  The walk of a store's Retain: the traces that ended before a time go. Conditions: the store lies in memory as New made it.
  The walk of a store's Image: all that there is, as bytes. Conditions: the store lies in memory as New made it.
-/
import Derived.Test.YtempkjnaahgbhaaGreatDoorStoreA
import Derived.Test.YtempkjnaahgbhaaGreatDoorSched
import Derived.Test.YtempkjnaahgbhaaGreatDoorPut
import Derived.Test.YtempkjnaahgbhaaGreatDoorScanText
namespace Go.Proofs.YtempkjnaahgbhaaGreatDoor
open Go Go.RowKit Go.Maps Go.WideElems

theorem lt_of_cell {w : World} {b off : Nat} {v : Value} (h : w.cell? ⟨b, off, none⟩ = some v) : b < w.heap.size := by
  by_cases hb : b < w.heap.size
  · exact hb
  · simp [World.cell?, Array.getElem?_eq_none (Nat.le_of_not_lt hb)] at h
/-- A map over another reading of its elements, which agrees on what is there. -/
theorem owns_turn {H : Type} {P : Program} {k : TypeId} {R R' : Value → Option (DataW H × List MemPlace)} {w : World} {b n : Nat} {D : DataW H} (h : w.ownsMap P k R b n D) (hR : ∀ es, D = .map es → ∀ v z, R v = some z → (∃ kl, (kl, z.1) ∈ es) → R' v = some z) : w.ownsMap P k R' b (Maps.size D) D := by
  obtain ⟨es, clock, hb, F, hs, rfl⟩ := h
  have e : Maps.size (DataW.map ((es.toList.map (rg P k R)).foldr DataW.insert [])) = es.size := length_read es
  rw [e]
  refine World.ownsMap_of_fit hb F fun x hx z hz => hR _ rfl _ _ hz ?_
  obtain ⟨y, hy⟩ := F.reads x hx
  obtain ⟨z', hz', hy2⟩ := rd_val hy
  rw [hz] at hz'
  cases hz'
  exact ⟨y.1, mem_sorted.2 (List.mem_map.2 ⟨x, hx, by rw [rg_of hy, ← hy2]⟩)⟩
/-- The trace whose forest lies in a block. -/
def atB (p : Int → Nat) (T : List Tr) (b : Nat) : Option Tr := T.find? fun t => decide (p t.tr = b)
def ptIn (p : Int → Nat) (T : List Tr) : Value → Option (DataW Value × List MemPlace)
  | .pointer (some ⟨b, 0, none⟩) => if (atB p T b).isSome then some (.held (.pointer (some ⟨b, 0, none⟩)), []) else none
  | _ => none
theorem ptIn_inv {p : Int → Nat} {T : List Tr} {v : Value} {y : DataW Value × List MemPlace} (h : ptIn p T v = some y) : ∃ b t, v = .pointer (some ⟨b, 0, none⟩) ∧ atB p T b = some t ∧ y = (.held (.pointer (some ⟨b, 0, none⟩)), []) := by
  unfold ptIn at h
  split at h
  · rename_i b
    by_cases hb : (atB p T b).isSome = true
    · rw [if_pos hb] at h
      obtain ⟨t, ht⟩ := Option.isSome_iff_exists.1 hb
      exact ⟨b, t, rfl, ht, (Option.some.inj h).symm⟩
    · rw [if_neg hb] at h; cases h
  · cases h
theorem atB_some {p : Int → Nat} {T : List Tr} {b : Nat} {t : Tr} (h : atB p T b = some t) : t ∈ T ∧ p t.tr = b := by
  have h1 := List.find?_some h
  exact ⟨List.mem_of_find?_eq_some h, by simpa using h1⟩
theorem atB_mem {p : Int → Nat} {T : List Tr} (hinj : ∀ t ∈ T, ∀ u ∈ T, p t.tr = p u.tr → t = u) {t : Tr} (ht : t ∈ T) : atB p T (p t.tr) = some t := by
  cases h : atB p T (p t.tr) with
  | none =>
    have := List.find?_eq_none.1 h t ht
    simp at this
  | some u =>
    obtain ⟨h1, h2⟩ := atB_some h
    rw [hinj u h1 t ht h2]
/-- Did it end before? -/
def goneD (p : Int → Nat) (T : List Tr) (z : Int) (_ : Lit) : DataW Value → Bool
  | .held (.pointer (some ⟨b, _, _⟩)) => match atB p T b with
    | some t => decide (endL t.L < z)
    | none => false
  | _ => false
theorem gone_ret {p : Int → Nat} {T : List Tr} (hinj : ∀ t ∈ T, ∀ u ∈ T, p t.tr = p u.tr → t = u) (z : Int) : Lib.deleteFuncD (goneD p T z) (mapT p T) = mapT p (retT T z) := by
  have key : ∀ T2 : List Tr, (∀ t ∈ T2, t ∈ T) → (T2.map (entT p)).filter (fun q => !goneD p T z q.1 q.2) = (retT T2 z).map (entT p) := by
    intro T2
    induction T2 with
    | nil => intro _; rfl
    | cons t T2 ih =>
      intro h
      have ih := ih fun t ht => h t (by simp [ht])
      have e : goneD p T z (entT p t).1 (entT p t).2 = decide (endL t.L < z) := by
        simp only [goneD, entT, atB_mem hinj (h t (by simp))]
      unfold retT at ih ⊢
      rw [List.map_cons]
      by_cases hlt : endL t.L < z
      · rw [List.filter_cons_of_neg (by rw [e]; simp [hlt]), List.filter_cons_of_neg (by simp <;> omega), ih]
      · rw [List.filter_cons_of_pos (by rw [e]; simp <;> omega), List.filter_cons_of_pos (by simp <;> omega), List.map_cons, ih]
  unfold mapT Lib.deleteFuncD
  simp only [key T (fun _ h => h)]
theorem grown_of_below {w w' : World} (h : Below w.heap.size w w') : w.grownBy w' none := ⟨h.os, h.tape, h.output, h.size, fun k hk _ => h.block k hk⟩

set_option maxRecDepth 100000 in
set_option maxHeartbeats 1000000 in
theorem gone_any {W : World} {p0 a0 d0 : Nat} {tr : Int} {L : List Sp} {SS : Nat → Prop} (h : Fo W p0 a0 d0 tr L SS) (k z : Int) (bx : Nat) (hx : W.cell? ⟨bx, 0, none⟩ = some (.int .i64 z)) :
    Calls Tryz.prog 155 (#[.int .i64 k, .pointer (some ⟨p0, 0, none⟩)] ++ #[.pointer (some ⟨bx, 0, none⟩)]) W fun e w' => e = .returned (.bool (decide (endL L < z))) ∧ W.grownBy w' none := by
  have HF := Lib.hid h
  have hbx := lt_of_cell hx
  have HX : Hid (∀ W', Below W.heap.size W W' → W'.cell? ⟨bx, 0, none⟩ = some (.int .i64 z)) := Lib.hid (fun W' hW => (hW.cell hbx).trans hx)
  clear h
  go_enter Tryz.func155, Tryz.ntmps155
  go_wp2_with fail
  refine wp_region_sched [(0, true), (2, true), (1, false), (3, true), (4, true)] (fun W' => Below W.heap.size W W') (by kernel_rfl) (by kernel_rfl) rfl (by kernel_rfl) ((Below.refl _ _).drew) ?_
  repeat (first | (apply sched_take rfl; (focus (first | rfl | (go_simp; done))); (focus (intro W' hW; have f1 := HX.out W' hW; go_simp; rfl)); (focus (intro K hK; go_simp; refine hK _ ?_; clear hK K))) | (apply sched_skip rfl; (focus (first | rfl | (go_simp; done))); (focus (intro K hK; go_simp; refine hK _ ?_; clear hK K))))
  apply sched_op rfl
  intro K hK
  go_simp
  go_wp2_with (fail)
  refine (fend_any (HF.out.drewN 1)).mono ?_
  rintro e v1 ⟨rfl, hb⟩
  have hk1 : Below W.heap.size W v1 := (Below.refl _ _).drew.trans (hb.mono (Nat.le_refl _))
  go_wp2_with fail
  refine ⟨by exact hk1, ?_⟩
  repeat (first | (apply sched_take rfl; (focus (first | rfl | (go_simp; done))); (focus (intro W' hW; have f1 := HX.out W' hW; go_simp; rfl)); (focus (intro K hK; go_simp; refine hK _ ?_; clear hK K))) | (apply sched_skip rfl; (focus (first | rfl | (go_simp; done))); (focus (intro K hK; go_simp; refine hK _ ?_; clear hK K))))
  refine sched_nil ?_
  go_wp2_with fail
  go_ret
  exact ⟨rfl, grown_of_below hk1⟩

set_option maxRecDepth 100000 in
set_option maxHeartbeats 2000000 in
theorem delete_any {w : World} {s m : Nat} {T : List Tr} {S : Nat → Prop} (h : St w s m T S) (z : Int) (bx : Nat) (hx : w.cell? ⟨bx, 0, none⟩ = some (.int .i64 z)) (hbm : bx ≠ m) :
    Calls Tryz.prog 154 #[.map (some m), .func (.func 155) #[] #[.pointer (some ⟨bx, 0, none⟩)]] w fun e w' => e = .returned (.tuple #[]) ∧ St w' s m (retT T z) S ∧ Fr S w w' := by
  obtain ⟨p, a, d, SS, h1, h2, h3, h4⟩ := h.ex
  have hinj : ∀ t ∈ T, ∀ u ∈ T, p t.tr = p u.tr → t = u := fun t ht u hu e => by
    refine Classical.byContradiction fun hne => ?_
    have hk : t.tr ≠ u.tr := fun e2 => hne (by
      have g1 := getT_mem h.gr.srt ht
      have g2 := getT_mem h.gr.srt hu
      rw [e2, g2] at g1
      have := Option.some.inj g1
      obtain ⟨a1, b1⟩ := t
      obtain ⟨a2, b2⟩ := u
      simp only at e2 this
      rw [e2, this])
    exact h4 t ht u hu hk (p t.tr) (h2 t ht).sp (by rw [e]; exact (h2 u hu).sp)
  have hown := owns_turn (R' := ptIn p T) h1 (fun es he v y hv hm => by
    obtain ⟨a1, rfl, hy⟩ := ptElem_inv hv
    obtain ⟨kl, hm⟩ := hm
    have he2 : es = T.map (entT p) := by unfold mapT at he; exact (DataW.map.inj he).symm
    rw [he2] at hm
    obtain ⟨t, ht, e⟩ := List.mem_map.1 hm
    have e2 := (Prod.mk.inj e).2
    rw [hy] at e2
    simp only [DataW.held.injEq, Value.pointer.injEq] at e2
    subst e2
    rw [hy]
    simp only [ptIn, atB_mem hinj ht, Option.isSome_some, if_true])
  have eg : ∀ args w, (callFunc 155 args).run Tryz.prog w = .ok (.enter 155 args) w := enters_of Tryz.func155 (by kernel_rfl) rfl
  have hcon := AnyDf.maps_DeleteFunc Tryz.delA keyLaw (ptIn p T) (goneD p T z) 155 #[.pointer (some ⟨bx, 0, none⟩)] m _ (mapT p T) w eg hown (fun W key val kl yd yp hW hkey hv => by
    obtain ⟨x, rfl, rfl, _⟩ := keyOf_int_inv Tryz.underlying3 hkey
    obtain ⟨b, t, rfl, hb, hy⟩ := ptIn_inv hv
    obtain ⟨ht, hpt⟩ := atB_some hb
    have hyd : yd = .held (.pointer (some ⟨b, 0, none⟩)) := congrArg Prod.fst hy
    subst hyd
    have hfW : Fo W (p t.tr) (a t.tr) (d t.tr) t.tr t.L (SS t.tr) := (h2 t ht).fr (Fr.of_grown (S := fun k => k = m) hW (fun k hk => (Option.some.inj hk).symm)) (fun k hk e => (h3 t ht k hk).2.2 e)
    have hxW : W.cell? ⟨bx, 0, none⟩ = some (.int .i64 z) := by
      rw [← hx]
      have hbl := lt_of_cell hx
      simp only [World.cell?, hW.block bx hbl (by simp [hbm])]
    rw [hpt] at hfW
    have := gone_any hfW x z bx hxW
    have e : goneD p T z (.int .i64 x) (.held (.pointer (some ⟨b, 0, none⟩))) = decide (endL t.L < z) := by simp only [goneD, hb]
    rw [e]
    exact this)
  rw [gone_ret hinj] at hcon
  refine hcon.mono ?_
  rintro e w' ⟨rfl, hown2, hg⟩
  have hf : Fr (fun k => k = m) w w' := Fr.of_grown hg (fun k hk => (Option.some.inj hk).symm)
  have hown3 := owns_turn (R' := ptElem) hown2 (fun es _ v y hv _ => by
    obtain ⟨b, t, rfl, _, hy⟩ := ptIn_inv hv
    rw [hy]; rfl)
  rw [mapT_size] at hown3
  have hsub : ∀ t ∈ retT T z, t ∈ T := fun t ht => (List.mem_filter.1 ht).1
  refine ⟨rfl, ⟨(hf.block s (h.lt s h.ss) h.ne).trans h.hp, ⟨p, a, d, SS, hown3, fun t ht => (h2 t (hsub t ht)).fr hf (fun k hk e => (h3 t (hsub t ht) k hk).2.2 e), fun t ht => h3 t (hsub t ht), fun t ht u hu => h4 t (hsub t ht) u (hsub u hu)⟩, h.ss, h.sm, h.ne, h.gr.ret z, fun k hk => Nat.lt_of_lt_of_le (h.lt k hk) hf.size⟩, hf.mono (fun k hk => by rw [hk]; exact h.sm)⟩

/-- What Retain leaves. -/
def ResRet (w : World) (s m : Nat) (S : Nat → Prop) (T : List Tr) (z : Int) (e : Ending) (w' : World) : Prop :=
  e = .returned (.int .i64 ((T.length : Int) - ((retT T z).length : Int))) ∧ St w' s m (retT T z) S ∧ Fr S w w'
set_option maxRecDepth 100000 in
set_option maxHeartbeats 2000000 in
theorem retain_any {w : World} {s m : Nat} {T : List Tr} {S : Nat → Prop} (h : St w s m T S) (z : Int) :
    Calls Tryz.prog 122 #[.pointer (some ⟨s, 0, none⟩), .int .i64 z] w (ResRet w s m S T z) := by
  have hB : Below w.heap.size w (w.alloc (.cells #[.int .i64 z] 3)) := (Below.refl _ _).alloc (Nat.le_refl _) _
  have hst := h.below hB (Nat.le_refl _)
  have hsl := h.lt s h.ss
  have hml := h.lt m h.sm
  have hcs := blk_cell hst.hp
  have hlen := hst.len 3
  have hT32 := h.gr.len
  have hR32 := (h.gr.ret z).len
  have HM := Lib.hid (smade_any hst)
  have HD := Lib.hid (delete_any hst z w.heap.size (blk_cell (heap_alloc_new w _) 0) (by omega))
  have HB := Lib.hid hB
  clear h hst hB
  go_enter Tryz.func122, Tryz.ntmps122
  go_wp2_with fail
  refine HM.out.mono ?_
  rintro e w1 ⟨rfl, rfl⟩
  go_wp2_with fail
  refine HD.out.mono ?_
  rintro e w1 ⟨rfl, hst1, hfr1⟩
  have hc1 := blk_cell hst1.hp
  have hlen1 := hst1.len 3
  have HST := Lib.hid hst1
  have HFR := Lib.hid hfr1
  clear hcs hlen hst1 hfr1
  generalize hn : (retT T z).length = n at *
  have HN := Lib.hid hn
  clear hn
  go_wp2_with fail
  go_ret
  refine ⟨by rw [HN.out]; rfl, HST.out, (Fr.of_below HB.out).trans HFR.out⟩
end Go.Proofs.YtempkjnaahgbhaaGreatDoor
namespace Go.Proofs.YtempkjnaahgbhaaGreatDoor
open Go Go.RowKit Go.Maps

theorem fits_all {tr : Int} {L : List Sp} (h : Grown tr L) : (sortS L).all Sp.ok = true := List.all_eq_true.2 fun s hs => (fits_ok (h.fits s (sortS_mem.1 hs))).1
theorem putEnc_len {l : List Sp} (h : l.all Sp.ok = true) (hl : l.length ≤ 64) : (putEnc l).length ≤ 5600 := by
  have h1 := encL_len l (fun s hs => List.all_eq_true.1 h s hs)
  have h2 := (digits_len (n := l.length) (by omega)).2
  unfold putEnc
  rw [List.length_append]
  omega
theorem encT_len {t : Tr} (h : Grown t.tr t.L) : (encT t).length ≤ 5700 := by
  have h1 := putEnc_len (fits_all h) (by rw [sortS_len]; exact h.len)
  have h2 := (digits_len (n := (putEnc (sortS t.L)).length) (by omega)).2
  unfold encT
  rw [List.length_append]
  omega
theorem encTs_len {T : List Tr} (h : ∀ t ∈ T, Grown t.tr t.L) : (T.flatMap encT).length ≤ 5700 * T.length := by
  induction T with
  | nil => simp
  | cons t T ih =>
    have h1 := ih fun u hu => h u (by simp [hu])
    have h2 := encT_len (h t (by simp))
    rw [List.flatMap_cons, List.length_append, List.length_cons]; omega
theorem imgT_len {T : List Tr} (h : GrT T) : (imgT T).length ≤ 200000 := by
  have h1 := encTs_len fun t ht => (h.ok t ht).1
  have h2 := h.len
  have h3 := (digits_len (n := T.length) (by omega)).2
  unfold imgT
  rw [List.length_append]
  omega

set_option maxRecDepth 100000 in
set_option maxHeartbeats 2000000 in
theorem image_any {w : World} {s m : Nat} {T : List Tr} {S : Nat → Prop} (h : St w s m T S) :
    Calls Tryz.prog 83 #[.pointer (some ⟨s, 0, none⟩)] w (ResB w (imgT T)) := by
  have hcs := blk_cell h.hp
  have hlen := h.len 3
  have HST := Lib.hid h
  have HM := Lib.hid (smade_any h)
  have HGR := Lib.hid h.gr
  have hT32 := h.gr.len
  clear h
  go_enter Tryz.func83, Tryz.ntmps83
  go_wp2_with fail
  refine HM.out.mono ?_
  rintro e w1 ⟨rfl, rfl⟩
  go_wp2_with fail
  refine (number_nat none 0 0 0 [] T.length w (Nat.zero_le _) (by omega) (by omega) Rd.nil).mono ?_
  rintro e w1 ⟨A1, c1, rfl, hown1, hb1⟩
  rw [List.nil_append] at hown1 ⊢
  have hz1 := hb1.size
  have HO1 := Lib.hid hown1
  have HB1 := Lib.hid hb1
  have HST1 := Lib.hid (HST.out.below hb1 (Nat.le_refl _))
  have hcs1 := blk_cell HST1.out.hp
  have HD0 : Hid ((digits T.length).length ≤ 9) := Lib.hid ((digits_len (n := T.length) (by omega)).2)
  clear hown1 hb1 hcs hlen
  go_wp2_with fail
  refine (numbers_any HST1.out).mono ?_
  rintro e w2 ⟨A2, c2, rfl, hown2, hb2⟩
  have hz2 := hb2.size
  have htl : (trcT T).length = T.length := by simp [trcT]
  rw [htl] at hown2 ⊢
  have HTL := Lib.hid htl
  clear htl
  have HO2 : Hid (w2.ownsRow w1.heap.size 3 1 (.slice A2 T.length c2) T.length ((trcT T).map (Value.int .i64))) := Lib.hid hown2
  have HB2 : Hid (Below w.heap.size w w2) := Lib.hid (HB1.out.trans (hb2.mono hz1))
  have HO1b := Lib.hid (own_below HO1.out hb2)
  have HST2 := Lib.hid (HST1.out.below hb2 (Nat.le_refl _))
  clear hown2 hb2 hcs1
  go_wp2_with fail
  go_loopw [3, 23] (fun v i wr => ∃ (k : Nat) (A5 : Option Addr) (c5 : Nat) (acc : List UInt8), k ≤ T.length ∧ i = .int .i64 k ∧ acc = digits T.length ++ (T.take k).flatMap encT ∧ v = .slice A5 acc.length c5 ∧ wr.ownsRow w.heap.size 5 1 (.slice A5 acc.length c5) acc.length (acc.map u8v) ∧ Below w2.heap.size w2 wr) (fun _ i _ => T.length - (intOf i).toNat)
  case atStart => exact ⟨0, A1, c1, _, by omega, rfl, by simp, rfl, HO1b.out, Below.refl _ _⟩
  case round =>
    obtain ⟨k, A5, c5, acc, hk, rfl, hacc, rfl, hown, hb⟩ := hrel
    have HOWN := Lib.hid hown
    have HB := Lib.hid hb
    have HACC := Lib.hid hacc
    have hzr := hb.size
    have HSTR := Lib.hid (HST2.out.below hb (Nat.le_refl _))
    have hacl : acc.length ≤ 200000 := by
      rw [hacc]
      have h1 := encTs_len (T := T.take k) (fun t ht => (HGR.out.ok t (List.mem_of_mem_take ht)).1)
      have h2 := HD0.out
      rw [List.length_take] at h1
      rw [List.length_append]
      omega
    clear hown hb hacc
    by_cases hlt : k < T.length
    · have hk1 : (k : Int) < (T.length : Int) := by omega
      obtain ⟨b1, o1, rfl, hb1, x0⟩ := RdI.at_ (zs := trcT T) (Rd.below' (Rd.of_own HO2.out) HB.out (Nat.le_refl _) (Nat.le_refl _)) (k := k) (by rw [HTL.out]; exact hlt)
      have hx0 : (trcT T)[k]'(by rw [HTL.out]; exact hlt) = T[k].tr := by simp [trcT]
      rw [hx0] at x0
      have hmem : T[k] ∈ T := List.getElem_mem hlt
      have HTK : Hid ((T.take (k + 1)).flatMap encT = (T.take k).flatMap encT ++ encT T[k]) := Lib.hid (by rw [List.take_succ_eq_append_getElem hlt, List.flatMap_append]; simp)
      generalize T[k] = t at *
      have hwf := HSTR.out.key hmem
      have hget := getT_mem HGR.out.srt hmem
      have hgr := HGR.out.ok t hmem
      obtain ⟨v, hlk, hone⟩ := HSTR.out.look hwf
      unfold OneOf at hone
      rw [hget] at hone
      obtain ⟨p, a, d, SS, rfl, hf, _⟩ := hone
      have hl := hlk wr rfl
      have hcs := blk_cell HSTR.out.hp
      have HF := Lib.hid hf
      have HOK := Lib.hid (fits_all hgr.1)
      have HEL := Lib.hid (putEnc_len (fits_all hgr.1) (by rw [sortS_len]; exact hgr.1.len))
      have hsl : (sortS t.L).length ≤ 64 := by rw [sortS_len]; exact hgr.1.len
      clear hlk hf hget hx0
      go_wp2_with fail
      refine (fspans_any HF.out).mono ?_
      rintro e w3 ⟨A3, c3, rfl, hown3, hb3⟩
      have hz3 := hb3.size
      have HO3 := Lib.hid hown3
      have HB3 := Lib.hid hb3
      clear hown3 hb3 hl hcs
      go_wp2_with fail
      refine (Put_any A3 _ c3 w3.heap.size (sortS t.L) w3 (Nat.le_refl _) (by omega) (fun x hx => by
        have := ok_bounds (List.all_eq_true.1 HOK.out x hx); omega) (Rd.of_own HO3.out)).mono ?_
      rintro e w4 ⟨A4, c4, rfl, hown4, hb4⟩
      rw [putAns_ok HOK.out] at hown4 ⊢
      have hz4 := hb4.size
      dsimp only at hown4 ⊢
      have HENC : Hid (encT t = digits (putEnc (sortS t.L)).length ++ putEnc (sortS t.L)) := Lib.hid rfl
      have hel := HEL.out
      generalize putEnc (sortS t.L) = pe at *
      have hcv : ∀ W : World, Below w4.heap.size w4 W → (convert 32 9 (.slice A4 pe.length c4)).run Tryz.prog W = .ok (.string ⟨pe.toArray⟩) W := fun W hW => run_conv_bs Tryz.underlying32 Tryz.underlying5 Tryz.underlying9 (Rd.below' (Rd.of_own hown4) hW (Nat.le_refl _) (Nat.le_refl _)) c4
      have hcv4 := hcv w4 (Below.refl _ _)
      have HO4b : Hid (w4.ownsRow w.heap.size 5 1 (.slice A5 acc.length c5) acc.length (acc.map u8v)) := Lib.hid (own_below (own_below HOWN.out HB3.out) hb4)
      have HB4 : Hid (Below w2.heap.size w2 w4) := Lib.hid ((HB.out.trans (HB3.out.mono hzr)).trans (hb4.mono (by omega)))
      clear hown4 hb4 hcv
      go_wp2_with fail
      refine (text_any A5 acc.length c5 w4.heap.size acc ⟨pe.toArray⟩ w4 (Nat.le_refl _) (by omega) (by show pe.toArray.size ≤ _; simp; omega) (Rd.of_own HO4b.out)).mono ?_
      rintro e w5 ⟨A6, c6, rfl, hown6, hb6⟩
      have hsz : (⟨pe.toArray⟩ : ByteArray).size = pe.length := by show pe.toArray.size = _; simp
      have hdt : (⟨pe.toArray⟩ : ByteArray).data.toList = pe := by simp
      have hnew : acc ++ digits (⟨pe.toArray⟩ : ByteArray).size ++ (⟨pe.toArray⟩ : ByteArray).data.toList = digits T.length ++ (T.take (k + 1)).flatMap encT := by
        rw [hsz, hdt, HTK.out, HENC.out, HACC.out]; simp
      have HNEW := Lib.hid hnew
      have HO6 := Lib.hid (own_le hown6 (base' := w.heap.size) (by omega))
      have HB6 : Hid (Below w2.heap.size w2 w5) := Lib.hid (HB4.out.trans (hb6.mono (by omega)))
      clear hown6 hb6 hsz hdt hnew
      generalize acc ++ digits (⟨pe.toArray⟩ : ByteArray).size ++ (⟨pe.toArray⟩ : ByteArray).data.toList = acc2 at *
      go_wp2_with fail
      go_roundw
      case rel => exact ⟨k + 1, A6, c6, acc2, by omega, by go_num, HNEW.out, rfl, HO6.out, HB6.out⟩
      case measure => simp [intOf]; omega
    · have hk1 : ¬ (k : Int) < (T.length : Int) := by omega
      have he : acc = imgT T := by
        rw [HACC.out, List.take_of_length_le (by omega)]; rfl
      subst he
      go_wp2_with fail
      go_ret
      exact ⟨A5, c5, rfl, HOWN.out, HB2.out.trans (HB.out.mono HB2.out.size)⟩
end Go.Proofs.YtempkjnaahgbhaaGreatDoor
