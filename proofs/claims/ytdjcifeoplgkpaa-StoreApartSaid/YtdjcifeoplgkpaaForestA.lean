/-
  One more span laid into a forest: the steps' runs, and the forest behind them. Conditions: the forest lies in memory as New made it; the span may be added.
-/
import Derived.Test.YtdjcifeoplgkpaaForest1
namespace Go.Proofs.Ytdjcifeoplgkpaa
open Go Go.RowKit Go.Maps

theorem Try.infoInt : (Try.prog.info? 3).map (fun i => (i.zero, i.size, i.bytes)) = some (some (.int .i64 0), 1, 8) := by kernel_rfl

theorem Fo.addSteps {v : World} {p a d : Nat} {tr : Int} {L : List Sp} {S : Nat → Prop} (h : Fo v p a d tr L S) (s : Sp) (hfit : fits tr s = true) (hn : atS L s.id = none) (hl : L.length < 64) (hab : aboveB L s.pa s.id = false) :
    ∃ w3, (Instr.mapUpdate 101 (.map (some a)) (.int .i64 s.id) s.val).run Try.prog v.drew = .ok () w3 ∧ Fr (fun k => k = a) v w3 ∧ w3.heap.size = v.heap.size ∧
      ∃ A0 c0, (∀ w' : World, w'.heap[d]? = w3.heap[d]? → (Instr.lookup 103 (.map (some d)) (.int .i64 s.pa) false).run Try.prog w' = .ok (.slice A0 (kidIds L s.pa).length c0) w') ∧
        ∃ A' c' w5, (Builtin.append_ #[29, 29] 29 #[.slice A0 (kidIds L s.pa).length c0, .slice (some ⟨w3.heap.size, 0, none⟩) 1 1]).run Try.prog (w3.alloc (.cells #[.int .i64 s.id] 3)).drew = .ok (.slice A' ((kidIds L s.pa).length + 1) c') w5 ∧
          Fr (fun k => S k ∧ k ≠ p ∧ k ≠ a) w3 w5 ∧
          ∃ w6, (Instr.mapUpdate 103 (.map (some d)) (.int .i64 s.pa) (.slice A' ((kidIds L s.pa).length + 1) c')).run Try.prog w5 = .ok () w6 ∧
            Fo w6 p a d tr (L ++ [s]) (fun k => S k ∨ (v.heap.size ≤ k ∧ k < w6.heap.size)) ∧ Fr S v w6 ∧ Fr (fun k => S k ∧ k ≠ p ∧ k ≠ a) w3 w6 := by
  obtain ⟨i0, hi0, hz0, hz1, hz2⟩ := info_parts Try.infoInt
  have hb := ok_bounds (fits_ok hfit).1
  have hAD : AllAt v.drew a L := h.all
  obtain ⟨w3, hrun3, hall3, hg3, hsz3'⟩ := hAD.store hn (wfI_of (by omega) (by omega)) hl
  have hf3 : Fr (fun k => k = a) v w3 := (Fr.refl _ _).drew.trans (Fr.of_grown hg3 (fun k hk => (Option.some.inj hk).symm))
  have hsz3 : w3.heap.size = v.heap.size := hsz3'
  have hd3 : DownAt w3 d L (rowsOf S p a d) := h.down.fr hf3 (fun e => h.ad e.symm) (fun k hk => hk.2.2.1)
  obtain ⟨A0, c0, hlk, hown0, hA0, hback⟩ := hd3.look (wfI_of (x := s.pa) (by omega) (by omega))
  have hkl : (kidIds L s.pa).length ≤ L.length := by rw [kidIds, List.length_map]; exact List.length_filter_le _ _
  have hown4 : (w3.alloc (.cells #[.int .i64 s.id] 3)).drew.ownsRow 0 3 1 (.slice A0 (kidIds L s.pa).length c0) (kidIds L s.pa).length ((kidIds L s.pa).map (Value.int .i64)) := hown0.alloc _
  have hrd : Rd (w3.alloc (.cells #[.int .i64 s.id] 3)).drew (w3.heap.size + 1) 1 (some ⟨w3.heap.size, 0, none⟩) 1 [Value.int .i64 s.id] := Rd.drew (Rd.new rfl rfl (fun j hj => by match j, hj with | 0, _ => rfl))
  obtain ⟨A', c', w5, hrun5, hown5, hg5, hloc5⟩ := run_app (P := Try.prog) (w3.alloc (.cells #[.int .i64 s.id] 3)).drew 0 29 29 3 i0 _ 1 8 Try.underlying29 hi0 hz0 hz1 hz2 rfl (by omega) A0 _ c0 _ hown4 _ _ 1 1 _ hrd (by intro u hu; obtain rfl := List.mem_singleton.1 hu; rfl) (by unfold maxLen; omega) (by omega) (Nat.zero_le _)
  have hf45 : Fr (fun k => A0.map (·.block) = some k) w3 w5 := ((Fr.refl (fun k => A0.map (·.block) = some k) w3).alloc _).drew.trans (Fr.of_grown hg5 (fun k hk => hk))
  have hf35 : Fr (fun k => S k ∧ k ≠ p ∧ k ≠ a) w3 w5 := hf45.mono (fun k hk => ⟨(hA0 k hk).1, (hA0 k hk).2.1, (hA0 k hk).2.2.1⟩)
  have hSlt3 : ∀ k, rowsOf S p a d k → k < w3.heap.size := fun k hk => by rw [hsz3]; exact h.lt k hk.1
  have hdn : ¬ rowsOf S p a d d := fun hk => hk.2.2.2 rfl
  have e1 : (kidIds L s.pa ++ [s.id]).length = (kidIds L s.pa).length + 1 := by simp
  have hb6 := hback s w5 A' c' rfl hl (by rw [e1]; simpa using hown5) hf45 hdn (hloc5.imp id fun h5 => ⟨_, h5, by simp [World.drew, -World.drew_eq]⟩) hSlt3
  rw [e1] at hb6
  obtain ⟨w6, hrun6, hdown6, hg6⟩ := hb6
  have hf36 : Fr (fun k => S k ∧ k ≠ p ∧ k ≠ a) w3 w6 := hf35.trans (Fr.of_grown hg6 (fun k hk => by
    obtain rfl := Option.some.inj hk
    refine ⟨h.sd, ?_, Ne.symm h.ad⟩
    intro e; subst e
    obtain ⟨es, clock, hb, _⟩ := h.down.choose_spec.choose_spec.choose_spec.1
    rw [h.hp] at hb; cases hb))
  have hsz6 := hf36.size
  have hpa : p ≠ a := by
    intro e; subst e
    obtain ⟨es, clock, hb, _⟩ := h.all.choose_spec.1
    rw [h.hp] at hb; cases hb
  have hpl := h.lt p h.sp
  have hal := h.lt a h.sa
  have hdl := h.lt d h.sd
  refine ⟨w3, hrun3, hf3, hsz3, A0, c0, hlk, A', c', w5, hrun5, hf35, w6, hrun6, ⟨?_, ?_, ?_, .inl h.sp, .inl h.sa, .inl h.sd, h.ad, h.htr, .snoc h.gr hfit hn hl hab, ?_⟩, ?_, hf36⟩
  · exact (hf36.block p (by omega) (fun hk => hk.2.1 rfl)).trans ((hf3.block p hpl hpa).trans h.hp)
  · exact hall3.eq (hf36.block a (by omega) (fun hk => hk.2.2 rfl))
  · refine hdown6.mono (fun k hk => ?_)
    rcases hk with hk | ⟨h1, h2⟩
    · exact ⟨.inl hk.1, hk.2⟩
    · rw [hsz3] at h1
      exact ⟨.inr ⟨h1, h2⟩, by omega, by omega, by omega⟩
  · intro k hk
    rcases hk with hk | ⟨_, hk⟩
    · have := h.lt k hk; omega
    · exact hk
  · exact (hf3.mono (fun k hk => by subst hk; exact h.sa)).trans (hf36.mono (fun k hk => hk.1))
end Go.Proofs.Ytdjcifeoplgkpaa
