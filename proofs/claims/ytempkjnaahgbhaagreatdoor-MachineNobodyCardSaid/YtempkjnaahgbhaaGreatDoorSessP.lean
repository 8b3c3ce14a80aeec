/-
  The plain side of a table of sessions: what Open, Ask, Keep, Expire answer, and what there is behind them; its bytes. No condition.
-/
import Derived.Test.YtempkjnaahgbhaaGreatDoorCodec
import Derived.Test.YtempkjnaahgbhaaGreatDoorForestP
namespace Go.Proofs.YtempkjnaahgbhaaGreatDoor
open Go.RowKit

/-- A reply. -/
structure Rp where
  er : Int
  ss : Int
  gn : Int
  ad : Int
  sa : Int
  ot : Int
  cy : Int
  fu : Int
def Rp.zero : Rp := ⟨0, 0, 0, 0, 0, 0, 0, 0⟩
def Rp.nums (r : Rp) : List Int := [r.er, r.ss, r.gn, r.ad, r.sa, r.ot, r.cy, r.fu]
def Rp.cells (r : Rp) : List Value := [.int .i64 r.er, .int .i64 r.ss, .int .i64 r.gn, .int .i64 r.ad, .int .i64 r.sa, .int .i64 r.ot, .int .i64 r.cy, .int .i64 r.fu]
abbrev Rp.val (r : Rp) : Value := .agg #[.int .i64 r.er, .int .i64 r.ss, .int .i64 r.gn, .int .i64 r.ad, .int .i64 r.sa, .int .i64 r.ot, .int .i64 r.cy, .int .i64 r.fu]
/-- May it be kept? -/
def Rp.ok (r : Rp) : Bool := r.nums.all fun n => decide (0 ≤ n) && decide (n ≤ 1099511627776)
/-- A seat. -/
structure Se where
  ss : Int
  sq : Int
  at_ : Int
  r : Rp
def Se.nums (s : Se) : List Int := s.ss :: s.sq :: s.at_ :: s.r.nums
def Se.cells (s : Se) : List Value := [.int .i64 s.ss, .int .i64 s.sq, .int .i64 s.at_, .int .i64 s.r.er, .int .i64 s.r.ss, .int .i64 s.r.gn, .int .i64 s.r.ad, .int .i64 s.r.sa, .int .i64 s.r.ot, .int .i64 s.r.cy, .int .i64 s.r.fu]
abbrev Se.val (s : Se) : Value := .agg #[.int .i64 s.ss, .int .i64 s.sq, .int .i64 s.at_, .int .i64 s.r.er, .int .i64 s.r.ss, .int .i64 s.r.gn, .int .i64 s.r.ad, .int .i64 s.r.sa, .int .i64 s.r.ot, .int .i64 s.r.cy, .int .i64 s.r.fu]
theorem Se.cells_len (s : Se) : s.cells.length = 11 := rfl
def Se.zero : Se := ⟨0, 0, 0, Rp.zero⟩
instance : Inhabited Rp := ⟨Rp.zero⟩
instance : Inhabited Se := ⟨Se.zero⟩
def seT (L : List Se) (x : Int) : Option Se := L.find? fun s => decide (s.ss = x)
def insQ : List Se → Se → List Se
  | [], s => [s]
  | u :: L, s => if s.ss < u.ss then s :: u :: L else u :: insQ L s
def setQ (L : List Se) (s : Se) : List Se := L.map fun u => if u.ss = s.ss then s else u
/-- By rising numbers. -/
def SrtS (L : List Se) : Prop := L.Pairwise fun s t => s.ss < t.ss
def Se.ok (s : Se) : Prop := 1 ≤ s.ss ∧ s.ss ≤ 1099511627776 ∧ 0 ≤ s.sq ∧ s.sq ≤ 1099511627776 ∧ 1 ≤ s.at_ ∧ s.at_ ≤ 1099511627776 ∧ s.r.ok = true
/-- A table's sessions. -/
structure GrS (L : List Se) : Prop where
  srt : SrtS L
  len : L.length ≤ 8
  ok : ∀ s ∈ L, s.ok
/-- What Open answers, and what there is behind it. -/
def opnS (L : List Se) (x : Int) : List Se × Int :=
  if x < 1 ∨ 1099511627776 < x ∨ (seT L x).isSome = true then (L, 1) else if 8 ≤ L.length then (L, 7) else (insQ L ⟨x, 0, x, Rp.zero⟩, 0)
/-- What Ask answers. -/
def askS (L : List Se) (x q : Int) : Rp × Bool × Int :=
  match seT L x with
  | none => (Rp.zero, false, 80)
  | some s => if q < s.sq ∨ q < 1 then (Rp.zero, false, 81) else if q = s.sq then (s.r, true, 0) else if s.sq < q - 1 then (Rp.zero, false, 82) else (Rp.zero, false, 0)
/-- What Keep answers, and what there is behind it. -/
def keepS (L : List Se) (x q a : Int) (r : Rp) : List Se × Int :=
  if (askS L x q).2.2 ≠ 0 then (L, (askS L x q).2.2) else if (askS L x q).2.1 = true then (L, 81)
  else if a < 1 ∨ 1099511627776 < a ∨ r.ok = false ∨ 1099511627776 < q then (L, 1) else (setQ L ⟨x, q, a, r⟩, 0)
def expS (L : List Se) (from_ : Int) : List Se := L.filter fun s => decide (from_ ≤ s.at_)
def encN (ns : List Int) : List UInt8 := ns.flatMap fun n => digits n.toNat
def imgS (L : List Se) : List UInt8 := digits L.length ++ L.flatMap fun s => encN s.nums

theorem Rp.ok_iff {r : Rp} : r.ok = true ↔ (0 ≤ r.er ∧ r.er ≤ 1099511627776) ∧ (0 ≤ r.ss ∧ r.ss ≤ 1099511627776) ∧ (0 ≤ r.gn ∧ r.gn ≤ 1099511627776) ∧ (0 ≤ r.ad ∧ r.ad ≤ 1099511627776) ∧ (0 ≤ r.sa ∧ r.sa ≤ 1099511627776) ∧ (0 ≤ r.ot ∧ r.ot ≤ 1099511627776) ∧ (0 ≤ r.cy ∧ r.cy ≤ 1099511627776) ∧ (0 ≤ r.fu ∧ r.fu ≤ 1099511627776) := by
  simp [Rp.ok, Rp.nums]
theorem Rp.zero_ok : Rp.zero.ok = true := by decide
theorem seT_some {L : List Se} {x : Int} {s : Se} (h : seT L x = some s) : s ∈ L ∧ s.ss = x := by
  have h1 := List.find?_some h
  exact ⟨List.mem_of_find?_eq_some h, by simpa using h1⟩
theorem seT_none {L : List Se} {x : Int} (h : seT L x = none) : ∀ s ∈ L, s.ss ≠ x := by
  intro s hs e
  have := List.find?_eq_none.1 h s hs
  simp [e] at this
theorem seT_mem {L : List Se} (h : SrtS L) {s : Se} (hs : s ∈ L) : seT L s.ss = some s := by
  induction L with
  | nil => cases hs
  | cons u L ih =>
    obtain ⟨h1, h2⟩ := List.pairwise_cons.1 h
    unfold seT
    rw [List.find?_cons]
    rcases List.mem_cons.1 hs with rfl | hs
    · simp
    · have := h1 s hs
      rw [decide_eq_false (by omega)]
      exact ih h2 hs
theorem insQ_mem {L : List Se} {s u : Se} : u ∈ insQ L s ↔ u = s ∨ u ∈ L := by
  induction L with
  | nil => simp [insQ]
  | cons v L ih =>
    rw [insQ]
    by_cases h : s.ss < v.ss
    · rw [if_pos h]; simp
    · rw [if_neg h, List.mem_cons, ih, List.mem_cons]
      constructor
      · rintro (h | h | h) <;> simp [h]
      · rintro (h | h | h) <;> simp [h]
theorem insQ_len (L : List Se) (s : Se) : (insQ L s).length = L.length + 1 := by
  induction L with
  | nil => rfl
  | cons v L ih =>
    rw [insQ]
    by_cases h : s.ss < v.ss
    · rw [if_pos h]; rfl
    · rw [if_neg h]; simp [ih]
theorem insQ_srt {L : List Se} (h : SrtS L) {s : Se} (hn : ∀ u ∈ L, u.ss ≠ s.ss) : SrtS (insQ L s) := by
  induction L with
  | nil => simp [insQ, SrtS]
  | cons v L ih =>
    obtain ⟨h1, h2⟩ := List.pairwise_cons.1 h
    rw [insQ]
    by_cases hlt : s.ss < v.ss
    · rw [if_pos hlt]
      refine List.pairwise_cons.2 ⟨fun u hu => ?_, h⟩
      rcases List.mem_cons.1 hu with rfl | hu
      · exact hlt
      · have := h1 u hu; omega
    · rw [if_neg hlt]
      have hv := hn v (by simp)
      refine List.pairwise_cons.2 ⟨fun u hu => ?_, ih h2 fun u hu => hn u (by simp [hu])⟩
      rcases insQ_mem.1 hu with rfl | hu
      · omega
      · exact h1 u hu
theorem setQ_len (L : List Se) (s : Se) : (setQ L s).length = L.length := by simp [setQ]
theorem setQ_keys (L : List Se) (s : Se) : (setQ L s).map Se.ss = L.map Se.ss := by
  unfold setQ
  rw [List.map_map]
  refine List.map_congr_left fun u _ => ?_
  by_cases h : u.ss = s.ss <;> simp [h]
theorem srtS_keys {L : List Se} : SrtS L ↔ (L.map Se.ss).Pairwise (· < ·) := by unfold SrtS; rw [List.pairwise_map]
theorem setQ_srt {L : List Se} (h : SrtS L) (s : Se) : SrtS (setQ L s) := by rw [srtS_keys, setQ_keys]; exact srtS_keys.1 h
theorem setQ_mem {L : List Se} {s u : Se} (h : u ∈ setQ L s) : (u.ss ≠ s.ss ∧ u ∈ L) ∨ u = s := by
  obtain ⟨v, hv, rfl⟩ := List.mem_map.1 h
  by_cases e : v.ss = s.ss
  · rw [if_pos e]; exact .inr rfl
  · rw [if_neg e]; exact .inl ⟨e, hv⟩
theorem GrS.nil : GrS [] := ⟨List.Pairwise.nil, by simp, by simp⟩
theorem GrS.opn {L : List Se} (h : GrS L) (x : Int) : GrS (opnS L x).1 := by
  unfold opnS
  by_cases h1 : x < 1 ∨ 1099511627776 < x ∨ (seT L x).isSome = true
  · rw [if_pos h1]; exact h
  · rw [if_neg h1]
    by_cases h8 : 8 ≤ L.length
    · rw [if_pos h8]; exact h
    · rw [if_neg h8]
      have hn : seT L x = none := by
        cases hs : seT L x with
        | none => rfl
        | some s => exact absurd (.inr (.inr (by rw [hs]; rfl))) h1
      refine ⟨insQ_srt h.srt fun u hu e => seT_none hn u hu e, by simp only [insQ_len]; omega, fun s hs => ?_⟩
      rcases insQ_mem.1 hs with rfl | hs
      · refine ⟨?_, ?_, ?_, ?_, ?_, ?_, Rp.zero_ok⟩ <;> simp only <;> omega
      · exact h.ok s hs
theorem askS_done {L : List Se} {x q : Int} (h : (askS L x q).2.2 = 0) : ∃ s, seT L x = some s ∧ 1 ≤ q ∧ s.sq ≤ q ∧ q ≤ s.sq + 1 ∧ ((askS L x q).2.1 = true ↔ q = s.sq) := by
  unfold askS at h ⊢
  cases hs : seT L x with
  | none => rw [hs] at h; simp at h
  | some s =>
    rw [hs] at h
    dsimp only at h ⊢
    by_cases h1 : q < s.sq ∨ q < 1
    · rw [if_pos h1] at h; simp at h
    · rw [if_neg h1] at h ⊢
      by_cases h2 : q = s.sq
      · rw [if_pos h2]; exact ⟨s, rfl, by omega, by omega, by omega, by simp [h2]⟩
      · rw [if_neg h2] at h ⊢
        by_cases h3 : s.sq < q - 1
        · rw [if_pos h3] at h; simp at h
        · rw [if_neg h3]; exact ⟨s, rfl, by omega, by omega, by omega, by simp [h2]⟩
theorem GrS.keep {L : List Se} (h : GrS L) (x q a : Int) (r : Rp) : GrS (keepS L x q a r).1 := by
  unfold keepS
  by_cases h1 : (askS L x q).2.2 ≠ 0
  · rw [if_pos h1]; exact h
  · rw [if_neg h1]
    by_cases h2 : (askS L x q).2.1 = true
    · rw [if_pos h2]; exact h
    · rw [if_neg h2]
      by_cases h3 : a < 1 ∨ 1099511627776 < a ∨ r.ok = false ∨ 1099511627776 < q
      · rw [if_pos h3]; exact h
      · rw [if_neg h3]
        obtain ⟨s, hs, hq, _⟩ := askS_done (by omega : (askS L x q).2.2 = 0)
        obtain ⟨hm, hx⟩ := seT_some hs
        have hso := h.ok s hm
        unfold Se.ok at hso
        refine ⟨setQ_srt h.srt _, by simp only [setQ_len]; exact h.len, fun u hu => ?_⟩
        rcases setQ_mem hu with ⟨_, hu⟩ | rfl
        · exact h.ok u hu
        · have hr : r.ok = true := by
            cases hro : r.ok
            · exact absurd (.inr (.inr (.inl hro))) h3
            · rfl
          refine ⟨?_, ?_, ?_, ?_, ?_, ?_, hr⟩ <;> simp only <;> omega
theorem GrS.exp {L : List Se} (h : GrS L) (z : Int) : GrS (expS L z) :=
  ⟨List.Pairwise.filter _ h.srt, Nat.le_trans (List.length_filter_le _ _) h.len, fun s hs => h.ok s (List.mem_filter.1 hs).1⟩
theorem encN_len (ns : List Int) (h : ∀ n ∈ ns, n.toNat < 9223372036854775808) : (encN ns).length ≤ 9 * ns.length := by
  induction ns with
  | nil => simp [encN]
  | cons n ns ih =>
    have h1 := ih fun m hm => h m (by simp [hm])
    have h2 := (digits_len (n := n.toNat) (by have := h n (by simp); omega)).2
    unfold encN at h1 ⊢
    rw [List.flatMap_cons, List.length_append, List.length_cons]; omega
theorem Se.nums_le {s : Se} (h : s.ok) : ∀ n ∈ s.nums, 0 ≤ n ∧ n ≤ 1099511627776 := by
  obtain ⟨h1, h2, h3, h4, h5, h6, h7⟩ := h
  have h7 := Rp.ok_iff.1 h7
  intro n hn
  simp only [Se.nums, Rp.nums, List.mem_cons, List.not_mem_nil, or_false] at hn
  omega
theorem imgS_len {L : List Se} (h : GrS L) : (imgS L).length ≤ 2000 := by
  have key : ∀ M : List Se, (∀ s ∈ M, s.ok) → (M.flatMap fun s => encN s.nums).length ≤ 99 * M.length := by
    intro M
    induction M with
    | nil => intro _; simp
    | cons s M ih =>
      intro hM
      have h1 := ih fun t ht => hM t (by simp [ht])
      have h2 := encN_len s.nums (fun n hn => by have := Se.nums_le (hM s (by simp)) n hn; omega)
      have h3 : s.nums.length = 11 := rfl
      rw [List.flatMap_cons, List.length_append, List.length_cons]; omega
  have h1 := key L h.ok
  have h2 := (digits_len (n := L.length) (by have := h.len; omega)).2
  have h3 := h.len
  unfold imgS
  rw [List.length_append]; omega
end Go.Proofs.YtempkjnaahgbhaaGreatDoor
