/-
  The walks of slices.IndexFunc and slices.ContainsFunc at branches with the law StoreRetains' test: is there a span that ends then. Condition: the slice reads as a list; the box holds the time.
-/
import Derived.Test.YtdjcifeoplgkpaaActs07
import Derived.Test.YtdjcifeoplgkpaaLayCon
namespace Go.Proofs.Ytdjcifeoplgkpaa
open Go Go.RowKit Go.Maps

set_option maxRecDepth 100000 in
set_option maxHeartbeats 1000000 in
theorem late1_any (W : World) (b : Br) (z : Int) (bx : Nat) (hx : W.cell? ⟨bx, 0, none⟩ = some (.int .i64 z)) :
    Calls Try.prog 27 (#[.agg #[.int .i64 b.dp, .bool b.orp, .int .i64 b.sp.tr, .int .i64 b.sp.id, .int .i64 b.sp.pa, .int .i64 b.sp.st, .int .i64 b.sp.en, .string b.sp.nm]] ++ #[.pointer (some ⟨bx, 0, none⟩)]) W fun e w' => e = .returned (.bool (decide (z ≤ b.sp.en))) ∧ Below W.heap.size W w' := by
  have hbx := lt_of_cell hx
  go_enter Try.func27, Try.ntmps27
  go_wp2_with fail
  go_ret
  exact ⟨rfl, (Below.refl _ _).alloc (Nat.le_refl _) _⟩
instance : Inhabited Br := ⟨⟨0, false, default⟩⟩
theorem contains7_any (b off n c : Nat) (l : List Br) (z : Int) (bx : Nat) (w : World) (hn : l.length = n) (hb : n ≤ 64) (hbw : b < w.heap.size) (hx : w.cell? ⟨bx, 0, none⟩ = some (.int .i64 z))
    (hc : ∀ j, j < l.length → ∀ i v, (Br.cells l[j]!)[i]? = some v → w.cell? ⟨b, off + j * 8 + i, none⟩ = some v) :
    Calls Try.prog 26 #[.slice (some ⟨b, off, none⟩) n c, .func (.func 27) #[] #[.pointer (some ⟨bx, 0, none⟩)]] w fun e w' => e = .returned (.bool (l.any fun b => decide (z ≤ b.sp.en))) ∧ Below w.heap.size w w' := by
  have hcon := AnyQ.slices_ContainsFunc Try.conL 8 (fun w => Try.isAgg37 w) (fun w => Try.sizeOf37 w) Br.cells Br.cells_len (fun b => decide (z ≤ b.sp.en)) 27 #[.pointer (some ⟨bx, 0, none⟩)] (fun args w => by go_simp) b off n c l w
    (fun W x hW => (late1_any W x z bx ((hW.cell (lt_of_cell hx)).trans hx)).mono fun _ _ ⟨h1, h2⟩ => ⟨h1, hW.trans (h2.mono hW.size)⟩) (by omega) (by omega) hbw hc
  rw [List.take_of_length_le (by omega)] at hcon
  exact hcon
end Go.Proofs.Ytdjcifeoplgkpaa
