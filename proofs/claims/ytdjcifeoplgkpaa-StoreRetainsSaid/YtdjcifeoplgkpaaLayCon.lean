/-
  The given contracts of the library, laid at this program: the table of numbers, and each body compared. No condition.
-/
import Derived.Shelf.SlicesQ.IndexFunc
import Derived.Test.YtdjcifeoplgkpaaProg
namespace Go.Proofs
open Go.Shelf
def Try.conL_ren : Go.Shelf.Ren := ⟨fun | 8 => 26 | 6 => 48 | n => n, fun | 22 => 32 | 23 => 37 | 25 => 60 | 4 => 4 | 3 => 3 | 0 => 0 | n => n, fun | n => n⟩
theorem Try.conL : Go.Proofs.SlLaysH0.n8 Try.prog Try.conL_ren := {
  mixed := by kernel_rfl
  f6 := ⟨Try.f48.name, by decide, Try.func48.trans (congrArg some (by kernel_rfl))⟩
  f8 := ⟨Try.f26.name, by decide, Try.func26.trans (congrArg some (by kernel_rfl))⟩
  t0 := Try.underlying0
  a0 := Try.isAgg0
  z0 := Try.sizeOf0
  v0 := Try.zeroValue0
  t3 := Try.underlying3
  a3 := Try.isAgg3
  z3 := Try.sizeOf3
  v3 := Try.zeroValue3
  t4 := Try.underlying4
  a4 := Try.isAgg4
  z4 := Try.sizeOf4
  v4 := Try.zeroValue4
  t22 := Try.underlying32
  a22 := Try.isAgg32
  z22 := Try.sizeOf32
  v22 := Try.zeroValue32
  t25 := Try.underlying60
  a25 := Try.isAgg60
  z25 := Try.sizeOf60
  v25 := Try.zeroValue60 }
end Go.Proofs
