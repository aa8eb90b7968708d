/-
  DERIVED: THE SHELF's CONTRACTS AT THIS DUMP, IN PLAIN WORDS (tools/lay-plain.mjs out of 'TryShelf8.lean', which tools/lay-shelf.mjs wrote): THE SAME DECLARATIONS UNDER THE SAME NAMES: 'import', 'namespace', 'open', 'def', 'theorem' AND NOTHING ELSE: no command of the shelf's: FOR A HAND-IN. Each laying: the table of numbers ('.._ren') and one theorem, a field a fact of the dump's own or the kernel's comparison; each contract: ONE APPLICATION.
-/
import Derived.Shelf.SlGeneric
import Derived.Shelf.SlicesE.Clone
import Derived.Ground.SlgnProg
import Derived.Test.YtbanbommgcjmjaaProg
namespace Go.Proofs
open Go.Shelf
def Try.cloneU32_ren : Go.Shelf.Ren := ⟨fun | 41 => 32 | n => n, fun | 22 => 33 | 23 => 23 | 4 => 4 | n => n, fun | n => n⟩
theorem Try.cloneU32 : Go.Proofs.SlLaysE0.n41 Try.prog Try.cloneU32_ren := {
  mixed := by kernel_rfl
  f41 := ⟨Try.f32.name, by decide, Try.func32.trans (congrArg some (by kernel_rfl))⟩
  t4 := Try.underlying4
  a4 := Try.isAgg4
  z4 := Try.sizeOf4
  v4 := Try.zeroValue4
  t22 := Try.underlying33
  a22 := Try.isAgg33
  z22 := Try.sizeOf33
  v22 := Try.zeroValue33 }
def Try.cloneAddr_ren : Go.Shelf.Ren := ⟨fun | 41 => 33 | n => n, fun | 22 => 34 | 23 => 24 | 4 => 4 | n => n, fun | n => n⟩
theorem Try.cloneAddr : Go.Proofs.SlLaysE0.n41 Try.prog Try.cloneAddr_ren := {
  mixed := by kernel_rfl
  f41 := ⟨Try.f33.name, by decide, Try.func33.trans (congrArg some (by kernel_rfl))⟩
  t4 := Try.underlying4
  a4 := Try.isAgg4
  z4 := Try.sizeOf4
  v4 := Try.zeroValue4
  t22 := Try.underlying34
  a22 := Try.isAgg34
  z22 := Try.sizeOf34
  v22 := Try.zeroValue34 }
end Go.Proofs
