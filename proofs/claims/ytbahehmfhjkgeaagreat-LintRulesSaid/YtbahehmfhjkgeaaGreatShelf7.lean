/-
  DERIVED: THE SHELF's CONTRACTS AT THIS DUMP, IN PLAIN WORDS (tools/lay-plain.mjs out of 'TryShelf7.lean', which tools/lay-shelf.mjs wrote): THE SAME DECLARATIONS UNDER THE SAME NAMES: 'import', 'namespace', 'open', 'def', 'theorem' AND NOTHING ELSE: no command of the shelf's: FOR A HAND-IN. Each laying: the table of numbers ('.._ren') and one theorem, a field a fact of the dump's own or the kernel's comparison; each contract: ONE APPLICATION.
-/
import Derived.Shelf.SlGeneric
import Derived.Shelf.SlicesE.Clone
import Derived.Ground.SlgnProg
import Derived.Test.YtbahehmfhjkgeaaGreatProg
namespace Go.Proofs
open Go.Shelf
def Tryz.cloneStr_ren : Go.Shelf.Ren := ⟨fun | 41 => 122 | n => n, fun | 22 => 51 | 23 => 9 | 4 => 4 | n => n, fun | n => n⟩
theorem Tryz.cloneStr : Go.Proofs.SlLaysE0.n41 Tryz.prog Tryz.cloneStr_ren := {
  mixed := by kernel_rfl
  f41 := ⟨Tryz.f122.name, by decide, Tryz.func122.trans (congrArg some (by kernel_rfl))⟩
  t4 := Tryz.underlying4
  a4 := Tryz.isAgg4
  z4 := Tryz.sizeOf4
  v4 := Tryz.zeroValue4
  t22 := Tryz.underlying51
  a22 := Tryz.isAgg51
  z22 := Tryz.sizeOf51
  v22 := Tryz.zeroValue51 }
def Tryz.cloneIface_ren : Go.Shelf.Ren := ⟨fun | 41 => 123 | n => n, fun | 22 => 52 | 23 => 207 | 4 => 4 | n => n, fun | n => n⟩
theorem Tryz.cloneIface : Go.Proofs.SlLaysE0.n41 Tryz.prog Tryz.cloneIface_ren := {
  mixed := by kernel_rfl
  f41 := ⟨Tryz.f123.name, by decide, Tryz.func123.trans (congrArg some (by kernel_rfl))⟩
  t4 := Tryz.underlying4
  a4 := Tryz.isAgg4
  z4 := Tryz.sizeOf4
  v4 := Tryz.zeroValue4
  t22 := Tryz.underlying52
  a22 := Tryz.isAgg52
  z22 := Tryz.sizeOf52
  v22 := Tryz.zeroValue52 }
def Tryz.cloneRewrite_ren : Go.Shelf.Ren := ⟨fun | 41 => 124 | n => n, fun | 22 => 54 | 23 => 154 | 4 => 4 | n => n, fun | n => n⟩
theorem Tryz.cloneRewrite : Go.Proofs.SlLaysE0.n41 Tryz.prog Tryz.cloneRewrite_ren := {
  mixed := by kernel_rfl
  f41 := ⟨Tryz.f124.name, by decide, Tryz.func124.trans (congrArg some (by kernel_rfl))⟩
  t4 := Tryz.underlying4
  a4 := Tryz.isAgg4
  z4 := Tryz.sizeOf4
  v4 := Tryz.zeroValue4
  t22 := Tryz.underlying54
  a22 := Tryz.isAgg54
  z22 := Tryz.sizeOf54
  v22 := Tryz.zeroValue54 }
def Tryz.cloneStatic_ren : Go.Shelf.Ren := ⟨fun | 41 => 125 | n => n, fun | 22 => 55 | 23 => 211 | 4 => 4 | n => n, fun | n => n⟩
theorem Tryz.cloneStatic : Go.Proofs.SlLaysE0.n41 Tryz.prog Tryz.cloneStatic_ren := {
  mixed := by kernel_rfl
  f41 := ⟨Tryz.f125.name, by decide, Tryz.func125.trans (congrArg some (by kernel_rfl))⟩
  t4 := Tryz.underlying4
  a4 := Tryz.isAgg4
  z4 := Tryz.sizeOf4
  v4 := Tryz.zeroValue4
  t22 := Tryz.underlying55
  a22 := Tryz.isAgg55
  z22 := Tryz.sizeOf55
  v22 := Tryz.zeroValue55 }
end Go.Proofs
