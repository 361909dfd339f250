/-
  DERIVED: THE SHELF's CONTRACTS AT THIS DUMP, IN PLAIN WORDS (tools/lay-plain.mjs out of 'TrydShelf2.lean', which tools/lay-shelf.mjs wrote): THE SAME DECLARATIONS UNDER THE SAME NAMES: 'import', 'namespace', 'open', 'def', 'theorem' AND NOTHING ELSE: no command of the shelf's: FOR A HAND-IN. Each laying: the table of numbers ('.._ren') and one theorem, a field a fact of the dump's own or the kernel's comparison; each contract: ONE APPLICATION.
-/
import Derived.Shelf.Small.Strs
import Derived.Shelf.Strings.Cut
import Derived.Shelf.SlMaps.DeleteFunc
import Derived.Ground.SlmdProg
import Derived.Shelf.SlicesE.Clone
import Derived.Ground.SlgnProg
import Derived.Test.YtphjjaanclpagaaDoorProg
namespace Go.Proofs
open Go.Shelf
def Tryd.cmpL_ren : Go.Shelf.Ren := ⟨fun | 106 => 59 | 213 => 80 | 265 => 106 | n => n, fun | 9 => 9 | 3 => 3 | n => n, fun | n => n⟩
theorem Tryd.cmpL : Go.Proofs.Lays.n106 Tryd.prog Tryd.cmpL_ren := {
  mixed := by kernel_rfl
  f106 := Tryd.func59.trans (congrArg some (by kernel_rfl))
  f213 := Tryd.func80.trans (congrArg some (by kernel_rfl))
  f265 := Tryd.func106.trans (congrArg some (by kernel_rfl))
  t3 := Tryd.underlying3
  a3 := Tryd.isAgg3
  z3 := Tryd.sizeOf3
  v3 := Tryd.zeroValue3
  t9 := Tryd.underlying9
  a9 := Tryd.isAgg9
  z9 := Tryd.sizeOf9
  v9 := Tryd.zeroValue9 }
def Tryd.cutL_ren : Go.Shelf.Ren := ⟨fun | 145 => 84 | 220 => 109 | 219 => 139 | 217 => 170 | 225 => 171 | 224 => 172 | 267 => 173 | 266 => 188 | 314 => 189 | n => n, fun | 9 => 9 | 4 => 4 | 59 => 145 | 3 => 3 | 5 => 5 | 46 => 142 | 146 => 255 | 51 => 176 | n => n, fun | 1 => 16 | n => n⟩
theorem Tryd.cutL : Go.Proofs.Lays.n145 Tryd.prog Tryd.cutL_ren := {
  mixed := by kernel_rfl
  f145 := Tryd.func84.trans (congrArg some (by kernel_rfl))
  f217 := Tryd.func170.trans (congrArg some (by kernel_rfl))
  f219 := Tryd.func139.trans (congrArg some (by kernel_rfl))
  f220 := Tryd.func109.trans (congrArg some (by kernel_rfl))
  f224 := Tryd.func172.trans (congrArg some (by kernel_rfl))
  f225 := Tryd.func171.trans (congrArg some (by kernel_rfl))
  f266 := Tryd.func188.trans (congrArg some (by kernel_rfl))
  f267 := Tryd.func173.trans (congrArg some (by kernel_rfl))
  f314 := Tryd.func189.trans (congrArg some (by kernel_rfl))
  t3 := Tryd.underlying3
  a3 := Tryd.isAgg3
  z3 := Tryd.sizeOf3
  v3 := Tryd.zeroValue3
  t4 := Tryd.underlying4
  a4 := Tryd.isAgg4
  z4 := Tryd.sizeOf4
  v4 := Tryd.zeroValue4
  t5 := Tryd.underlying5
  a5 := Tryd.isAgg5
  z5 := Tryd.sizeOf5
  v5 := Tryd.zeroValue5
  t9 := Tryd.underlying9
  a9 := Tryd.isAgg9
  z9 := Tryd.sizeOf9
  v9 := Tryd.zeroValue9
  t46 := Tryd.underlying142
  a46 := Tryd.isAgg142
  z46 := Tryd.sizeOf142
  v46 := Tryd.zeroValue142
  t51 := Tryd.underlying176
  a51 := Tryd.isAgg176
  z51 := Tryd.sizeOf176
  v51 := Tryd.zeroValue176
  t59 := Tryd.underlying145
  a59 := Tryd.isAgg145
  z59 := Tryd.sizeOf145
  v59 := Tryd.zeroValue145
  t146 := Tryd.underlying255
  a146 := Tryd.isAgg255
  z146 := Tryd.sizeOf255
  v146 := Tryd.zeroValue255
  g1 := by kernel_rfl }
def Tryd.delf49_ren : Go.Shelf.Ren := ⟨fun | 5 => 49 | n => n, fun | 23 => 92 | 26 => 9 | 24 => 3 | 27 => 98 | 0 => 0 | 4 => 4 | n => n, fun | n => n⟩
theorem Tryd.delf49 : Go.Proofs.SlLaysDf.n5 Tryd.prog Tryd.delf49_ren := {
  mixed := by kernel_rfl
  f5 := ⟨Tryd.f49.name, by decide, Tryd.func49.trans (congrArg some (by kernel_rfl))⟩
  t0 := Tryd.underlying0
  a0 := Tryd.isAgg0
  z0 := Tryd.sizeOf0
  v0 := Tryd.zeroValue0
  t4 := Tryd.underlying4
  a4 := Tryd.isAgg4
  z4 := Tryd.sizeOf4
  v4 := Tryd.zeroValue4
  t23 := Tryd.underlying92
  a23 := Tryd.isAgg92
  z23 := Tryd.sizeOf92
  v23 := Tryd.zeroValue92
  a24 := Tryd.isAgg3
  z24 := Tryd.sizeOf3
  a26 := Tryd.isAgg9
  z26 := Tryd.sizeOf9
  t27 := Tryd.underlying98
  a27 := Tryd.isAgg98
  z27 := Tryd.sizeOf98
  v27 := Tryd.zeroValue98 }
def Tryd.sclone54_ren : Go.Shelf.Ren := ⟨fun | 41 => 54 | n => n, fun | 22 => 37 | 23 => 39 | 4 => 4 | n => n, fun | n => n⟩
theorem Tryd.sclone54 : Go.Proofs.SlLaysE0.n41 Tryd.prog Tryd.sclone54_ren := {
  mixed := by kernel_rfl
  f41 := ⟨Tryd.f54.name, by decide, Tryd.func54.trans (congrArg some (by kernel_rfl))⟩
  t4 := Tryd.underlying4
  a4 := Tryd.isAgg4
  z4 := Tryd.sizeOf4
  v4 := Tryd.zeroValue4
  t22 := Tryd.underlying37
  a22 := Tryd.isAgg37
  z22 := Tryd.sizeOf37
  v22 := Tryd.zeroValue37 }
end Go.Proofs
