/- strings.Join at this program: its contract off the library, laid in plain words. -/
import Derived.Shelf.Strings.OnBuilder
import Derived.Shelf.Strings.BuilderX
import Derived.Test.YtaflkbemecjcpaaFilt
namespace Go.Proofs.Ytaflkbemecjcpaa
set_option linter.unusedSimpArgs false
set_option linter.unusedVariables false
open Go.Shelf Go.RowKit
def lays156_ren : Go.Shelf.Ren := ⟨fun | 156 => 68 | 165 => 92 | 166 => 93 | 169 => 94 | 240 => 102 | 241 => 103 | 276 => 107 | 277 => 108 | n => n, fun | 0 => 0 | 3 => 3 | 4 => 4 | 5 => 5 | 9 => 9 | 20 => 20 | 31 => 69 | 37 => 33 | 70 => 87 | 72 => 89 | 75 => 91 | 76 => 92 | 80 => 70 | 127 => 98 | 164 => 103 | n => n, fun | n => n⟩
theorem lays156 : Lays.n156 Try.prog lays156_ren := {
  mixed := by kernel_rfl,
  f156 := Try.func68.trans (congrArg some (by kernel_rfl)),
  f165 := Try.func92.trans (congrArg some (by kernel_rfl)),
  f166 := Try.func93.trans (congrArg some (by kernel_rfl)),
  f169 := Try.func94.trans (congrArg some (by kernel_rfl)),
  f240 := Try.func102.trans (congrArg some (by kernel_rfl)),
  f241 := Try.func103.trans (congrArg some (by kernel_rfl)),
  f276 := Try.func107.trans (congrArg some (by kernel_rfl)),
  f277 := Try.func108.trans (congrArg some (by kernel_rfl)),
  t0 := Try.underlying0,
  a0 := Try.isAgg0,
  z0 := Try.sizeOf0,
  v0 := Try.zeroValue0,
  t3 := Try.underlying3,
  a3 := Try.isAgg3,
  z3 := Try.sizeOf3,
  v3 := Try.zeroValue3,
  t4 := Try.underlying4,
  a4 := Try.isAgg4,
  z4 := Try.sizeOf4,
  v4 := Try.zeroValue4,
  t9 := Try.underlying9,
  a9 := Try.isAgg9,
  z9 := Try.sizeOf9,
  v9 := Try.zeroValue9,
  t20 := Try.underlying20,
  a20 := Try.isAgg20,
  z20 := Try.sizeOf20,
  v20 := Try.zeroValue20,
  t31 := Try.underlying69,
  a31 := Try.isAgg69,
  z31 := Try.sizeOf69,
  v31 := Try.zeroValue69,
  t37 := Try.underlying33,
  a37 := Try.isAgg33,
  z37 := Try.sizeOf33,
  v37 := Try.zeroValue33,
  t70 := Try.underlying87,
  a70 := Try.isAgg87,
  z70 := Try.sizeOf87,
  v70 := Try.zeroValue87,
  t72 := Try.underlying89,
  a72 := Try.isAgg89,
  z72 := Try.sizeOf89,
  v72 := Try.zeroValue89,
  t75 := Try.underlying91,
  a75 := Try.isAgg91,
  z75 := Try.sizeOf91,
  v75 := Try.zeroValue91,
  t76 := Try.underlying92,
  a76 := Try.isAgg92,
  z76 := Try.sizeOf92,
  v76 := Try.zeroValue92,
  t127 := Try.underlying98,
  a127 := Try.isAgg98,
  z127 := Try.sizeOf98,
  v127 := Try.zeroValue98,
  t164 := Try.underlying103,
  a164 := Try.isAgg103,
  z164 := Try.sizeOf103,
  v164 := Try.zeroValue103 }
theorem extra156 : Builder.Extra Try.prog lays156_ren := {
  sizeBuilder := by kernel_rfl,
  liesBuilder := by kernel_rfl,
  t5 := Try.underlying5,
  a5 := Try.isAgg5,
  z5 := Try.sizeOf5,
  v5 := Try.zeroValue5,
  infoByte := by kernel_rfl,
  cellsByte := by kernel_rfl,
  sizeByte := by kernel_rfl,
  neB5 := by decide }
theorem strings_Join_none (a : Option Addr) (c : Nat) (sep : ByteArray) (w : World) :
    Calls Try.prog 68 #[.slice a 0 c, .string sep] w fun e w' => e = .returned (.string ⟨#[]⟩) ∧ w' = w := Any.strings_Join_none lays156 extra156 a c sep w
theorem strings_Join_any (bk o c : Nat) (xs : List ByteArray) (sep : ByteArray) (w : World) (hcells : ∀ (j : Nat) x, xs[j]? = some x → w.cell? ⟨bk, o + j, none⟩ = some (.string x)) (hbk : bk < w.heap.size) (hN : xs.length ≤ 140737488355328) (hcap : xs.length ≤ c) (hlen : (Lib.join (xs.map (·.data.toList)) sep.data.toList).length ≤ 140737488355328) :
    Calls Try.prog 68 #[.slice (some ⟨bk, o, none⟩) xs.length c, .string sep] w fun e w' => e = .returned (.string ⟨(Lib.join (xs.map (·.data.toList)) sep.data.toList).toArray⟩) ∧ Below w.heap.size w w' := Any.strings_Join lays156 extra156 bk o c xs sep w hcells hbk hN hcap hlen
end Go.Proofs.Ytaflkbemecjcpaa
