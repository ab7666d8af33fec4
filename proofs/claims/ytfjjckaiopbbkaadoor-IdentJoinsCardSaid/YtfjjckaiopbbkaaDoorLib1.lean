import Derived.Test.YtfjjckaiopbbkaaDoorTab
import Derived.Test.YtfjjckaiopbbkaaDoorAbsX
import Derived.Test.YtfjjckaiopbbkaaDoorAbsI
import Derived.Test.YtfjjckaiopbbkaaDoorAbsV
import Derived.Shelf.Strings.Search1
import Derived.Shelf.Strings.Count
namespace Go.Proofs.YtfjjckaiopbbkaaDoor
open Go.Abs
set_option maxRecDepth 20000
set_option linter.unusedSimpArgs false
set_option linter.unusedVariables false
set_option maxHeartbeats 1000000
attribute [local irreducible] vc vcOps vcStep vcGuard prK hrK gK gsK brK callK ElemK SeqK BlockK ScopeK OpsK CallK LoopK LoopGo finPost ACall PCall PCallE BCall vqOps vqStep vqGuard qrK heK pcK gqK gqsK QOpsK qcallK DrawK
def layS_ren : Go.Shelf.Ren := ⟨fun | 217 => 34 | 266 => 38 | 138 => 26 | 143 => 27 | 195 => 29 | 218 => 31 | 219 => 32 | 224 => 36 | 225 => 35 | 267 => 37 | 314 => 39 | n => n,
  fun | 3 => 3 | 4 => 4 | 5 => 5 | 9 => 9 | 46 => 42 | 51 => 47 | 0 => 0 | 146 => 48 | n => n, fun | 1 => 0 | n => n⟩
theorem layS_g1 : Tryd.prog.globals.findIdx? (·.name == "internal/bytealg.MaxLen") = some 0 := by kernel_rfl
theorem layS : Go.Proofs.Lays.n138 Tryd.prog layS_ren := {
  mixed := by kernel_rfl
  f138 := Tryd.func26.trans (congrArg some (by kernel_rfl))
  f143 := Tryd.func27.trans (congrArg some (by kernel_rfl))
  f195 := Tryd.func29.trans (congrArg some (by kernel_rfl))
  f217 := Tryd.func34.trans (congrArg some (by kernel_rfl))
  f218 := Tryd.func31.trans (congrArg some (by kernel_rfl))
  f219 := Tryd.func32.trans (congrArg some (by kernel_rfl))
  f224 := Tryd.func36.trans (congrArg some (by kernel_rfl))
  f225 := Tryd.func35.trans (congrArg some (by kernel_rfl))
  f266 := Tryd.func38.trans (congrArg some (by kernel_rfl))
  f267 := Tryd.func37.trans (congrArg some (by kernel_rfl))
  f314 := Tryd.func39.trans (congrArg some (by kernel_rfl))
  t0 := Tryd.underlying0
  a0 := Tryd.isAgg0
  z0 := Tryd.sizeOf0
  v0 := Tryd.zeroValue0
  t3 := Tryd.underlying3
  a3 := Tryd.isAgg3
  z3 := Tryd.sizeOf3
  v3 := Tryd.zeroValue3
  t4 := Tryd.underlying4
  a4 := Tryd.isAgg4
  z4 := Tryd.sizeOf4
  v4 := Tryd.zeroValue4
  t5 := Tryd.underlying5
  a5 := Tryd.isAgg5
  z5 := Tryd.sizeOf5
  v5 := Tryd.zeroValue5
  t9 := Tryd.underlying9
  a9 := Tryd.isAgg9
  z9 := Tryd.sizeOf9
  v9 := Tryd.zeroValue9
  t46 := Tryd.underlying42
  a46 := Tryd.isAgg42
  z46 := Tryd.sizeOf42
  v46 := Tryd.zeroValue42
  t51 := Tryd.underlying47
  a51 := Tryd.isAgg47
  z51 := Tryd.sizeOf47
  v51 := Tryd.zeroValue47
  t146 := Tryd.underlying48
  a146 := Tryd.isAgg48
  z146 := Tryd.sizeOf48
  v146 := Tryd.zeroValue48
  g1 := layS_g1 }
end Go.Proofs.YtfjjckaiopbbkaaDoor
