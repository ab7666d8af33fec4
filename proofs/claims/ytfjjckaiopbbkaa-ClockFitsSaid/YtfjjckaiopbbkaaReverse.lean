import Derived.Test.YtfjjckaiopbbkaaTab
import Derived.Test.YtfjjckaiopbbkaaAbsV
namespace Go.Proofs.Ytfjjckaiopbbkaa
open Go.Abs
set_option maxRecDepth 20000
set_option linter.unusedSimpArgs false
set_option linter.unusedVariables false
set_option maxHeartbeats 1000000
attribute [local irreducible] vc vcOps vcStep vcGuard prK hrK gK gsK brK callK ElemK SeqK BlockK ScopeK OpsK CallK LoopK LoopGo finPost ACall PCall PCallE BCall vqOps vqStep vqGuard qrK heK pcK gqK gqsK QOpsK qcallK DrawK
theorem n60 : (Try.f60.name == "runtime.NumGoroutine") = false := by kernel_rfl
def layRevD_ren : Go.Shelf.Ren := ⟨fun | 35 => 60 | n => n, fun | 22 => 37 | 23 => 46 | 3 => 3 | 4 => 4 | 0 => 0 | n => n, fun | n => n⟩
theorem layRevD : Go.Proofs.SlLaysE0.n35 Try.prog layRevD_ren := {
  mixed := by kernel_rfl
  f35 := ⟨Try.f60.name, by decide, Try.func60.trans (congrArg some (by kernel_rfl))⟩
  t0 := Try.underlying0
  a0 := Try.isAgg0
  z0 := Try.sizeOf0
  v0 := Try.zeroValue0
  t3 := Try.underlying3
  a3 := Try.isAgg3
  z3 := Try.sizeOf3
  v3 := Try.zeroValue3
  t4 := Try.underlying4
  a4 := Try.isAgg4
  z4 := Try.sizeOf4
  v4 := Try.zeroValue4
  t22 := Try.underlying37
  a22 := Try.isAgg37
  z22 := Try.sizeOf37
  v22 := Try.zeroValue37 }
/-- slices.Reverse on a slice of the call's own. -/
theorem reverseD {es : List AV} {kk n : Nat} {h : List Blk} {K : AV → List Blk → Prop} (hn : n = es.length) (hk : h[kk]? = some (.own 46 6 es)) (hK : K (.tup []) (h.set kk (.own 46 6 es.reverse))) :
    ACall Try.prog 60 [.own 6 kk n] h K := by
  subst hn
  exact own_reverse (by decide) (fun vs w => run_callFunc Try.func60 n60 rfl vs w)
    (fun blk cap d w hH hsz => Go.Proofs.AnyQ.slices_Reverse layRevD 6 Try.isAgg46 Try.sizeOf46 (fun x : Cells 6 => x.1) (fun x => x.2.1) (fun x => x.2.2) blk 0 cap d w hH hsz)
    (fun a cap w => Go.Proofs.AnyQ.slices_Reverse_empty layRevD a cap w) hk hK

end Go.Proofs.Ytfjjckaiopbbkaa
