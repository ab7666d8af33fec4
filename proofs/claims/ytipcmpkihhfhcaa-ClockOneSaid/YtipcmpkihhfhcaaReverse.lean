import Derived.Test.YtipcmpkihhfhcaaTab
import Derived.Test.YtipcmpkihhfhcaaAbsV
namespace Go.Proofs.Ytipcmpkihhfhcaa
open Go.Abs
set_option maxRecDepth 20000
set_option linter.unusedSimpArgs false
set_option linter.unusedVariables false
set_option maxHeartbeats 1000000
attribute [local irreducible] vc vcOps vcStep vcGuard prK hrK gK gsK brK callK ElemK SeqK BlockK ScopeK OpsK CallK LoopK LoopGo finPost ACall PCall PCallE BCall vqOps vqStep vqGuard qrK heK pcK gqK gqsK QOpsK qcallK DrawK
theorem n59 : (Try.f59.name == "runtime.NumGoroutine") = false := by kernel_rfl
def layRevD_ren : Go.Shelf.Ren := ⟨fun | 35 => 59 | n => n, fun | 22 => 40 | 23 => 59 | 3 => 3 | 4 => 4 | 0 => 0 | n => n, fun | n => n⟩
theorem layRevD : Go.Proofs.SlLaysE0.n35 Try.prog layRevD_ren := {
  mixed := by kernel_rfl
  f35 := ⟨Try.f59.name, by decide, Try.func59.trans (congrArg some (by kernel_rfl))⟩
  t0 := Try.underlying0
  a0 := Try.isAgg0
  z0 := Try.sizeOf0
  v0 := Try.zeroValue0
  t3 := Try.underlying3
  a3 := Try.isAgg3
  z3 := Try.sizeOf3
  v3 := Try.zeroValue3
  t4 := Try.underlying4
  a4 := Try.isAgg4
  z4 := Try.sizeOf4
  v4 := Try.zeroValue4
  t22 := Try.underlying40
  a22 := Try.isAgg40
  z22 := Try.sizeOf40
  v22 := Try.zeroValue40 }
/-- slices.Reverse on a slice of the call's own. -/
theorem reverseD {es : List AV} {kk n : Nat} {h : List Blk} {K : AV → List Blk → Prop} (hn : n = es.length) (hk : h[kk]? = some (.own 59 6 es)) (hK : K (.tup []) (h.set kk (.own 59 6 es.reverse))) :
    ACall Try.prog 59 [.own 6 kk n] h K := by
  subst hn
  exact own_reverse (by decide) (fun vs w => run_callFunc Try.func59 n59 rfl vs w)
    (fun blk cap d w hH hsz => Go.Proofs.AnyQ.slices_Reverse layRevD 6 Try.isAgg59 Try.sizeOf59 (fun x : Cells 6 => x.1) (fun x => x.2.1) (fun x => x.2.2) blk 0 cap d w hH hsz)
    (fun a cap w => Go.Proofs.AnyQ.slices_Reverse_empty layRevD a cap w) hk hK

end Go.Proofs.Ytipcmpkihhfhcaa
