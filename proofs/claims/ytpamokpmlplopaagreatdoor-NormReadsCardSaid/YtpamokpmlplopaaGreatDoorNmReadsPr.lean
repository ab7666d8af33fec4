/- For every input the law NormReads returns true: the tied card, by way of its row. No further condition. -/
import Derived.Test.YtpamokpmlplopaaGreatDoorRows
import Derived.Test.YtpamokpmlplopaaGreatDoorCards
import Derived.Test.YtpamokpmlplopaaGreatDoorTie
import Derived.ProofKit
import Derived.OpenShut
import Derived.LaidMore
import Derived.Lay
import Derived.SevenTiedAt
import Derived.Stop.Joined
import Derived.Test.YtpamokpmlplopaaGreatDoorUniAj
import Derived.Test.YtpamokpmlplopaaGreatDoorUniBp
namespace Go.Proofs.YtpamokpmlplopaaGreatDoor
open Go.Abs
set_option maxRecDepth 20000
set_option linter.unusedSimpArgs false
set_option linter.unusedVariables false
set_option maxHeartbeats 1000000
attribute [local irreducible] vc vcOps vcStep vcGuard prK hrK gK gsK brK callK ElemK SeqK BlockK ScopeK OpsK CallK LoopK LoopGo finPost ACall PCall PCallE BCall vqOps vqStep vqGuard qrK heK pcK gqK gqsK QOpsK qcallK DrawK
open Go.ChangeShapes Go.WideShapes Go.ChangeAt Go.RowKit
theorem law_reads21_ty (xs : List AV) (h : TyAll ti Tryz.f5.params.toList xs) (hz : SzAll Tryz.prog ti Tryz.f5.params.toList xs) : PCall Tryz.prog 5 xs (.raw (.bool true)) := by
  obtain ⟨n, a, r, rfl, ha, n', a', r', rfl, ha', n2, a2, r2, rfl, ha2, rfl⟩ := h
  obtain ⟨f, hf, _⟩ := ty_DFlow ha
  obtain ⟨q, hq, _⟩ := ty_DPlain ha'
  rw [show mkT (ti 37) a = f.enc from hf, show mkT (ti 53) a' = q.enc from hq] at hz ⊢
  obtain ⟨nm, rfl, _⟩ := ty_s ha2
  have hb : 0 < Tryz.prog.bytesOf 45 := by decide +kernel
  have h1 := hz 0 37 f.enc rfl rfl _ rfl 1 1 34 45 rfl rfl hb 5 (f.Ins.map DVar.enc) none (by rw [DFlow.enc_cells]; rfl)
  have h2 := hz 0 37 f.enc rfl rfl _ rfl 2 2 34 45 rfl rfl hb 5 (f.Outs.map DVar.enc) none (by rw [DFlow.enc_cells]; rfl)
  have h3 := hz 0 37 f.enc rfl rfl _ rfl 3 3 34 45 rfl rfl hb 5 (f.Vars.map DVar.enc) none (by rw [DFlow.enc_cells]; rfl)
  rw [List.length_map] at h1 h2 h3
  exact law_reads21 f q nm h1 h2 h3
set_option maxRecDepth 100000 in
theorem lifted_normReads (os : Os) (started : os.Started) (H : Type) (enc : TypeId × Value → H) :
    ReturnsInHanded {} Tryz.checked os 5 .any (fun w args => (Rows.normReadsSpec.pre enc Tryz.prog Tryz.f5 Rows.normReadsRow.domain false w args ∧ laidMetH Tryz.prog Rows.normReadsRow.laid w) ∧ sizedMet enc Tryz.prog Tryz.f5 (OpenSpec.ofChange Rows.normReadsSpec) false w args)
      (Rows.normReadsSpec.post enc Tryz.prog Tryz.f5 false true false false) := by
  refine returnsInHanded_of_change_and (C := Tryz.checked) (X := fun w _ => laidMetH Tryz.prog Rows.normReadsRow.laid w) (fun _ _ _ hh h => h.of_heap hh) (by kernel_rfl) started (by kernel_rfl) Tryz.func5
    (ChangeSpec.witness_shaped (enc := enc) (C := Tryz.checked) (os := os) (X := fun w _ => laidMetH Tryz.prog Rows.normReadsRow.laid w) false (World.laidAll Tryz.prog os Rows.normReadsRow.laid) #[.agg #[.string ⟨#[]⟩, .slice none 0 0, .slice none 0 0, .slice none 0 0, .slice none 0 0], .agg #[.int .i64 0, .slice none 0 0, .int .i64 0, .slice none 0 0, .slice none 0 0, .int .i64 0, .bool false, .string ⟨#[]⟩, .int .i64 0, .slice none 0 0], .string ⟨#[]⟩] 40 (World.laidAll_os _ _ _)
      (World.shaped_of_ZipB (by kernel_rfl) (by kernel_rfl)) (by kernel_rfl) (by kernel_rfl) (by kernel_rfl)
      (by rw [MakeChecks.laidMetH_plain _ _ _ (by kernel_rfl)]; exact laidMet_laidAll _ (by kernel_rfl) (by kernel_rfl))) ?_
  intro W base args ds gs before hval hW _ hwt hX _
  exact law_contractW (ts := dataTypes) (tb := 4) tabOK dataClosed (by kernel_rfl) (by kernel_rfl) (by kernel_rfl) (by kernel_rfl) rfl (fun ds h => by exact match ds, h with | [d0, d1, d2], _ => ⟨rfl, rfl, rfl⟩) law_reads21_ty W base args ds gs before hval hW hwt (fun x hx => by cases hx)

theorem normReads_kA : (Rows.normReadsRow.inPlace == Tryz.pinned.checked.prog.inPlace 5) = true := by kernel_rfl
theorem normReads_kB : (Rows.normReadsRow.unfollowed == Tryz.pinned.checked.prog.unfollowed 5) = true := by kernel_rfl
theorem normReads_kC : (Rows.normReadsRow.recurses == Tryz.pinned.checked.prog.recurses 5) = true := by kernel_rfl
theorem normReads_kD : (Rows.normReadsRow.named == Tryz.pinned.checked.prog.varsNamed 5) = true := by kernel_rfl
theorem normReads_closed : joinedFacts Tryz.pinned.checked.prog 5 Tryz.f5 Rows.normReadsSpec Rows.normReadsRow = true := by
  simp only [joinedFacts, Bool.and_eq_true]
  refine ⟨⟨⟨⟨⟨⟨⟨⟨⟨⟨⟨⟨⟨⟨⟨⟨⟨⟨⟨⟨⟨⟨⟨⟨⟨⟨⟨⟨⟨⟨⟨by kernel_rfl, by kernel_rfl⟩, by kernel_rfl⟩, by kernel_rfl⟩, by kernel_rfl⟩, by kernel_rfl⟩, by kernel_rfl⟩, by kernel_rfl⟩, by kernel_rfl⟩, normReads_kA⟩, normReads_kB⟩, normReads_kC⟩, normReads_kD⟩, by kernel_rfl⟩, by kernel_rfl⟩, by kernel_rfl⟩, by kernel_rfl⟩, by kernel_rfl⟩, by kernel_rfl⟩, by kernel_rfl⟩, by kernel_rfl⟩, by kernel_rfl⟩, by kernel_rfl⟩, by kernel_rfl⟩, by kernel_rfl⟩, by kernel_rfl⟩, by kernel_rfl⟩, by kernel_rfl⟩, by kernel_rfl⟩, by kernel_rfl⟩, by kernel_rfl⟩, by kernel_rfl⟩
theorem normReads_inst : Tryz.f5.isInstance Tryz.pinned.checked.prog Rows.normReadsRow.origin Rows.normReadsRow.targs := of_decide_eq_true (by kernel_rfl)
theorem normReads_wrap : Tryz.f5.isWrapper Tryz.pinned.checked.prog Rows.normReadsRow.wrapper Rows.normReadsRow.mainSum := by unfold Func.isWrapper; first | (rw [if_pos (by decide +kernel)]; kernel_rfl) | (rw [if_neg (by decide +kernel)]; exact ⟨rfl, rfl⟩)
theorem normReads_row : Rows.NormReadsSaid :=
  OpenClaim.holds_of_wide 5 Tryz.f5 rfl rfl rfl rfl rfl rfl rfl ⟨rfl, rfl, rfl, rfl, rfl⟩ rfl rfl rfl rfl rfl (by kernel_rfl) Tryz.func5 normReads_closed normReads_inst normReads_wrap
    (fun os started H enc _ => lifted_normReads os started H enc)
theorem normReads_plain (f : FuncId) (fn : Func) (hf : Tryz.pinned.checked.prog.funcNamed Rows.normReadsRow.func = some f) (hfn : Tryz.pinned.checked.prog.funcs[f]? = some fn) :
    Rows.normReadsCard.stood.looks = Tryz.pinned.checked.prog.looks [] ∧ ∀ (j : Nat) t, fn.params[j]? = some t → Tryz.pinned.checked.prog.wantsStandIn t = false := by
  obtain rfl : f = 5 := Option.some.inj ((show Tryz.prog.funcNamed Rows.normReadsRow.func = some 5 by kernel_rfl).symm.trans hf) |>.symm
  obtain rfl : fn = Tryz.f5 := (Option.some.inj (Tryz.func5.symm.trans hfn)).symm
  refine ⟨by kernel_rfl, fun j t ht => ?_⟩
  rw [Tryz.params5] at ht
  have hm : t ∈ #[37, 53, 9] := Array.mem_of_getElem? ht
  have hall : (#[37, 53, 9].all fun u => !Tryz.prog.wantsStandIn u) = true := by kernel_rfl
  exact (show Tryz.prog.wantsStandIn t = false by simpa using Array.all_eq_true_iff_forall_mem.1 hall t hm)
theorem normReadsCard_holds : Rows.NormReadsCardSaid :=
  Claim7.holds_tied_plain_at .later [] _ _ _ _ normReads_row (fun _ h => by cases h) (by kernel_rfl) (fun _ h => by cases h) normReads_row_tie rfl ⟨rfl, rfl⟩ (by kernel_rfl) rfl normReads_plain (by kernel_rfl)
#print axioms normReadsCard_holds

end Go.Proofs.YtpamokpmlplopaaGreatDoor
