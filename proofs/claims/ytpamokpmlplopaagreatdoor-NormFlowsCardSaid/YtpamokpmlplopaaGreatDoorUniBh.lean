/-
  NmV, NmL: put together.
-/
import Derived.Test.YtpamokpmlplopaaGreatDoorUniBb
import Derived.Test.YtpamokpmlplopaaGreatDoorUniBd
import Derived.Test.YtpamokpmlplopaaGreatDoorUniBe
namespace Go.Proofs.YtpamokpmlplopaaGreatDoor
open Go.Abs
set_option maxRecDepth 20000
set_option linter.unusedSimpArgs false
set_option linter.unusedVariables false
set_option maxHeartbeats 1000000
attribute [local irreducible] vc vcOps vcStep vcGuard prK hrK gK gsK brK callK ElemK SeqK BlockK ScopeK OpsK CallK LoopK LoopGo finPost ACall PCall PCallE BCall vqOps vqStep vqGuard qrK heK pcK gqK gqsK QOpsK qcallK DrawK
abbrev lvX:Ex:=.mk 3 0 ⟨#[120]⟩ 0 [] []
abbrev lvP:Ex:=.mk 10 0 ⟨#[]⟩ 0 [] [lvX]
abbrev lvS:Ex:=.mk 6 0 ⟨#[]⟩ 3 [] [lvP,.mk 1 1 ⟨#[]⟩ 0 [] []]
abbrev lvE:Ex:=.mk 9 0 ⟨#[]⟩ 0 [] [.mk 1 0 ⟨#[]⟩ 0 [] [],lvS]
abbrev lvIn:DDecl:=⟨⟨#[120]⟩,⟨1,0,0⟩,⟨#[]⟩,⟨#[]⟩⟩
abbrev lvOut:DDecl:=⟨⟨#[121]⟩,⟨1,0,0⟩,⟨#[]⟩,⟨#[]⟩⟩
abbrev lvQ:DEq:=⟨[⟨#[121]⟩],lvE⟩
abbrev lvN:DNode:=⟨⟨#[102]⟩,[lvIn],[lvOut],[],[lvQ]⟩
abbrev lvG:DProg:=⟨[],[lvN]⟩
theorem lv_parts:parts lvE=[lvE,.mk 1 0 ⟨#[]⟩ 0 [] [],lvS,lvP,lvX,.mk 1 1 ⟨#[]⟩ 0 [] []]:=by simp[parts,partsL]
theorem lv_ok:okE lvE:=by
 constructor
 ·
  rw[lv_parts];decide
 ·
  rw[lv_parts];intro x hx
  simp only[List.mem_cons,List.not_mem_nil,or_false] at hx
  rcases hx with rfl|rfl|rfl|rfl|rfl|rfl<;>exact⟨by decide,fun a ha=>by simp[Ex.arms] at ha⟩
theorem lvG_ok:okProg lvG:=by
 refine⟨⟨by decide,by simp⟩,by decide,fun n hn=>?_⟩
 rw[List.mem_singleton.1 hn]
 refine⟨⟨by decide,fun d hd=>?_⟩,⟨by decide,fun d hd=>?_⟩,⟨by decide,by simp⟩,by decide,by decide,fun q hq=>?_⟩
 ·
  rw[List.mem_singleton.1 hd];decide
 ·
  rw[List.mem_singleton.1 hd];decide
 ·
  rw[List.mem_singleton.1 hq]
  exact⟨by decide,lv_ok,fun s hs=>by rw[List.mem_singleton.1 hs];decide⟩
theorem lv120:lowF ⟨#[120]⟩=true:=by decide +kernel
theorem lv121:lowF ⟨#[121]⟩=true:=by decide +kernel
theorem lv102:lowF ⟨#[102]⟩=true:=by decide +kernel
theorem lv_right:rightE lvE=true:=by
 unfold rightE
 rw[lv_parts]
 simp[partE,numbersE,namedE,armsE,subsE,Ex.kind,Ex.op,Ex.n,Ex.name,Ex.arms,Ex.subs,lv120,depthE,depthL]
theorem lv_check:checkF lvG=0:=by
 have h1:enumsF []=0:=by
  unfold enumsF greatE rightEn
  simp[onceB_yes]
 have h2:nodeF 0 lvN=true:=by
  unfold nodeF bareN eqF declaredF bareF rightTyF
  simp[allV,lv120,lv121,lv102,lv_right]
 have h3:onceN lvN=true:=by
  unfold onceN
  exact onceB_yes (by simp[allV])
 have h4:onceB [(⟨#[102]⟩:ByteArray)]=true:=onceB_yes (by simp)
 have h5:greatF lvN=false:=by decide +kernel
 unfold checkF
 simp[h1,h2,h3,h4,h5]
theorem lv_d1:decl lvN ⟨#[120]⟩=(lvIn,true):=by simp[decl,allV,declF]
theorem lv_d2:decl lvN ⟨#[121]⟩=(lvOut,true):=by simp[decl,allV,declF]
theorem lv_scope:scopeF lvG=⟨0,0,0⟩:=by
 unfold scopeF
 rw[if_pos lv_check]
 have h1:(allV lvN).all (clockedF [] lvN)=true:=by simp[allV,clockedF]
 have h2:(parts lvE).all (leadsF lvG 0 lvN)=true:=by
  rw[lv_parts]
  simp[leadsF,isF,lv_d1,Ex.kind,Ex.arms,Ex.name]
 have h3:namesErr lvN [] [⟨#[121]⟩]=0:=by simp[namesErr,isF,lv_d2,inF,memB]
 have h4:eqErr lvG 0 lvN [] lvQ=0:=by
  unfold eqErr
  rw[if_pos h3,if_pos h2]
 have h5:allDef lvN=true:=by simp[allDef,memB]
 have h1a:clockedF [] lvN lvIn=true:=by simp[clockedF]
 have h1b:clockedF [] lvN lvOut=true:=by simp[clockedF]
 simp[nodesFault,nodeFault,h1,h1a,h1b,allV,eqsErr,h4,h5]
theorem lv_ofX:ofT lvG lvN lvX=some tyI:=by
 rw[ofT_eq]
 simp[headP,Ex.kind,Ex.name,lv_d1,opt]
abbrev lvL (m:Int):Ex:=.mk 1 m ⟨#[]⟩ 0 [] []
theorem lv_rightL (m:Int) (hm:0≤m):(rightE (lvL m)&&constE (lvL m))=true:=by
 have hp:parts (lvL m)=[lvL m]:=by simp[parts,partsL]
 unfold rightE
 rw[hp]
 simp[partE,numbersE,namedE,armsE,subsE,Ex.kind,Ex.op,Ex.n,Ex.name,Ex.arms,Ex.subs,depthE,depthL,constE,litE,hm]
theorem lv_constL (m:Int) (hm:0≤m):constT [] (lvL m)=([m],tyI,true):=by
 unfold constT
 rw[if_pos (lv_rightL m hm)]
 simp[Ex.kind,cellsT,litT,sameT,Ex.n]
theorem lv_ofL (m:Int) (hm:0≤m):ofT lvG lvN (lvL m)=some tyI:=by
 rw[ofT_eq]
 simp[headP,Ex.kind,lv_constL m hm,opt]
theorem lv_ofP:ofT lvG lvN lvP=some tyI:=by
 rw[ofT_eq,ofL_map]
 simp[headP,Ex.kind,Ex.subs,lv_ofX,allS,flowT,opt]
theorem lv_ofS:ofT lvG lvN lvS=some tyI:=by
 rw[ofT_eq,ofL_map]
 simp[headP,Ex.kind,Ex.subs,lv_ofP,lv_ofL,allS,plainT,binT,Ex.op,opt]
theorem lv_types:typesF lvG=⟨0,0,0⟩:=by
 have h1:(allV lvN).all (clkTy lvG lvN)=true:=by simp[allV,clkTy]
 have h2:toldP lvG lvN lvE=([tyI],true):=by
  unfold toldP
  rw[if_neg (by decide),ofL_map]
  simp[headP,Ex.kind,Ex.subs,lv_ofS,lv_ofL,allS,flowT]
 have h3:eqTy lvG lvN lvQ=true:=by
  unfold eqTy
  rw[h2]
  simp[lv_d2]
  exact eqB_eq rfl
 have h1a:clkTy lvG lvN lvIn=true:=by simp[clkTy]
 have h1b:clkTy lvG lvN lvOut=true:=by simp[clkTy]
 unfold typesF
 rw[lv_scope,if_pos rfl]
 simp[firstF,nodeTy,h1,h1a,h1b,allV,firstE,h3]
theorem lv_clk (s:ByteArray) (d:DDecl) (h:decl lvN s=(d,true)) (hd:d.On=⟨#[]⟩):rowN [] lvN s=([],true):=by
 have:clock lvN s=([],true):=by
  unfold clock
  rw[clk_succ,h,if_pos rfl,if_pos hd]
 unfold rowN
 rw[this,if_pos rfl]
 simp[rowL]
theorem lv_fits:fitsF (rowN [] lvN) [] lvE []=true:=by
 have hx:fitsF (rowN [] lvN) [] lvX []=true:=by
  rw[fitsF_eq]
  simp[Ex.kind,Ex.name,lv_clk _ _ lv_d1 rfl]
  try exact eqB_eq rfl
 have hn:∀ m,fitsF (rowN [] lvN) [] (lvL m) []=true:=fun m=>by
  rw[fitsF_eq]
  simp[Ex.kind,fitsL,Ex.subs]
 have hp:fitsF (rowN [] lvN) [] lvP []=true:=by
  rw[fitsF_eq]
  simp[Ex.kind,fitsL,Ex.subs,hx]
 have hs:fitsF (rowN [] lvN) [] lvS []=true:=by
  rw[fitsF_eq]
  simp[Ex.kind,fitsL,Ex.subs,hp,hn]
 rw[fitsF_eq]
 simp[Ex.kind,fitsL,Ex.subs,hs,hn]
theorem lv_clock:clockF lvG=⟨0,0,0⟩:=by
 have h1:rowsOk [] lvN=true:=by simp[rowsOk,allV,lv_clk _ _ lv_d1 rfl,lv_clk _ _ lv_d2 rfl]
 have h2:eqCk [] lvN lvQ=true:=by
  unfold eqCk
  simp[lv_clk _ _ lv_d2 rfl,lv_fits,eqB_eq]
 unfold clockF
 rw[lv_types,if_pos rfl]
 simp[firstF,nodeCk,h1,firstE,h2]
theorem lv_reads:readsF lvE=[]:=by simp[readsF,readsL,mineK]
theorem lv_cause:causeF lvG=⟨0,0,0⟩:=by
 have hc:clock lvN ⟨#[121]⟩=([],true):=by
  unfold clock
  rw[clk_succ,lv_d2,if_pos rfl,if_pos rfl]
 have h1:hangsC lvN=[[]]:=by simp[hangsF,lv_reads,hc]
 have h2:orderF (namesC lvN) (hangsC lvN)=([0],true):=by
  rw[h1]
  decide +kernel
 have h3:nodeCa 0 lvN=⟨0,0,0⟩:=by
  unfold nodeCa
  rw[h2,if_pos rfl]
 unfold causeF
 rw[lv_clock,if_pos rfl]
 simp[firstF,h3]
theorem lv_start:(startF lvG).Err=0:=by
 have h1:lt lvE=(false,true):=by simp[lt,ltL,ltH,ltK]
 have h2:eqSt lvQ=true:=by unfold eqSt;rw[show lvQ.E=lvE from rfl,h1];rfl
 have h3:nodeSt 0 lvN=⟨0,0,0⟩:=by simp[nodeSt,firstE,h2]
 unfold startF
 rw[lv_cause,if_pos rfl]
 simp[firstF,h3]
abbrev lvA (j:Nat):DAtom:=⟨nmN ⟨#[121]⟩ j,0⟩
theorem lv_row:rowOn lvG 0 ⟨#[121]⟩=[]:=by
 unfold rowOn rowF
 simp[nodeAt,lv_clk _ _ lv_d2 rfl]
theorem lv_map:(flowNm lvG 0 lvN).Eqs.map (fun q=>(q.Names,q.Args))=[([nmN ⟨#[121]⟩ 1],[noAtom]),([nmN ⟨#[121]⟩ 2],[⟨⟨#[120]⟩,0⟩]),([nmN ⟨#[121]⟩ 3],[lvA 2,⟨⟨#[]⟩,1⟩]),([⟨#[121]⟩],[lvA 1,noAtom,lvA 3])]:=by
 simp[flowNm,eqsNm,eqNm,eqPl,lv_row,plainN_eq,frstN,argsN,eachN_cons,eachN_nil,atomN,leafK,leafA,headN,freshN,onN,Ex.kind,Ex.subs,Ex.name,Ex.n,Ex.op,Ex.arms,plain0]
theorem lv_eqs:∃ q0 q1 q2 q3:DPlain,(flowNm lvG 0 lvN).Eqs=[q0,q1,q2,q3]∧q0.Names=[nmN ⟨#[121]⟩ 1]∧q2.Names=[nmN ⟨#[121]⟩ 3]∧q3.Args=[lvA 1,noAtom,lvA 3]:=by
 have h:=lv_map
 generalize (flowNm lvG 0 lvN).Eqs=l at h
 rcases l with _|⟨a,_|⟨b,_|⟨c,_|⟨d,_|⟨x,l⟩⟩⟩⟩⟩<;>simp only[List.map_cons,List.map_nil,List.cons.injEq,Prod.mk.injEq,and_true,reduceCtorEq,and_false] at h
 exact⟨a,b,c,d,rfl,h.1.1,h.2.2.1.1,h.2.2.2.2⟩
theorem weak_tkN {sz:Nat} {es ds:List AV} {k:Nat} (h:es=ds):Weak (.lst sz es (some k)) (.lst sz ds none):=h▸.tok _ _ _
theorem live21:PCall Tryz.prog 9 [] (.b true):=by
 have hf:=flows10 lvG lvG_ok
 rw[norm_ok lv_start] at hf
 refine pcall_of_vc tabOK Tryz.func9 (by kernel_rfl) rfl pureL pureI (n:=84) rfl (rs:=[.tmp 0]) rfl ?_
 simp only[go_sem]
 refine PCall.callW hf ⟨?_,trivial⟩ ?_
 ·
  rw[DProg.enc_eq]
  refine Weak.aggs ⟨.nil _,?_,trivial⟩
  refine Weak.lsts (by simp) (by intro e he;obtain⟨x,_,rfl⟩:=List.mem_map.1 he;rw[DNode.enc_cells];rfl) ?_
  show WeakL _ (flat [lvN.enc])
  rw[DNode.enc_eq]
  refine⟨.refl _,weak_tkN (by simp[DDecl.enc_eq]),weak_tkN (by simp[DDecl.enc_eq]),.nil _,?_,trivial⟩
  refine Weak.lsts (by simp) (by intro e he;obtain⟨x,_,rfl⟩:=List.mem_map.1 he;rw[DEq.enc_cells];rfl) ?_
  show WeakL _ (flat [lvQ.enc])
  rw[DEq.enc_eq]
  refine⟨weak_tkN (by simp),.refl _,.refl _,.refl _,.refl _,.nil _,?_,trivial⟩
  repeat' first|exact trivial|exact .nil _|exact .refl _|exact .tok _ _ _|refine⟨?_,?_⟩|refine weak_ex ?_ ?_|refine weak_subs rfl ?_|simp only[flat_nil,flat_agg,flat_ex,flat_ex0,enc_cells,List.cons_append,List.nil_append,Ex.kind,Ex.n,Ex.name,Ex.op,Ex.arms,Ex.subs]
 obtain⟨q0,q1,q2,q3,he,e0,e2,e3⟩:=lv_eqs
 have hn1:(⟨#[121,46,49]⟩:ByteArray)=nmN ⟨#[121]⟩ 1:=by decide +kernel
 have hn3:(⟨#[121,46,51]⟩:ByteArray)=nmN ⟨#[121]⟩ 3:=by decide +kernel
 have hns:nodesNm lvG 0 lvG.Nodes=[flowNm lvG 0 lvN]:=rfl
 rw[hns]
 generalize flowNm lvG 0 lvN=f at he
 repeat' first
  | simp only[go_sem,he,e0,e2,e3]
  | (intro _)
  | refine gK_dec (fun _=>?_) (fun _=>?_)
  | refine brK_dec (fun _=>?_) (fun _=>?_)
  | (exfalso;omega)
  | refine elemK _ (by omega) rfl ?_
  | (refine PCall.callW (namesStr [nmN ⟨#[121]⟩ 1] [nmN ⟨#[121]⟩ 1]) ⟨.refl _,weak_tkN (by rw[← hn1];rfl),trivial⟩ ?_;rw[eqB_eq rfl])
  | (refine PCall.callW (namesStr [nmN ⟨#[121]⟩ 3] [nmN ⟨#[121]⟩ 3]) ⟨.refl _,weak_tkN (by rw[← hn3];rfl),trivial⟩ ?_;rw[eqB_eq rfl])
  | (refine PCall.callW (sameAtoms [lvA 1,noAtom,lvA 3] [lvA 1,noAtom,lvA 3]) ⟨by simp only[List.map_cons,List.map_nil];exact .refl _,weak_tkN (by simp only[List.map_cons,List.map_nil,DAtom.enc_eq,← hn1,← hn3]),trivial⟩ ?_;rw[eqB_eq rfl])
  | exact finBq rfl rfl
end Go.Proofs.YtpamokpmlplopaaGreatDoor
