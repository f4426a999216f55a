/- FnExecuteWhatCard holds, with no condition. -/
import Derived.Test.YtdadmpgfcfkidaaGreatDoorZm6
import Derived.Test.YtdadmpgfcfkidaaGreatDoorTie
import Derived.SevenTiedAt
set_option maxRecDepth 100000
set_option maxHeartbeats 8000000
set_option linter.defProp false
set_option linter.unusedVariables false
set_option linter.unusedSimpArgs false
open Go.ChangeSpec renaming witness_at→adg
open Go.OpenSpec renaming ofChange→rU
open Go.Proofs.YtdadmpgfcfkidaaGreatDoor.Rows renaming fnExecuteWhatRow→mK,fnExecuteWhatSpec→Bz
open Go.Proofs.Tryz renaming checked→vz,f5→vE,func5→To,prog→θ
open Bool renaming false→η,true→ε
open Go renaming joinedFacts→FQ,laidMetH→rV
open Go.Proofs.Tryz
namespace Go.Proofs.YtdadmpgfcfkidaaGreatDoor
noncomputable section
open Go.ChangeShapes Go.WideShapes Go.ChangeAt Go.RowKit
def ajI(os:Os)(a:os.Started)(H:Type)(enc:TypeId×Value->H):ReturnsInHanded {} vz os 5 .any (λw args=>(Bz.pre enc θ vE mK.domain η w args/\rV θ mK.laid w)/\sizedMet enc θ vE (rU Bz) η w args) (Bz.post enc θ vE η ε η η):=by
 refine RC (C:=vz) (X:=λw _=>rV θ mK.laid w) (λ_ _ _ f h=>h.of_heap f) own a (by kernel_rfl) To
  (adg (enc:=enc) (C:=vz) (os:=os) (X:=λw _=>rV θ mK.laid w) η (Ip os) #[.slice none 0 0] 8 rfl (by kernel_rfl) (by kernel_rfl) (by kernel_rfl) (by kernel_rfl) (by kernel_rfl) (Oe os _)) ?_
 intro W d args g i c e j k iP;exact Mc (spec:=Bz) To rfl rfl rfl (λ_ _=>rfl) (λm b l n=>ayZ m b l n) H enc W d args g i c e j (Of k iP)
def ajy:mK.wf (rU Bz)=ε:=by kernel_rfl
def ajz:(mK.inPlace==θ.inPlace 5)=ε:=by kernel_rfl
def ajA:(mK.unfollowed==θ.unfollowed 5)=ε:=by kernel_rfl
def ajB:(mK.recurses==θ.recurses 5)=ε:=by kernel_rfl
def ajC:(mK.named==θ.varsNamed 5)=ε:=by kernel_rfl
def VO:θ.funcNamed mK.func=some 5:=by kernel_rfl
def ajD:(mK.lifted==θ.liftsFinal)=ε:=N'
def ajE:(θ.make==some mK.make)=ε:=Oa
def ajF:(mK.plainKeys==θ.plainKeys)=ε:=Ob
def ajH:FQ θ 5 vE Bz mK=ε:=by unfold FQ;rw[N5,N6,N7,N8,N9,N_,ajy,ajz,ajA,ajB,ajC,ajD,ajE,ajF];kernel_rfl
def ajL:Rows.FnExecuteWhatSaid:=
 OpenClaim.holds_of_wide 5 vE rfl rfl rfl rfl rfl rfl rfl ⟨rfl,rfl,rfl,rfl,rfl⟩ rfl rfl rfl rfl rfl VO To ajH
  (aV (by kernel_rfl)) (by unfold Func.isWrapper;first|(rw[aU (by decide+kernel)];kernel_rfl)|(rw[bI (by decide+kernel)];exact⟨rfl,rfl⟩))
  (λb a H enc _=>ajI b a H enc)
def ajN:mK.wfByText (rU Bz)=ε:=by kernel_rfl
def ajK:θ.mainIs=some (ε,"1e651f391ae61ae4cc3472db413ea7594896bd5eb2c945447fe12ab491eb388d".toList):=by kernel_rfl
def ajJ:ε=θ.looks []:=by kernel_rfl
def ajM:θ.wantsStandIn 22=η:=by kernel_rfl
def ajG:η=mK.goesBy θ:=by kernel_rfl
theorem exw_holds:Rows.FnExecuteWhatCardSaid:=
 Claim7.holds_tied_plain_at .later [] [.data,.data,.data,.data,.handle,.sentinel,.sentinel,.pinned] ε (ε,"1e651f391ae61ae4cc3472db413ea7594896bd5eb2c945447fe12ab491eb388d") ε
  ajL (λ_ h=>by cases h) ajN (λ_ h=>by cases h) fnExecuteWhat_row_tie rfl ⟨rfl,rfl⟩ ajK rfl
  (λf fn c a=>by
    obtain rfl:f=5:=(ov (VO.symm.trans c)).symm;obtain rfl:fn=vE:=(ov (To.symm.trans a)).symm;exact⟨ajJ,λj t b=>by
     rw[params5]at b;have d:t=22:=by
      rcases j with _|j
      ·simpa using b.symm
      ·simp at b
     subst d;exact ajM⟩)
  ajG
end
end Go.Proofs.YtdadmpgfcfkidaaGreatDoor
#print axioms Go.Proofs.YtdadmpgfcfkidaaGreatDoor.exw_holds
