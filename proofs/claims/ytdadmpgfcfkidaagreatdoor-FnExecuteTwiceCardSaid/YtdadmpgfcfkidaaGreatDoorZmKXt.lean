/- FnExecuteTwiceCard holds, with no condition. -/
import Derived.Test.YtdadmpgfcfkidaaGreatDoorZm6
import Derived.Test.YtdadmpgfcfkidaaGreatDoorTie
import Derived.SevenTiedAt
set_option maxRecDepth 100000
set_option maxHeartbeats 8000000
set_option linter.defProp false
set_option linter.unusedVariables false
set_option linter.unusedSimpArgs false
open Go.ChangeSpec renaming witness_at→adg
open Go.OpenSpec renaming ofChange→rU
open Go.Proofs.YtdadmpgfcfkidaaGreatDoor.Rows renaming fnExecuteTwiceRow→mJ,fnExecuteTwiceSpec→By
open Go.Proofs.Tryz renaming checked→vz,f4→vD,func4→Tl,prog→θ
open Bool renaming false→η,true→ε
open Go renaming joinedFacts→FQ,laidMetH→rV
open Go.Proofs.Tryz
namespace Go.Proofs.YtdadmpgfcfkidaaGreatDoor
noncomputable section
open Go.ChangeShapes Go.WideShapes Go.ChangeAt Go.RowKit
def ajo(os:Os)(a:os.Started)(H:Type)(enc:TypeId×Value->H):ReturnsInHanded {} vz os 4 .any (λw args=>(By.pre enc θ vD mJ.domain η w args/\rV θ mJ.laid w)/\sizedMet enc θ vD (rU By) η w args) (By.post enc θ vD η ε η η):=by
 refine RC (C:=vz) (X:=λw _=>rV θ mJ.laid w) (λ_ _ _ f h=>h.of_heap f) own a (by kernel_rfl) Tl
  (adg (enc:=enc) (C:=vz) (os:=os) (X:=λw _=>rV θ mJ.laid w) η (Ip os) #[.slice none 0 0] 8 rfl (by kernel_rfl) (by kernel_rfl) (by kernel_rfl) (by kernel_rfl) (by kernel_rfl) (Oe os _)) ?_
 intro W d args g i c e j k iP;exact Mc (spec:=By) Tl rfl rfl rfl (λ_ _=>rfl) (λm b l n=>ayY m b l n) H enc W d args g i c e j (Of k iP)
def aje:mJ.wf (rU By)=ε:=by kernel_rfl
def ajf:(mJ.inPlace==θ.inPlace 4)=ε:=by kernel_rfl
def ajg:(mJ.unfollowed==θ.unfollowed 4)=ε:=by kernel_rfl
def ajh:(mJ.recurses==θ.recurses 4)=ε:=by kernel_rfl
def aji:(mJ.named==θ.varsNamed 4)=ε:=by kernel_rfl
def VN:θ.funcNamed mJ.func=some 4:=by kernel_rfl
def ajj:(mJ.lifted==θ.liftsFinal)=ε:=N'
def ajk:(θ.make==some mJ.make)=ε:=Oa
def ajl:(mJ.plainKeys==θ.plainKeys)=ε:=Ob
def ajn:FQ θ 4 vD By mJ=ε:=by unfold FQ;rw[N5,N6,N7,N8,N9,N_,aje,ajf,ajg,ajh,aji,ajj,ajk,ajl];kernel_rfl
def ajt:Rows.FnExecuteTwiceSaid:=
 OpenClaim.holds_of_wide 4 vD rfl rfl rfl rfl rfl rfl rfl ⟨rfl,rfl,rfl,rfl,rfl⟩ rfl rfl rfl rfl rfl VN Tl ajn
  (aV (by kernel_rfl)) (by unfold Func.isWrapper;first|(rw[aU (by decide+kernel)];kernel_rfl)|(rw[bI (by decide+kernel)];exact⟨rfl,rfl⟩))
  (λb a H enc _=>ajo b a H enc)
def ajv:mJ.wfByText (rU By)=ε:=by kernel_rfl
def ajr:θ.mainIs=some (ε,"1e651f391ae61ae4cc3472db413ea7594896bd5eb2c945447fe12ab491eb388d".toList):=by kernel_rfl
def ajq:ε=θ.looks []:=by kernel_rfl
def aju:θ.wantsStandIn 22=η:=by kernel_rfl
def ajm:η=mJ.goesBy θ:=by kernel_rfl
theorem ext_holds:Rows.FnExecuteTwiceCardSaid:=
 Claim7.holds_tied_plain_at .later [] [.data,.data,.data,.data,.handle,.sentinel,.sentinel,.pinned] ε (ε,"1e651f391ae61ae4cc3472db413ea7594896bd5eb2c945447fe12ab491eb388d") ε
  ajt (λ_ h=>by cases h) ajv (λ_ h=>by cases h) fnExecuteTwice_row_tie rfl ⟨rfl,rfl⟩ ajr rfl
  (λf fn c a=>by
    obtain rfl:f=4:=(ov (VN.symm.trans c)).symm;obtain rfl:fn=vD:=(ov (Tl.symm.trans a)).symm;exact⟨ajq,λj t b=>by
     rw[params4]at b;have d:t=22:=by
      rcases j with _|j
      ·simpa using b.symm
      ·simp at b
     subst d;exact aju⟩)
  ajm
end
end Go.Proofs.YtdadmpgfcfkidaaGreatDoor
#print axioms Go.Proofs.YtdadmpgfcfkidaaGreatDoor.ext_holds
