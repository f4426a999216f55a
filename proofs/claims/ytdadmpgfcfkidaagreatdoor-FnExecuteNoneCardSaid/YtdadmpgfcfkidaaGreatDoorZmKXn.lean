/- FnExecuteNoneCard holds, with no condition. -/
import Derived.Test.YtdadmpgfcfkidaaGreatDoorZm6
import Derived.Test.YtdadmpgfcfkidaaGreatDoorTie
import Derived.SevenTiedAt
set_option maxRecDepth 100000
set_option maxHeartbeats 8000000
set_option linter.defProp false
set_option linter.unusedVariables false
set_option linter.unusedSimpArgs false
open Go.ChangeSpec renaming witness_at→adg
open Go.OpenSpec renaming ofChange→rU
open Go.Proofs.YtdadmpgfcfkidaaGreatDoor.Rows renaming fnExecuteNoneRow→jP,fnExecuteNoneSpec→Bx
open Go.Proofs.Tryz renaming checked→vz,f3→vC,func3→Tk,prog→θ
open Bool renaming false→η,true→ε
open Go renaming joinedFacts→FQ,laidMetH→rV
open Go.Proofs.Tryz
namespace Go.Proofs.YtdadmpgfcfkidaaGreatDoor
noncomputable section
open Go.ChangeShapes Go.WideShapes Go.ChangeAt Go.RowKit
def ai9(os:Os)(a:os.Started)(H:Type)(enc:TypeId×Value->H):ReturnsInHanded {} vz os 3 .any (λw args=>(Bx.pre enc θ vC jP.domain η w args/\rV θ jP.laid w)/\sizedMet enc θ vC (rU Bx) η w args) (Bx.post enc θ vC η ε η η):=by
 refine RC (C:=vz) (X:=λw _=>rV θ jP.laid w) (λ_ _ _ f h=>h.of_heap f) own a (by kernel_rfl) Tk
  (adg (enc:=enc) (C:=vz) (os:=os) (X:=λw _=>rV θ jP.laid w) η (Ip os) #[.slice none 0 0] 8 rfl (by kernel_rfl) (by kernel_rfl) (by kernel_rfl) (by kernel_rfl) (by kernel_rfl) (Oe os _)) ?_
 intro W d args g i c e j k iP;exact Mc (spec:=Bx) Tk rfl rfl rfl (λ_ _=>rfl) (λm b l n=>ayX m b l n) H enc W d args g i c e j (Of k iP)
def aiZ:jP.wf (rU Bx)=ε:=by kernel_rfl
def ai0:(jP.inPlace==θ.inPlace 3)=ε:=by kernel_rfl
def ai1:(jP.unfollowed==θ.unfollowed 3)=ε:=by kernel_rfl
def ai2:(jP.recurses==θ.recurses 3)=ε:=by kernel_rfl
def ai3:(jP.named==θ.varsNamed 3)=ε:=by kernel_rfl
def VL:θ.funcNamed jP.func=some 3:=by kernel_rfl
def ai4:(jP.lifted==θ.liftsFinal)=ε:=N'
def ai5:(θ.make==some jP.make)=ε:=Oa
def ai6:(jP.plainKeys==θ.plainKeys)=ε:=Ob
def ai8:FQ θ 3 vC Bx jP=ε:=by unfold FQ;rw[N5,N6,N7,N8,N9,N_,aiZ,ai0,ai1,ai2,ai3,ai4,ai5,ai6];kernel_rfl
def aja:Rows.FnExecuteNoneSaid:=
 OpenClaim.holds_of_wide 3 vC rfl rfl rfl rfl rfl rfl rfl ⟨rfl,rfl,rfl,rfl,rfl⟩ rfl rfl rfl rfl rfl VL Tk ai8
  (aV (by kernel_rfl)) (by unfold Func.isWrapper;first|(rw[aU (by decide+kernel)];kernel_rfl)|(rw[bI (by decide+kernel)];exact⟨rfl,rfl⟩))
  (λb a H enc _=>ai9 b a H enc)
def ajc:jP.wfByText (rU Bx)=ε:=by kernel_rfl
def ai':θ.mainIs=some (ε,"1e651f391ae61ae4cc3472db413ea7594896bd5eb2c945447fe12ab491eb388d".toList):=by kernel_rfl
def ai_:ε=θ.looks []:=by kernel_rfl
def ajb:θ.wantsStandIn 22=η:=by kernel_rfl
def ai7:η=jP.goesBy θ:=by kernel_rfl
theorem exn_holds:Rows.FnExecuteNoneCardSaid:=
 Claim7.holds_tied_plain_at .later [] [.data,.data,.data,.data,.handle,.sentinel,.sentinel,.pinned] ε (ε,"1e651f391ae61ae4cc3472db413ea7594896bd5eb2c945447fe12ab491eb388d") ε
  aja (λ_ h=>by cases h) ajc (λ_ h=>by cases h) fnExecuteNone_row_tie rfl ⟨rfl,rfl⟩ ai' rfl
  (λf fn c a=>by
    obtain rfl:f=3:=(ov (VL.symm.trans c)).symm;obtain rfl:fn=vC:=(ov (Tk.symm.trans a)).symm;exact⟨ai_,λj t b=>by
     rw[params3]at b;have d:t=22:=by
      rcases j with _|j
      ·simpa using b.symm
      ·simp at b
     subst d;exact ajb⟩)
  ai7
end
end Go.Proofs.YtdadmpgfcfkidaaGreatDoor
#print axioms Go.Proofs.YtdadmpgfcfkidaaGreatDoor.exn_holds
