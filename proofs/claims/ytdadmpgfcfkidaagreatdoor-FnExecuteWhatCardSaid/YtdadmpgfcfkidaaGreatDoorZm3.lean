/- Part 3 of the proof of FnExecuteNoneCard, FnExecuteTwiceCard, FnExecuteWhatCard. -/
import Derived.Test.YtdadmpgfcfkidaaGreatDoorZm2
import Derived.StillTail
import Derived.RowKit3
import Derived.Lib.SplitLaws
import Derived.Lib.AtoiAll
import Derived.Lib.ItoaNum
import Derived.Lib.Join
import Derived.Shelf.Strings.Cut
import Derived.Shelf.Strings.Split
import Derived.Shelf.Strconv.AtoiAll
import Derived.Shelf.Strings.Search3
import Derived.Laws.Strings
import Derived.LoopTactic
import Derived.Lib.ConvBytes
import Derived.Shelf.Small.Wraps
import Derived.OwnWalk
import Derived.Lib.ItoaLen
import Derived.LaidEql
import Derived.Stop.Asserts
import Derived.RowKitTokens
set_option maxRecDepth 100000
set_option maxHeartbeats 8000000
set_option linter.defProp false
set_option linter.unusedVariables false
set_option linter.unusedSimpArgs false
open Go renaming Act→a8,Addr→cM,Calls→aM,Code→bc,Ending→jM,Exit→e9,Func→cb,method→JV,Oper→a_,Operand→cP,Program→bS,SeqStopsK→yj,TypeId→ae,Value→τ,World→ψ,bodyPostM→TD,callFunc→g_,execOp→dw,heap_alloc_new→aeF,loadVar→vF,maxLen→jB,step→kn,storeVar→KB,undef→aZ,underlying→KC,wpOp→l_,wpOpIn→vJ,wpOps→tU
open Go.Act renaming put→jx
open Go.Addr renaming add→vn
open _root_ renaming Array→aX,Bool→ξ,ByteArray→ρ,Int→Z,List→E,Nat→O,Option→χ,UInt8→υ,absurd→aR,guard→qz
open Array renaming mk→ap,setIfInBounds_eq_of_size_le→ay3
open Go.RowKit.Below renaming heap_setCell→kM,refl→vo
open Go.Builtin renaming append_→rP
open ByteArray renaming empty→oh,extract→qp,mk→ah,size→ay
open Go.Code renaming block→adi,cond→Fa,region→JR,seq→xT
open Go.Deferred renaming ofValue→Fb
open Go.Exit renaming inBlock→pr
open Function renaming comp→JU
open Go.Shelf renaming Ren→nj
open Go.Instr renaming makeSlice→adu,typeAssert→Be
open Int renaming toNat→aT
open Go.IntKind renaming i64→aY,u8→pu,wrap→aa
open Go.Lib.NumEnd.ok renaming injEq→adG
open Go.Lib renaming atoiAll→Fi,bytesWorld→xZ,countB→Bg,countB_le→adH,cut→e_,decDigits→gL,extract_data→adI,hasPrefix→R8,index→Fj,itoa→bg,join→iW,joinTail→mD,join_nil→adK,parseUint10→x',splitB→Bh,splitK→adL,trimPrefix→ya
open List renaming isPrefixOf→adV,length→ce,map→Fq,map_id→Sk,range→dK,range'→vt,replicate→eH,take_append_drop→ad2,toArray→qr
open Nat renaming beq→Ψ,ble→Δ,blt→ω,ne_of_lt→aeb,strongRecOn→Fy
open Go.Obj.cells renaming injEq→rT
open Go.Oper renaming semAt_none→aee,upon→yi,wp→ot
open Go.Extern.ReflectliteType renaming abiMethod→aef,assignableTo→Sx,elem→azo,implements_→azp,method→azq,relation→FB,toType→azr,typeOf→Sy
open Go.Extern.ReflectliteValue renaming elem→aeg,flagAddr→aeh,isNil→aei,method→Kh,methodAny→azs,mk→aAj,parts→FC,set→aej,unpack→Ki,valueError→FD
open Go.Region renaming ready→mI,wanted→ow
open Go.Result renaming andThen→FF
open Go.Extern.Rtype renaming directlyAssignable→azC,kind→SC
open Go.Proofs.Tryz renaming f131→SK,f155→SP,f156→SQ,f190→SZ,f221→FH,f61→nr,f90→BE,f92→pD,func111→S_,func123→Td,func204→Kn,func205→aeo,func256→Tj,func285→aeq,func58→Tp,func64→aeu,func70→Tq,func71→aew,ntmps123→aez,ntmps204→Tu,ntmps256→Tv,prog→θ,underlying41→tH
open UInt8 renaming ofNat→ns
open Go.Value renaming int→jc,slice→gj,string→b9
open Go.Value.slice renaming injEq→azE
open Go.World renaming cell?→oA,cell?_alloc_at→tJ,cell?_alloc_lt→fD,frozen?_alloc_old→Ks,setCell→mL
open Decidable renaming decide→κ
open Bool renaming false→η,true→ε
open Option renaming none→ζ,some→γ
open Go.Proofs.Tryz
namespace Go.Proofs.YtdadmpgfcfkidaaGreatDoor
noncomputable section
open Go.RowKit Go.Shelf Go.Extern.Stop Go.Stop Go.Extern
def RI:=@Go.Proofs.Any.strings_Split
def Ba:=@Array.getElem?_modify
def g7:=@Bool.and_false
def l5:=@Bool.false_and
def RP:=@Bool.or_true
def pq:=@Go.ByteArray.toList_eq
def ay8:=@Go.Proofs.cell_of_shapedOpen_int
def aze:=@Go.Lib.run_convert_string_bytes
def adQ:=@List.dropLast_concat
def R_:=@List.drop_left
def Bj:=@List.flatten_cons
def Bl:=@List.foldl_append
def Sj:=@List.length_eq_zero_iff
def nq:=@List.mem_singleton
def Sm:=@List.take_add_one
def J_:=@List.take_left
def Bp:=@List.take_length
def yf:=@List.take_succ_eq_append_getElem
def Ka:=@Nat.le_of_eq
def Kb:=@Nat.le_of_lt
def ad9:=@Nat.le_zero
def gi:=@Nat.not_le
def ov:=@Option.some.inj
def FM:=@UInt8.toNat_inj
def oB:=@Go.World.cell?_of_block
def aeD:=@beq_self_eq_true
def hO:=@Go.cell_of_row
def tO:=@Go.frozen_of_row
def nt:=@Go.run_callFunc_extern
def aeH:=@Go.wpIn_cond_true
def ia(a b:ao):ξ:=(bt (bq a)&&bt (bq b))&&bt (bq (ez a b))
def j6(a b:ao):O->Z:=bif ia a b then ez a b else λ_=>0
def akN:aK θ (HE (λv=>bt (bq v)) ez):=by
 have a:ss ez=CE:=by funext l;rfl
 unfold HE;rw[qP,a];exact az (az ba D6) PL
def akM:aK θ (HC (λv=>bt (bq v)) ez):=by
 have a:ss ez=Hb:=by funext l;rfl
 unfold HC;rw[qP,a];exact az (az ba D5) ZU
def apb:ak θ 115 (ai [.val,.val] (yz j6 ia)):=by
 refine ca akN func115 rfl λC H g I=>?_
 unfold yz at g;split at g
 ·rename_i h i j k l m n p r s t u w x y z
  cases g;refine⟨[],K,100,.nil,de _,?_⟩;show aE (ad θ (HE (λv=>bt (bq v)) ez) K 100 f115 [.v (dA (v8 h i j k l m n p)),.v (dA (v8 r s t u w x y z))] [] (ag 0)) _
  rw[aws];generalize L:v8 h i j k l m n p=a;generalize M:v8 r s t u w x y z=b;have f:∀(v:ao)(o:ξ),j6 a b=v->ia a b=o->aE (.out .ret [.af [.agg (fe v),.v (.bool o)]] []) (dX (bJ [.val,.val] [.v (.agg ⟨[.int .i64 h,.int .i64 i,.int .i64 j,.int .i64 k,.int .i64 l,.int .i64 m,.int .i64 n,.int .i64 p]⟩),.v (.agg ⟨[.int .i64 r,.int .i64 s,.int .i64 t,.int .i64 u,.int .i64 w,.int .i64 x,.int .i64 y,.int .i64 z]⟩)] []) {val:=.af [.agg (fe (j6 a b)),.v (.bool (ia a b))]}):=by rintro v o rfl rfl;exact F ⟨_,rfl,rfl,.nil⟩
  have d:ia a b=η->aE (.out .ret [.af [.agg (fe λ_=>0),.v (.bool η)]] []) _:=λe=>f _ _ (by rw[j6,e];rfl) e
  refine aD (λq=>?_) λq=>?_
  ·have c:(!bt (bq a))=ε:=q
   exact d (by rw[ia,show bt (bq a)=η by simpa using c];rfl)
  ·have c:(!bt (bq a))=η:=q
   have A:bt (bq a)=ε:=by simpa using c
   refine aD (λq=>?_) λq=>?_
   ·have c:(!bt (bq b))=ε:=q
    exact d (by rw[ia,A,show bt (bq b)=η by simpa using c];rfl)
   ·have c:(!bt (bq b))=η:=q
    have B:bt (bq b)=ε:=by simpa using c
    refine aD (λq=>?_) λq=>?_
    ·have c:(!bt (bq (ez a b)))=ε:=q
     exact d (by rw[ia,A,B,show bt (bq (ez a b))=η by simpa using c];rfl)
    ·have c:(!bt (bq (ez a b)))=η:=q
     have G:bt (bq (ez a b))=ε:=by simpa using c
     have e:ia a b=ε:=by rw[ia,A,B,G];rfl
     exact f (ez a b) ε (by rw[j6,e];rfl) e
 ·cases g
def apc:ak θ 159 (ai [.val,.val] (yz j6 ia)):=by
 refine ca akM func159 rfl λC H g I=>?_
 unfold yz at g;split at g
 ·rename_i h i j k l m n p r s t u w x y z
  cases g;refine⟨[],K,100,.nil,de _,?_⟩;show aE (ad θ (HC (λv=>bt (bq v)) ez) K 100 f159 [.v (dA (v8 h i j k l m n p)),.v (dA (v8 r s t u w x y z))] [] (ag 0)) _
  rw[awt];generalize L:v8 h i j k l m n p=a;generalize M:v8 r s t u w x y z=b;have f:∀(v:ao)(o:ξ),j6 a b=v->ia a b=o->aE (.out .ret [.af [.agg (fe v),.v (.bool o)]] []) (dX (bJ [.val,.val] [.v (.agg ⟨[.int .i64 h,.int .i64 i,.int .i64 j,.int .i64 k,.int .i64 l,.int .i64 m,.int .i64 n,.int .i64 p]⟩),.v (.agg ⟨[.int .i64 r,.int .i64 s,.int .i64 t,.int .i64 u,.int .i64 w,.int .i64 x,.int .i64 y,.int .i64 z]⟩)] []) {val:=.af [.agg (fe (j6 a b)),.v (.bool (ia a b))]}):=by rintro v o rfl rfl;exact F ⟨_,rfl,rfl,.nil⟩
  have d:ia a b=η->aE (.out .ret [.af [.agg (fe λ_=>0),.v (.bool η)]] []) _:=λe=>f _ _ (by rw[j6,e];rfl) e
  refine aD (λq=>?_) λq=>?_
  ·have c:(!bt (bq a))=ε:=q
   exact d (by rw[ia,show bt (bq a)=η by simpa using c];rfl)
  ·have c:(!bt (bq a))=η:=q
   have A:bt (bq a)=ε:=by simpa using c
   refine aD (λq=>?_) λq=>?_
   ·have c:(!bt (bq b))=ε:=q
    exact d (by rw[ia,A,show bt (bq b)=η by simpa using c];rfl)
   ·have c:(!bt (bq b))=η:=q
    have B:bt (bq b)=ε:=by simpa using c
    refine aD (λq=>?_) λq=>?_
    ·have c:(!bt (bq (ez a b)))=ε:=q
     exact d (by rw[ia,A,B,show bt (bq (ez a b))=η by simpa using c];rfl)
    ·have c:(!bt (bq (ez a b)))=η:=q
     have G:bt (bq (ez a b))=ε:=by simpa using c
     have e:ia a b=ε:=by rw[ia,A,B,G];rfl
     exact f (ez a b) ε (by rw[j6,e];rfl) e
 ·cases g
def fR(x y:Wh):Wh:=⟨aa aY (x.s+y.s),bq (j6 x.r.f y.r.f)⟩
def jI(x y:Wh):ξ:=ia x.r.f y.r.f
def cT(A B:E Wh):E Wh:=A.flatMap λx=>B.map (fR x)
def mm(A B:E Wh):ξ:=A.all λx=>B.all (jI x)
def I2(A B:E Wh)(x:Wh):cT (A++[x]) B=cT A B++B.map (fR x):=by simp[cT]
def Zv(A B:E Wh)(x:Wh):mm (A++[x]) B=(mm A B&&B.all (jI x)):=by simp[mm]
def Ef(A B:E Wh):(cT A B).length=A.length*B.length:=by
 induction A with
 |nil=>simp[cT]
 |cons x A a=>have:cT (x::A) B=B.map (fR x)++cT A B:=rfl;rw[this,bN,dv,a,bZ,fZ,kk,Nat.add_comm]
def aaB(A B:E Wh):nN (cT A B):=by
 intro w a;simp only[cT,List.mem_flatMap,gh]at a;obtain⟨x,_,y,_,rfl⟩:=a;refine GD λk _=>?_
 unfold j6;cases ia x.r.f y.r.f with
 |true=>exact n6 _
 |false=>show(-9223372036854775808:Z)<=0/\(0:Z)<=9223372036854775807;omega
variable {i:O}
variable {z:O->O->Z}
def Zu{A B:E Wh}{m:O}(a:A=V z m)(b:i<m)(h:B.all (jI (bh (z i)))=η):mm A B=η:=by
 subst a;cases e:mm (V z m) B with
 |false=>rfl
 |true=>have:=bT.1 e (bh (z i)) (kj (o4 z b));rw[h]at this;cases this
def Uo{n j:O}{p:Wh->ξ}(a:j<n)(h:p (bh (z j))=η):(V z n).all p=η:=by
 cases e:(V z n).all p with
 |false=>rfl
 |true=>have:=bT.1 e (bh (z j)) (kj (o4 z a));rw[h]at this;cases this
def W_:aK θ (HY j6 ia):=az ba apb
def WX:aK θ (HV j6 ia):=az ba apc
def avd(m:O)(f:Θ)(n:O)(g:Θ)(P:E Wh)(x:ao)(i:O)(t:P.length<=2^37)(u:n<=2^37)(v:m<=2^37):ck θ 2 (.block 2 (.loop (a5 2 nr))) (bm 60 (zQ .normal) 2 (AL m n P.length i 0) (wH m f n g P.length (Y P) x) (λa=>cond ((V g n).all (jI (bh x))) (a .normal (ar 0 60 ([1,6,22,23,24].zip (qk m n (P.length+n) i))) (fv m f n g (P.length+n) (Y (P++(V g n).map (fR (bh x)))))) (a .ret (ar 0 60 [(4,.v (.slice ζ 0 0)),(5,.v (.bool η))]) (jl m f n g)))):=by
 have S:ck θ 2 (.block 2 (.loop (a5 2 nr))) (bm 60 (zQ .normal) 2 (AL m n (P.length+0) i 0) (wH m f n g (P.length+0) (Y (P++(V g 0).map (fR (bh x)))) x) (λa=>cond ((V g n).all (jI (bh x))) (a .normal (ar 0 60 ([1,6,22,23,24].zip (qk m n (P.length+n) i))) (fv m f n g (P.length+n) (Y (P++(V g n).map (fR (bh x)))))) (a .ret (ar 0 60 [(4,.v (.slice ζ 0 0)),(5,.v (.bool η))]) (jl m f n g)))):=by
  refine dQ W_ (n:=100) (m:=2) (lv:=zQ) (λj=>AL m n (P.length+j) i j) (λj=>wH m f n g (P.length+j) (Y (P++(V g j).map (fR (bh x)))) x) (λj=>(V g j).all (jI (bh x))=ε) n (λ_=>K) (du rfl rfl rfl) (aQ _) rfl λa Q d j h k=>⟨cN _ _ _,?_⟩
  rw[as0];refine aD (λb=>?_) λb=>?_
  ·have b:=aV b
   have c:j<n:=by omega
   simp only[cV,bH];rw[bz (x:=(j:Z)+1)];refine c_ (aD (λq=>?_) λq=>?_)
   ·have e:(!(jI (bh x) (bh (g j))))=ε:=q
    have l:(V g n).all (jI (bh x))=η:=Uo c (by simpa using e);rw[l]at d;exact F ⟨_,Φ.refl _,d⟩
   ·have e:(!(jI (bh x) (bh (g j))))=η:=q
    have o:jI (bh x) (bh (g j))=ε:=by simpa using e
    refine c_ (F ⟨j+1,⟨rfl,c,by rw[iQ,gM,h];simp[o]⟩,rfl,?_⟩);show Φ _ (wH m f n g (P.length+(j+1)) (Y (P++(V g (j+1)).map (fR (bh x)))) x)
    rw[iQ,kP,<-jN];refine .cons (ab.refl _) (.cons (ab.refl _) (.cons (ab.row λr p=>?_) (.cons (ab.refl _) .nil)));exact pQ _ (fR (bh x) (bh (g j))) (P.length+j) (by rw[bN,dv,cR]) r p
  ·have b:=cu b
   have:j=n:=by omega
   subst this;refine F ⟨_,Φ.refl _,?_⟩;rw[aU rfl];rw[h]at d;exact d
 have s:P++(V g 0).map (fR (bh x))=P:=vp P;rw[s]at S;exact S
def abU(m:O)(f:Θ)(n:O)(g:Θ)(p:m<=12)(j:n<=12):ck θ 2 (.block 0 (.loop (a5 0 nr))) (bm 60 (wT .normal) 2 (qk m n 0 0) (fv m f n g 0 (Y [])) (λa=>cond (mm (V f m) (V g n)) (a .normal (ar 0 60 [(6,.own 2 (cT (V f m) (V g n)).length)]) (fv m f n g (cT (V f m) (V g n)).length (Y (cT (V f m) (V g n))))) (a .ret (ar 0 60 [(4,.v (.slice ζ 0 0)),(5,.v (.bool η))]) (jl m f n g)))):=by
 refine dQ W_ (n:=100) (m:=2) (lv:=wT) (λi=>qk m n (cT (V f i) (V g n)).length i) (λi=>fv m f n g (cT (V f i) (V g n)).length (Y (cT (V f i) (V g n)))) (λi=>mm (V f i) (V g n)=ε) m
  (λi=>bif ω i m then YD m f n g (cT (V f i) (V g n)).length (Y (cT (V f i) (V g n))) (f i) i ((V g n).all (jI (bh (f i)))) ((cT (V f i) (V g n)).length+n) (Y (cT (V f i) (V g n)++(V g n).map (fR (bh (f i)))))else bX 2 iv) (du rfl rfl rfl) (aQ _) rfl λa Q e i h k=>?_
 by_cases d:i<m
 ·rw[B6 d,a6]
  have l:(cT (V f i) (V g n)).length<=2^37:=by rw[Ef,cR,cR];exact cF (qu (by omega:i<=12) j) (by omega)
  refine⟨wL (c:=a5 2 nr) (by kernel_rfl) (avd m f n g _ (f i) i l (by omega) (by omega)),?_⟩;rw[asY];refine cv (dc) ?_;rw[cV,bH,bz (x:=(i:Z)+1)];refine aq (by simp only[Ω,ax,aj,aL];exact⟨by omega,by omega,cG ⟨rfl,Φ.refl _⟩⟩) (aD (λq=>?_) λq=>?_)
  ·refine F ⟨i+1,⟨rfl,d,by rw[iQ,Zv,h,q];rfl⟩,?_,?_⟩
   ·show _=qk m n (cT (V f (i+1)) (V g n)).length (i+1)
    rw[iQ,I2,bN,dv,cR];rfl
   ·show Φ _ (fv m f n g (cT (V f (i+1)) (V g n)).length (Y (cT (V f (i+1)) (V g n))))
    rw[iQ,I2,bN,dv,cR];exact Φ.refl _
  ·rw[Zu rfl d q]at e
   exact F ⟨_,Φ.refl _,e⟩
 ·have b:ω i m=η:=by
   cases o:ω i m with
   |false=>rfl
   |true=>rw[bM]at o;omega
  rw[b,be];have:i=m:=by omega
  subst this;refine⟨wL (c:=a5 2 nr) (by kernel_rfl) ur,?_⟩;rw[asZ];refine bA (gF) (F ⟨_,Φ.refl _,?_⟩);rw[aU rfl];rw[h]at e;exact e
def avb(m:O)(f:Θ)(n:O)(g:Θ)(P:E Wh)(i:O)(u:P.length<=2^37)(v:n<=2^37)(k:i<m)(w:m<=2^37):ck θ 2 (.block 2 (.loop (a5 2 pD))) (bm 70 (zP .normal) 2 (AK m n P.length i 0) (fv m f n g P.length (Y P)) (λa=>cond ((V g n).all (jI (bh (f i)))) (a .normal (ar 0 70 ([0,1,6,7].zip (rE m n (P.length+n) i))) (fv m f n g (P.length+n) (Y (P++(V g n).map (fR (bh (f i))))))) (a .ret (ar 0 70 [(4,.own 2 0),(5,.v (.bool η))]) (C5 m f n g)))):=by
 have S:ck θ 2 (.block 2 (.loop (a5 2 pD))) (bm 70 (zP .normal) 2 (AK m n (P.length+0) i 0) (fv m f n g (P.length+0) (Y (P++(V g 0).map (fR (bh (f i)))))) (λa=>cond ((V g n).all (jI (bh (f i)))) (a .normal (ar 0 70 ([0,1,6,7].zip (rE m n (P.length+n) i))) (fv m f n g (P.length+n) (Y (P++(V g n).map (fR (bh (f i))))))) (a .ret (ar 0 70 [(4,.own 2 0),(5,.v (.bool η))]) (C5 m f n g)))):=by
  refine dQ WX (n:=100) (m:=2) (lv:=zP) (λj=>AK m n (P.length+j) i j) (λj=>fv m f n g (P.length+j) (Y (P++(V g j).map (fR (bh (f i)))))) (λj=>(V g j).all (jI (bh (f i)))=ε) n (λ_=>K) (du rfl rfl rfl) (aQ _) rfl λa Q d j e l=>⟨cN _ _ _,?_⟩
  rw[asW];refine aD (λb=>?_) λb=>?_
  ·have b:=aV b
   have c:j<n:=by omega
   simp only[cV,bH];rw[bz (x:=(j:Z)+1)];refine c_ (aD (λq=>?_) λq=>?_)
   ·have h:(!(jI (bh (f i)) (bh (g j))))=ε:=q
    have o:(V g n).all (jI (bh (f i)))=η:=Uo c (by simpa using h);rw[o]at d;exact F ⟨_,.cons (ab.refl _) (.cons (ab.refl _) (.cons (ab.row λj e=>aR e (dh _)) .nil)),d⟩
   ·have h:(!(jI (bh (f i)) (bh (g j))))=η:=q
    have p:jI (bh (f i)) (bh (g j))=ε:=by simpa using h
    refine c_ (F ⟨j+1,⟨rfl,c,by rw[iQ,gM,e];simp[p]⟩,rfl,?_⟩);show Φ _ (fv m f n g (P.length+(j+1)) (Y (P++(V g (j+1)).map (fR (bh (f i))))))
    rw[iQ,kP,<-jN];refine .cons (ab.refl _) (.cons (ab.refl _) (.cons (ab.row λr s=>?_) .nil));exact pQ _ (fR (bh (f i)) (bh (g j))) (P.length+j) (by rw[bN,dv,cR]) r s
  ·have b:=cu b
   have:j=n:=by omega
   subst this;refine F ⟨_,Φ.refl _,?_⟩;rw[aU rfl];rw[e]at d;exact d
 have t:P++(V g 0).map (fR (bh (f i)))=P:=vp P;rw[t]at S;exact S
def ava(m:O)(f:Θ)(n:O)(g:Θ)(s:m<=12)(k:n<=12):ck θ 2 (.block 0 (.loop (a5 0 pD))) (bm 70 (wS .normal) 2 (rE m n 0 0) (fv m f n g 0 (Y [])) (λa=>cond (mm (V f m) (V g n)) (a .normal (ar 0 70 [(6,.own 2 (cT (V f m) (V g n)).length)]) (fv m f n g (cT (V f m) (V g n)).length (Y (cT (V f m) (V g n))))) (a .ret (ar 0 70 [(4,.own 2 0),(5,.v (.bool η))]) (C5 m f n g)))):=by
 refine dQ WX (n:=100) (m:=2) (lv:=wS) (λi=>rE m n (cT (V f i) (V g n)).length i) (λi=>fv m f n g (cT (V f i) (V g n)).length (Y (cT (V f i) (V g n)))) (λi=>mm (V f i) (V g n)=ε) m
  (λi=>bif ω i m then YC m f n g (cT (V f i) (V g n)).length (Y (cT (V f i) (V g n))) i ((V g n).all (jI (bh (f i)))) ((cT (V f i) (V g n)).length+n) (Y (cT (V f i) (V g n)++(V g n).map (fR (bh (f i)))))else bX 2 iv) (du rfl rfl rfl) (aQ _) rfl λa Q e i h l=>?_
 by_cases d:i<m
 ·rw[B6 d,a6]
  have o:(cT (V f i) (V g n)).length<=2^37:=by rw[Ef,cR,cR];exact cF (qu (by omega:i<=12) k) (by omega)
  refine⟨wL (c:=a5 2 pD) (by kernel_rfl) (avb m f n g _ i o (by omega) d (by omega)),?_⟩;rw[asU];refine cv (dc) ?_;rw[bz (x:=(i:Z)+1)];refine aq (by rw[Ω];exact⟨cG ⟨rfl,Φ.refl _⟩,rfl⟩) (aD (λq=>?_) λq=>?_)
  ·refine F ⟨i+1,⟨rfl,d,by rw[iQ,Zv,h,q];rfl⟩,?_,?_⟩
   ·show _=rE m n (cT (V f (i+1)) (V g n)).length (i+1)
    rw[iQ,I2,bN,dv,cR];rfl
   ·show Φ _ (fv m f n g (cT (V f (i+1)) (V g n)).length (Y (cT (V f (i+1)) (V g n))))
    rw[iQ,I2,bN,dv,cR];exact Φ.refl _
  ·rw[Zu rfl d q]at e
   exact F ⟨_,.cons (ab.refl _) (.cons (ab.refl _) (.cons (ab.row λj p=>aR p (dh _)) .nil)),e⟩
 ·have b:ω i m=η:=by
   cases r:ω i m with
   |false=>rfl
   |true=>rw[bM]at r;omega
  rw[b,be];have:i=m:=by omega
  subst this;refine⟨wL (c:=a5 2 pD) (by kernel_rfl) ur,?_⟩;rw[asV];refine bA (gF) (F ⟨_,Φ.refl _,?_⟩);rw[aU rfl];rw[h]at e;exact e
def ql(A B:E Wh):ξ:=(aO A&&aO B)&&mm A B
def fC(A B:E Wh):ξ:=ql A B&&bC (cT A B)
def xL(A B:E Wh):E Wh:=bo (cT A B)
def iU(A B:E Wh):E Wh:=bif ql A B then bo (cT A B)else[]
def yJ(c:E Wh->E Wh->ξ)(d:E Wh->E Wh->E Wh):E SA->χ FR
 |[.row m a,.row n b]=>γ {val:=li (d (V (ο a) m) (V (ο b) n)),new:=h_ (d (V (ο a) m) (V (ο b) n)),aw:=[aF m a,aF n b,κ (m<=2^38),κ (n<=2^38),c (V (ο a) m) (V (ο b) n)]}
 |_=>ζ
def yG(a:E Wh->E Wh->ξ):E SA->χ FR
 |[.row m b,.row n c]=>γ {val:=eP,aw:=[aF m b,aF n c,κ (m<=2^38),κ (n<=2^38),!a (V (ο b) m) (V (ο c) n)]}
 |_=>ζ
def yH(c:E Wh->E Wh->ξ)(tl:E Wh->E Wh->E Wh):E SA->χ FR
 |[.row m a,.row n b]=>γ {val:=.af [.own 0 (tl (V (ο a) m) (V (ο b) n)).length,.v (.bool (c (V (ο a) m) (V (ο b) n)))],new:=[.row ε (tl (V (ο a) m) (V (ο b) n)).length 9 (J (Y (tl (V (ο a) m) (V (ο b) n)))) 123],aw:=[aF m a,aF n b,κ (m<=2^38),κ (n<=2^38)]}
 |_=>ζ
def WY:aK θ (sC aO bo bC):=by unfold sC;rw[F8,t_];exact az (az ba z9) IS
def aqK:ak θ 61 (ai k0 (yJ fC xL)):=by
 refine ca HG func61 rfl λp y d g=>?_
 unfold yJ at d;split at d
 ·rename_i m a n b
  cases d;simp only[Ω]at g;obtain⟨h,i,q,r,k,_⟩:=g;have z:=aV q;have A:=aV r;rw[fC,ql,aP,aP,aP]at k;obtain⟨⟨⟨l,o⟩,s⟩,t⟩:=k;have e:=kF l;have f:=kF o;rw[cR]at e f;have B:(cT (V (ο a) m) (V (ο b) n)).length<=144:=by rw[Ef,cR,cR];exact cF (qu e f) (by omega)
  have u:aE (ad θ (sx aO bo bC fP) (C8 m (ο a) n (ο b) (mm (V (ο a) m) (V (ο b) n)) (cT (V (ο a) m) (V (ο b) n)).length (Y (cT (V (ο a) m) (V (ο b) n)))) 100 nr [.sl 0 9 0 0 m ζ,.sl 1 9 0 0 n ζ] (jl m (ο a) n (ο b)) (ag 2)) (dX (bJ k0 [.row m a,.row n b] []) {val:=li (xL (V (ο a) m) (V (ο b) n)),new:=h_ (xL (V (ο a) m) (V (ο b) n)),aw:=[aF m a,aF n b,κ (m<=2^38),κ (n<=2^38),fC (V (ο a) m) (V (ο b) n)]}):=by
   rw[axR,cz,cz,cZ,cZ,hZ _ _ rfl];refine fu (bA (by rw[l];rfl) (fu (bA (by rw[o];rfl) (aq ?_ (cv s (aq ?_ (F ⟨_,rfl,rfl,.cons (ab.row λj c=>(a7 h j c).symm) (.cons (ab.row λj c=>(a7 i j c).symm) (Φ.refl _))⟩)))))))
   ·rw[Ω]
    exact⟨cG ⟨rfl,.cons (ab.refl _) (.cons (ab.refl _) (.cons (ab.row λj c=>aR c (dh _)) .nil))⟩,rfl⟩
   ·simp only[Ω,ax,aj,dn]
    exact⟨by simp,trivial,dc,cG (aaB _ _),t⟩
  exact⟨jl m (ο a) n (ο b),_,100,.cons (ab.row λj c=>a7 h j c) (.cons (ab.row λj c=>a7 i j c) .nil),da (abU m (ο a) n (ο b) e f),u⟩
 ·cases d
def aqI:ak θ 61 (ai k0 (yG fC)):=by
 refine ca HF func61 rfl λu C g s=>?_
 unfold yG at g;split at g
 ·rename_i m a n b
  cases g;simp only[Ω]at s;obtain⟨i,k,v,w,t,_⟩:=s;have D:=aV v;have G:=aV w;have e:aE (.out .ret [eP] (jl m (ο a) n (ο b))) (dX (bJ k0 [.row m a,.row n b] []) {val:=eP,aw:=[aF m a,aF n b,κ (m<=2^38),κ (n<=2^38),!fC (V (ο a) m) (V (ο b) n)]}):=
   F ⟨_,rfl,rfl,.cons (ab.row λj d=>(a7 i j d).symm) (.cons (ab.row λj d=>(a7 k j d).symm) .nil)⟩
  have f:aJ [Δ (0+m) m,aF m (J (ο a)),κ (m<=549755813888)]=ε:=by simp only[Ω,ax,aj,aL,bl,dn,bv];omega
  have o7:aJ [Δ (0+n) n,aF n (J (ο b)),κ (n<=549755813888)]=ε:=by simp only[Ω,ax,aj,aL,bl,dn,bv];omega
  by_cases h:(aO (V (ο a) m)&&aO (V (ο b) n))=ε
  ·rw[aP]at h
   obtain⟨l,o⟩:=h;have p:=kF l;have r:=kF o;rw[cR]at p r;have H:(cT (V (ο a) m) (V (ο b) n)).length<=144:=by rw[Ef,cR,cR];exact cF (qu p r) (by omega)
   refine⟨jl m (ο a) n (ο b),C8 m (ο a) n (ο b) (mm (V (ο a) m) (V (ο b) n)) (cT (V (ο a) m) (V (ο b) n)).length (Y (cT (V (ο a) m) (V (ο b) n))),100,.cons (ab.row λj d=>a7 i j d) (.cons (ab.row λj d=>a7 k j d) .nil),da (abU m (ο a) n (ο b) p r),?_⟩;show aE (ad θ (mg aO bC fP) (C8 m (ο a) n (ο b) (mm (V (ο a) m) (V (ο b) n)) (cT (V (ο a) m) (V (ο b) n)).length (Y (cT (V (ο a) m) (V (ο b) n)))) 100 nr [.sl 0 9 0 0 m ζ,.sl 1 9 0 0 n ζ] (jl m (ο a) n (ο b)) (ag 2)) _
   rw[axO,cz,cz,cZ,cZ,hZ _ _ rfl];refine aq f (bA (by rw[l];rfl) (aq o7 (bA (by rw[o];rfl) (aq ?_ (aD (λq=>aq ?_ e) λ_=>e)))))
   ·rw[Ω]
    exact⟨cG ⟨rfl,.cons (ab.refl _) (.cons (ab.refl _) (.cons (ab.row λj d=>aR d (dh _)) .nil))⟩,rfl⟩
   ·rw[fC,ql,l,o,q]at t
    simp only[Ω,ax,aj,dn];exact⟨by simp,trivial,dc,cG (aaB _ _),t⟩
  ·refine⟨jl m (ο a) n (ο b),bX 0 iv,100,.cons (ab.row λj d=>a7 i j d) (.cons (ab.row λj d=>a7 k j d) .nil),Iq (c:=a5 0 nr) (by kernel_rfl) ur,?_⟩
   show aE (ad θ (mg aO bC fP) (bX 0 iv) 100 nr [.sl 0 9 0 0 m ζ,.sl 1 9 0 0 n ζ] (jl m (ο a) n (ο b)) (ag 2)) _
   rw[axN,cz,cz,cZ,cZ];refine aq f (aD (λ_=>e) λq=>aq ?_ e);have z:aO (V (ο a) m)=ε:=by have A:(!aO (V (ο a) m))=η:=q;simpa using A
   have B:aO (V (ο b) n)=η:=by rw[z,ex]at h;simpa using h
   simp only[Ω,ax,aj,aL,bl,dn,bv,B];exact⟨by omega,by omega,rfl⟩
 ·cases g
def aqJ:ak θ 92 (ai k0 (yH fC iU)):=by
 refine ca WY func92 rfl λw M l v=>?_
 unfold yH at l;split at l
 ·rename_i m a n d
  cases l;simp only[Ω]at v;obtain⟨o,p,x,y,_⟩:=v;have N:=aV x;have P:=aV y;have h:∀(D:E Wh)(b:ξ)(G:O->E τ),fC (V (ο a) m) (V (ο d) n)=b->iU (V (ο a) m) (V (ο d) n)=D->(∀j,j<D.length->G j=J (Y D) j)->aE (.out .ret [.af [.own 2 D.length,.v (.bool b)]] [.row η m 9 (J (ο a)) 123,.row η n 9 (J (ο d)) 123,.row ε D.length 9 G 123])
    (dX (bJ k0 [.row m a,.row n d] []) {val:=.af [.own 0 (iU (V (ο a) m) (V (ο d) n)).length,.v (.bool (fC (V (ο a) m) (V (ο d) n)))],new:=[.row ε (iU (V (ο a) m) (V (ο d) n)).length 9 (J (Y (iU (V (ο a) m) (V (ο d) n)))) 123],aw:=[aF m a,aF n d,κ (m<=2^38),κ (n<=2^38)]}):=by
   rintro D b G rfl rfl C;exact F ⟨_,rfl,rfl,.cons (ab.row λj f=>(a7 o j f).symm) (.cons (ab.row λj f=>(a7 p j f).symm) (.cons (ab.row C) .nil))⟩
  have g:∀G,ql (V (ο a) m) (V (ο d) n)=η->aE (.out .ret [.af [.own 2 0,.v (.bool η)]] [.row η m 9 (J (ο a)) 123,.row η n 9 (J (ο d)) 123,.row ε 0 9 G 123]) _:=λG e=>h [] η G (by rw[fC,e];rfl) (by rw[iU,e];rfl) λj f=>aR f (dh _)
  have i:aJ [Δ (0+m) m,aF m (J (ο a)),κ (m<=549755813888)]=ε:=by simp only[Ω,ax,aj,aL,bl,dn,bv];omega
  have o7:aJ [Δ (0+n) n,aF n (J (ο d)),κ (n<=549755813888)]=ε:=by simp only[Ω,ax,aj,aL,bl,dn,bv];omega
  by_cases k:(aO (V (ο a) m)&&aO (V (ο d) n))=ε
  ·rw[aP]at k
   obtain⟨r,s⟩:=k;have t:=kF r;have u:=kF s;rw[cR]at t u;have Q:(cT (V (ο a) m) (V (ο d) n)).length<=144:=by rw[Ef,cR,cR];exact cF (qu t u) (by omega)
   refine⟨jl m (ο a) n (ο d),OI m (ο a) n (ο d) (mm (V (ο a) m) (V (ο d) n)) (cT (V (ο a) m) (V (ο d) n)).length (Y (cT (V (ο a) m) (V (ο d) n))),100,.cons (ab.row λj f=>a7 o j f) (.cons (ab.row λj f=>a7 p j f) .nil),da (ava m (ο a) n (ο d) t u),?_⟩;show aE (ad θ (sC aO bo bC) (OI m (ο a) n (ο d) (mm (V (ο a) m) (V (ο d) n)) (cT (V (ο a) m) (V (ο d) n)).length (Y (cT (V (ο a) m) (V (ο d) n)))) 100 pD [.sl 0 9 0 0 m ζ,.sl 1 9 0 0 n ζ] (jl m (ο a) n (ο d)) (ag 2)) _
   rw[axP,cz,cz,cZ,cZ,hZ _ _ rfl];refine aq i (bA (by rw[r];rfl) (aq o7 (bA (by rw[s];rfl) (aq ?_ (aD (λq=>?_) λq=>?_)))))
   ·rw[Ω]
    exact⟨cG ⟨rfl,.cons (ab.refl _) (.cons (ab.refl _) (.cons (ab.row λj f=>aR f (dh _)) .nil))⟩,rfl⟩
   ·have e:ql (V (ο a) m) (V (ο d) n)=ε:=by rw[ql,r,s,q];rfl
    refine aq ?_ (h _ _ _ (by rw[fC,e];rfl) (by rw[iU,e];rfl) λj f=>rfl);simp only[Ω,ax,aj,dn];exact⟨by simp,trivial,dc⟩
   ·exact g _ (by rw[ql,q,g7])
  ·have e:ql (V (ο a) m) (V (ο d) n)=η:=by rw[ql,show(aO (V (ο a) m)&&aO (V (ο d) n))=η by simpa using k];rfl
   refine⟨jl m (ο a) n (ο d),bX 0 iv,100,.cons (ab.row λj f=>a7 o j f) (.cons (ab.row λj f=>a7 p j f) .nil),Iq (c:=a5 0 pD) (by kernel_rfl) ur,?_⟩;show aE (ad θ (sC aO bo bC) (bX 0 iv) 100 pD [.sl 0 9 0 0 m ζ,.sl 1 9 0 0 n ζ] (jl m (ο a) n (ο d)) (ag 2)) _
   rw[axQ,cz,cz,cZ,cZ];refine aq i (aD (λ_=>g _ e) λq=>aq ?_ (g _ e));have H:aO (V (ο a) m)=ε:=by have I:(!aO (V (ο a) m))=η:=q;simpa using I
   have L:aO (V (ο d) n)=η:=by rw[H,ex]at k;simpa using k
   simp only[Ω,ax,aj,aL,bl,dn,bv,L];exact⟨by omega,by omega,rfl⟩
 ·cases l
def ach{A B:E Wh}(h:fC A B=ε):iU A B=xL A B:=by rw[fC,aP]at h;rw[iU,h.1];rfl
abbrev au(w:ψ):O->Prop:=λk=>w.heap.size<=k
variable {G:E AV}
variable {I:FuncId}
variable {S:E AB}
variable {X:ψ}
variable {j:Delta}
def ak.down{a:Spec}(h:ak θ I a){ν:Nu}{vals:E τ}(y:a G S i=γ j)(z:aJ j.aw=ε)(s:j.put=[])(A:aB ν G vals)(B:∀l∈j.rd,BR ν l (S.getD l .gone) X)(n:∀l b,ν l=γ b->l<i/\b.n<X.heap.size)(C:a4 (au X) X):aM θ I vals.toArray X λe w'=>∃v m,e=.returned v/\VR m j.val v/\(∀(g:O) b,j.new[g]?=γ b->BR m (i+g) b w')/\(∀(g:O) b,g<j.new.length->m (i+g)=γ b->X.heap.size<=b.n/\b.n<w'.heap.size)/\Fr (au X) X w':=by
 refine(h.2 G S i j ν vals X y z A B (λl b t=>(n l b t).2) (λg _=>?_) (λl c g b M o=>?_) (C.mono λk _ q=>?_)).mono ?_
 ·cases e:ν (i+g)with
  |none=>rfl
  |some b=>have:=(n _ b e).1;omega
 ·rw[s]at o
  cases o
 ·rcases q with q|⟨l,b,c,o,_⟩
  ·exact q
  ·rw[s]at o
   cases o
 ·rintro e w' ⟨v,m,rfl,d⟩
  refine⟨v,m,rfl,d.val,d.new,λg b D t=>?_,d.os,d.tape,d.output,d.size,λk q _=>d.block k q λp b r=>?_⟩
  ·obtain⟨L,u⟩:=d.fresh g b D t
   refine⟨?_,L⟩;rcases u with u|⟨l,N,x,_⟩
   ·exact u
   ·rw[s]at x
    cases x
  ·rw[s]at r
   cases r
def ud(w:ψ)(k:O):Prop:=∃l a,w.heap[k]?=γ (.cells l 123 a)
def bj(w:ψ)(v:τ)(L:E Wh):Prop:=
 ∃a:Nu,(∀i b,a i=γ b->i=0/\b.n<w.heap.size/\ud w b.n)/\VR a (.sl 0 9 0 0 L.length ζ) v/\BR a 0 (.row η L.length 9 (J (Y L)) 123) w
def bj.nil(w:ψ):bj w (.slice ζ 0 0) []:=by refine⟨λ_=>ζ,λi b h=>(by cases h),?_,.inl ⟨rfl,rfl,rfl⟩⟩;simp only[VR];exact⟨ζ,0,rfl,by simp,aQ _,λh=>aR h (ol 0)⟩
variable {L:E Wh}
def bj.kept{w w':ψ}{v:τ}(h:bj w v L)(hs:w.heap.size<=w'.heap.size)(d:∀k,k<w.heap.size->ud w k->w'.heap[k]?=w.heap[k]?):bj w' v L:=by obtain⟨j,c,l,m⟩:=h;refine⟨j,λi b e=>?_,l,m.of_block λk a _=>d _ (c _ k a).2.1 (c _ k a).2.2⟩;obtain⟨n,f,g⟩:=c i b e;refine⟨n,eN f hs,?_⟩;unfold ud at g⊢;rw[d _ f (c i b e).2.2];exact g
def bj.fr{w w':ψ}{v:τ}(h:bj w v L){M:O->Prop}(hM:∀k,k<w.heap.size->M k->¬ud w k)(f:Fr M w w'):bj w' v L:=h.kept f.size λk a b=>f.block k a λc=>hM k a c b
def bj.below{w w':ψ}{v:τ}(h:bj w v L)(f:Fr (au w) w w'):bj w' v L:=h.fr (λ_ a b=>aR b (gi.2 a)) f
variable {R:Nu}
def bj.of{i n:O}{v:τ}{c:χ O}(m:n=L.length)(h:VR R (.sl i 9 0 0 n c) v)(o:BR R i (.row ε n 9 (J (Y L)) 123) X)(q:∀b,R i=γ b->b.n<X.heap.size):bj X v L:=by
 subst m;rcases o with⟨a,_⟩|⟨b,l,y,r,a,k,e,f,g⟩
 ·cases a
 obtain⟨_,_,rfl,_⟩:=e rfl;refine⟨λj=>if j=0 then R i else ζ,λj s d=>?_,?_,?_⟩
 ·simp only at d
  split at d
  ·have:=q s d
   rw[a]at d;cases d;exact⟨by assumption,this,_,_,k⟩
  ·cases d
 ·simp only[VR]at h⊢
  obtain⟨p,t,a,_,u,f⟩:=h;exact⟨p,t,a,by simp,u,λx=>let⟨b,g,e⟩:=f x;⟨b,by simp[g],e⟩⟩
 ·exact .inr ⟨b,l,_,r,by simp[a],k,by simp,f,g⟩
def bj.lt{v:τ}(h:bj X v L):∃ν:Nu,(∀i b,ν i=γ b->i<1/\b.n<X.heap.size)/\VR ν (.sl 0 9 0 0 L.length ζ) v/\BR ν 0 (.row η L.length 9 (J (Y L)) 123) X:=by obtain⟨ν,a,d,e⟩:=h;exact⟨ν,λi b c=>⟨by have:=(a i b c).1;omega,(a i b c).2.1⟩,d,e⟩
def E1{a b:AV}{v:τ}(h:VR R (.af [a,b]) v):∃x y,v=.tuple #[x,y]/\VR R a x/\VR R b y:=by
 simp only[VR]at h;obtain⟨l,rfl,h⟩:=h
 match l,h with
 |[x,y],h=>simp only[aB]at h;exact⟨x,y,rfl,h.1,h.2.1⟩
def xO{x y:τ}(h:VR R (.v x) y):y=x:=by simpa only[VR]using h
def fc(w:ψ)(b:ξ)(T:E Wh)(e:jM)(w':ψ):Prop:=∃s,e=.returned (.tuple #[s,.bool b])/\(b=ε->bj w' s T)/\Fr (au w) w w'
def vi{w w':ψ}{v:τ}(c:VR R (.af [.sl i 9 0 0 L.length (γ L.length),.v (.bool ε)]) v)(a:BR R i (.row ε L.length 9 (J (Y L)) 123) w')(d:∀b,R i=γ b->w.heap.size<=b.n/\b.n<w'.heap.size)(e:Fr (au w) w w'):fc w ε L (.returned v) w':=by obtain⟨x,y,rfl,f,g⟩:=E1 c;rw[xO g];exact⟨x,rfl,λ_=>.of rfl f a λb a=>(d b a).2,e⟩
def vj{w w':ψ}{x:AV}{v:τ}(a:VR R (.af [x,.v (.bool η)]) v)(b:Fr (au w) w w'):fc w η L (.returned v) w':=by obtain⟨x,y,rfl,d,c⟩:=E1 a;rw[xO c];exact⟨x,rfl,λh=>(by cases h),b⟩
def xP{ν:Nu}:∀l:E τ,aB ν (l.map .v) l
 |[]=>trivial
 |_::l=>⟨rfl,xP l⟩
def nE{S:Spec}(h:ak θ I S){v:τ}(vs:E τ)(k:bj X v L)(l:S (.sl 0 9 0 0 L.length ζ::vs.map .v) [.row η L.length 9 (J (Y L)) 123] 1=γ j)(m:aJ j.aw=ε)(n:j.put=[])(o:j.rd=[0])(p:a4 (au X) X):aM θ I (v::vs).toArray X λe w'=>∃x c,e=.returned x/\VR c j.val x/\(∀(a:O) b,j.new[a]?=γ b->BR c (1+a) b w')/\(∀(a:O) b,a<j.new.length->c (1+a)=γ b->X.heap.size<=b.n/\b.n<w'.heap.size)/\Fr (au X) X w':=by obtain⟨t,q,r,s⟩:=k.lt;refine h.down l m n (vals:=v::vs) ⟨r,xP vs⟩ (λi g=>?_) q p;rw[o]at g;obtain rfl:=nq.1 g;exact s
def y'{S:Spec}(h:ak θ I S)(vs:E τ)(k:S (vs.map .v) [] 0=γ j)(l:aJ j.aw=ε)(m:j.put=[])(n:j.rd=[])(o:a4 (au X) X):aM θ I vs.toArray X λe w'=>∃x c,e=.returned x/\VR c j.val x/\(∀(a:O) b,j.new[a]?=γ b->BR c (0+a) b w')/\(∀(a:O) b,a<j.new.length->c (0+a)=γ b->X.heap.size<=b.n/\b.n<w'.heap.size)/\Fr (au X) X w':=by refine h.down (ν:=λ_=>ζ) k l m (vals:=vs) (xP vs) (λi g=>?_) (λi b p=>by cases p) o;rw[n]at g;cases g
def dU(base:O)(rd:E O)(b:ξ)(T:E Wh)(ob:E ξ):Delta:={val:=.af [.sl base 9 0 0 T.length (γ T.length),.v (.bool b)],rd:=rd,put:=[],new:=[.row η T.length 9 (J (Y T)) 123],aw:=ob}
abbrev eE(L:E Wh):E Wh:=V (ο λq=>J (Y L) (0+q)) L.length
def iy(L:E Wh):eE L=L:=YS L _ rfl
abbrev ml(L:E Wh):E ξ:=[aF L.length (λq=>J (Y L) (0+q)),κ (L.length<=2^38)]
def m7(d:L.length<=12)(ob:E ξ):aJ (Δ (0+L.length) L.length::(ml L++ob))=aJ ob:=by
 have a:Δ (0+L.length) L.length=ε:=by rw[bl];omega
 have b:aF L.length (λq=>J (Y L) (0+q))=ε:=by rw[cz];exact dn _ _
 have c:κ (L.length<=2^38)=ε:=dc;rw[lq,lq,jO,a,b,c];rfl
def gm(w:ψ)(x:τ)(e:jM)(w':ψ):Prop:=e=.returned x/\Fr (au w) w w'
def v_w{S:Spec}(h:ak θ I S){x:τ}{v:τ}(vs:E τ)(a:bj X v L)(b:S (.sl 0 9 0 0 L.length ζ::vs.map .v) [.row η L.length 9 (J (Y L)) 123] 1=γ j)(c:j.val.iH=γ x)(d:aJ j.aw=ε)(g:j.put=[])(i:j.rd=[0])(k:a4 (au X) X):aM θ I (v::vs).toArray X (gm X x):=by refine(nE h vs a b d g i k).mono ?_;rintro e o ⟨y,l,rfl,m,_,_,n⟩;rw[jd c m];exact⟨rfl,n⟩
def JD{S:Spec}(h:ak θ I S){δ:Delta}{x:τ}(vs:E τ)(a:S (vs.map .v) [] 0=γ δ)(b:δ.val.iH=γ x)(c:aJ δ.aw=ε)(d:δ.put=[])(g:δ.rd=[])(i:a4 (au X) X):aM θ I vs.toArray X (gm X x):=by refine(y' h vs a c d g i).mono ?_;rintro e m ⟨y,j,rfl,k,_,_,l⟩;rw[jd b k];exact⟨rfl,l⟩
section
section
variable {P:bS} {ops:aX a_} {md:Region.Mode} {I:ψ->Prop}
def LH(P:bS)(I:ψ->Prop)(N:O)(dst:χ Tmp)(v:τ):Result Next->Prop
 | .ok (.value u) a=>(∀d,dst=γ d->d<N->u=v)/\I a
 | .ok .skip a=>(∀d,dst=γ d->d<N->aZ=v)/\I a
 | .ok (.enter f args) a=>aM P f args a λe c=>∃u,e=.returned u/\(∀d,dst=γ d->d<N->u=v)/\I c
 | .ok (.row g args) a=>Rows P g args a λu c=>(∀d,dst=γ d->d<N->u=v)/\I c
 |_=>False
def I5{a:a8}{N:O}(f:a.tmps.size=N){dst:χ Tmp}{u v:τ}(h:∀d,dst=γ d->d<N->u=v):a.put dst u=a.put dst v:=by
 cases dst with
 |none=>rfl
 |some d=>
  by_cases c:d<N
  ·rw[h d rfl c]
  ·have e:a.tmps.size<=d:=by rw[f];exact ad8 c
   simp only[jx];rw[ay3 e,ay3 e]
def Ug(P:bS)(ops:aX a_)(I:ψ->Prop)(o:a_)(v:τ)(a:a8):Prop:=
 (ow o (yielded ops a.tmps)=ε/\∀w,I w->LH P I a.tmps.size o.dst v ((dw a.eval o).run P w))\/
 (ow o (yielded ops a.tmps)=η/\v=aZ)
def Ug.wpOp{i:O}{o:a_}{v:τ}{a:a8}{w:ψ}{Q:e9->a8->ψ->Prop}{c:a8->ψ->Prop}(p:ops[i]?=γ o)(q:Ug P ops I o v a)(n:I w)(h:∀w',I w'->c (a.put o.dst v) w'):Go.wpOp P ops Q i c a w:=by
 unfold Go.wpOp;simp only[p];rcases q with⟨j,d⟩|⟨j,rfl⟩
 ·simp only[j,qA]
  refine .inl ?_;have d:=d w n;unfold ot;generalize(dw a.eval o).run P w=r at*;cases r with
  |ok x w'=>
   cases x<;>simp only[LH]at d<;>simp only[yi]
   case value u=>rw[I5 rfl d.1];exact h _ d.2
   case skip=>rw[I5 rfl d.1];exact h _ d.2
   case enter f args=>refine d.mono ?_;rintro e k ⟨u,rfl,l,g⟩;simp only;rw[I5 rfl l];exact h _ g
   case row row args=>refine d.mono ?_;rintro u k ⟨l,g⟩;rw[I5 rfl l];exact h _ g
  |halt x w'=>simp only[LH]at d
 ·simp only[j,tz,tQ]
  exact h w n
end
end
abbrev Ej:τ:=.iface 58 (.agg #[])
abbrev pT:jM:=.panicked [{v:=Ej,recovered:=η}]
def uN(w:ψ):aM θ 70 #[.bool ε] w λe w'=>e=.returned (.tuple #[])/\w'=w:=by
 have mixed:=mixed
 go_enter Tq,ntmps70
 go_wp2
 go_end0
 exact⟨rfl,rfl⟩
def uM(w:ψ):aM θ 70 #[.bool η] w λe w'=>e=pT/\w'=w:=by
 have mixed:=mixed
 go_enter Tq,ntmps70
 go_wp2
 exact⟨rfl,rfl,rfl⟩
def cD(c:υ):E υ->E (E υ)
 |[]=>[[]]
 |b::l=>if b=c then[]::cD c l else match cD c l with
  |x::a=>(b::x)::a
  |[]=>[[b]]
def Mg(c:υ):∀l:E υ,cD c l≠ []
 |[]=>by simp[cD]
 |b::l=>by
  unfold cD;split
  ·simp
  ·split<;>simp
def sd{c:υ}:∀l:E υ,c∉l->cD c l=[l]
 |[],_=>rfl
 |b::l,h=>by simp only[dE,vH]at h;unfold cD;rw[bI (λe=>h.1 e.symm),sd l h.2]
def Ca{c:υ}:∀(x r:E υ),c∉x->cD c (x++c::r)=x::cD c r
 |[],r,_=>by rw[jO,cD,aU rfl]
 |b::x,r,h=>by simp only[dE,vH]at h;rw[lq,cD,bI (λe=>h.1 e.symm),Ca x r h.2]
def Mf{c:υ}:∀(x:E υ)(xs:E (E υ)),(∀y∈x::xs,c∉y)->cD c (iW (x::xs) [c])=x::xs
 |x,[],h=>by rw[Lib.join_one];exact sd x (h x jA)
 |x,y::a,h=>by
  have b:=Mf y a λz d=>h z (l8 _ d)
  rw[tC]at b;rw[tC];have e:mD [c] (y::a)=c::(y++mD [c] a):=by simp[mD]
  rw[e,Ca x _ (h x jA),b]
def XZ{c:υ}:∀l:E υ,c∉l->Fj l [c]= -1
 |[],_=>rfl
 |b::l,h=>by
  simp only[dE,vH]at h;have a:([c]:E υ).isPrefixOf (b::l)=η:=by simp[adV,h.1]
  rw[Fj,a,XZ l h.2];rfl
def N0{c:υ}:∀(x r:E υ),c∉x->Fj (x++c::r) [c]=(x.length:Z)
 |[],r,_=>by rw[jO,Fj];simp[adV]
 |b::x,r,h=>by
  simp only[dE,vH]at h;have a:([c]:E υ).isPrefixOf (b::(x++c::r))=η:=by simp[adV,h.1]
  rw[lq,Fj,a,N0 x r h.2];have:((x.length:Z)== -1)=η:=by rw[cq];omega
  rw[this];simp
def Vo(c:υ):∀l:E υ,c∈l->∃x r,l=x++c::r/\c∉x
 |b::l,h=>by
  by_cases e:b=c
  ·exact⟨[],l,by rw[e];rfl,by simp⟩
  ·have:c∈l:=by
    rcases dE.1 h with h|h
    ·exact aR h.symm e
    ·exact h
   obtain⟨x,r,a,d⟩:=Vo c l this;exact⟨b::x,r,by rw[a];rfl,by simp only[dE,vH];exact⟨λf=>e f.symm,d⟩⟩
def abH{c:υ}:∀(k:O)(s:E υ),s.count c=k->adL [c] 0 k s=cD c s
 |0,s,h=>by rw[adL,sd s (Fm.1 h)]
 |k+1,s,h=>by
  have b:c∈s:=by rw[<-List.count_pos_iff];omega
  obtain⟨x,r,rfl,a⟩:=Vo c s b;have d:r.count c=k:=by rw[List.count_append,List.count_cons_self,Fm.2 a]at h;omega
  rw[adL,N0 x r a,Ca x r a];have:((x.length:Z)== -1)=η:=by rw[cq];omega
  rw[this];simp only[tz,tQ,cV,im,J_,J7];rw[show List.drop (x.length+1) (x++c::r)=r from by rw[<-Bi,R_];rfl,abH k r d]
variable {l:E υ}
def Mm{c:υ}(h:c∉l):e_ l [c]=(l,[],η):=by rw[e_,XZ l h];rfl
def Ml{c:υ}{x r:E υ}(h:c∉x):e_ (x++c::r) [c]=(x,r,ε):=by rw[e_,N0 x r h,oW];simp only[cV,J_,J7,cI,aj,bv];rw[<-Bi,R_];rfl
def qM(b:υ):Prop:=48<=b.toNat/\b.toNat<=57
def Ce(u:O):∀b∈gL u,qM b:=by
 induction u using Fy with
 |_ u c=>
  have one:∀k,k<10->qM (ns (48+k)):=λk d=>by
   have:(ns (48+k)).toNat=48+k:=by rw[Tz];omega
   rw[qM,this];omega
  intro b a;rw[gL]at a;split at a
  ·rename_i h
   simp only[nq]at a;subst a;exact one u h
  ·rename_i h
   rcases nm.1 a with a|a
   ·exact c (u/10) (by omega) b a
   ·simp only[nq]at a
    subst a;exact one _ (tD _ (by omega))
def amb(n:Z):∀b∈bg n,b.toNat=45\/qM b:=by
 intro b a;rw[bg]at a;split at a
 ·rcases dE.1 a with rfl|a
  ·exact .inl rfl
  ·exact .inr (Ce _ b a)
 ·exact .inr (Ce _ b a)
def Io{c:υ}(h:c.toNat≠45/\(c.toNat<48\/57<c.toNat))(n:Z):c∉bg n:=λa=>by
 rcases amb n c a with e|e
 ·exact h.1 e
 ·unfold qM at e
  omega
def Vu(u:O):gL u≠ []:=by rw[gL];split<;>simp
def aan:∀(c a:E υ)(acc v:O),x' acc c=.ok v->x' acc (c++a)=x' v a
 |[],a,acc,v,h=>by simp only[x',adG]at h;rw[h];rfl
 |b::l,a,acc,v,h=>by
  rw[lq];simp only[x']at h⊢;split at h
  ·rename_i d
   rw[aU d];split at h
   ·cases h
   ·rename_i e
    rw[bI e];split at h
    ·cases h
    ·rename_i f
     rw[bI f];exact aan l a _ v h
  ·cases h
def aao(u:O)(c:u<10^18):x' 0 (gL u)=.ok u:=by
 induction u using Fy with
 |_ u b=>
  have one:∀a k,a<10^17->k<10->x' a [ns (48+k)]=.ok (a*10+k):=λa k d f=>by
   have e:(ns (48+k)).toNat=48+k:=by rw[Tz];omega
   simp only[x',e];rw[oW,gc,gc]
   congr 1
   omega
  rw[gL];split
  ·rename_i h
   rw[one 0 u (by omega) h,Bv,bH]
  ·rw[aan _ _ _ _ (b (u/10) (by omega) (by omega)),one _ _ (by omega) (tD _ (by omega))]
   congr 1
   omega
def afw(n:Z)(i: -10^17<n)(j:n<10^17):Fi (bg n)=.ok n:=by
 rw[bg];split
 ·rename_i h
  unfold Fi;have e:(45:υ).toNat=45:=rfl;simp only[e,or_true,qA];rw[Lib.parseMag,bI (Vu _),aao _ (by omega)];simp only[not_true,false_and,tQ,bv];rw[gc];simp only[adG];omega
 ·rename_i h
  have c:=Ce n.toNat;have d:=aao n.toNat (by omega);have a:=Vu n.toNat;cases f:gL n.toNat with
  |nil=>exact aR f a
  |cons b l=>rw[f]at c d;have g:=c b jA;unfold qM at g;unfold Fi;simp only;rw[gc,Lib.parseMag,bI (by simp),d];simp only;rw[gc,gc];simp only[adG];rw[gc];omega
abbrev Dl:Ex->E O:=cj [0,1,5,6,7] [5] [4]
abbrev m2(n:O)(ws:E ρ):E AB:=[.row ε n 1 (eF ws) 9]
abbrev EE(s:ρ)(c:Z)(n:O)(a i:Z):E AV:=[.v (.string s),.v (.int .u8 c),.own 0 n,.v (ι a),.v (ι i)]
def asf(s:ρ)(c:Z)(n:O)(ws:E ρ)(a i:Z):let b:=(↑(ay s):Z);let d:=vI (aa .i64 (i+(1:Z)));let e:=[AB.row ε n 1 (eF ws) 9];let f:=(am.out .normal [AV.v (.string s),AV.v (.int .u8 c),AV.own 0 (n+1),d,d] [AB.row ε (n+1) 1 (λq=>[b9 (bif ω q n then eB ws q else qp s (aT a) (aT i))]) 9]);let g:=[κ ((0:Z)<=a),κ (a<=i),κ (i<=b),Δ n n,Δ (n+1) 549755813888];a0 θ g0 200 K (a5 0 SP) (ar 0 36 ((Dl .normal).zip (EE s c n a i))) (m2 n ws) (cw 36 Dl 0)
 =bif κ (i<=b)then bif i==b then Ξ g f else Ξ [κ ((0:Z)<=i),κ (i<b)] (bif bY s i==c then Ξ g f else am.out .normal [AV.v (.string s),AV.v (.int .u8 c),AV.own 0 n,vI a,d] e)else am.out (Ex.exit 0) [AV.own 0 n] e:=by intros;kernel_rfl
noncomputable abbrev On(s:ρ)(c:Z)(m:O)(ws:E ρ):O->χ Sum:=bX 0 (bm 36 (Dl .normal) 0 (EE s c 0 0 0) (m2 0 []) (λa=>a .normal (ar 0 36 [(5,.own 0 m)]) (m2 m ws)))
def awB(s:ρ)(c:Z)(m:O)(ws:E ρ):ad θ g0 (On s c m ws) 200 SP [.v (.string s),.v (.int .u8 c)] [] (ag 0)=Ξ [cy ([AV.v (.string s),AV.v (.int .u8 c),AV.own 0 0,vI 0,vI 0]=EE s c 0 (0:Z) (0:Z)/\Φ [AB.row ε 0 1 (λ_=>[]) 9] (m2 0 []))] (rO [AV.own 0 m] [AB.row ε m 1 (eF ws) 9]):=by kernel_rfl
abbrev Dy:Ex->E O:=cj [0,3,4,5] [3,4] [2]
abbrev EH(s:ρ)(n g:Z)(i:Z):E AV:=[.v (.string s),.v (ι n),.v (ι g),.v (ι i)]
def asH(s:ρ)(n g i:Z):let b:=vI (aa .i64 (i+(1:Z)));let c:=AV.v (.string s);let d:=(↑(ay s):Z);let e:=[c,vI n,vI g,b];let a:=[κ ((0:Z)<=i),κ (i<d)];let f:=(bif κ (bY s i>= (48:Z))then Ξ a (bif κ (bY s i<=(57:Z))then Ξ a (am.out .normal [c,vI (aa .i64 (aa .i64 ((10:Z)*n)+aa .i64 (aa .u8 (bY s i-(48:Z))))),vI g,b] [])else am.out .normal e [])else am.out .normal e []);a0 θ g0 200 K (a5 0 SQ) (ar 0 47 ((Dy .normal).zip (EH s n g i))) [] (cw 47 Dy 0)
 =bif κ (i<d)then bif κ (i<(9:Z))then bif i==(0:Z)then Ξ a (bif bY s i==(45:Z)then am.out .normal [c,vI n,vI (-1:Z),b] []else Ξ a f)else Ξ a f else am.out (Ex.exit 0) [vI n,vI g] []else am.out (Ex.exit 0) [vI n,vI g] []:=by intros;kernel_rfl
noncomputable abbrev OC(s:ρ)(n g:Z):O->χ Sum:=bX 0 (bm 47 (Dy .normal) 0 (EH s 0 1 0) [] (λa=>a .normal (ar 0 47 [(3,.v (ι n)),(4,.v (ι g))]) []))
def axb(s:ρ)(n g:Z):ad θ g0 (OC s n g) 200 SQ [.v (.string s)] [] (ag 0)=Ξ [cy ([AV.v (.string s),vI 0,vI 1,vI 0]=EH s (0:Z) (1:Z) (0:Z)/\Φ [] [])] (rO [vI (aa .i64 (g*n))] []):=by kernel_rfl
def pi(s:ρ)(c:Z)(i:O)(p:E ρ×O):E ρ×O:=bif ((i:Z)==(s.size:Z))||(bY s i==c)then(p.1++[s.extract p.2 i],i+1)else p
def b_(s:ρ)(c:Z):O->E ρ×O
 |0=>([],0)
 |i+1=>pi s c i (b_ s c i)
def eD(s:ρ)(c:Z):E ρ:=(b_ s c (s.size+1)).1
def se(s:ρ)(c:Z):∀i:O,(b_ s c i).1.length<=i/\(b_ s c i).2<=i
 |0=>⟨aQ _,aQ _⟩
 |i+1=>by
  have h:=se s c i;unfold b_ pi;cases((i:Z)==(s.size:Z))||(bY s i==c)with
  |true=>simp only[a6,bN,bZ,eY];omega
  |false=>simp only[be];omega
def Jd(ws:E ρ)(x:ρ)(i:O)(a:ws.length=i):∀q,q<i+1->[b9 (bif ω q i then eB ws q else x)]=eF (ws++[x]) q:=λq b=>abY ws x i a q b
def auH(s:ρ)(c:Z)(hs:s.size<4294967281):ck θ 0 (.block 0 (.loop (a5 0 SP))) (bm 36 (Dl .normal) 0 (EE s c 0 0 0) (m2 0 []) (λa=>a .normal (ar 0 36 [(5,.own 0 (eD s c).length)]) (m2 (eD s c).length (eD s c)))):=by
 refine dQ ba (n:=200) (m:=0) (lv:=Dl) (λi=>EE s c (b_ s c i).1.length ((b_ s c i).2:O) i) (λi=>m2 (b_ s c i).1.length (b_ s c i).1) (λ_=>True) (s.size+1) (λ_=>K) (du rfl rfl rfl) (aQ _) trivial λa Q k i v l=>⟨cN _ _ _,?_⟩
 have o:=se s c i;rw[asf];refine aD (λb=>?_) λb=>?_
 ·have b:=aV b
  have p:aa aY ((i:Z)+1)=((i+1:O):Z):=by rw[bz];omega
  rw[p,cV,cV];have j:(((i:Z)==(s.size:Z))||(bY s i==c))=ε->b_ s c (i+1)=((b_ s c i).1++[s.extract (b_ s c i).2 i],i+1):=λh=>by rw[b_,pi,h];rfl
  have r:(((i:Z)==(s.size:Z))||(bY s i==c))=η->b_ s c (i+1)=b_ s c i:=λh=>by rw[b_,pi,h];rfl
  refine aD (λd=>?_) λd=>aq ?_ (aD (λf=>?_) λf=>?_)
  ·refine c_ (F ⟨i+1,⟨rfl,by omega,trivial⟩,?_⟩)
   have e:=j (by rw[d];rfl);simp only[e,bN,bZ,eY];refine⟨trivial,.cons (ab.row λq g=>Jd _ _ _ rfl q g) .nil⟩
  ·have t:(i:Z)≠s.size:=by simpa using d
   simp only[Ω,ax,aj,aL];omega
  ·refine c_ (F ⟨i+1,⟨rfl,by omega,trivial⟩,?_⟩)
   have e:=j (by rw[f,RP]);simp only[e,bN,bZ,eY];refine⟨trivial,.cons (ab.row λq g=>Jd _ _ _ rfl q g) .nil⟩
  ·refine F ⟨i+1,⟨rfl,by omega,trivial⟩,?_⟩
   have e:=r (by rw[d,f];rfl);simp only[e];exact⟨trivial,Φ.refl _⟩
 ·have b:=cu b
  have:i=s.size+1:=by omega
  subst this;refine F ⟨_,Φ.refl _,?_⟩;rw[aU rfl];exact k
def bG(s:ρ)(c:Z)(j:O):ρ:=eB (eD s c) j
def cJ(s:ρ)(c:Z):O:=(eD s c).length
def F1(g:ρ->Z->O->ρ)(n:ρ->Z->O):E SA->χ FR
 |[.v (.string s),.v (.int .u8 c)]=>γ {val:=.own 0 (n s c),new:=[.row ε (n s c) 1 (λj=>[.string (g s c j)]) 9],aw:=[ω s.size 4294967281]}
 |_=>ζ
def ZG:ak θ 155 (ai [.val,.val] (F1 bG cJ)):=by
 refine ca ba func155 rfl λd f a b=>?_
 unfold F1 at a;split at a
 ·rename_i s c
  cases a;simp only[Ω,ax,aj,bM]at b;refine⟨[],On s c (eD s c).length (eD s c),200,Φ.refl _,da (auH s c b),?_⟩;show aE (ad θ g0 (On s c (eD s c).length (eD s c)) 200 SP [.v (.string s),.v (.int .u8 c)] [] (ag 0)) _
  rw[awB];refine aq ?_ (F ⟨_,rfl,rfl,Φ.refl _⟩);simp only[Ω,ax,aj];exact cG ⟨trivial,(.cons (ab.row λj e=>aR e (dh _)) .nil)⟩
 ·cases a
def dH(s:ρ):O->Z×Z
 |0=>(0,1)
 |i+1=>bif Ψ i 0&&(bY s i==45)then((dH s i).1,-1)else bif κ (48<=bY s i)&&κ (bY s i<=57)then(10*(dH s i).1+(bY s i-48),(dH s i).2)else dH s i
def iR(s:ρ):O:=min s.size 9
def jp(s:ρ):Z:=(dH s (iR s)).2*(dH s (iR s)).1
def Po(s:ρ):∀i:O,(0<=(dH s i).1/\(dH s i).1<10^i)/\((dH s i).2=1\/(dH s i).2= -1)
 |0=>⟨by simp[dH],.inl rfl⟩
 |i+1=>by
  obtain⟨⟨a,d⟩,b⟩:=Po s i;have e:(10:Z)^(i+1)=10^i*10:=R3 _ _;have f:(0:Z)<=10^i:=by omega
  unfold dH;cases Ψ i 0&&(bY s i==45)with
  |true=>simp only[a6];exact⟨⟨a,by omega⟩,.inr trivial⟩
  |false=>
   simp only[be];cases c:κ (48<=bY s i)&&κ (bY s i<=57)with
   |true=>simp only[aP,aL]at c;simp only[a6];exact⟨⟨by omega,by omega⟩,b⟩
   |false=>simp only[be];exact⟨⟨a,by omega⟩,b⟩
def UN(s:ρ)(i:Z):0<=bY s i/\bY s i<256:=by unfold bY;have:=(s.data[i.toNat]!).toNat_lt;omega
def aaA{i:O}(h:i<9):(10:Z)^i<=100000000:=by
 have:i=0\/i=1\/i=2\/i=3\/i=4\/i=5\/i=6\/i=7\/i=8:=by omega
 rcases this with rfl|rfl|rfl|rfl|rfl|rfl|rfl|rfl|rfl<;>decide
def au0(s:ρ):ck θ 0 (.block 0 (.loop (a5 0 SQ))) (bm 47 (Dy .normal) 0 (EH s 0 1 0) [] (λa=>a .normal (ar 0 47 [(3,.v (ι (dH s (iR s)).1)),(4,.v (ι (dH s (iR s)).2))]) [])):=by
 refine dQ ba (n:=200) (m:=0) (lv:=Dy) (λi=>EH s (dH s i).1 (dH s i).2 i) (λ_=>[]) (λ_=>True) (iR s) (λ_=>K) (du rfl rfl rfl) (aQ _) trivial λa Q w i D y=>⟨cN _ _ _,?_⟩
 have G:iR s=min s.size 9:=rfl;obtain⟨⟨H,I⟩,L⟩:=Po s i;have M:=UN s i;rw[asH];have z:i<iR s->aa aY ((i:Z)+1)=((i+1:O):Z):=λh=>by rw[bz];omega
 refine aD (λb=>aD (λd=>?_) λd=>?_) λb=>?_
 ·have b:=aV b
  have d:=aV d;have l:i<iR s:=by omega
  have g:=aaA (i:=i) (by omega);rw[z l];have e:aJ [κ (0<=(i:Z)),κ ((i:Z)<(s.size:Z))]=ε:=by simp only[Ω,ax,aj,aL];omega
  have f:∀{R:Ex->E AV->E AB->Prop},(Ψ i 0&&(bY s i==45))=η->(∀p:Z×Z,dH s (i+1)=p->R .normal [.v (.string s),.v (ι p.1),.v (ι p.2),.v (ι ((i+1:O):Z))] [])->
    aE (bif κ (bY s i>=48)then Ξ [κ (0<=(i:Z)),κ ((i:Z)<(s.size:Z))] (bif κ (bY s i<=57)then Ξ [κ (0<=(i:Z)),κ ((i:Z)<(s.size:Z))] (.out .normal [.v (.string s),.v (ι (aa aY (aa aY (10*(dH s i).1)+aa aY (aa pu (bY s i-48))))),.v (ι (dH s i).2),.v (ι ((i+1:O):Z))] [])else .out .normal [.v (.string s),.v (ι (dH s i).1),.v (ι (dH s i).2),.v (ι ((i+1:O):Z))] [])else .out .normal [.v (.string s),.v (ι (dH s i).1),.v (ι (dH s i).2),.v (ι ((i+1:O):Z))] []) R:=by
   intro R o q;refine aD (λr=>aq e (aD (λj=>aq e (F ?_)) λj=>F ?_)) λr=>F ?_
   ·have t:=aV r
    have A:=aV j;have B:aa pu (bY s i-48)=bY s i-48:=by rw[Fh];omega
    rw[B,bz (x:=10*(dH s i).1),bz (x:=bY s i-48),bz (x:=10*(dH s i).1+(bY s i-48))];refine q (10*(dH s i).1+(bY s i-48),(dH s i).2) ?_;rw[dH,o,show κ (48<=bY s i)=ε from di t,j];rfl
   ·refine q (dH s i) ?_
    rw[dH,o,j,g7];rfl
   ·refine q (dH s i) ?_
    rw[dH,o,show κ (48<=bY s i)=η from r,l5];rfl
  refine aD (λu=>aq e (aD (λv=>F ?_) λv=>aq e (f ?_ λp g=>?_))) λu=>aq e (f ?_ λp g=>?_)
  ·have c:i=0:=by simpa using u
   refine⟨i+1,⟨rfl,by omega,trivial⟩,?_,Φ.refl _⟩;have:dH s (i+1)=((dH s i).1,-1):=by rw[dH,v,show Ψ i 0=ε from by rw[c];rfl];rfl
   simp only[this]
  ·rw[v,g7]
  ·refine⟨i+1,⟨rfl,by omega,trivial⟩,?_,Φ.refl _⟩
   simp only[g]
  ·have c:i≠0:=by simpa using u
   rw[show Ψ i 0=η from by cases i with|zero=>exact aR rfl c|succ k=>rfl];rfl
  ·refine⟨i+1,⟨rfl,by omega,trivial⟩,?_,Φ.refl _⟩
   simp only[g]
 ·have b:=aV b
  have d:=cu d;have:i=iR s:=by omega
  refine F ⟨_,Φ.refl _,?_⟩;rw[aU rfl,this];exact w
 ·have b:=cu b
  have:i=iR s:=by omega
  refine F ⟨_,Φ.refl _,?_⟩;rw[aU rfl,this];exact w
def Li(f:ρ->Z):E SA->χ FR
 |[.v (.string s)]=>γ {val:=.v (ι (f s))}
 |_=>ζ
def aov(s:ρ): -1000000000<jp s/\jp s<1000000000:=by
 obtain⟨⟨b,c⟩,a⟩:=Po s (iR s);have d:iR s<=9:=Nat.min_le_right _ _;have e:(10:Z)^iR s<=1000000000:=by
  rcases om (iR s) 9 with h|h
  ·have:=aaA h
   omega
  ·rw[show iR s=9 by omega]
   decide
 unfold jp;rcases a with h|h<;>rw[h]<;>omega
def ap9:ak θ 156 (ai [.val] (Li jp)):=by
 refine ca ba func156 rfl λb c a d=>?_
 unfold Li at a;split at a
 ·rename_i s
  cases a;have e:=aov s;refine⟨[],OC s (dH s (iR s)).1 (dH s (iR s)).2,200,Φ.refl _,da (au0 s),?_⟩;show aE (ad θ g0 (OC s (dH s (iR s)).1 (dH s (iR s)).2) 200 SQ [.v (.string s)] [] (ag 0)) _
  rw[axb];refine aq ?_ (F ⟨.v (ι (jp s)),rfl,?_,Φ.refl _⟩)
  ·simp only[Ω,ax,aj]
   exact cG ⟨trivial,Φ.refl _⟩
  ·rw[show(dH s (iR s)).2*(dH s (iR s)).1=jp s from rfl,bz]
 ·cases a
def zB(g:ρ->Z->O->ρ)(n:ρ->Z->O)(f:ρ->Z)(a:E Wh->ρ)(yI:E Wh->ξ):aG:=ext (ext (ext g0 155 (ai [.val,.val] (F1 g n))) 156 (ai [.val] (Li f))) 51 (ai bF (tZ a yI))
abbrev DH:Ex->E O:=cj [0,4,5,6] [0,4] [2,3]
abbrev zF(k:O)(h:Θ)(m:O)(a:O->ρ):E AB:=[.row ε k 9 (J h) 123,.row ε m 1 (λj=>[.string (a j)]) 9]
abbrev EO(s:ρ)(k m:O)(i:O):E AV:=[.v (.string s),.own 0 k,.own 1 m,.v (ι i)]
def asS(g:ρ->Z->O->ρ)(n:ρ->Z->O)(f:ρ->Z)(u:E Wh->ρ)(yI:E Wh->ξ)(s:ρ)(k:O)(h:Θ)(m:O)(o:O->ρ)(i:O):let b:=(44:Z);let e:=(↑i:Z);let r:=[AB.row ε 0 9 (λ_=>[]) 123];let t:=[AV.own 0 0,vB η];let l:=(58:Z);let d:=(o (aT e));let p:=(↑(n d l):Z);let a:=(g d l 1);let c:=(↑(n a b):Z);a0 θ (zB g n f u yI) 200 K (a5 0 BE) (ar 0 82 ((DH .normal).zip (EO s k m i))) (zF k h m o) (cw 82 DH 0)
 =bif κ (e<(m:Z))then Ξ [κ (e<(m:Z)),κ (aT e<m),ω (ay d) 4294967281] (bif p != (2:Z)then rO t r else Ξ [κ ((1:Z)<p),κ (1<n d l),ω (ay a) 4294967281] (bif c != (8:Z)then rO t r else Ξ [κ ((0:Z)<p),κ (0<n d l),κ ((0:Z)<c),κ (0<n a b),κ ((1:Z)<c),κ (1<n a b),κ ((2:Z)<c),κ (2<n a b),κ ((3:Z)<c),κ (3<n a b),κ ((4:Z)<c),κ (4<n a b),κ ((5:Z)<c),κ (5<n a b),κ ((6:Z)<c),κ (6<n a b),κ ((7:Z)<c),κ (7<n a b),Δ k k,Δ (k+1) 549755813888] (am.out .normal [AV.v (.string s),AV.own 0 (k+1),AV.own 1 m,vI (aa .i64 (e+(1:Z)))] [AB.row ε (k+1) 9 (λq=>[ι (bif ω q k then h q 0 else f (g d l 0)),ι (bif ω q k then h q 1 else f (g a b 0)),ι (bif ω q k then h q 2 else f (g a b 1)),ι (bif ω q k then h q 3 else f (g a b 2)),ι (bif ω q k then h q 4 else f (g a b 3)),ι (bif ω q k then h q 5 else f (g a b 4)),ι (bif ω q k then h q 6 else f (g a b 5)),ι (bif ω q k then h q 7 else f (g a b 6)),ι (bif ω q k then h q 8 else f (g a b 7))]) 123,AB.row ε m 1 (λj=>[b9 (o j)]) 9])))else am.out (Ex.exit 0) [AV.v (.string s),AV.own 0 k] [AB.row ε k 9 (J h) 123]:=by intros;kernel_rfl
noncomputable abbrev OH(s:ρ)(m:O)(b:O->ρ)(q:ξ)(k:O)(h:Θ):O->χ Sum:=bX 0 (bm 82 (DH .normal) 0 (EO s 0 m 0) (zF 0 (Y []) m b) (λa=>cond q (a .normal (ar 0 82 [(0,.v (.string s)),(4,.own 0 k)]) [.row ε k 9 (J h) 123]) (a .ret (ar 0 82 [(2,.own 0 0),(3,.v (.bool η))]) [.row ε 0 9 (λ_=>[]) 123])))
def axv(g:ρ->Z->O->ρ)(n:ρ->Z->O)(f:ρ->Z)(d:E Wh->ρ)(yI:E Wh->ξ)(s:ρ)(q:ξ)(k:O)(h:Θ):let a:=AB.row ε 0 9 (λ_=>[]) 123;let b:=[AV.af [AV.own 0 0,vB η]];let c:=(n s (32:Z));let e:=(V (ο (J h)) k);let i:=(ay s);ad θ (zB g n f d yI) (OH s (n s 32) (g s 32) q k h) 200 BE [.v (.string s)] [] (ag 0)
 =bif κ ((↑i:Z)> (1500:Z))then rO b [a]else bif cm s (ah (ap [(45:υ)]))then rO [AV.af [AV.own 0 0,vB ε]] [a]else Ξ [ω i 4294967281,cy ([AV.v (.string s),AV.own 0 0,AV.own 1 c,vI 0]=EO s 0 c 0/\Φ [a,AB.row ε c 1 (λj=>[b9 (g s (32:Z) j)]) 9] (zF 0 (Y []) c (g s (32:Z))))] (bif q then Ξ [Δ k k,aF k (J h),κ (k<=274877906944)] (bif !yI e then rO b [a]else bif !cm (d e) s then rO b [a]else rO [AV.af [AV.own 0 k,vB ε]] [AB.row ε k 9 (J h) 123])else rO b [a]):=by intros;kernel_rfl
def axw(g:ρ->Z->O->ρ)(n:ρ->Z->O)(f:ρ->Z)(c:E Wh->ρ)(yI:E Wh->ξ)(s:ρ):let a:=[AB.row ε 0 9 (λ_=>[]) 123];let b:=(ay s);ad θ (zB g n f c yI) (bX 0 iv) 200 BE [.v (.string s)] [] (ag 0)
 =bif κ ((↑b:Z)> (1500:Z))then rO [AV.af [AV.own 0 0,vB η]] a else bif cm s (ah (ap [(45:υ)]))then rO [AV.af [AV.own 0 0,vB ε]] a else Ξ [ω b 4294967281] am.err:=by intros;kernel_rfl
def k7:E bc->bc->bc
 |[],z=>z
 |c::a,z=>.seq c (k7 a z)
def fq(P:bS)(Γ:aG)(n:O):E bc->E AV->E AB->dx->am
 |[],T,H,a=>a .normal T H
 |c::b,T,H,a=>a0 P Γ n K c T H (λe d f=>match e with
  | .normal=>fq P Γ n b d f a
  |_=>.err)
def MC{P:bS}{Γ:aG}(i:aK P Γ)(d:P.follows .mixedOrders=ε)(f:Enters P)(nn n:O){M:O->Prop}{j:ψ}{g:Nu}(hM:∀k,j.heap.size<=k->M k){b:dx}{Q:Ex->E AV->E AB->Prop}{z:bc}{Qw:e9->a8->ψ->Prop}(t:∀T H a w ν,(b .normal T H).ok Q->SR M j g T H a w ν->a.defers=[]->z.wpIn (cx ζ) nn P Qw a w):∀(cs:E bc),cs.all dZ=ε->∀T H a w ν,(fq P Γ n cs T H b).ok Q->SR M j g T H a w ν->a.defers=[]->(k7 cs z).wpIn (cx ζ) nn P Qw a w
 |[],_,T,H,a,w,ν,h,l,m=>t T H a w ν h l m
 |c::cs,o,T,H,a,w,ν,h,l,m=>by
  simp only[gA,aP]at o;refine jQ (mM (oQ i d f ζ nn [] n c o.1 M j g hM T H _ Q a w ν h l m) ?_);rintro e u v ⟨x,y,A,p,rfl,q,r,s⟩;cases x with
  |normal=>exact MC i d f nn n hM t cs o.2 y A u v p q r s
  |exit id=>exact q.elim
  |ret=>exact q.elim
variable {B:O->Prop}
def SR.less{T T':E AV}{H H':E AB}{a:a8}{w:ψ}{ν:Nu}(h:SR B X R T H a w ν)(k:T'.length=T.length)(l:∀t,T'.getD t .dead=T.getD t .dead\/T'.getD t .dead=.dead)(m:H'.length=H.length)(f:∀i,H'.getD i .gone=H.getD i .gone\/H'.getD i .gone=.gone):SR B X R T' H' a w ν:=by
 refine⟨λt=>?_,⟨λi=>?_,λi j b n g c d=>?_,λi b c=>?_,h.heap.lt,h.heap.eL⟩,h.fr,λi b o=>by rw[m];exact h.cg i b o,by rw[k];exact h.len,h.le⟩
 ·rcases l t with e|e
  ·rw[e];exact h.tmps t
  ·rw[e];simp only[VR]
 ·rcases f i with e|e
  ·simp only[e];exact h.heap.br i
  ·simp only[e];trivial
 ·refine h.heap.sep i j b n g ?_ ?_
  ·rcases f i with e|e
   ·rw[e]at c;exact c
   ·rw[e]at c;cases c
  ·rcases f j with e|e
   ·rw[e]at d;exact d
   ·rw[e]at d;cases d
 ·refine h.heap.own i b ?_
  rcases f i with e|e
  ·rw[e]at c;exact c
  ·rw[e]at c;cases c
def Y8{T TT:E AV}{live:E O}(h:T=eJ live 0 TT)(t:O):T.getD t .dead=TT.getD t .dead\/T.getD t .dead=.dead:=by
 subst h;rw[DO];split
 ·exact .inl rfl
 ·exact .inr rfl
def behind(P:bS)(Γ:aG)(n:O)(fn:cb)(id:O)(a:bc)(b:AV->E AB->am):dx:=
 wl id (EX (λT H=>a0 P Γ n K a T H (pV P fn b)) (pV P fn b))
variable {P:bS}
variable {Q:Ex->E AV->E AB->Prop}
def OQ{fn:cb}(hM:∀k,X.heap.size<=k->B k)(h:∀a b,R a=γ b->a<S.length):∀(e:e9)(I:Ex)(D:O)(T':E AV)(H':E AB)(f:a8)(w':ψ)(d:Nu),(e=.normal\/e=.ret)->f.defers=[{target:=.collected D,args:= #[]}]->(pV P fn (ag S.length) .ret T' H').ok Q->SR B X R T' H' f w' d->X.heap.size<=D->w'.heap[D]?=γ (.deferred (γ []))->TD (cx ζ) (i+1) P fn (jR Q B R X) e f w':=by
 intro e I D T' H' f w' d L N q T u j;have l:LeavesInM (cx ζ) (i+1) P fn f.tmps (jR Q B R X) f.defers .returning w':=by
  rw[N];refine⟨by simp,.inl ⟨D,_,rfl,run_takeDeferred j,?_⟩⟩;have c:=T.vg (w':=w'.putObj D (.deferred ζ)) hM (Kx w' D _) λr e=>by cases e;exact⟨u,_,j,rfl⟩
  simp only[pV]at q;split at q
  ·rename_i x ob m
   obtain⟨U,n⟩:=zY q;obtain⟨v,W,w⟩:=aaP c.tmps c.heap.br m U;refine⟨v,W,?_⟩;unfold ag at n;split at n
   ·rename_i p o
    have y:SR B X R [ru x] H' {tmps:= #[v],defers:=[]} (w'.putObj D (.deferred ζ)) d:=by
     refine⟨λt=>?_,c.heap,c.fr,c.cg,by simp,c.le⟩;cases t with
     |zero=>simpa using w
     |succ t=>simp only[J4,List.getD_nil,VR]
    have g:=n9 o y h;have z:p.1.length=1:=by
     have:=o;unfold n8 at this;split at this
     ·rename_i T1 H1 M hH1
      cases H:(j0 (jE S.length (eJ [0] 0 [ru x]) H')&&(jE S.length (eJ [0] 0 [ru x]) H').take S.length==pj 0 S.length)with
      |false=>rw[H]at this;cases this
      |true=>rw[H]at this;cases this;have:=El M;simpa[eJ]using this
     ·cases this
    match A:p.1,z with
    |[C],_=>rw[A]at n g;exact⟨v,C,p.2,_,rfl,n,by simpa using g.tmps 0,g.heap,g.fr,g.le,g.cg⟩
   ·exact n.elim
  ·exact q.elim
 rcases L with rfl|rfl
 ·exact l
 ·exact l
def Gg{Γ:aG}{fn:cb}(hM:∀k,X.heap.size<=k->B k)(f:∀a b,R a=γ b->a<S.length)(y:aK P Γ)(p:P.follows .mixedOrders=ε)(q:Enters P){n id:O}{c:bc}(z:dZ c=ε):∀(e:Ex)(D:O)(T':E AV)(H':E AB)(l:a8)(w':ψ)(d:Nu),l.defers=[{target:=.collected D,args:= #[]}]->(behind P Γ n fn id c (ag S.length) e T' H').ok Q->SR B X R T' H' l w' d->X.heap.size<=D->w'.heap[D]?=γ (.deferred (γ []))->pr id (e9.then (c.wpIn (cx ζ) (i+1) P (TD (cx ζ) (i+1) P fn (jR Q B R X))) (TD (cx ζ) (i+1) P fn (jR Q B R X))) (Ex.to e) l w':=by
 intro e D T' H' l w' d G g x m h;have run:(a0 P Γ n K c T' H' (pV P fn (ag S.length))).ok Q->c.wpIn (cx ζ) (i+1) P (TD (cx ζ) (i+1) P fn (jR Q B R X)) l w':=by
  intro g;refine mM (oQ y p q ζ (i+1) _ n c z (fQ w' d H') w' d (λk g=>.inl g) T' H' _ Q l w' d g x.Ap G) ?_;rintro e H A ⟨N,I,L,r,rfl,o,s,t⟩;have u:A.heap[D]?=γ (.deferred (γ [])):=(s.fr.block D (cC.1 h).1 (x.Aa h rfl)).trans h;have v:=x.xN hM s;cases N with
  |normal=>exact OQ hM f _ .normal D I L H A r (.inl rfl) t o v m u
  |ret=>exact OQ hM f _ .ret D I L H A r (.inr rfl) t o v m u
  |exit j=>exact o.elim
 cases e with
 |normal=>exact run g
 |ret=>exact OQ hM f .ret .ret D T' H' l w' d (.inr rfl) G g x m h
 |exit j=>
  simp only[behind,wl]at g;simp only[Ex.to,pr];cases C:Ψ j id with
  |true=>rw[C]at g;rw[aU (cA C)];exact run g
  |false=>rw[C]at g;exact g.elim
def agK{α:Type}{Γ:aG}(R:aK P Γ)(q:P.follows .mixedOrders=ε)(r:Enters P){fn:cb}(hf:P.funcs[I]?=γ fn){m:E bc}{p2 y o A:bc}{g:cP}{ps:aX Tmp}(hb:fn.body=γ (k7 m (.seq (.seq p2 (.block i (.rangeFunc g ps o A))) y)))(hDp:m.all dZ=ε)(hD2:dZ p2=ε)(hDr:dZ y=ε)(hDa:dZ o=ε)(hDb:dZ A=ε){n nn:O}{TT:E AV}{HH U:E AB}{lvp:Ex->E O}{gf:O}{cs:E AV}{encs:α->E τ}{S Sp:E α->Prop}{N:O}(hpre:(fq P Γ n (m++[p2]) (G++eH (fn.ntmps-G.length) (.v aZ)) U (eV lvp U.length)).ok (λe T' H'=>e=.normal/\T'=TT/\H'=HH))(hg:bP TT g=.fn gf cs)(T:E AV)(hTl:T.length=TT.length)(hT:∀t,T.getD t .dead=TT.getD t .dead\/T.getD t .dead=.dead)(Jv:E α->Prop)(Lx:Ex->E α->Prop)(B:E α->E AB)(hx:Ex->E α->E AB)(hHl:(B []).length=HH.length)(hH:∀h,(B []).getD h .gone=HH.getD h .gone\/(B []).getD h .gone=.gone)(eg:∀args w,(g_ gf args).run P w=.ok (.enter gf args) w)(d:(O->Prop)->ψ->Nu->Prop)(hIter:∀M w ν W L a1 lb,d M w ν->(∀k,w.heap.size<=k->M k)->SR M w ν TT HH a1 W L->SR (fQ W L HH) W L TT HH a1 W L->aB L cs lb->yj (cx ζ) nn P gf lb.toArray (λx=>(encs x).toArray) (Od W (fQ W L (B []))) S Sp N W)(hps:∀x,(encs x).length=ps.size)(hpT:∀p∈ps.toList,p<T.length)(hJ0:Jv [])(X:∀m x,Jv m->m.length<N->(a0 P Γ n K o (j3 ps.toList (encs x) T) (B m) (mP P Γ n A HH.length)).ok (qF Jv Lx B hx (m++[x])))(hdone:∀xs,S xs->Jv xs->(behind P Γ n fn i y (ag U.length) .normal T (B xs)).ok Q)(f:∀e m,e≠ .normal->Lx e m->Sp m->(behind P Γ n fn i y (ag U.length) e T (hx e m)).ok Q):∀(M:O->Prop)(vals:E τ)(w:ψ)(ν:Nu),d M w ν->(∀k,w.heap.size<=k->M k)->aB ν G vals->RH M ν (λb=>U.getD b .gone) w->(∀h b,ν h=γ b->h<U.length)->aM P I vals.toArray w (jR Q M ν w):=by
 intro M vals w ν hI hM hv hR C;rw[<-TE (n:=nn+1),<-acV];refine callsIn_of_wp_marks hf hb trivial ?_;have hst:=rF (fn:=fn) hv hR C;have hpre':(fq P Γ n m (G++eH (fn.ntmps-G.length) (.v aZ)) U (λe T' H'=>match e with
   | .normal=>fq P Γ n [p2] T' H' (eV lvp U.length)
   |_=>.err)).ok (λe T' H'=>e=.normal/\T'=TT/\H'=HH):=by
  have app:∀(l:E bc)(T:E AV)(H:E AB),fq P Γ n (l++[p2]) T H (eV lvp U.length)=fq P Γ n l T H (λe T' H'=>match e with
   | .normal=>fq P Γ n [p2] T' H' (eV lvp U.length)
   |_=>.err):=by
   intro l;induction l with
   |nil=>intro T H;rfl
   |cons c l ih=>
    intro T H;simp only[lq,fq]
    congr 1
    funext e T' H'
    cases e with
    |normal=>exact ih T' H'
    |_=>rfl
  rw[<-app];exact hpre
 refine MC R q r (nn+1) n hM (λT2 H2 a2 w2 ν2 hk2 hS2 hd2=>?_) m hDp _ _ _ _ _ hpre' hst rfl;refine jQ (jQ (mM (oQ R q r ζ (nn+1) [] n p2 hD2 M w ν hM T2 H2 _ _ a2 w2 ν2 hk2 hS2 hd2) ?_));rintro e a3 w3 ⟨e3,T3,H3,ν3,rfl,u,hS3,hd3⟩;cases e3 with
 |exit j=>exact u.elim
 |ret=>exact u.elim
 |normal=>
  simp only[fq]at u;unfold eV at u;split at u
  ·rename_i p hwk
   obtain⟨_,hp1,hp2⟩:=u;have s:=n9 hwk hS3 C;rw[hp1,hp2]at s;generalize i6 (jE U.length (eJ (lvp .normal) 0 T3) H3) ν3=v at s;have hSr:=s.Ap;have hgv:VR v (.fn gf cs) (a3.eval g):=by
    have:=lK (T:=TT) (a:=a3) (ν:=v) (z:=g) λt _=>s.tmps t
    rw[hg]at this;exact this
   simp only[VR]at hgv;obtain⟨lb,hlb,hvs⟩:=hgv;have hS5:SR (fQ w3 v (B [])) w3 v T (B []) a3 w3 v:=(s.less (T':=T) (H':=B []) hTl hT hHl hH).Ap;have hS5M:SR M w ν T (B []) a3 w3 v:=s.less (T':=T) (H':=B []) hTl hT hHl hH;show(adi i (.rangeFunc g ps o A)).wpIn (cx ζ) (nn+1) P _ a3 w3
   refine BG ?_;have sz:=s.fr.size;refine arE R q r hlb eg Jv Lx B hx hDa hDb hHl hS5 (hIter M w ν w3 v a3 lb hI hM s hSr hvs) hps hpT hJ0 X (λD xs W ν' hD hs hj hS hDd=>?_) (λD e m W ν' hD hne hlv hs hS hDd=>?_)
   ·refine Gg hM C R q r hDr .normal D T (B xs) _ W ν' (by rw[<-hd3]) (hdone xs hs hj) ?_ (by omega) hDd
    have:=hS5M.xN hM hS;exact⟨this.tmps,this.heap,this.fr,this.cg,this.len,this.le⟩
   ·refine Gg hM C R q r hDr e D T (hx e m) _ W ν' (by rw[<-hd3]) (f e m hne hlv hs) ?_ (by omega) hDd
    have:=hS5M.xN hM hS;exact⟨this.tmps,this.heap,this.fr,this.cg,this.len,this.le⟩
  ·exact u.elim
def agL{α:Type}{Γ:aG}(H:aK P Γ)(y:P.follows .mixedOrders=ε)(z:Enters P){fn:cb}(hf:P.funcs[I]?=γ fn){c:E bc}{L l d m:bc}{g:cP}{ps:aX Tmp}(hb:fn.body=γ (k7 c (.seq (.seq L (.block i (.rangeFunc g ps d m))) l)))(R:c.all dZ=ε)(U:dZ L=ε)(X:dZ l=ε)(f:dZ d=ε)(hDb:dZ m=ε){n nn:O}{TT:E AV}{HH v:E AB}{lvp:Ex->E O}{gf:O}{cs:E AV}{encs:α->E τ}{S Sp:E α->Prop}{N:O}(A:(fq P Γ n (c++[L]) (G++eH (fn.ntmps-G.length) (.v aZ)) v (eV lvp v.length)).ok (λe T' H'=>e=.normal/\T'=TT/\H'=HH))(hg:bP TT g=.fn gf cs)(T:E AV)(hTl:T.length=TT.length)(hT:∀t,T.getD t .dead=TT.getD t .dead\/T.getD t .dead=.dead)(B:E α->Prop)(Lx:Ex->E α->Prop)(r:E α->E AB)(hx:Ex->E α->E AB)(hHl:(r []).length=HH.length)(hH:∀a,(r []).getD a .gone=HH.getD a .gone\/(r []).getD a .gone=.gone)(eg:∀args w,(g_ gf args).run P w=.ok (.enter gf args) w)(s:∀W j a1 D,SR (fQ W j HH) W j TT HH a1 W j->aB j cs D->yj (cx ζ) nn P gf D.toArray (λx=>(encs x).toArray) (lQ W (fQ W j (r []))) S Sp N W)(hps:∀x,(encs x).length=ps.size)(hpT:∀p∈ps.toList,p<T.length)(hJ0:B [])(o:∀c x,B c->c.length<N->(a0 P Γ n K d (j3 ps.toList (encs x) T) (r c) (mP P Γ n m HH.length)).ok (qF B Lx r hx (c++[x])))(u:∀xs,S xs->B xs->(behind P Γ n fn i l (ag v.length) .normal T (r xs)).ok Q)(q:∀e c,e≠ .normal->Lx e c->Sp c->(behind P Γ n fn i l (ag v.length) e T (hx e c)).ok Q):∀(M:O->Prop)(vals:E τ)(w:ψ)(ν:Nu),(∀k,w.heap.size<=k->M k)->aB ν G vals->RH M ν (λb=>v.getD b .gone) w->(∀a b,ν a=γ b->a<v.length)->aM P I vals.toArray w (jR Q M ν w):=
 λM vals w ν hM hv hR C=>agK H y z hf hb R U X f hDb A hg T hTl hT B Lx r hx hHl hH eg (λ_ _ _=>True) (λ_ _ _ W j a1 D _ _ _ h hv=>auu (s W j a1 D h hv) λ_ _ h=>h.1) hps hpT hJ0 o u q M vals w ν trivial hM hv hR C
def agJ{α:Type}{Γ:aG}(A:aK P Γ)(v:P.follows .mixedOrders=ε)(y:Enters P){fn:cb}(hf:P.funcs[I]?=γ fn){c:E bc}{B h d j:bc}{g:cP}{ps:aX Tmp}(hb:fn.body=γ (k7 c (.seq (.seq B (.block i (.rangeFunc g ps d j))) h)))(C:c.all dZ=ε)(D:dZ B=ε)(H:dZ h=ε)(L:dZ d=ε)(R:dZ j=ε){n nn:O}{TT:E AV}{HH u:E AB}{lvp:Ex->E O}{gf:O}{cs:E AV}{encs:α->E τ}{S Sp:E α->Prop}{N:O}(z:(fq P Γ n (c++[B]) (G++eH (fn.ntmps-G.length) (.v aZ)) u (eV lvp u.length)).ok (λe T' H'=>e=.normal/\T'=TT/\H'=HH))(hg:bP TT g=.fn gf cs)(T:E AV)(U:T.length=TT.length)(hT:∀t,T.getD t .dead=TT.getD t .dead\/T.getD t .dead=.dead)(lv:Ex->ξ)(q:E α->E AB)(X:Ex->E α->E AB)(f:(q []).length=HH.length)(hH:∀a,(q []).getD a .gone=HH.getD a .gone\/(q []).getD a .gone=.gone)(eg:∀args w,(g_ gf args).run P w=.ok (.enter gf args) w)(r:∀W l a1 lb,SR (fQ W l HH) W l TT HH a1 W l->aB l cs lb->yj (cx ζ) nn P gf lb.toArray (λx=>(encs x).toArray) (lQ W (fQ W l (q []))) S Sp N W)(hps:∀x,(encs x).length=ps.size)(hpT:∀p∈ps.toList,p<T.length)(m:∀c x,c.length<N->(a0 P Γ n K d (j3 ps.toList (encs x) T) (q c) (mP P Γ n j HH.length)).ok (LJ lv q X (c++[x])))(s:∀xs,S xs->(behind P Γ n fn i h (ag u.length) .normal T (q xs)).ok Q)(o:∀e c,e≠ .normal->lv e=ε->Sp c->(behind P Γ n fn i h (ag u.length) e T (X e c)).ok Q):∀(M:O->Prop)(vals:E τ)(w:ψ)(ν:Nu),(∀k,w.heap.size<=k->M k)->aB ν G vals->RH M ν (λb=>u.getD b .gone) w->(∀a b,ν a=γ b->a<u.length)->aM P I vals.toArray w (jR Q M ν w):=
 agL A v y hf hb C D H L R z hg T U hT (λ_=>True) (λe _=>lv e=ε) q X f hH eg r hps hpT trivial (λc x _ hl=>atm (m c x hl)) (λxs hs _=>s xs hs) o
def uj(ν:Nu)(a:E O):O->Prop:=λk=>∃i∈a,∃b,ν i=γ b/\b.n=k
structure vM (B:O->Prop) (W W':ψ):Prop where
 fr:Fr B W W'
 cells:∀k,B k->(∃l t fz,W.heap[k]?=γ (.cells (qr l) t fz))->∃l t fz,W'.heap[k]?=γ (.cells (qr l) t fz)
def LK{α:Type}(a:Fence)(n:O)(P:bS)(g:O)(j:aX τ)(encs:α->aX τ)(B M:O->Prop)(S Sp:E α->Prop)(N:O)(w:ψ):Prop:=
 ∀(l:O)(b f:E α->ψ->Prop)(W:ψ),Below w.heap.size w W->(∀s A C,b s A->vM B A C->b s C)->(∀s A C,f s A->vM B A C->f s C)->
  (∀c x h,b c h->c.length<N->YieldAt a (n-1) P l (encs x) h λe d=>(e=.returned (.bool ε)/\b (c++[x]) d/\(h.heap.size<=d.heap.size/\(∀k,B k->d.heap[k]?=h.heap[k]?)/\a4 M d))\/(e=.returned (.bool η)/\f (c++[x]) d))->
  b [] W->
  CallsIn a n P g (#[.func (.yield l) #[] #[]]++j) W λe d=>(∃v,e=.returned v)/\((∃i,S i/\b i d)\/(∃c,Sp c/\f c d))
def uE:AB->ξ
 | .row η 0 _ _ _=>ε
 |_=>η
def uD:AB->ξ
 | .cells _ _=>ε
 |_=>η
def rr(a:E O)(H:E AB):ξ:=((dK H.length).all λi=> !(H.getD i .gone).live||(H.getD i .gone).wr||a.elem i)&&a.all λi=>uE (H.getD i .gone)
def N3{b:AB}(h:uE b=ε):b.live=ε/\b.wr=η:=by
 unfold uE at h;split at h
 ·exact⟨rfl,rfl⟩
 ·cases h
def Zy{a:E O}(h:rr a S=ε)(b:i∈a):(S.getD i .gone).live=ε/\(S.getD i .gone).wr=η:=by rw[rr,aP,bT]at h;exact N3 (bT.1 h.2 i b)
def aoB{d:E O}(h:rr d S=ε)(a:(S.getD i .gone).live=ε)(e:i∉d):(S.getD i .gone).wr=ε:=by
 rw[rr,aP,bT]at h;by_cases b:i<S.length
 ·have:=h.1 i (np.2 b)
  simp only[po,g8,a,Bool.true_eq_false,false_or]at this;rcases this with c|c
  ·exact c
  ·exact aR (List.elem_iff.1 c) e
 ·rw[cX,nk (by omega)]at a
  cases a
def SR.U'{ν g:Nu}{a:a8}{A c:ψ}{p:E O}(h:SR B X ν G S a A g)(m:rr p S=ε)(q:∀i∈p,∃b,ν i=γ b/\B b.n)(r:vM (uj ν p) A c):SR B X ν G S a c g:=by
 have s:∀k,uj ν p k->B k:=λk ⟨i,n,b,f,e⟩=>by obtain⟨W,d,y⟩:=q i n;rw[f]at d;cases d;exact e▸y
 refine⟨h.tmps,⟨λi=>?_,h.heap.sep,h.heap.own,λi b f=>eN (h.heap.lt i b f) r.fr.size,h.heap.eL.block λk o y=>r.fr.block k o λf=>y (s k f)⟩,h.fr.trans (r.fr.mono λk _ o=>s k o),h.cg,h.len,h.le⟩;by_cases n:i∈p
 ·obtain⟨b,f,_⟩:=q i n
  have d:=h.le _ _ f;have t:BR g i (S.getD i .gone) A:=h.heap.br i;show BR g i (S.getD i .gone) c
  have u:uE (S.getD i .gone)=ε:=by rw[rr,aP]at m;exact bT.1 m.2 i n
  generalize S.getD i .gone=x at t u⊢;unfold uE at u;split at u
  ·rcases t with⟨_,_,e⟩|⟨w,l,D,I,C,L,_⟩
   ·rw[d]at e;cases e
   ·rw[d]at C
    cases C;obtain⟨N,P,z,Q⟩:=r.cells b.n ⟨i,n,b,f,rfl⟩ ⟨l,D,I,L⟩;exact .inr ⟨b,N,P,z,d,Q,(λe=>by cases e),ej _,λj v=>aR v (dh _)⟩
  ·cases u
 ·refine(h.heap.br i).of_block λk o R=>r.fr.block k.n (h.heap.lt i k o) ?_
  rintro⟨j,v,b,f,e⟩;have U:=aoB m R n;exact h.heap.sep i j k b (λe=>n (e▸v)) U (Zy m v).1 o (h.le _ _ f) e.symm
def SR.ano{T T':E AV}{H H':E AB}{a:a8}{w:ψ}{ν:Nu}(h:SR B X R T H a w ν)(o:T'.length=T.length)(p:∀t,T'.getD t .dead=T.getD t .dead\/T'.getD t .dead=.dead)(q:H'.length=H.length)(m:∀i,H'.getD i .gone=H.getD i .gone\/H'.getD i .gone=.gone\/(uE (H'.getD i .gone)=ε/\uD (H.getD i .gone)=ε)):SR B X R T' H' a w ν:=by
 refine⟨λt=>?_,⟨λi=>?_,λi j b r n c d=>?_,λi b c=>?_,h.heap.lt,h.heap.eL⟩,h.fr,λi b s=>by rw[q];exact h.cg i b s,by rw[o];exact h.len,h.le⟩
 ·rcases p t with e|e
  ·rw[e];exact h.tmps t
  ·rw[e];simp only[VR]
 ·rcases m i with e|e|⟨f,g⟩
  ·simp only[e];exact h.heap.br i
  ·simp only[e];trivial
  ·have k:BR ν i (H.getD i .gone) w:=h.heap.br i
   show BR ν i (H'.getD i .gone) w
   generalize H'.getD i .gone=x at f⊢;generalize H.getD i .gone=y at g k;unfold uE at f;split at f
   ·unfold uD at g
    split at g
    ·obtain⟨b,l,u,_,v,_⟩:=k
     exact .inr ⟨b,l,_,_,u,v,(λe=>by cases e),ej _,λj z=>aR z (dh _)⟩
    ·cases g
   ·cases f
 ·refine h.heap.sep i j b r n ?_ ?_
  ·rcases m i with e|e|⟨f,_⟩
   ·rw[e]at c;exact c
   ·rw[e]at c;cases c
   ·rw[(N3 f).2]at c;cases c
  ·rcases m j with e|e|⟨_,g⟩
   ·rw[e]at d;exact d
   ·rw[e]at d;cases d
   ·show(H.getD j .gone).live=ε
    generalize H.getD j .gone=y at g;cases y<;>simp_all [uD,AB.live]
 ·refine h.heap.own i b ?_
  rcases m i with e|e|⟨f,_⟩
  ·rw[e]at c;exact c
  ·rw[e]at c;cases c
  ·rw[(N3 f).2]at c;cases c
variable {C:e9->a8->ψ->Prop}
def arF{α:Type}{Γ:aG}(hΓ:aK P Γ)(Q:P.follows .mixedOrders=ε)(T:Enters P){g:cP}{lb:aX τ}{encs:α->E τ}{ps:aX Tmp}{s t:bc}{S Sp:E α->Prop}{N nn n:O}{a:a8}(hg:a.eval g=.func (.func i) #[] lb)(eg:∀args X,(g_ i args).run P X=.ok (.enter i args) X)(Jv:E α->Prop)(Lx:Ex->E α->Prop)(I:E α->E AB)(hx:Ex->E α->E AB)(hD1:dZ s=ε)(hD2:dZ t=ε){m:O}(hm:(I []).length=m)(hM:∀k,X.heap.size<=k->B k)(h0:SR B X R G (I []) a X R){L:E O}(hbx:∀f∈L,∃b,R f=γ b/\B b.n)(hok:∀q,rr L (I q)=ε)(hokx:∀e q,rr L (hx e q)=ε)(hseq:LK (cx ζ) nn P i lb (λx=>(encs x).toArray) (uj R L) B S Sp N X)(hps:∀x,(encs x).length=ps.size)(hpT:∀p∈ps.toList,p<G.length)(hJ0:Jv [])(u:∀q x,Jv q->q.length<N->(a0 P Γ n K s (j3 ps.toList (encs x) G) (I q) (mP P Γ n t m)).ok (qF Jv Lx I hx (q++[x])))(U:∀D xs W v,X.heap.size<=D->S xs->Jv xs->SR (B) X R G (I xs) a W v->W.heap[D]?=γ (.deferred (γ []))->C .normal {a with defers:={target:=.collected D,args:= #[]}::a.defers} W)(y:∀D e q W v,X.heap.size<=D->e≠ .normal->Lx e q->Sp q->SR (B) X R G (hx e q) a W v->W.heap[D]?=γ (.deferred (γ []))->C (Ex.to e) {a with defers:={target:=.collected D,args:= #[]}::a.defers} W):(Code.rangeFunc g ps s t).wpIn (cx ζ) (nn+1) P C a X:=by
 have z:∀k,uj R L k->k<X.heap.size:=λk ⟨f,_,b,w,M⟩=>M▸h0.heap.lt f b w
 exact aaG hΓ Q T hg eg Jv Lx I hx hD1 hD2 hm hM h0 (St:=vM (uj R L)) (Kp:=λA d=>A.heap.size<=d.heap.size/\(∀k,uj R L k->d.heap[k]?=A.heap[k]?)/\a4 B d)
  (λq _ _ _ H hc=>H.U' (hok q) hbx hc) (λe q _ _ _ H hc=>H.U' (hokx e q) hbx hc) (λA d k o hc M ho _=>(hc.fr.block k (cC.1 ho).1 λw=>by have:=z k w;omega).trans ho)
  (λq W W' v HH ν3 r H _ hf hs'=>⟨hf.size,λk M=>hf.block k (by have:=z k M;have:=H.fr.size;omega) λh=>by
    rcases h with h|h|⟨f,b,hw,w,rfl⟩
    ·have:=z k M;omega
    ·have:=H.fr.size;have:=z k M;omega
    ·obtain⟨j,hj,b',hb',e⟩:=M
     obtain⟨h1,h2⟩:=Zy (hok q) hj;exact H.heap.sep f j b b' (λe=>by subst e;rw[h2]at hw;cases hw) hw h1 w (H.le _ _ hb') e.symm,hs'.heap.eL⟩)
  (λl c Jx W w _ hJ hJx hY hj=>hseq l c Jx W w hJ hJx hY hj) hps hpT hJ0 u U y
def Ra(P:bS)(Γ:aG)(n:O)(c:bc)(a:dx):dx:=λe b d=>match e with
 | .normal=>a0 P Γ n K c b d a
 |_=>.err
def GA(P:bS)(Γ:aG)(n t:O)(f:bc)(a:dx):dx:=λe c d=>match e with
 | .normal=>(match c.getD t .dead with
  | .v (.bool b)=>cond b (a0 P Γ n K f c d (λe c d=>match e with
   | .normal=>a .normal c d
   |_=>.err)) .err
  |_=>.err)
 |_=>.err
def agM{α:Type}{Γ:aG}(H:aK P Γ)(o:P.follows .mixedOrders=ε)(q:Enters P){fn:cb}(hf:P.funcs[I]?=γ fn){d:E bc}{p1 p2 B h s:bc}{id:O}{g:cP}{ps:aX Tmp}(hb:fn.body=γ (k7 d (.seq (.seq p1 (.cond (.tmp i) (.seq p2 (.block id (.rangeFunc g ps h s))) .skip)) B)))(hD1:dZ p1=ε)(hDp:d.all dZ=ε)(hD2:dZ p2=ε)(hDr:dZ B=ε)(hDa:dZ h=ε)(hDb:dZ s=ε){n nn:O}{TT:E AV}{HH X:E AB}{lvp:Ex->E O}{gf:O}{cs:E AV}{encs:α->E τ}{S Sp:E α->Prop}{N:O}(hpre:(fq P Γ n d (G++eH (fn.ntmps-G.length) (.v aZ)) X (Ra P Γ n p1 (GA P Γ n i p2 (eV lvp X.length)))).ok (λe T' H'=>e=.normal/\T'=TT/\H'=HH))(hg:bP TT g=.fn gf cs)(T:E AV)(hTl:T.length=TT.length)(hT:∀t,T.getD t .dead=TT.getD t .dead\/T.getD t .dead=.dead)(Jv:E α->Prop)(Lx:Ex->E α->Prop)(L:E α->E AB)(hx:Ex->E α->E AB)(hHl:(L []).length=HH.length)(bx:E O)(hbx:∀c∈bx,uD (HH.getD c .gone)=ε)(hok:∀d,rr bx (L d)=ε)(hokx:∀e d,rr bx (hx e d)=ε)(hH:∀c,(L []).getD c .gone=HH.getD c .gone\/(L []).getD c .gone=.gone\/(uE ((L []).getD c .gone)=ε/\uD (HH.getD c .gone)=ε))(eg:∀args w,(g_ gf args).run P w=.ok (.enter gf args) w)(f:∀W u a1 lb,SR (fQ W u HH) W u TT HH a1 W u->aB u cs lb->LK (cx ζ) nn P gf lb.toArray (λx=>(encs x).toArray) (uj u bx) (fQ W u HH) S Sp N W)(hps:∀x,(encs x).length=ps.size)(hpT:∀p∈ps.toList,p<T.length)(hJ0:Jv [])(R:∀d x,Jv d->d.length<N->(a0 P Γ n K h (j3 ps.toList (encs x) T) (L d) (mP P Γ n s HH.length)).ok (qF Jv Lx L hx (d++[x])))(hdone:∀xs,S xs->Jv xs->(behind P Γ n fn id B (ag X.length) .normal T (L xs)).ok Q)(U:∀e d,e≠ .normal->Lx e d->Sp d->(behind P Γ n fn id B (ag X.length) e T (hx e d)).ok Q):∀(M:O->Prop)(vals:E τ)(w:ψ)(ν:Nu),(∀k,w.heap.size<=k->M k)->aB ν G vals->RH M ν (λb=>X.getD b .gone) w->(∀c b,ν c=γ b->c<X.length)->aM P I vals.toArray w (jR Q M ν w):=by
 intro M vals w ν hM hv hR C;rw[<-TE (n:=nn+1),<-acV];refine callsIn_of_wp_marks hf hb trivial ?_;have hst:=rF (fn:=fn) hv hR C;refine MC H o q (nn+1) n hM (λT1 H1 a1 w1 u hk1 hS1 hd1=>?_) d hDp _ _ _ _ _ hpre hst rfl;refine jQ (jQ (mM (oQ H o q ζ (nn+1) [] n p1 hD1 M w ν hM T1 H1 _ _ a1 w1 u hk1 hS1 hd1) ?_));rintro e a2 w2 ⟨e2,T2,H2,ν2,rfl,m,hS2,hd2⟩;cases e2 with
 |exit j=>exact m.elim
 |ret=>exact m.elim
 |normal=>
 simp only[GA]at m;split at m
 case h_2=>exact m.elim
 rename_i bb hbb;rcases kT m with⟨hb1,m⟩|⟨_,m⟩
 case inr=>exact m.elim
 subst hb1;have hct:a2.eval (.tmp i)=.bool ε:=by have:=hS2.tmps i;rw[hbb]at this;simp only[VR]at this;exact this
 show(Fa (.tmp i) (.seq p2 (.block id (.rangeFunc g ps h s))) .skip).wpIn (cx ζ) (nn+1) P _ a2 w2
 refine aeH hct (jQ (mM (oQ H o q ζ (nn+1) [] n p2 hD2 M w ν hM T2 H2 _ _ a2 w2 ν2 m hS2 hd2) ?_));rintro e a3 w3 ⟨e3,T3,H3,ν3,rfl,A,hS3,hd3⟩;cases e3 with
 |exit j=>exact A.elim
 |ret=>exact A.elim
 |normal=>
  simp only at A;unfold eV at A;split at A
  ·rename_i p hwk
   obtain⟨_,hp1,hp2⟩:=A;have v:=n9 hwk hS3 C;rw[hp1,hp2]at v;generalize i6 (jE X.length (eJ (lvp .normal) 0 T3) H3) ν3=r at v;have hSr:=v.Ap;have hgv:VR r (.fn gf cs) (a3.eval g):=by
    have:=lK (T:=TT) (a:=a3) (ν:=r) (z:=g) λt _=>v.tmps t
    rw[hg]at this;exact this
   simp only[VR]at hgv;obtain⟨lb,hlb,hvs⟩:=hgv;have hS5:SR (fQ w3 r HH) w3 r T (L []) a3 w3 r:=hSr.ano (T':=T) (H':=L []) hTl hT hHl hH;have hbx':∀c∈bx,∃b,r c=γ b/\fQ w3 r HH b.n:=λc hi=>by
    have hc:=hbx c hi;have hbr:BR r c (HH.getD c .gone) w3:=v.heap.br c;have hw:(HH.getD c .gone).wr=ε:=by generalize HH.getD c .gone=y at hc;cases y<;>simp_all [uD,AB.wr]
    cases hy:HH.getD c .gone with
    |cells cs t=>rw[hy]at hbr;obtain⟨b,l,e1,_⟩:=hbr;exact⟨b,e1,.inr ⟨c,b,hw,e1,rfl⟩⟩
    |row=>rw[hy]at hc;cases hc
    |gone=>rw[hy]at hc;cases hc
   show(adi id (.rangeFunc g ps h s)).wpIn (cx ζ) (nn+1) P _ a3 w3
   refine BG ?_;have sz:=v.fr.size;refine arF H o q hlb eg Jv Lx L hx hDa hDb hHl (λk hk=>.inl hk) hS5 hbx' hok hokx (f w3 r a3 lb hSr hvs) hps hpT hJ0 R (λD xs W ν' hD hs hj hS hDd=>?_) (λD e d W ν' hD hne hlv hs hS hDd=>?_)
   ·refine Gg hM C H o q hDr .normal D T (L xs) _ W ν' (by rw[<-hd3]) (hdone xs hs hj) ?_ (by omega) hDd
    have:=v.xN hM hS;exact⟨this.tmps,this.heap,this.fr,this.cg,this.len,this.le⟩
   ·refine Gg hM C H o q hDr e D T (hx e d) _ W ν' (by rw[<-hd3]) (U e d hne hlv hs) ?_ (by omega) hDd
    have:=v.xN hM hS;exact⟨this.tmps,this.heap,this.fr,this.cg,this.len,this.le⟩
  ·exact A.elim
def anL{Γ:aG}(y:aK P Γ){all:aX a_}{k:O}{o:a_}(s:all[k]?=γ o)(H:o.guard=ζ)(M:∀c,o.op≠ .defer c)(hM:∀k,X.heap.size<=k->B k){a:a8}{w:ψ}{ν:Nu}(A:fx P Γ o G S S.length=γ j)(Q:aJ j.aw=ε)(u:(lH G o.dst&&j.put.all λp=>(S.getD p.1 .gone).wr)=ε)(l:SR B X R G S a w ν){d:a8->ψ->Prop}(T:∀D w' q,SR B X R (my G o.dst j.val) (i3 S j) D w' q->D.defers=a.defers->d D w'):vJ (cx ζ) i P all C k d a w:=by
 unfold vJ;rw[s];simp only;rw[aU (by simp[ow,H])];refine aaj M ?_;have vT:∀t,VR ν (G.getD t .dead) (a.tmps.getD t aZ):=l.tmps;rw[aP]at u;have h:∀p∈j.put,(S.getD p.1 .gone).wr=ε:=λp I=>bT.1 u.2 p I
 have m:∀g,g<j.new.length->ν (S.length+g)=ζ:=by
  intro g _;cases r:ν (S.length+g)with
  |none=>rfl
  |some b=>have:=l.cg _ b r;omega
 refine IT y A Q (λz _=>lK λt _=>vT t) (λb _=>l.heap.br b) l.heap.lt m (λi' c j' b L I _ N U u h2=>l.heap.sep i' j' b L N (h _ I) U u h2) (l.heap.Gt (λk s=>hM k (cF l.fr.size s)) h) λv w' q n=>?_
 have W:=l.heap.step (λk s=>hM k (cF l.fr.size s)) n h m;have e:(λb=>(i3 S j).getD b .gone)=kp S.length j λb=>S.getD b .gone:=by
  funext b
  exact Gi h b
 have x:∀f b,q f=γ b->f<(i3 S j).length:=by
  intro f b hb;have U:(i3 S j).length=S.length+j.new.length:=by simp[i3,ta]
  rw[U];cases r:ν f with
  |some L=>have:=l.cg f L r;omega
  |none=>have:=n.cg f r (by rw[hb];simp);omega
 exact T _ _ q (l.put u.1 n.le n.val (by rw[e];exact W) (n.fr l.heap h l.fr) x) (kG ..)
abbrev gd(a:Θ):O->E τ:=λj=>[ι (a j 0),ι (a j 1),ι (a j 2),ι (a j 3),ι (a j 4),ι (a j 5),ι (a j 6),ι (a j 7)]
abbrev m8(p q:ao):τ:=.agg #[ι (p 0),ι (p 1),ι (p 2),ι (p 3),ι (p 4),ι (p 5),ι (p 6),ι (p 7),ι (q 0),ι (q 1),ι (q 2),ι (q 3),ι (q 4),ι (q 5),ι (q 6),ι (q 7)]
def aq7:dx:=λe T H=>.out e T H
abbrev yv(l:O):τ:=.func (.yield l) #[] #[]
abbrev QH(m c:O):AV:=.sl 1 8 0 0 m (γ c)
abbrev gr(a:Θ)(m c:O)(tB tr:ae):E AB:=[.cells [QH m c] tB,.row η m 8 (gd a) tr]
def ka(l m c i:O):E AV:=ar 0 26 [(0,.v (yv l)),(1,.ptr 0 1 0 0),(5,QH m c),(6,.v (ι m)),(7,.v (ι i))]
noncomputable def P7:bc:=match(FH).body with|some (.seq r _)=>r|_=>.skip
noncomputable def wO:bc:=a5 0 FH
def gX:bc->bc| .seq a _=>a|c=>c
def db:bc->bc| .seq _ b=>b|c=>c
def v6:bc->bc| .block _ b=>b|c=>c
def afF:(FH).body=γ (.seq P7 (.block 0 (.loop wO))):=by kernel_rfl
noncomputable def P8:bc:=gX wO
noncomputable def P9:bc:=gX (v6 (gX (db (db wO))))
noncomputable def arJ:bc:=gX (db (v6 (gX (db (db wO)))))
noncomputable def Ek:bc:=db (db (db wO))
noncomputable def IW:aX a_:=match arJ with| .region _ o _=>o|_=> #[]
def anB:wO=.seq P8 (.seq (.cond (.tmp 8) .skip (.exit 0)) (.seq (.block 1 (.seq P9 (.seq (.region 3 IW ε) (.cond (.tmp 24) .ret .skip)))) Ek)):=by kernel_rfl
def aty(l m c:O)(a:Θ)(tB tr:ae):a0 θ g0 100 K P7 ([.v (yv l),.ptr 0 1 0 0]++eH 24 (.v aZ)) (gr a m c tB tr) (eV (cj [0,1,5,6,7] [] []) 2)=.out .normal (ka l m c 0) (gr a m c tB tr):=by kernel_rfl
def atz(l m c i:O)(a:Θ)(tB tr:ae):a0 θ g0 100 K P8 (ka l m c i) (gr a m c tB tr) aq7=.out .normal ((ka l m c i).set 8 (.v (.bool (κ ((i:Z)<m))))) (gr a m c tB tr):=by kernel_rfl
noncomputable def opsL:E a_:=IW.toList
noncomputable def abi(T:E AV)(H:E AB):am:=a0 θ g0 100 K P9 T H λe c d=>match e with
 | .normal=>ku θ g0 opsL (opsL.take 11) c d [] λa b f=>cond (jS opsL f.reverse) (eV (cj [0,1,5,6,7,12,22] [] []) 2 .normal a b) .err
 |_=>.err
def atA(l m c i:O)(q:ξ)(a:Θ)(tB tr:ae):abi ((ka l m c i).set 8 (.v (.bool q))) (gr a m c tB tr)=Ξ [κ ((i:Z)<m),κ (0+i<m),!κ ((m:Z)=0),κ (0<=(W (i+1)).tmod m),κ ((W (i+1)).tmod m<m),κ (0+((W (i+1)).tmod m).toNat<m)] (.out .normal (((ka l m c i).set 12 (.v (yv l))).set 22 (.v (m8 (a (0+i)) (a (0+((W (i+1)).tmod m).toNat))))) (gr a m c tB tr)):=by kernel_rfl
def atB(l m c i:O)(b:ξ)(v:τ)(a:Θ)(tB tr:ae):a0 θ g0 100 K Ek (((((ka l m c i).set 12 (.v (yv l))).set 22 (.v v)).set 23 (.v (.bool ε))).set 24 (.v (.bool b))) (gr a m c tB tr) (eV (cj [0,1,5,6,7] [] []) 2)=.out .normal (ar 0 26 [(0,.v (yv l)),(1,.ptr 0 1 0 0),(5,QH m c),(6,.v (ι m)),(7,.v (ι (W (i+1))))]) (gr a m c tB tr):=by kernel_rfl
def OP{j:E Deferred}{lv:Ex->E O}{e:e9}{a:a8}{w:ψ}(h:nW j B X R (eV lv i) Q e a w)(g:∀c b,R c=γ b->c<i):∃d T H ν,e=Ex.to d/\Q d T H/\SR B X R T H a w ν/\a.defers=j:=by
 obtain⟨d,T,H,ν,rfl,f,k,l⟩:=h;unfold eV at f;split at f
 ·rename_i p n
  exact⟨d,p.1,p.2,_,rfl,f,n9 n k g,l⟩
 ·exact f.elim
def RD{ops:aX a_}{d l:O}{o:a_}{x y:cP}{p:aX ae}{c:a8->ψ->Prop}{R:jM->ψ->Prop}{a:a8}{v:τ}(q:ops[d]?=γ o)(g:o.op=.call ⟨.value x,#[y],p⟩)(m:o.guard=ζ)(r:a.eval x=yv l)(s:a.eval y=v)(h:YieldAt (cx ζ) (i-1) P l #[v] X R)(t:∀e w',R e w'->∃b,e=.returned b/\c (a.put o.dst b) w'):vJ (cx ζ) i P ops C d c a X:=by
 unfold vJ;rw[q];simp only;rw[aU (by simp[ow,m])];refine⟨λ_ _=>trivial,?_⟩;obtain⟨fn,j,f,k,e,u⟩:=h;have z:(o.semAt (cx ζ).round a.eval).run P X=.ok (.round l fn j f k) X:=by
  rw[show(cx ζ).round=ζ from rfl,aee];cases o with
  |mk A G H pos n qz=>simp only at g;subst g;simp[dw,resolve,r,s,Fb,invoke,e]
 rw[z,Oper.uponIn_round];refine⟨λh=>(by cases h),u.mono λe w' B=>?_⟩;obtain⟨b,rfl,D⟩:=t e w' B;exact D
variable {N:ae}
variable {q:ξ}
def Pn{ops:aX a_}{d:O}{o:a_}{x:cP}{c:a8->ψ->Prop}{a:a8}(j:ops[d]?=γ o)(f:o.op=.unOp .not N x)(g:o.guard=ζ)(k:a.eval x=.bool q)(l:c (a.put o.dst (.bool (!q))) X):vJ (cx ζ) i P ops C d c a X:=by
 unfold vJ;rw[j];simp only;rw[aU (by simp[ow,g])];refine⟨λ_ _=>trivial,?_⟩;have m:(o.semAt (cx ζ).round a.eval).run P X=.ok (.value (.bool (!q))) X:=by
  rw[show(cx ζ).round=ζ from rfl,aee];cases o with
  |mk h r n pos e qz=>simp only at f;subst f;have p:dw a.eval ⟨h,.unOp .not N x,n,pos,e,qz⟩=(do pure (.value (<-Op.unary .not (a.eval x)))):=rfl;rw[p,k];simp[Op.unary]
 rw[m];exact l
noncomputable def IV:a_:=opsL.getD 11 default
noncomputable def IU:a_:=opsL.getD 12 default
def aq2:opsL.toArray[11]?=γ IV:=by kernel_rfl
def aae:opsL.toArray[12]?=γ IU:=by kernel_rfl
def aq4:IV.op=.call ⟨.value (.tmp 12),#[.tmp 22],#[150]⟩:=by kernel_rfl
def aah:IU.op=.unOp .not 4 (.tmp 23):=by kernel_rfl
def aq3:IV.guard=ζ:=by kernel_rfl
def aag:IU.guard=ζ:=by kernel_rfl
def aai:IV.dst=γ 23:=by kernel_rfl
def aaf:IU.dst=γ 24:=by kernel_rfl
def arG:mI .any opsL.toArray (um 11 13)=[11]:=by kernel_rfl
def aaH:mI .any opsL.toArray ((um 11 13).setIfInBounds 11 ε)=[12]:=by kernel_rfl
def aaI:mI .any opsL.toArray (((um 11 13).setIfInBounds 11 ε).setIfInBounds 12 ε)=[]:=by kernel_rfl
def YJ:opsL.length=13:=by kernel_rfl
def ahT:wX opsL.toArray=ε:=by kernel_rfl
def avE:ab7 11 opsL=ε:=by kernel_rfl
def am4:nj:=⟨λ|145=>46|220=>82|219=>110|217=>185|225=>186|224=>187|267=>188|266=>249|314=>250|n=>n,λ|9=>9|4=>4|59=>59|3=>3|5=>5|46=>191|146=>247|51=>105|n=>n,λ|1=>0|n=>n⟩
def am3:Go.Proofs.Lays.n145 θ am4:=by repeat' (first|kernel_rfl|(intros;kernel_rfl)|decide|constructor)
def anm:nj:=⟨λ|146=>15|221=>25|268=>54|138=>55|143=>56|195=>107|197=>108|218=>109|219=>110|260=>184|217=>185|225=>186|224=>187|267=>188|266=>249|314=>250|n=>n,λ|9=>9|31=>38|3=>3|4=>4|0=>0|105=>125|21=>21|5=>5|46=>191|119=>243|139=>246|138=>245|146=>247|51=>105|n=>n,λ|1=>0|3=>3|4=>4|n=>n⟩
def uF:Go.Proofs.LaysM.n146 θ anm:=by repeat' (first|kernel_rfl|(intros;kernel_rfl)|decide|constructor|exact λw h=>ay8 (zero:= #[.int .i64 0]) (t:=3) h (aV (by kernel_rfl)) (by kernel_rfl) rfl (by kernel_rfl) (by kernel_rfl) underlying3)
def amY:nj:=⟨λ|172=>252|244=>274|245=>275|247=>296|279=>297|280=>298|281=>299|282=>300|287=>314|316=>315|171=>18|205=>316|321=>321|322=>322|243=>47|246=>83|283=>149|284=>150|285=>151|286=>152|129=>229|317=>228|318=>230|319=>231|320=>232|337=>268|338=>269|n=>n,λ|9=>9|3=>3|75=>41|76=>42|4=>4|5=>5|167=>296|37=>22|0=>0|85=>297|2=>2|168=>299|53=>109|175=>328|46=>191|210=>331|127=>62|145=>340|143=>338|21=>21|171=>162|173=>165|212=>227|51=>105|20=>20|213=>228|232=>294|233=>295|80=>45|n=>n,λ|15=>8|16=>9|17=>2|18=>6|19=>7|n=>n⟩
def OO:Go.Proofs.LaysC.n172 θ amY:=by repeat' (first|kernel_rfl|(intros;kernel_rfl)|decide|constructor)
def AS(h:a4 B X):∃m,X.cell? ⟨0,0,ζ⟩=γ (ι m):=by obtain⟨_,l,t,b,a,m,rfl⟩:=h (0,Ul) (by simp[vf]);exact⟨m,by simp only at a;simp[oA,a]⟩
def avD(h:a4 B X):∃v,X.cell? ⟨8,0,ζ⟩=γ v/\(v=.nilIface\/∃t x,v=.iface t x):=by obtain⟨_,l,t,c,a,v,rfl,b⟩:=h (8,BW) (by simp[vf]);exact⟨v,by simp only at a;simp[oA,a],b⟩
def avB(h:a4 B X):∃v,X.cell? ⟨9,0,ζ⟩=γ v/\(v=.nilIface\/∃t x,v=.iface t x):=by obtain⟨_,l,t,c,a,v,rfl,b⟩:=h (9,BW) (by simp[vf]);exact⟨v,by simp only at a;simp[oA,a],b⟩
def pR(s p:ρ):ρ:=⟨(e_ s.data.toList p.data.toList).1.toArray⟩
def gE(s p:ρ):ρ:=⟨(e_ s.data.toList p.data.toList).2.1.toArray⟩
def GC(s p:ρ):ξ:=(e_ s.data.toList p.data.toList).2.2
def m6(x:E υ):(ah x.toArray).size=x.length:=by simp[ay]
def G0(a b:ρ->ρ->ρ)(q:ρ->ρ->ξ):E τ->χ (τ×E ξ)
 |[.string s,.string p]=>γ (.tuple #[.string (a s p),.string (b s p),.bool (q s p)],[ω s.size 4294967281])
 |_=>ζ
def akv(w:ψ)(k:O):Fr (λ_=>False) w (w.drewN k):=⟨rfl,rfl,rfl,aQ _,λ_ _ _=>rfl⟩
def Pz:ak θ 46 (aW (G0 pR gE GC)):=by
 refine n4 (λargs w=>enters 46 f46 func46 rfl args w) λf x g a b w c=>?_
 unfold G0 at a;split at a
 ·rename_i s p
  simp only[aC,cI]at a;obtain⟨rfl,rfl⟩:=a;simp only[Ω,ax,aj,bM]at b;obtain⟨m,d⟩:=AS c;refine(Any.strings_Cut am3 s p m w b d).mono ?_;rintro e h ⟨rfl,k,rfl⟩;exact⟨rfl,akv w k⟩
 ·cases a
def Q5(ws:E ρ)(j:O):E τ:=[.string (ws.getD j ⟨#[]⟩)]
def dD(s p:ρ):E ρ:=Bh p 0 (Bg s p) s
def va(s p:ρ)(h:1<=p.size):(dD s p).length=Bg s p+1:=Lib.splitB_all p h 0 _ s rfl
def arW{Q:Ex->E AV->E AB->Prop}(hM:∀k,X.heap.size<=k->B k)(h:a4 B X)(q:∀i,R i=ζ)(l:E τ)(t:ae)(n:O)(C:l.length=n)(r:n<=jB)(g:O->E τ)(D:∀j,j<n->∃v,l[j]?=γ v/\v.oneCell'=ε/\g j=[v])(G:Q .ret [.own 0 n] [.row ε n 1 g t]):jR Q B R X (.returned (.slice (γ ⟨X.heap.size,0,ζ⟩) n n)) (X.alloc (.cells l.toArray t)):=by
 obtain⟨W,m⟩:∃W,X.alloc (.cells l.toArray t)=W:=⟨_,rfl⟩;have s:W.heap[X.heap.size]?=γ (.cells l.toArray t):=by
  rw[<-m];show(X.heap.push (.cells l.toArray t))[X.heap.size]?=_
  exact Array.getElem?_push_size
 have H:W.heap.size=X.heap.size+1:=by rw[<-m];simp
 have d:∀k,k<X.heap.size->W.heap[k]?=X.heap[k]?:=λk f=>by rw[<-m];exact gJ _ _ _ f
 have u:W.os=X.os/\W.tape=X.tape/\W.output=X.output:=by rw[<-m];exact⟨rfl,rfl,rfl⟩
 rw[m];obtain⟨c,o⟩:∃c:Nu,c=λi=>if i=0 then γ ⟨X.heap.size,0,n⟩else ζ:=⟨_,rfl⟩
 have z:c 0=γ ⟨X.heap.size,0,n⟩:=by rw[o];rfl
 have p:∀i b,c i=γ b->i=0/\b=⟨X.heap.size,0,n⟩:=λi b a=>by
  rw[o]at a;simp only at a;split at a
  ·rename_i e
   cases a;exact⟨e,rfl⟩
  ·cases a
 refine⟨_,.own 0 n,[.row ε n 1 g t],c,rfl,G,?_,⟨λi=>?_,λi j b I L _ _ N y=>?_,λi b _ a=>?_,λi b a=>?_,h.block λk f _=>d k f⟩,⟨u.1,u.2.1,u.2.2,by omega,λk f _=>d k f⟩,λi b a=>(by rw[q i]at a;cases a),λi b a=>?_⟩
 ·simp only[VR]
  exact⟨_,z,rfl⟩
 ·cases i with
  |zero=>
   refine .inr ⟨⟨X.heap.size,0,n⟩,l,t,(0,0),z,s,λ_=>⟨rfl,rfl,rfl,by simp[C],r⟩,aQ _,λj y=>?_⟩;obtain⟨v,P,S,T⟩:=D j y;rw[T];refine⟨⟨rfl,λx A=>?_⟩,λk f=>?_⟩
   ·simp only[nq]at A
    subst A;exact S
   ·have:k=0:=by omega
    subst this;simpa using P
  |succ i=>trivial
 ·have:=(p i b N).1
  have:=(p j I y).1;omega
 ·rw[(p i b a).2]
  exact hM _ (aQ _)
 ·rw[(p i b a).2]
  simp only;omega
 ·rw[(p i b a).1]
  exact oq
def Z5{a:E SA->χ FR}(n:∀sas c,a sas=γ c->aJ c.aw=ε->∃s p,sas=[.v (.string s),.v (.string p)]/\s.size<4294967281/\1<=p.size/\c.val=.own 0 (dD s p).length/\c.new=[.row ε (dD s p).length 1 (Q5 (dD s p)) 9]):ak θ 15 (ai [.val,.val] a):=by
 refine nc enters func15 rfl λsas c A B=>?_
 obtain⟨s,p,rfl,C,o,d,f⟩:=n sas c A B;refine⟨_,Φ.refl _,λM g w t hM l u h=>?_⟩
 match g,l with
 |[x,y],l=>
  simp only[ir,aB,VR,aj]at l;obtain⟨rfl,rfl⟩:=l;obtain⟨m,D⟩:=AS u.eL;refine(RI {uF with} uF.i9 s p m w C D o).mono ?_;rintro e H ⟨rfl,rfl⟩;have v:=va s p o;have G:=adH p o s.size s (aQ _);have q:∀i,t i=ζ:=λi=>by
   cases e:t i with
   |none=>rfl
   |some b=>exact aR (h i b e) (by simp[bO])
  have r:(dD s p).length<=jB:=by unfold jB;omega
  have k:=arW (Q:=dX (bJ [Md.val,Md.val] [SA.v (.string s),SA.v (.string p)] c.put) c) hM u.eL q ((dD s p).map b9) 9 (dD s p).length (by simp) r (Q5 (dD s p)) (λj z=>⟨.string ((dD s p)[j]),by simp[z],rfl,by simp[Q5,z]⟩) ⟨_,by rw[d];rfl,rfl,by rw[f];exact Φ.refl _⟩;rw[v]at k;exact v▸k
def js(s p:ρ)(j:O):ρ:=(dD s p).getD j ⟨#[]⟩
def vb(s p:ρ):O:=(dD s p).length
def Ly(k:O)(g:ρ->ρ->O->ρ)(n:ρ->ρ->O):E SA->χ FR
 |[.v (.string s),.v (.string p)]=>γ {val:=.own 0 k,new:=[.row ε k 1 (λj=>[.string (g s p j)]) 9],aw:=[ω s.size 4294967281,Δ 1 p.size,Ψ (n s p) k]}
 |_=>ζ
def Lw(g:ρ->ρ->O->ρ)(n:ρ->ρ->O):E SA->χ FR
 |[.v (.string s),.v (.string p)]=>γ {val:=.own 0 (n s p),new:=[.row ε (n s p) 1 (λj=>[.string (g s p j)]) 9],aw:=[ω s.size 4294967281,Δ 1 p.size]}
 |_=>ζ
def aqw(k:O):ak θ 15 (ai [.val,.val] (Ly k js vb)):=Z5 λc d a b=>by
 unfold Ly at a;split at a
 ·rename_i s p
  simp only[aC]at a;subst a;simp only[Ω,ax,aj,bM,bl,Sr]at b;have h:(dD s p).length=k:=b.2.2;exact⟨s,p,rfl,b.1,b.2.1,by simp only[h],by simp only[h];rfl⟩
 ·cases a
def aqv:ak θ 15 (ai [.val,.val] (Lw js vb)):=Z5 λc d a b=>by
 unfold Lw at a;split at a
 ·rename_i s p
  simp only[aC]at a;subst a;simp only[Ω,ax,aj,bM,bl]at b;exact⟨s,p,rfl,b.1,b.2,rfl,rfl⟩
 ·cases a
def kq(s:ρ):ξ:=match Fi s.data.toList with| .ok _=>η|_=>ε
def c9(s:ρ):Z:=match Fi s.data.toList with| .ok v=>v| .range=>Lib.atoiSat s.data.toList|_=>0
def KV(v:ρ->Z)(e:ρ->ξ):E SA->χ FR
 |[.v (.string s)]=>γ {val:=.af [.v (ι (v s)),.err (e s)],aw:=[Δ s.size 281474976710656]}
 |_=>ζ
def aoR:ak θ 252 (ai [.val] (KV c9 kq)):=by
 refine nc enters func252 rfl λr L g k=>?_
 unfold KV at g;split at g
 ·rename_i s
  simp only[aC]at g;subst g;simp only[Ω,ax,aj,bl]at k;refine⟨_,Φ.refl _,λM i w p hM d l j=>?_⟩
  match i,d with
  |[x],d=>
   simp only[ir,aB,VR,aj]at d;subst d;obtain⟨u,z,m⟩:=avD l.eL;obtain⟨A,B,n⟩:=avB l.eL;have c:∀(v:Z)(q:ξ)(x:τ)(a:ψ),c9 s=v->kq s=q->cond q (∃t y,x=.iface t y) (x=.nilIface)->Fr (λ_=>False) w a->
     jR (dX (bJ [Md.val] [SA.v (.string s)] []) {val:=.af [.v (ι (c9 s)),.err (kq s)],aw:=[Δ s.size 281474976710656]}) M p w (.returned (.tuple #[.int .i64 v,x])) a:=λv q x a d G H f=>by
    refine⟨_,.af [.v (ι v),.err q],[],p,rfl,⟨_,by rw[d,G];rfl,rfl,Φ.refl _⟩,?_,l.quiet f,f.mono λ_ _ h=>h.elim,Le.refl _,j⟩;simp only[VR];exact⟨[.int .i64 v,x],rfl,by simp only[aB,VR,aj,bv];exact H⟩
   cases b:Fi s.data.toList with
   |ok v=>
    refine(Any.strconv_Atoi_ok OO s (by omega) v b w).mono ?_;rintro e a ⟨rfl,I⟩;refine c v η .nilIface a (by simp only[c9,b]) (by simp only[kq,b]) rfl ?_;rcases I with rfl|⟨t,rfl⟩
    ·exact Fr.refl _ _
    ·exact Below.fr (Lib.bytesWorld_below w _ t)
   |range=>refine(Any.strconv_Atoi_range OO s k b A w B n).mono ?_;rintro e a ⟨N,rfl,_,_,o⟩;exact c _ ε _ a (by simp only[c9,b]) (by simp only[kq,b]) ⟨_,_,rfl⟩ (Below.fr o)
   |_=>refine(Any.strconv_Atoi_syntax OO s k b u w z m).mono ?_;rintro e a ⟨N,rfl,_,_,o⟩;exact c 0 ε _ a (by simp only[c9,b]) (by simp only[kq,b]) ⟨_,_,rfl⟩ (Below.fr o)
 ·cases g
def KU:E SA->χ FR
 |[.v (.string _)]=>γ {val:=.af [.v (ι 0),.err ε],aw:=[η]}
 |_=>ζ
def aoS:ak θ 252 (ai [.val] KU):=by
 refine nc enters func252 rfl λb d a c=>?_
 unfold KU at a;split at a
 ·cases a
  cases c
 ·cases a
def abG(a:ρ):∀(k:O)(s x:ρ),x∈Bh a 0 k s->x.size<=s.size
 |0,s,x,h=>by simp only[Bh,nq]at h;subst h;exact aQ _
 |k+1,s,x,h=>by
  unfold Bh at h;split at h
  ·simp only[nq]at h
   subst h;exact aQ _
  ·rcases dE.1 h with rfl|h
   ·rw[tA]
    omega
   ·have:=abG a k _ x h
    rw[tA]at this;omega
def auc(s p:ρ)(j:O):(js s p j).size<=s.size:=by
 unfold js;by_cases h:j<(dD s p).length
 ·rw[cX,df h,iK]
  exact abG _ _ _ _ (ki h)
 ·rw[cX,nk (by omega)]
  exact ej _
def ahx(s p:ρ):(pR s p).size<=s.size:=by
 have e:s.size=s.data.toList.length:=by rw[lm];rfl
 rw[pR,m6,e,e_];split
 ·simp only[pz];omega
 ·exact aQ _
def ahy(s p:ρ):(gE s p).size<=s.size:=by
 have e:s.size=s.data.toList.length:=by rw[lm];rfl
 rw[gE,m6,e,e_];split
 ·simp only[py];omega
 ·exact ej _
def am_:nj:=⟨λ|143=>56|219=>110|217=>185|225=>186|224=>187|267=>188|266=>249|314=>250|n=>n,λ|9=>9|3=>3|4=>4|5=>5|46=>191|146=>247|51=>105|n=>n,λ|1=>0|n=>n⟩
def am9:Go.Proofs.Lays.n143 θ am_:=by repeat' (first|kernel_rfl|(intros;kernel_rfl)|decide|constructor)
def m3(s p:ρ):Z:=Fj s.data.toList p.data.toList
def MG(a:ρ->ρ->Z):E τ->χ (τ×E ξ)
 |[.string s,.string p]=>γ (ι (a s p),[ω s.size 4294967281])
 |_=>ζ
def apP:ak θ 56 (aW (MG m3)):=by
 refine n4 (λargs w=>enters 56 f56 func56 rfl args w) λf x g a b w c=>?_
 unfold MG at a;split at a
 ·rename_i s p
  simp only[aC,cI]at a;obtain⟨rfl,rfl⟩:=a;simp only[Ω,ax,aj,bM]at b;obtain⟨m,d⟩:=AS c;refine(Any.strings_Index am9 s p m w b d).mono ?_;rintro e h ⟨rfl,rfl⟩;exact⟨rfl,Fr.refl _ _⟩
 ·cases a
def zz(a:ρ->ρ->Z):aG:=ext g0 56 (aW (MG a))
def dt:ρ:=ah (ap [32])
def aub{r p:ρ}(h:m3 r p= -1):dD r p=[r]:=Lib.splitB_miss p 0 _ r h
def aua{r p:ρ}(a:1<=p.size)(h:m3 r p=i):dD r p=r.extract 0 i::dD (r.extract (i+p.size) r.size) p:=by
 have e:Bg r p=Bg (r.extract (i+p.size) r.size) p+1:=by rw[Lib.countB_hit r p i a h,Nat.add_comm]
 rw[dD,e,Lib.splitB_hit p 0 _ r i h,im];rfl
def amc(r p:ρ):m3 r p= -1\/∃i:O,m3 r p=i/\i+p.size<=r.size:=Lib.indexB_cases r p
noncomputable abbrev zl:cb:=f273
noncomputable def sB:bc:=zl.body.getD .skip
noncomputable def abI:bc:=gX sB
noncomputable def sL:bc:=v6 (a5 2 zl)
noncomputable def sR5:bc:=gX sL
noncomputable def Qy:bc:=gX (gX (db sL))
noncomputable def Qz:bc:=gX (db (db sL))
noncomputable def QA:bc:=db (db (db (db sL)))
noncomputable def aak:bc->aX a_| .region _ o _=>o|_=> #[]
noncomputable def uZ:aX a_:=aak (gX (gX (db (db (db sL)))))
noncomputable def xp:aX a_:=aak (db (db sB))
def afH:zl.body=γ (.seq abI (.seq (.block 2 (.loop (.block 3 sL))) (.region 10 xp η))):=by kernel_rfl
def anE:sL=.seq sR5 (.seq (.seq Qy (.cond (.tmp 33) (.exit 2) .skip)) (.seq Qz (.seq (.seq (.region 8 uZ η) (.cond (.tmp 42) .ret .skip)) QA))):=by kernel_rfl
abbrev iA(i:O):AV:=.ptr i 1 0 0
def jX(r:ρ):E AB:=[.cells [.v (.string dt)] 9,.cells [.v (.string r)] 9,.cells [.v (ι 0)] 3]
def tS(l:O):E AV:=ar 0 52 [(0,.v (yv l)),(1,iA 0),(2,iA 1),(3,iA 2)]
def EV(l:O)(x:Z)(b:ξ):E AV:=ar 0 52 [(0,.v (yv l)),(1,iA 0),(2,iA 1),(3,iA 2),(7,.v (ι x)),(33,.v (.bool b))]
def EW(l:O)(x:Z)(y:ρ):E AV:=ar 0 52 [(0,.v (yv l)),(1,iA 0),(2,iA 1),(3,iA 2),(7,.v (ι x)),(8,.v (.string y))]
def atC(a:ρ->ρ->Z)(l:O)(r:ρ):a0 θ (zz a) 100 K abI ([.v (yv l),iA 0,iA 1,iA 2]++eH 48 (.v aZ)) (jX r) (eV (cj [0,1,2,3] [] []) 3)=.out .normal (tS l) (jX r):=by kernel_rfl
def Q8(l:O)(x:Z):E AV:=ar 0 52 [(0,.v (yv l)),(1,iA 0),(2,iA 1),(3,iA 2),(7,.v (ι x))]
def atD(a:ρ->ρ->Z)(l:O)(r:ρ):a0 θ (zz a) 100 K sR5 (tS l) (jX r) (eV (cj [0,1,2,3,7] [] []) 3)=Ξ [ω r.size 4294967281] (.out .normal (Q8 l (a r dt)) (jX r)):=by kernel_rfl
def atG(a:ρ->ρ->Z)(l:O)(r:ρ)(x:Z):a0 θ (zz a) 100 K Qy (Q8 l x) (jX r) (eV (cj [0,1,2,3,7,33] [] []) 3)=.out .normal (EV l x (κ (x<0))) (jX r):=by kernel_rfl
def axx(d:ρ->ρ->Z)(l:O)(r:ρ)(x:Z)(b:ξ):let a:=AV.dead;let c:=(x+(0:Z));a0 θ (zz d) 100 K Qz (EV l x b) (jX r) (eV (cj [0,1,2,3,7,8] [] []) 3)
 =Ξ [κ ((0:Z)<=aa .i64 c),κ (aa .i64 c<=(↑(ay r):Z))] (am.out .normal [AV.v (yv l),AV.ptr 0 1 0 0,AV.ptr 1 1 0 0,AV.ptr 2 1 0 0,a,a,a,vI x,AV.v (.string (qp r 0 (aT (aa .i64 c)))),a,a,a,a,a,a,a,a,a,a,a,a,a,a,a,a,a,a,a,a,a,a,a,a,a,a,a,a,a,a,a,a,a,a,a,a,a,a,a,a,a,a,a] [AB.cells [AV.v (.string dt)] 9,AB.cells [AV.v (.string r)] 9,AB.cells [vI 0] 3]):=by intros;kernel_rfl
def axy(f:ρ->ρ->Z)(l:O)(r y:ρ)(x:Z)(b c:ξ):let a:=AV.dead;let d:=(↑(ay r):Z);let e:=(x+(1:Z));a0 θ (zz f) 100 K QA (((((EW l x y).set 39 (.v (yv l))).set 40 (.v (.string y))).set 41 (.v (.bool b))).set 42 (.v (.bool c))) (jX r) (eV (cj [0,1,2,3] [] []) 3)
 =Ξ [κ ((0:Z)<=aa .i64 e),κ (aa .i64 e<=d),κ (d<=d)] (am.out .normal [AV.v (yv l),AV.ptr 0 1 0 0,AV.ptr 1 1 0 0,AV.ptr 2 1 0 0,a,a,a,a,a,a,a,a,a,a,a,a,a,a,a,a,a,a,a,a,a,a,a,a,a,a,a,a,a,a,a,a,a,a,a,a,a,a,a,a,a,a,a,a,a,a,a,a] [AB.cells [AV.v (.string dt)] 9,AB.cells [AV.v (.string (qp r (aT (aa .i64 e)) (aT d)))] 9,AB.cells [vI 0] 3]):=by intros;kernel_rfl
structure mb (M B:O->Prop) (nu:Nu) (X:ψ) (T:E AV) (H:E AB) (A:a8):Prop where
 sr:SR (λk=>X.heap.size<=k\/B k) X nu T H A X nu
 eL:a4 M X
 y9:A.defers=[]
structure BT (M B:O->Prop) (nu:Nu) (m:O):Prop where
 own:∀k,B k->M k
 bB:∀i b,nu i=γ b->B b.n
 has:∀i,i<m->∃b,nu i=γ b
 all:∀k,B k->∃i b,i<m/\nu i=γ b/\b.n=k
def L9(H:E AB):ξ:=H.all uD
def mb.next{M B:O->Prop}(o:BT M B R i){A:a8}(h:mb M B R X G S A){T':E AV}{H':E AB}{A':a8}{n:ψ}{d:Nu}(Q:H'.length=i)(C:L9 H'=ε)(c:SR (λk=>X.heap.size<=k\/B k) X R T' H' A' n d)(D:A'.defers=[]):mb M B R n T' H' A'/\vM B X n:=by
 have I:d=R:=funext λa=>by
  cases e:d a with
  |none=>
   cases L:R a with
   |none=>rfl
   |some b=>rw[c.le _ _ L]at e;cases e
  |some b=>have:=c.cg a b e;obtain⟨N,p⟩:=o.has a (by omega);rw[c.le _ _ p]at e;cases e;exact p.symm
 subst I;have q:Fr B X n:=c.fr.mono λk r g=>by
  rcases g with s|s
  ·omega
  ·exact s
 have f:a4 M n:=h.eL.block λk r x=>q.block k r λu=>x (o.own k u)
 refine⟨⟨⟨c.tmps,⟨c.heap.br,c.heap.sep,λa b _ u=>.inr (o.bB a b u),c.heap.lt,f.mono λk r g=>?_⟩,Fr.refl _ _,c.cg,c.len,Le.refl _⟩,f,D⟩,q,λk r _=>?_⟩
 ·rcases g with s|s
  ·omega
  ·exact o.own k s
 ·obtain⟨a,b,U,u,rfl⟩:=o.all k r
  have v:BR d a (H'.getD a .gone) n:=c.heap.br a;have w:a<H'.length:=by omega
  have j:uD (H'.getD a .gone)=ε:=by rw[cX,df w];exact bT.1 C _ (ki w)
  generalize H'.getD a .gone=y at v j;cases y with
  |cells W t=>obtain⟨N,l,z,_,P,_⟩:=v;rw[u]at z;cases z;exact⟨l,t,(0,0),P⟩
  |row=>cases j
  |gone=>cases j
def Ee{Γ:aG}(g:aK θ Γ){M B:O->Prop}{m:O}(q:BT M B R m){c:bc}{T T':E AV}{H H':E AB}{lv:Ex->E O}{A:a8}(r:dZ c=ε)(s:(a0 θ Γ 100 K c T H (eV lv m)).ok λe o p=>e=.normal/\o=T'/\p=H')(t:H.length=m)(h:H'.length=m)(j:L9 H'=ε)(f:mb M B R X T H A)(u:∀A' d,mb M B R d T' H' A'->vM B X d->C .normal A' d):c.wpIn (cx ζ) i θ C A X:=by
 refine mM (oQ (nn:=i) g mixed enters ζ [] 100 c r (λk=>X.heap.size<=k\/B k) X R (λk v=>.inl v) _ _ _ _ _ X R s f.sr f.y9) ?_;intro e A' d w;obtain⟨G,o,p,x,rfl,⟨rfl,rfl,rfl⟩,l,n⟩:=OP w λa b y=>t▸f.sr.cg a b y
 obtain⟨z,D⟩:=f.next q h j l n;exact u A' d z D
def D_{Γ:aG}(d:aK θ Γ){M B:O->Prop}{m:O}(p:BT M B R m){all:aX a_}{k:O}{o:a_}(f:all[k]?=γ o)(q:o.guard=ζ)(r:∀c,o.op≠ .defer c){T T':E AV}{A:a8}{v:AV}{ob:E ξ}(g:fx θ Γ o T S S.length=γ {val:=v,aw:=ob,rd:=(fx θ Γ o T S S.length).elim [] Delta.rd})(s:aJ ob=ε)(t:lH T o.dst=ε)(u:my T o.dst v=T')(w:S.length=m)(h:L9 S=ε)(j:mb M B R X T S A){a:a8->ψ->Prop}(x:∀A' l,mb M B R l T' S A'->vM B X l->a A' l):vJ (cx ζ) i θ all C k a A X:=by
 refine anL d f q r (λk f=>.inl f) g s (by rw[t];rfl) j.sr λy z D b n=>?_
 have e:i3 S {val:=v,aw:=ob,rd:=(fx θ Γ o T S S.length).elim [] Delta.rd}=S:=by simp[i3,ry]
 rw[e]at b;obtain⟨G,I⟩:=j.next p w h b (n.trans j.y9);subst u;exact x y z G I
def mb.back{M B:O->Prop}(f:BT M B R i){X c:ψ}{A:a8}(h:mb M B R X G S A)(g:X.heap.size<=c.heap.size)(p:∀k,B k->c.heap[k]?=X.heap[k]?)(l:a4 M c){dst:χ Tmp}{x:τ}(q:lH G dst=ε):mb M B R c (my G dst (.v x)) S (A.put dst x):=by
 have e:RH (λk=>c.heap.size<=k\/B k) R (λb=>S.getD b .gone) c:=⟨λa=>(h.sr.heap.br a).of_block λk n _=>p k.n (f.bB a k n),h.sr.heap.sep,λa b _ d=>.inr (f.bB a b d),λa b d=>eN (h.sr.heap.lt a b d) g,l.mono λk n j=>by
  rcases j with o|o
  ·omega
  ·exact f.own k o⟩
 have r:SR (λk=>c.heap.size<=k\/B k) c R G S A c R:=⟨h.sr.tmps,e,Fr.refl _ _,h.sr.cg,h.sr.len,Le.refl _⟩;exact⟨SR.put r q (Le.refl _) (by simp only[VR]) e (Fr.refl _ _) h.sr.cg,l,(kG ..).trans h.y9⟩
def mb.at{M B:O->Prop}{A:a8}(h:mb M B R X G S A){z:cP}{x:τ}(b:bP G z=.v x):A.eval z=x:=by
 have:=lK (T:=G) (a:=A) (ν:=R) (z:=z) λt _=>h.sr.tmps t
 rw[b]at this;simpa only[VR]using this
noncomputable def mw(k:O):a_:=uZ.toList.getD k default
noncomputable def rB(k:O):a_:=xp.toList.getD k default
def atQ:uZ[0]?=γ (mw 0):=by kernel_rfl
def atU:uZ[1]?=γ (mw 1):=by kernel_rfl
def atX:uZ[2]?=γ (mw 2):=by kernel_rfl
def abq:uZ[3]?=γ (mw 3):=by kernel_rfl
def atN:xp[0]?=γ (rB 0):=by kernel_rfl
def atO:xp[1]?=γ (rB 1):=by kernel_rfl
def atP:xp[2]?=γ (rB 2):=by kernel_rfl
def Yg:(mw 0).op=.move (.tmp 0)/\(mw 0).guard=ζ:=⟨by kernel_rfl,by kernel_rfl⟩
def Yh:(mw 1).op=.move (.tmp 8)/\(mw 1).guard=ζ:=⟨by kernel_rfl,by kernel_rfl⟩
def Ik:(mw 2).op=.call ⟨.value (.tmp 39),#[.tmp 40],#[9]⟩/\(mw 2).guard=ζ/\(mw 2).dst=γ 41:=⟨by kernel_rfl,by kernel_rfl,by kernel_rfl⟩
def Il:(mw 3).op=.unOp .not 4 (.tmp 41)/\(mw 3).guard=ζ:=⟨by kernel_rfl,by kernel_rfl⟩
def Yd:(rB 0).op=.move (.tmp 0)/\(rB 0).guard=ζ:=⟨by kernel_rfl,by kernel_rfl⟩
def Ye:(rB 1).op=.load 9 (.tmp 2)/\(rB 1).guard=ζ:=⟨by kernel_rfl,by kernel_rfl⟩
def Yf:(rB 2).op=.call ⟨.value (.tmp 49),#[.tmp 50],#[9]⟩/\(rB 2).guard=ζ/\(rB 2).dst=γ 51:=⟨by kernel_rfl,by kernel_rfl,by kernel_rfl⟩
def at5:dK uZ.size=[0,1,2,3]:=by kernel_rfl
def at4:dK xp.size=[0,1,2]:=by kernel_rfl
def Pd(b:O)(X:ψ):O:=match(X.heap[b]?:χ Obj)with
 |some (Obj.cells a _ _)=>(match(a[0]?:χ τ)with
  |some (b9 r)=>r.size
  |_=>0)
 |_=>0
def IE{Q:Ex->E AV->E AB->Prop}{bs:E ξ}{r:am}(h:aJ bs=ε)(k:r.ok Q):(Ξ bs r).ok Q:=(aq h ⟨k⟩).out
def w9(a b c:O):Nu:=λi=>match i with
 |0=>γ ⟨a,0,1⟩
 |1=>γ ⟨b,0,1⟩
 |2=>γ ⟨c,0,1⟩
 |_=>ζ
def qS:aK θ (zz m3):=az ba apP
abbrev Pc(n:O):={x:ρ//x.size<=n}
def auk{nn:O}{w:ψ}{M B:O->Prop}(htab:a4 M w)(_:∀k,w.heap.size<=k->M k){q m t:O}(s:ρ)(hs:s.size<4294967281)(h1:w.heap[q]?=γ (.cells #[.string dt] 9 (0,0)))(h2:w.heap[m]?=γ (.cells #[.string s] 9 (0,0)))(h3:w.heap[t]?=γ (.cells #[ι 0] 3 (0,0)))(n12:q≠m)(n13:q≠t)(n23:m≠t)(hB:∀k,B k↔k=q\/k=m\/k=t)(hBM:∀k,B k->M k):LK (cx ζ) nn θ 273 #[.pointer (γ ⟨q,0,ζ⟩),.pointer (γ ⟨m,0,ζ⟩),.pointer (γ ⟨t,0,ζ⟩)] (λx:Pc s.size=> #[.string x.1]) B M (λxs=>xs.map (·.1)=dD s dt) (λc=>∃n,dD s dt=c.map (·.1)++n) (dD s dt).length w:=by
 intro l a Jx W hW G _ hY hJ0;have C:BT M B (w9 q m t) 3:=by
  refine⟨hBM,λi b d=>?_,λi f=>?_,λk hk=>?_⟩
  ·match i,d with
   |0,d=>cases d;exact(hB _).2 (.inl rfl)
   |1,d=>cases d;exact(hB _).2 (.inr (.inl rfl))
   |2,d=>cases d;exact(hB _).2 (.inr (.inr rfl))
  ·match i,f with
   |0,_=>exact⟨_,rfl⟩
   |1,_=>exact⟨_,rfl⟩
   |2,_=>exact⟨_,rfl⟩
  ·rcases(hB k).1 hk with rfl|rfl|rfl
   ·exact⟨0,_,by omega,rfl,rfl⟩
   ·exact⟨1,_,by omega,rfl,rfl⟩
   ·exact⟨2,_,by omega,rfl,rfl⟩
 have Q:∀{b:O}{o:Obj},w.heap[b]?=γ o->b<w.heap.size:=λh=>(cC.1 h).1
 have g1:=(hW.block q (Q h1)).trans h1;have g2:=(hW.block m (Q h2)).trans h2;have g3:=(hW.block t (Q h3)).trans h3;have R:∀{b:O}{o:Obj},W.heap[b]?=γ o->b<W.heap.size:=λh=>(cC.1 h).1
 have htW:a4 M W:=htab.block λk hk _=>hW.block k hk
 have hRH:RH (λk=>W.heap.size<=k\/B k) (w9 q m t) (λb=>(jX s).getD b .gone) W:=by
  refine⟨λi=>?_,λi j b b' I _ _ f p=>?_,λi b _ d=>.inr (C.bB i b d),λi b d=>?_,htW.mono λk hk hk'=>?_⟩
  ·match i with
   |0=>exact⟨_,[.string dt],rfl,rfl,g1,by simp only[aB,VR,aj]⟩
   |1=>exact⟨_,[.string s],rfl,rfl,g2,by simp only[aB,VR,aj]⟩
   |2=>exact⟨_,[ι 0],rfl,rfl,g3,by simp only[aB,VR,aj]⟩
   |i+3=>trivial
  ·match i,j,f,p with
   |0,0,_,_=>exact aR rfl I
   |1,1,_,_=>exact aR rfl I
   |2,2,_,_=>exact aR rfl I
   |0,1,f,p=>cases f;cases p;exact n12
   |0,2,f,p=>cases f;cases p;exact n13
   |1,0,f,p=>cases f;cases p;exact n12.symm
   |1,2,f,p=>cases f;cases p;exact n23
   |2,0,f,p=>cases f;cases p;exact n13.symm
   |2,1,f,p=>cases f;cases p;exact n23.symm
  ·match i,d with
   |0,d=>cases d;exact R g1
   |1,d=>cases d;exact R g2
   |2,d=>cases d;exact R g3
  ·rcases hk' with h'|h'
   ·omega
   ·exact hBM k h'
 refine callsIn_of_wp func273 afH trivial ?_;have hvr:aB (w9 q m t) [.v (yv l),iA 0,iA 1,iA 2] [yv l,.pointer (γ ⟨q,0,ζ⟩),.pointer (γ ⟨m,0,ζ⟩),.pointer (γ ⟨t,0,ζ⟩)]:=by simp only[aB,VR,aj,bv];exact⟨⟨_,rfl,rfl⟩,⟨_,rfl,rfl⟩,⟨_,rfl,rfl⟩⟩
 have hdom:∀i b,w9 q m t i=γ b->i<(jX s).length:=λi b d=>by
  match i,d with
  |0,_=>exact Nat.zero_lt_succ _
  |1,_=>exact(by decide:1<3)
  |2,_=>exact(by decide:2<3)
 have S:=rF (M:=λk=>W.heap.size<=k\/B k) (w:=W) (H:=jX s) (fn:=zl) hvr hRH hdom;rw[show zl.ntmps-[AV.v (yv l),iA 0,iA 1,iA 2].length=48 from by kernel_rfl]at S;have hSt:mb M B (w9 q m t) W ([AV.v (yv l),iA 0,iA 1,iA 2]++eH 48 (.v aZ)) (jX s) _:=⟨S,htW,rfl⟩;have U:∀(e:e9)(A:a8)(X:ψ),(e=.normal\/e=.ret)->A.defers=[]->((∃xs,xs.map (·.1)=dD s dt/\a xs X)\/∃c,(∃n,dD s dt=c.map (·.1)++n)/\Jx c X)->bodyPost θ zl (λe W'=>(∃v,e=.returned v)/\((∃xs:E (Pc s.size),xs.map (·.1)=dD s dt/\a xs W')\/(∃c:E (Pc s.size),(∃n,dD s dt=c.map (·.1)++n)/\Jx c W'))) e A X:=by
  intro e A X he hd hx;have:(∃v,Ending.returned (.tuple #[])=.returned v)/\((∃xs:E (Pc s.size),xs.map (·.1)=dD s dt/\a xs X)\/(∃c:E (Pc s.size),(∃n,dD s dt=c.map (·.1)++n)/\Jx c X)):=⟨⟨_,rfl⟩,hx⟩;rcases he with rfl|rfl
  ·exact⟨hd,_,results_none rfl _ _ _,this⟩
  ·exact⟨hd,_,results_none rfl _ _ _,this⟩
 have hmu:∀{X:ψ}{T:E AV}{r:ρ}{A:a8},mb M B (w9 q m t) X T (jX r) A->Pd m X=r.size:=λ{X T r A} h=>by
  obtain⟨b,l',e1,_,e3,e4⟩:=h.sr.heap.br 1;cases e1
  match l',e4 with
  |[y],e4=>simp only[aB,VR,aj]at e4;subst e4;simp[Pd,e3]
 refine jQ (Ee qS C (lv:=cj [0,1,2,3] [] []) (T':=tS l) (H':=jX s) (by kernel_rfl) (by rw[atC];exact⟨rfl,rfl,rfl⟩) rfl rfl rfl hSt λA X hS hg=>?_);show(xT _ _).wpIn (cx ζ) nn θ _ A X
 refine jQ (BG (wpIn_loop (λA X=>∃(c:E (Pc s.size))(r:ρ),mb M B (w9 q m t) X (tS l) (jX r) A/\a c X/\dD s dt=c.map (·.1)++dD r dt/\r.size<=s.size) (λ_ X=>Pd m X) ⟨[],s,hS,G _ _ _ hJ0 hg,rfl,aQ _⟩ ?_));clear hS hg hSt S hvr;rintro A X ⟨c,r,hS,p,hsp,hrs⟩;have hmu0:=hmu hS;have I:(dD r dt).length≠0:=by rw[va r dt (by decide)];omega
 have P:c.length<(dD s dt).length:=by rw[hsp,bN,dv];omega
 refine BG ?_;rw[anE];refine jQ (Ee qS C (lv:=cj [0,1,2,3,7] [] []) (T':=Q8 l (m3 r dt)) (H':=jX r) (by kernel_rfl) (by rw[atD];exact IE (by simp only[Ω,ax,aj,bM];omega) ⟨rfl,rfl,rfl⟩) rfl rfl rfl hS λA1 X1 hS1 hg1=>?_);have hj1:=G _ _ _ p hg1;show(xT (.seq Qy _) _).wpIn (cx ζ) nn θ _ A1 X1
 refine jQ (jQ (Ee qS C (lv:=cj [0,1,2,3,7,33] [] []) (T':=EV l (m3 r dt) (κ (m3 r dt<0))) (H':=jX r) (by kernel_rfl) (by rw[atG];exact⟨rfl,rfl,rfl⟩) rfl rfl rfl hS1 λA2 X2 N hg2=>?_));have hj2:=G _ _ _ hj1 hg2;show(Fa (.tmp 33) (.exit 2) .skip).wpIn (cx ζ) nn θ _ A2 X2
 have hc:=N.at (z:=.tmp 33) (x:=.bool (κ (m3 r dt<0))) rfl;refine wpIn_cond hc ?_;rcases amc r dt with hm|⟨i,f,hroom⟩
 ·rw[aU (by rw[hm];decide)]
  refine TK ?_;have g:dD s dt=(c++[(⟨r,hrs⟩:Pc s.size)]).map (·.1):=by rw[hsp,aub hm,kP];rfl
  show Code.wpIn (cx ζ) nn θ (.region 10 xp η) _ A2 X2
  refine wpIn_region ?_;rw[at4,vK];refine D_ qS C (v:=.v (yv l)) (ob:=[]) (T':=(EV l (m3 r dt) (κ (m3 r dt<0))).set 49 (.v (yv l))) atN Yd.2 (by rw[Yd.1];simp) (by kernel_rfl) rfl (by kernel_rfl) (by kernel_rfl) rfl rfl N λA3 X3 hS3 hg3=>?_
  have hj3:=G _ _ _ hj2 hg3;rw[vK];refine D_ qS C (v:=.v (.string r)) (ob:=[]) (T':=((EV l (m3 r dt) (κ (m3 r dt<0))).set 49 (.v (yv l))).set 50 (.v (.string r))) atO Ye.2 (by rw[Ye.1];simp) (by kernel_rfl) rfl (by kernel_rfl) (by kernel_rfl) rfl rfl hS3 λA4 X4 u hg4=>?_
  have hj4:=G _ _ _ hj3 hg4;rw[vK];refine RD atP Yf.1 Yf.2.1 (l:=l) (v:=.string r) (u.at (z:=.tmp 49) rfl) (u.at (z:=.tmp 50) rfl) (hY c ⟨r,hrs⟩ X4 hj4 P) ?_;rintro e X5 (⟨rfl,hj5,_⟩|⟨rfl,hjx⟩)
  ·exact⟨_,rfl,U .normal _ _ (.inl rfl) ((kG ..).trans u.y9) (.inl ⟨_,g.symm,hj5⟩)⟩
  ·exact⟨_,rfl,U .normal _ _ (.inl rfl) ((kG ..).trans u.y9) (.inr ⟨_,⟨[],by rw[vp];exact g⟩,hjx⟩)⟩
 ·have hsz1:dt.size=1:=rfl
  have hx:(r.extract 0 i).size<=s.size:=by rw[tA];omega
  have g:dD s dt=(c++[(⟨r.extract 0 i,hx⟩:Pc s.size)]).map (·.1)++dD (r.extract (i+1) r.size) dt:=by rw[hsp,aua (by decide) f,kP,jN];rfl
  rw[bI (by rw[f];simp)];refine KD ?_;show(xT Qz _).wpIn (cx ζ) nn θ _ A2 X2
  rw[f]at N;have ei:aa aY ((i:Z)+0)=i:=by rw[ik];exact bz
  have ei1:aa aY ((i:Z)+1)=((i+1:O):Z):=by rw[bz];omega
  refine jQ (Ee qS C (lv:=cj [0,1,2,3,7,8] [] []) (T':=EW l i (r.extract 0 i)) (H':=jX r) (by kernel_rfl) ?_ rfl rfl rfl N λA3 X3 hS3 hg3=>?_)
  ·rw[axx,ei]
   exact IE (by simp only[Ω,ax,aj,aL];omega) ⟨rfl,rfl,rfl⟩
  have hj3:=G _ _ _ hj2 hg3;show(xT (.seq (.region 8 uZ η) _) _).wpIn (cx ζ) nn θ _ A3 X3
  refine jQ (jQ (wpIn_region ?_));rw[at5,vK];refine D_ qS C (v:=.v (yv l)) (ob:=[]) (T':=(EW l i (r.extract 0 i)).set 39 (.v (yv l))) atQ Yg.2 (by rw[Yg.1];simp) (by kernel_rfl) rfl (by kernel_rfl) (by kernel_rfl) rfl rfl hS3 λA4 X4 u hg4=>?_
  have hj4:=G _ _ _ hj3 hg4;rw[vK];refine D_ qS C (v:=.v (.string (r.extract 0 i))) (ob:=[]) (T':=((EW l i (r.extract 0 i)).set 39 (.v (yv l))).set 40 (.v (.string (r.extract 0 i)))) atU Yh.2 (by rw[Yh.1];simp) (by kernel_rfl) rfl (by kernel_rfl) (by kernel_rfl) rfl rfl u λA5 X5 D hg5=>?_
  have hj5:=G _ _ _ hj4 hg5;rw[vK];refine RD atX Ik.1 Ik.2.1 (l:=l) (v:=.string (r.extract 0 i)) (D.at (z:=.tmp 39) rfl) (D.at (z:=.tmp 40) rfl) (hY c ⟨r.extract 0 i,hx⟩ X5 hj5 P) ?_;rintro e X6 (⟨rfl,hj6,hsz6,hb6,ht6⟩|⟨rfl,hjx⟩)
  ·refine⟨_,rfl,?_⟩
   have hS6:=D.back C hsz6 hb6 ht6 (dst:=γ 41) (x:=.bool ε) rfl;rw[Ik.2.2,vK];refine D_ qS C (v:=.v (.bool η)) (ob:=[]) (T':=((((EW l i (r.extract 0 i)).set 39 (.v (yv l))).set 40 (.v (.string (r.extract 0 i)))).set 41 (.v (.bool ε))).set 42 (.v (.bool η))) abq Il.2 (by rw[Il.1];simp) (by kernel_rfl) rfl (by kernel_rfl) (by kernel_rfl) rfl rfl hS6 λA7 X7 hS7 hg7=>?_
   have hj7:=G _ _ _ hj6 hg7;show(Fa (.tmp 42) .ret .skip).wpIn (cx ζ) nn θ _ A7 X7
   refine wpIn_cond_false (hS7.at (z:=.tmp 42) rfl) (KD ?_);show QA.wpIn (cx ζ) nn θ _ A7 X7
   refine Ee qS C (lv:=cj [0,1,2,3] [] []) (T':=tS l) (H':=jX (r.extract (i+1) r.size)) (by kernel_rfl) ?_ rfl rfl rfl hS7 λA8 X8 hS8 hg8=>?_
   ·rw[axy,ei1]
    exact IE (by simp only[Ω,ax,aj,aL];omega) ⟨rfl,rfl,rfl⟩
   ·have hsz:(r.extract (i+1) r.size).size=r.size-(i+1):=by rw[tA];omega
    refine⟨⟨_,_,hS8,G _ _ _ hj7 hg8,g,by omega⟩,?_⟩;rw[hmu hS8,hmu0,hsz];omega
  ·refine⟨_,rfl,?_⟩
   rw[Ik.2.2,vK];have hlen5:52<=A5.tmps.size:=D.sr.len;have es:(A5.put (γ 41) (.bool η)).eval (.tmp 41)=.bool η:=by
    show(A5.put (γ 41) (.bool η)).tmps.getD 41 aZ=.bool η
    simp[jx,rN,show 41<A5.tmps.size from by omega]
   refine Pn abq Il.1 Il.2 es ?_;show(Fa (.tmp 42) .ret .skip).wpIn (cx ζ) nn θ _ _ X6
   have es2:((A5.put (γ 41) (.bool η)).put (mw 3).dst (.bool ε)).eval (.tmp 42)=.bool ε:=by
    rw[show(mw 3).dst=γ 42 from by kernel_rfl];show((A5.put (γ 41) (.bool η)).put (γ 42) (.bool ε)).tmps.getD 42 aZ=.bool ε
    simp[jx,rN,show 42<A5.tmps.size from by omega]
   refine aeH es2 (wpIn_ret (U .ret _ X6 (.inr rfl) ((kG ..).trans ((kG ..).trans D.y9)) (.inr ⟨_,⟨_,g⟩,hjx⟩)))
def Xe(a b:ρ->ρ->ρ)(q:ρ->ρ->ξ)(g:ρ->ρ->O->ρ)(n:ρ->ρ->O)(v:ρ->Z)(e:ρ->ξ):aG:=ext (ext (ext g0 46 (aW (G0 a b q))) 15 (ai [.val,.val] (Ly 8 g n))) 252 (ai [.val] (KV v e))
def Xd(a b:ρ->ρ->ρ)(q:ρ->ρ->ξ)(g:ρ->ρ->O->ρ)(n:ρ->ρ->O):aG:=ext (ext (ext g0 46 (aW (G0 a b q))) 15 (ai [.val,.val] (Lw g n))) 252 (ai [.val] KU)
def axY(a b:ρ->ρ->ρ)(q:ρ->ρ->ξ)(g:ρ->ρ->O->ρ)(n:ρ->ρ->O)(v:ρ->Z)(e:ρ->ξ)(s:ρ):let y:=(ah (ap [(58:υ)]));let f:=(ah (ap [(44:υ)]));let d:=(b s y);let h:=vB η;let i:=vI (v (a s y));let c:=(g d f 5);let j:=(g d f 6);let l:=(g d f 3);let m:=(g d f 7);let o:=(g d f 2);let p:=(g d f 0);let r:=(g d f 1);let t:=(g d f 4);let k:=vI (v p);let u:=vI (v r);let w:=vI (v o);let x:=vI (v l);let z:=vI (v t);ad θ (Xe a b q g n v e) K 300 SZ [.v (.string s)] [] dR
 =Ξ [ω (ay s) 4294967281,ω (ay d) 4294967281,Ψ (n d f) 8,Δ (ay (a s y)) 281474976710656] (bif e (a s y)then rO [AV.af [AV.agg [vI 0,vI 0,vI 0,vI 0,vI 0,vI 0,vI 0,vI 0,vI 0],h]] []else Ξ [Δ (ay p) 281474976710656] (bif e p then rO [AV.af [AV.agg [i,vI 0,vI 0,vI 0,vI 0,vI 0,vI 0,vI 0,vI 0],h]] []else Ξ [Δ (ay r) 281474976710656] (bif e r then rO [AV.af [AV.agg [i,k,vI 0,vI 0,vI 0,vI 0,vI 0,vI 0,vI 0],h]] []else Ξ [Δ (ay o) 281474976710656] (bif e o then rO [AV.af [AV.agg [i,k,u,vI 0,vI 0,vI 0,vI 0,vI 0,vI 0],h]] []else Ξ [Δ (ay l) 281474976710656] (bif e l then rO [AV.af [AV.agg [i,k,u,w,vI 0,vI 0,vI 0,vI 0,vI 0],h]] []else Ξ [Δ (ay t) 281474976710656] (bif e t then rO [AV.af [AV.agg [i,k,u,w,x,vI 0,vI 0,vI 0,vI 0],h]] []else Ξ [Δ (ay c) 281474976710656] (bif e c then rO [AV.af [AV.agg [i,k,u,w,x,z,vI 0,vI 0,vI 0],h]] []else Ξ [Δ (ay j) 281474976710656] (bif e j then rO [AV.af [AV.agg [i,k,u,w,x,z,vI (v c),vI 0,vI 0],h]] []else Ξ [Δ (ay m) 281474976710656] (bif e m then rO [AV.af [AV.agg [i,k,u,w,x,z,vI (v c),vI (v j),vI 0],h]] []else rO [AV.af [AV.agg [i,k,u,w,x,z,vI (v c),vI (v j),vI (v m)],vB ε]] []))))))))):=by intros;kernel_rfl
def axX(a b:ρ->ρ->ρ)(q:ρ->ρ->ξ)(g:ρ->ρ->O->ρ)(n:ρ->ρ->O)(s:ρ):let c:=(b s (ah (ap [(58:υ)])));ad θ (Xd a b q g n) K 300 SZ [.v (.string s)] [] dR
 =Ξ [ω (ay s) 4294967281,ω (ay c) 4294967281,(↑(n c (ah (ap [(44:υ)]))):Z)!= (8:Z)] (rO [AV.af [AV.agg [vI 0,vI 0,vI 0,vI 0,vI 0,vI 0,vI 0,vI 0,vI 0],vB η]] []):=by intros;kernel_rfl
def JH(sp:ρ)(g:O->ρ):Wh×ξ:=
 bif kq sp then(⟨0,⟨0,0,0,0,0,0,0,0⟩⟩,η)else
 bif kq (g 0)then(⟨c9 sp,⟨0,0,0,0,0,0,0,0⟩⟩,η)else
 bif kq (g 1)then(⟨c9 sp,⟨c9 (g 0),0,0,0,0,0,0,0⟩⟩,η)else
 bif kq (g 2)then(⟨c9 sp,⟨c9 (g 0),c9 (g 1),0,0,0,0,0,0⟩⟩,η)else
 bif kq (g 3)then(⟨c9 sp,⟨c9 (g 0),c9 (g 1),c9 (g 2),0,0,0,0,0⟩⟩,η)else
 bif kq (g 4)then(⟨c9 sp,⟨c9 (g 0),c9 (g 1),c9 (g 2),c9 (g 3),0,0,0,0⟩⟩,η)else
 bif kq (g 5)then(⟨c9 sp,⟨c9 (g 0),c9 (g 1),c9 (g 2),c9 (g 3),c9 (g 4),0,0,0⟩⟩,η)else
 bif kq (g 6)then(⟨c9 sp,⟨c9 (g 0),c9 (g 1),c9 (g 2),c9 (g 3),c9 (g 4),c9 (g 5),0,0⟩⟩,η)else
 bif kq (g 7)then(⟨c9 sp,⟨c9 (g 0),c9 (g 1),c9 (g 2),c9 (g 3),c9 (g 4),c9 (g 5),c9 (g 6),0⟩⟩,η)else
 (⟨c9 sp,⟨c9 (g 0),c9 (g 1),c9 (g 2),c9 (g 3),c9 (g 4),c9 (g 5),c9 (g 6),c9 (g 7)⟩⟩,ε)
def colon:ρ:=ah (ap [58])
def comma:ρ:=ah (ap [44])
def wo(s:ρ):Wh×ξ:=bif Ψ (vb (gE s colon) comma) 8 then JH (pR s colon) (js (gE s colon) comma)else(⟨0,⟨0,0,0,0,0,0,0,0⟩⟩,η)
def woV(w:Wh×ξ):τ:=.tuple #[.agg #[ι w.1.s,ι w.1.r.c0,ι w.1.r.c1,ι w.1.r.c2,ι w.1.r.c3,ι w.1.r.c4,ι w.1.r.c5,ι w.1.r.c6,ι w.1.r.c7],.bool w.2]
def MP(f:ρ->Wh×ξ):E τ->χ (τ×E ξ)
 |[.string s]=>γ (woV (f s),[ω s.size 4294967281])
 |_=>ζ
def alp:aK θ (Xe pR gE GC js vb c9 kq):=az (az (az ba Pz) (aqw 8)) aoR
def alo:aK θ (Xd pR gE GC js vb):=az (az (az ba Pz) aqv) aoS
def aqT(s:ρ)(hs:s.size<4294967281):(∃Γ,aK θ Γ/\aE (ad θ Γ K 300 SZ [.v (.string s)] [] dR) (oI (woV (wo s)))):=by
 have i:=ahx s colon;have b:=ahy s colon;have d:=auc (gE s colon) comma;cases a:Ψ (vb (gE s colon) comma) 8 with
 |false=>
  refine⟨_,alo,?_⟩;rw[axX];have e:wo s=(⟨0,⟨0,0,0,0,0,0,0,0⟩⟩,η):=by rw[wo,a];rfl
  rw[e];have u:vb (gE s colon) comma≠8:=λh=>by rw[h]at a;cases a
  rw[show(ah (ap [(58:υ)]))=colon from rfl,show(ah (ap [(44:υ)]))=comma from rfl];refine aq ?_ (F ⟨_,rfl,rfl⟩);simp only[Ω,ax,aj,bM,bne_iff_ne];exact⟨hs,Nat.lt_of_le_of_lt b hs,by omega⟩
 |true=>
  refine⟨_,alp,?_⟩;rw[axY,show(ah (ap [(58:υ)]))=colon from rfl,show(ah (ap [(44:υ)]))=comma from rfl];have e:wo s=JH (pR s colon) (js (gE s colon) comma):=by rw[wo,a];rfl
  rw[e];have f:∀j,Δ (js (gE s colon) comma j).size 281474976710656=ε:=λj=>by have:=d j;rw[bl];omega
  have kn:∀{Q:Ex->E AV->E AB->Prop}(j:O){r:am},aE r Q->aE (Ξ [Δ (js (gE s colon) comma j).size 281474976710656] r) Q:=by intro Q j r h;exact aq (by simp only[Ω,ax,aj];exact f j) h
  refine aq (by simp only[Ω,ax,aj,bM,bl];exact⟨hs,Nat.lt_of_le_of_lt b hs,a,by omega⟩) ?_;generalize pR s colon=v;clear i b d f e;generalize js (gE s colon) comma=g at kn⊢;unfold JH;refine aD (λc=>?_) λc=>kn 0 (aD (λk=>?_) λk=>kn 1 (aD (λl=>?_) λl=>kn 2 (aD (λm=>?_) λm=>kn 3 (aD (λn=>?_) λn=>kn 4 (aD (λo=>?_) λo=>kn 5 (aD (λp=>?_) λp=>kn 6 (aD (λq=>?_) λq=>kn 7 (aD (λt=>?_) λt=>?_))))))))
  all_goals simp only[*,a6,be]
  all_goals exact F ⟨_,rfl,rfl⟩
def aqS:ak θ 190 (aW (MP wo)):=by
 refine n4 (λargs w=>enters 190 SZ func190 rfl args w) λe x f a c w d=>?_
 unfold MP at a;split at a
 ·rename_i s
  simp only[aC,cI]at a;obtain⟨rfl,rfl⟩:=a;simp only[Ω,ax,aj,bM]at c;obtain⟨g,b,h⟩:=aqT s c;exact U0 b mixed enters func190 h.out w d
 ·cases a
noncomputable abbrev pU:cb:=f111
noncomputable def Am:bc:=pU.body.getD .skip
noncomputable def cdL:bc->bc| .cond _ a _=>a|c=>c
noncomputable def P3:E bc:=[gX Am,gX (db Am),gX (db (db Am))]
noncomputable def P1:bc:=gX (gX (db (db (db Am))))
noncomputable def P0:bc:=cdL (db (gX (db (db (db Am)))))
noncomputable def P2:bc:=gX P0
noncomputable def as8:bc->bc| .rangeFunc _ _ a _=>a|c=>c
noncomputable def as9:bc->bc| .rangeFunc _ _ _ b=>b|c=>c
noncomputable def Al:bc:=as8 (v6 (db P0))
noncomputable def An:bc:=as9 (v6 (db P0))
noncomputable def uV:bc:=db (db (db (db Am)))
def afG:pU.body=γ (k7 P3 (.seq (.seq P1 (.cond (.tmp 15) (.seq P2 (.block 0 (.rangeFunc (.tmp 17) #[18] Al An))) .skip)) uV)):=by kernel_rfl
def BK(yI:E Wh->ξ)(tI:E Wh->E Wh):E SA->χ FR
 |[.row m g]=>γ {val:=li (tI (V (ο g) m)),new:=h_ (tI (V (ο g) m)),aw:=[aF m g,κ (m<=2^38),yI (V (ο g) m)]}
 |_=>ζ
def KH(yI:E Wh->ξ):E SA->χ FR
 |[.row m g]=>γ {val:=eP,aw:=[aF m g,κ (m<=2^38),!yI (V (ο g) m)]}
 |_=>ζ
def gS(f:ρ->Wh×ξ)(S:Spec)(b:E Wh->ρ)(a:E Wh->ξ):aG:=ext (ext (ext g0 190 (aW (MP f))) 128 S) 129 (ai bF (vU b a))
def axq(f:ρ->Wh×ξ)(S:Spec)(c:E Wh->ρ)(b:E Wh->ξ)(s:ρ):let a:=AV.dead;fq θ (gS f S c b) 100 P3 ([.v (.string s)]++eH 43 (.v aZ)) [] (Ra θ (gS f S c b) 100 P1 (GA θ (gS f S c b) 100 15 P2 (eV (cj [0,2,3,4,17] [] []) 0)))
 =bif κ ((↑(ay s):Z)> (1500:Z))then am.err else Ξ [!cm s (ah (ap [(45:υ)]))] (am.out .normal [AV.v (.string s),a,AV.ptr 0 0 0 0,AV.ptr 1 0 0 0,AV.ptr 2 0 0 0,a,a,a,a,a,a,a,a,a,a,a,a,AV.fn 273 [AV.ptr 3 0 0 0,AV.ptr 4 0 0 0,AV.ptr 5 0 0 0],a,a,a,a,a,a,a,a,a,a,a,a,a,a,a,a,a,a,a,a,a,a,a,a,a,a] [AB.cells [AV.v (gj ζ 0 0)] 32,AB.cells [vB η] 4,AB.cells [AV.own 6 0] 32,AB.cells [AV.v (.string (ah (ap [(32:υ)])))] 9,AB.cells [AV.v (.string s)] 9,AB.cells [vI 0] 3,AB.row ε 0 9 (λ_=>[]) 123]):=by intros;kernel_rfl
def LL(s:ρ):E AV:=ar 0 44 [(0,.v (.string s)),(2,.ptr 0 0 0 0),(3,.ptr 1 0 0 0),(4,.ptr 2 0 0 0),(17,.fn 273 [.ptr 3 0 0 0,.ptr 4 0 0 0,.ptr 5 0 0 0])]
def nv(s:ρ):E AV:=ar 0 44 [(0,.v (.string s)),(2,.ptr 0 0 0 0),(3,.ptr 1 0 0 0),(4,.ptr 2 0 0 0)]
def Ga(s:ρ):E AB:=[.cells [.v (.slice ζ 0 0)] 32,.cells [.v (.bool η)] 4,.cells [.own 6 0] 32,.cells [.v (.string dt)] 9,.cells [.v (.string s)] 9,.cells [.v (ι 0)] 3,.row ε 0 9 (λ_=>[]) 123]
def zD:AB:=.row η 0 0 (λ_=>[]) 0
def C1:E AB:=[.cells [.v (.slice ζ 0 0)] 32,.cells [.v (.bool η)] 4,.cells [.own 6 0] 32,zD,zD,zD,.row ε 0 9 (λ_=>[]) 123]
def p5(k:O)(g:Θ):E AB:=[.cells [.v (.slice ζ 0 0)] 32,.cells [.v (.bool η)] 4,.cells [.own 7 k] 32,zD,zD,zD,.gone,.row ε k 9 (J g) 123]
def asQ(f:ρ->Wh×ξ)(S:Spec)(e:E Wh->ρ)(d:E Wh->ξ)(s x:ρ):let a:=AV.dead;let c:=AB.row η 0 0 (λ_=>[]) 0;let b:=(Wh.r (f x).1);let g:=AB.cells [AV.v (gj ζ 0 0)] 32;let h:=AB.cells [vB η] 4;let i:=[a,a,a,a,a,a,a,a,a,a,a,a,a,a,a,a,a,a,a,a,a,a,a,a,a,a,a,a,a,a,a,a,a,a,a,a,a,a,a,a,a,a,a,a];a0 θ (gS f S e d) 100 K Al (j3 [18] [.string x] (nv s)) C1 (mP θ (gS f S e d) 100 An 7)
 =Ξ [ω (ay x) 4294967281] (bif !(f x).2 then rO i [g,h,AB.cells [AV.own 6 0] 32,c,c,c,AB.row ε 0 9 (λ_=>[]) 123]else am.out .normal i [g,h,AB.cells [AV.own 7 1] 32,c,c,c,AB.gone,AB.row ε 1 9 (λ_=>[ι (Wh.s (f x).1),ι (Cy.c0 b),ι (Cy.c1 b),ι (Cy.c2 b),ι (Cy.c3 b),ι (Cy.c4 b),ι (Cy.c5 b),ι (Cy.c6 b),ι (Cy.c7 b)]) 123]):=by intros;kernel_rfl
def asR(f:ρ->Wh×ξ)(S:Spec)(e:E Wh->ρ)(d:E Wh->ξ)(s x:ρ)(k:O)(g:Θ):let a:=AV.dead;let c:=AB.row η 0 0 (λ_=>[]) 0;let b:=(Wh.r (f x).1);let h:=AB.cells [AV.v (gj ζ 0 0)] 32;let i:=AB.cells [vB η] 4;let j:=[a,a,a,a,a,a,a,a,a,a,a,a,a,a,a,a,a,a,a,a,a,a,a,a,a,a,a,a,a,a,a,a,a,a,a,a,a,a,a,a,a,a,a,a];a0 θ (gS f S e d) 100 K Al (j3 [18] [.string x] (nv s)) (p5 k g) (mP θ (gS f S e d) 100 An 7)
 =Ξ [ω (ay x) 4294967281] (bif !(f x).2 then rO j [h,i,AB.cells [AV.own 7 k] 32,c,c,c,AB.gone,AB.row ε k 9 (J g) 123]else Ξ [Δ k k,Δ (k+1) 549755813888] (am.out .normal j [h,i,AB.cells [AV.own 7 (k+1)] 32,c,c,c,AB.gone,AB.row ε (k+1) 9 (λq=>[ι (bif ω q k then g q 0 else Wh.s (f x).1),ι (bif ω q k then g q 1 else Cy.c0 b),ι (bif ω q k then g q 2 else Cy.c1 b),ι (bif ω q k then g q 3 else Cy.c2 b),ι (bif ω q k then g q 4 else Cy.c3 b),ι (bif ω q k then g q 5 else Cy.c4 b),ι (bif ω q k then g q 6 else Cy.c5 b),ι (bif ω q k then g q 7 else Cy.c6 b),ι (bif ω q k then g q 8 else Cy.c7 b)]) 123])):=by intros;kernel_rfl
def aiO(f:ρ->Wh×ξ)(yI:E Wh->ξ)(tI:E Wh->E Wh)(b:E Wh->ρ)(a:E Wh->ξ)(s:ρ)(k:O)(g:Θ):behind θ (gS f (ai bF (BK yI tI)) b a) 100 pU 0 uV (ag 0) .normal (nv s) (p5 k g)=Ξ [Δ k k,aF k (J g),κ (k<=274877906944),yI (V (ο (J g)) k),Δ (0+ce (tI (V (ο (J g)) k))) (ce (tI (V (ο (J g)) k))),aF (ce (tI (V (ο (J g)) k))) λq=>J (Y (tI (V (ο (J g)) k))) (0+q),a (V (ο λq=>J (Y (tI (V (ο (J g)) k))) (0+q)) (ce (tI (V (ο (J g)) k))))] (bif !cm (b (V (ο λq=>J (Y (tI (V (ο (J g)) k))) (0+q)) (ce (tI (V (ο (J g)) k))))) s then rO [AV.af [AV.v (gj ζ 0 0),vB η]] []else rO [AV.af [AV.sl 0 9 0 0 (ce (tI (V (ο (J g)) k))) (γ (ce (tI (V (ο (J g)) k)))),vB ε]] [AB.row ε (ce (tI (V (ο (J g)) k))) 9 (J (Y (tI (V (ο (J g)) k)))) 123]):=by kernel_rfl
def aiL(f:ρ->Wh×ξ)(yI:E Wh->ξ)(b:E Wh->ρ)(a:E Wh->ξ)(s:ρ)(k:O)(g:Θ):behind θ (gS f (ai bF (KH yI)) b a) 100 pU 0 uV (ag 0) .normal (nv s) (p5 k g)=Ξ [Δ k k,aF k (J g),κ (k<=274877906944),!yI (V (ο (J g)) k)] (rO [AV.af [AV.v (gj ζ 0 0),vB η]] []):=by kernel_rfl
def aiM(f:ρ->Wh×ξ)(S:Spec)(b:E Wh->ρ)(a:E Wh->ξ)(s:ρ)(k:O)(g:Θ):behind θ (gS f S b a) 100 pU 0 uV (ag 0) .ret (nv s) (p5 k g)=rO [AV.af [AV.v (gj ζ 0 0),vB η]] []:=by kernel_rfl
def aiN(f:ρ->Wh×ξ)(S:Spec)(b:E Wh->ρ)(a:E Wh->ξ)(s:ρ):behind θ (gS f S b a) 100 pU 0 uV (ag 0) .ret (nv s) C1=rO [AV.af [AV.v (gj ζ 0 0),vB η]] []:=by kernel_rfl
def acp(f:ρ->Wh×ξ)(yI:E Wh->ξ)(tI:E Wh->E Wh)(d:E Wh->ρ)(b:E Wh->ξ)(s:ρ):let e:=[AV.af [AV.v (gj ζ 0 0),vB η]];let g:=(V (ο λ_=>[]) 0);let c:=(tI g);let a:=(ce c);let h:=(V (ο λq=>J (Y c) (0+q)) a);ad θ (gS f (ai bF (BK yI tI)) d b) K 100 pU [.v (.string s)] [] (ag 0)
 =bif κ ((↑(ay s):Z)> (1500:Z))then rO e []else bif !cm s (ah (ap [(45:υ)]))then am.err else Ξ [yI g,Δ (0+ce c) a,aF a λq=>J (Y c) (0+q),b h] (bif !cm (d h) s then rO e []else rO [AV.af [AV.sl 0 9 0 0 a (γ a),vB ε]] [AB.row ε a 9 (J (Y c)) 123]):=by intros;kernel_rfl
def QO{mds:E Md}{a z:E SA->χ FR}(h:ak P I (ai mds a))(B:∀sas c,z sas=γ c->aJ c.aw=ε->∃ob,a sas=γ {c with aw:=ob}/\aJ ob=ε):ak P I (ai mds z):=by
 refine⟨h.1,λk H g U C l w b D G L p j m n=>?_⟩;unfold ai at b;split at b
 ·rename_i i q
  split at b
  ·rename_i c r
   split at b
   ·rename_i M s
    cases t:((!oT mds||j0 ((er mds i).filterMap id))&&c.new.all lP&&Ψ (bJ mds (i.map (·.sa)) c.put).length (bO mds (i.map (·.sa))).length)with
    |false=>rw[t]at b;cases b
    |true=>
     rw[t]at b;simp only[a6,aC]at b;subst b;have o:aJ (i.flatMap (·.ob))=ε/\aJ c.aw=ε:=by simpa[aJ,gM]using D
     obtain⟨ob,N,Q⟩:=B _ _ r o.2;have u:ai mds a k H g=γ {val:=M,rd:=(er mds i).filterMap id,put:=fS (er mds i) (bJ mds (i.map (·.sa)) c.put),new:=c.new,aw:=i.flatMap (·.ob)++ob}:=by unfold ai;rw[q];simp only[N,s];rw[t];rfl
     refine(h.2 k H g _ C l w u (by simpa[aJ,gM]using And.intro o.1 Q) G L p j m (n.call λx A=>by first|exact A|cases A)).mono ?_;rintro e X ⟨v,y,rfl,d⟩;exact⟨v,y,rfl,d.le,d.cg,d.val,d.put,d.new,d.os,d.tape,d.output,d.size,d.block,d.fresh,d.apart⟩
   ·cases b
  ·cases b
 ·cases b
def aui{mds:E Md}{v x a:E SA->χ FR}(y:ak P I (ai mds v))(B:ak P I (ai mds x))(C:∀sas c,a sas=γ c->aJ c.aw=ε->(∃ob,v sas=γ {c with aw:=ob}/\aJ ob=ε)\/∃ob,x sas=γ {c with aw:=ob}/\aJ ob=ε):ak P I (ai mds a):=by
 classical
 refine⟨y.1,λn H i D L j w z o M N p d k l=>?_⟩;have b:=z;unfold ai at b;split at b
 ·rename_i g q
  split at b
  ·rename_i c m
   split at b
   ·cases A:((!oT mds||j0 ((er mds g).filterMap id))&&c.new.all lP&&Ψ (bJ mds (g.map (·.sa)) c.put).length (bO mds (g.map (·.sa))).length)with
    |false=>rw[A]at b;cases b
    |true=>
     rw[A]at b;simp only[a6,aC]at b;have r:aJ c.aw=ε:=by
      rw[<-b]at o;have:aJ (g.flatMap (·.ob))=ε/\aJ c.aw=ε:=by simpa[aJ,gM]using o
      exact this.2
     have one:∀{G:E SA->χ FR},ak P I (ai mds G)->(∃ob,G (g.map (·.sa))=γ {c with aw:=ob}/\aJ ob=ε)->ak P I (ai mds λsas=>if sas=g.map (·.sa)then γ c else ζ):=λ{G} Q s=>
      QO Q λsas R t _=>by
       split at t
       ·rename_i e
        cases t;rw[e];exact s
       ·cases t
     have u:ak P I (ai mds λsas=>if sas=g.map (·.sa)then γ c else ζ):=by
      rcases C _ _ m r with h|h
      ·exact one y h
      ·exact one B h
     refine u.2 n H i D L j w ?_ o M N p d k l;rw[<-z];unfold ai;rw[q];simp only[m,qA]
   ·cases b
  ·cases b
 ·cases b
def dash:ρ:=ah (ap [45])
def eK(s:ρ):E Wh:=bif cm s dash then[]else(dD s dt).map λw=>(wo w).1
def qe(s:ρ):ξ:=(dD s dt).all λw=>(wo w).2
def Ao(s:ρ):ξ:=κ (s.size<=1500)&&(cm s dash||qe s)
def dJ(s:ρ):ξ:=Ao s&&yI (eK s)&&cm (dF (tI (eK s))) s
def b6(s:ρ):E Wh:=bif dJ s then tI (eK s)else[]
def ac4(L:E Wh):nh L=yI L:=by rw[nh,yI,show L.map pN=L from IA L]
def ZA:ak θ 128 (ai bF (BK yI tI)):=QO ZP λd h a b=>by
 unfold BK at a;split at a
 ·rename_i m g
  cases a;simp only[Ω]at b;obtain⟨e,f,c,_⟩:=b;refine⟨[aF m g,κ (m<=2^38),nh (V (ο g) m)],?_,?_⟩
  ·show γ _=γ _
   rw[IA,tI,c];rfl
  ·simp only[Ω,ax,aj]
   exact⟨e,f,(ac4 _).trans c⟩
 ·cases a
def aoI:ak θ 128 (ai bF (KH yI)):=QO ZM λc h a b=>by
 unfold KH at a;split at a
 ·rename_i m g
  cases a;simp only[Ω]at b;obtain⟨d,e,f,_⟩:=b;refine⟨[aF m g,κ (m<=2^38),!nh (V (ο g) m)],rfl,?_⟩;simp only[Ω,ax,aj];exact⟨d,e,by rw[ac4];exact f⟩
 ·cases a
def WT{S:Spec}(a:ak θ 128 S):aK θ (gS wo S dF aO):=az (az (az ba aqS) a) aab
def auj:∀args w,(g_ 273 args).run θ w=.ok (.enter 273 args) w:=λargs w=>enters _ _ func273 rfl args w
def tw(x:Pc i):Wh:=(wo x.1).1
def sG:E (Pc i)->E AB
 |[]=>C1
 |x::l=>p5 (x::l).length (Y ((x::l).map tw))
def XU(a:E (Pc i))(x:Pc i):sG (a++[x])=p5 (a++[x]).length (Y ((a++[x]).map tw)):=by cases a<;>rfl
def uB{n:O}(_:Ex)(l:E (Pc n)):E AB:=sG l.dropLast
def wJ(l:E (Pc i)):Prop:=l.all (λx=>(wo x.1).2)=ε
def DN{n:O}(e:Ex)(l:E (Pc n)):Prop:=e=.ret/\∃x∈l,(wo x.1).2=η
def ayC(w:Wh)(q:O)(_:q<1):[ι w.s,ι w.r.c0,ι w.r.c1,ι w.r.c2,ι w.r.c3,ι w.r.c4,ι w.r.c5,ι w.r.c6,ι w.r.c7]=J (Y [w]) q:=by
 have:q=0:=by omega
 subst this;rfl
def atn{S:Spec}(s:ρ)(hs:s.size<=1500)(a:E (Pc s.size))(x:Pc s.size)(c:wJ a)(i:a.length<=1501):(a0 θ (gS wo S dF aO) 100 K Al (j3 [18] [.string x.1] (nv s)) (sG a) (mP θ (gS wo S dF aO) 100 An 7)).ok (qF wJ DN sG uB (a++[x])):=by
 have g:ω x.1.size 4294967281=ε:=by have:=x.2;rw[bM];omega
 have b:(wo x.1).2=ε->wJ (a++[x]):=λh=>by unfold wJ at c⊢;rw[gM,c,ex];simp[h]
 have d:(wo x.1).2=η->DN (n:=s.size) .ret (a++[x]):=λh=>⟨rfl,x,by simp,h⟩
 have e:uB (n:=s.size) .ret (a++[x])=sG a:=by rw[uB,adQ]
 cases a with
 |nil=>
  suffices h:aE (a0 θ (gS wo S dF aO) 100 K Al (j3 [18] [.string x.1] (nv s)) C1 (mP θ (gS wo S dF aO) 100 An 7)) (qF wJ DN sG uB ([]++[x]))from h.out
  rw[asQ];refine aq (by simp only[Ω,ax,aj];exact g) (aD (λq=>?_) λq=>?_)
  ·rw[g8]at q
   refine F ⟨d q,?_⟩;rw[e];exact Φ.refl _
  ·rw[og]at q
   refine F ⟨b q,?_⟩;rw[XU];exact .cons (ab.refl _) (.cons (ab.refl _) (.cons (ab.refl _) (.cons (ab.refl _) (.cons (ab.refl _) (.cons (ab.refl _) (.cons (ab.refl _) (.cons (ab.row λj c=>ayC (tw x) j c) .nil)))))))
 |cons y l=>
  suffices h:aE (a0 θ (gS wo S dF aO) 100 K Al (j3 [18] [.string x.1] (nv s)) (p5 (y::l).length (Y ((y::l).map tw))) (mP θ (gS wo S dF aO) 100 An 7)) (qF wJ DN sG uB ((y::l)++[x]))from h.out
  rw[asR];generalize f:y::l=a at*;refine aq (by simp only[Ω,ax,aj];exact g) (aD (λq=>?_) λq=>c_ ?_)
  ·rw[g8]at q
   refine F ⟨d q,?_⟩;rw[e,<-f];exact Φ.refl _
  ·rw[og]at q
   refine F ⟨b q,?_⟩;rw[XU,bN,kP];exact .cons (ab.refl _) (.cons (ab.refl _) (.cons (ab.refl _) (.cons (ab.refl _) (.cons (ab.refl _) (.cons (ab.refl _) (.cons (ab.refl _) (.cons (ab.row λj c=>pQ (a.map tw) (tw x) a.length (by rw[dv]) j c) .nil)))))))
def abm{S:Spec}(d:ak θ 128 S)(s:ρ)(h1:s.size<=1500)(h2:cm s dash=η)(g:qe s=ε->(behind θ (gS wo S dF aO) 100 pU 0 uV (ag 0) .normal (nv s) (p5 (eK s).length (Y (eK s)))).ok Q)(j:qe s=η->(rO [eP] []).ok Q):∀(M:O->Prop)(vals:E τ)(w:ψ)(ν:Nu),(∀k,w.heap.size<=k->M k)->aB ν [.v (.string s)] vals->RH M ν (λb=>([]:E AB).getD b .gone) w->(∀i b,ν i=γ b->i<([]:E AB).length)->aM θ 111 vals.toArray w (jR Q M ν w):=by
 have hL:eK s=(dD s dt).map λw=>(wo w).1:=by rw[eK,h2];rfl
 have hn:(dD s dt).length<=s.size+1:=by have:=va s dt (by decide);have:=adH dt (by decide) s.size s (aQ _);omega
 refine agM (α:=Pc s.size) (n:=100) (nn:=0) (WT d) mixed enters S_ afG (by kernel_rfl) (by kernel_rfl) (by kernel_rfl) (by kernel_rfl) (by kernel_rfl) (by kernel_rfl) (lvp:=cj [0,2,3,4,17] [] []) (TT:=LL s) (HH:=Ga s)
  (encs:=λx=>[.string x.1]) (S:=λm=>m.map (·.1)=dD s dt) (Sp:=λa=>∃o,dD s dt=a.map (·.1)++o) (N:=(dD s dt).length) ?_ (gf:=273) (cs:=[.ptr 3 0 0 0,.ptr 4 0 0 0,.ptr 5 0 0 0]) (by kernel_rfl) (nv s) (by kernel_rfl) (Y8 (live:=[0,2,3,4]) (by kernel_rfl)) wJ DN sG uB rfl [3,4,5] ?_ ?_ ?_ ?_
  auj (λW t a1 lb d C=>?_) (λ_=>rfl) (λp hp=>by simp only[nq]at hp;subst hp;exact Nat.lt_of_lt_of_eq (by decide:18<44) rfl) rfl (λa x I hl=>atn s h1 a x I (by omega)) (λm h I=>?_) (λe a hne L P=>?_)
 ·show(fq θ (gS wo S dF aO) 100 P3 ([.v (.string s)]++eH 43 (.v aZ)) [] (Ra θ (gS wo S dF aO) 100 P1 (GA θ (gS wo S dF aO) 100 15 P2 (eV (cj [0,2,3,4,17] [] []) 0)))).ok _
  rw[axq,show κ ((s.size:Z)>1500)=η from gF];exact IE (Q:=λe T' H'=>e=.normal/\T'=LL s/\H'=Ga s) (r:=.out .normal (LL s) (Ga s)) (by simp only[Ω,ax,aj,g8];exact h2) ⟨rfl,rfl,rfl⟩
 ·intro i f
  simp only[dE,iX,oC]at f;rcases f with rfl|rfl|rfl<;>rfl
 ·intro a
  cases a<;>rfl
 ·intro e a
  unfold uB;generalize a.dropLast=q;cases q<;>rfl
 ·intro i
  match i with
  |0=>exact .inl rfl
  |1=>exact .inl rfl
  |2=>exact .inl rfl
  |3=>exact .inr (.inr ⟨rfl,rfl⟩)
  |4=>exact .inr (.inr ⟨rfl,rfl⟩)
  |5=>exact .inr (.inr ⟨rfl,rfl⟩)
  |6=>exact .inl rfl
  |i+7=>exact .inl rfl
 ·obtain⟨R,l1,u,o1,g1,D⟩:=d.heap.br 3
  obtain⟨T,l2,v,o2,g2,G⟩:=d.heap.br 4;obtain⟨U,l3,z,o3,g3,H⟩:=d.heap.br 5
  match l1,D,l2,G,l3,H,lb,C with
  |[y1],D,[y2],G,[y3],H,[p1,p2,p3],C=>
   simp only[aB,VR,aj]at D G H C;subst D G H;obtain⟨⟨d1,f1,rfl⟩,⟨d2,f2,rfl⟩,⟨d3,f3,rfl⟩⟩:=C;rw[u]at f1;rw[v]at f2;rw[z]at f3;cases f1;cases f2;cases f3;have X:=auk (nn:=0) (w:=W) (M:=fQ W t (Ga s)) (B:=uj t [3,4,5]) d.heap.eL (λk hk=>.inl hk) s (by omega) g1 g2 g3 (d.heap.sep 3 4 R T (by decide) rfl rfl u v) (d.heap.sep 3 5 R U (by decide) rfl rfl u z) (d.heap.sep 4 5 T U (by decide) rfl rfl v z) (λk=>⟨?_,?_⟩) ?_
   ·simp only[o1,o2,o3,Nat.mul_zero,im]
    exact X
   ·rintro⟨i,f,b,c,rfl⟩
    simp only[dE,iX,oC]at f;rcases f with rfl|rfl|rfl
    ·rw[u]at c;cases c;exact .inl rfl
    ·rw[v]at c;cases c;exact .inr (.inl rfl)
    ·rw[z]at c;cases c;exact .inr (.inr rfl)
   ·rintro(rfl|rfl|rfl)
    ·exact⟨3,by simp,R,u,rfl⟩
    ·exact⟨4,by simp,T,v,rfl⟩
    ·exact⟨5,by simp,U,z,rfl⟩
   ·rintro k ⟨i,f,b,c,rfl⟩
    refine .inr ⟨i,b,?_,c,rfl⟩;simp only[dE,iX,oC]at f;rcases f with rfl|rfl|rfl<;>rfl
 ·have hw:qe s=ε:=by rw[qe,<-h,Fl];exact I
  have e:sG m=p5 (eK s).length (Y (eK s)):=by
   have hm:m.map tw=eK s:=by rw[hL,<-h,rR];rfl
   cases m with
   |nil=>have:=va s dt (by decide);rw[<-h]at this;simp at this
   |cons x l=>
    show p5 (x::l).length (Y ((x::l).map tw))=_
    rw[hm,<-hm,dv]
  rw[e];exact g hw
 ·obtain⟨rfl,y,hy,c⟩:=L
  obtain⟨o,A⟩:=P;have hw:qe s=η:=by rw[qe,A,gM,Fl,Bool.and_eq_false_iff];left;rw[List.all_eq_false];exact⟨y,hy,by simp[c]⟩
  have h0:=j hw;unfold uB;generalize a.dropLast=q;cases q with
  |nil=>
   show(behind θ (gS wo S dF aO) 100 pU 0 uV (ag 0) .ret (nv s) C1).ok Q
   rw[aiN];exact h0
  |cons x l=>
   show(behind θ (gS wo S dF aO) 100 pU 0 uV (ag 0) .ret (nv s) (p5 (x::l).length (Y ((x::l).map tw)))).ok Q
   rw[aiM];exact h0
def Lq:E SA->χ FR
 |[.v (.string s)]=>γ {val:=li (tI (eK s)),new:=h_ (tI (eK s)),aw:=[dJ s]}
 |_=>ζ
def T8:E SA->χ FR
 |[.v (.string s)]=>γ {val:=eP,aw:=[!dJ s]}
 |_=>ζ
def LM(a:ρ->ξ)(tl:ρ->E Wh):E SA->χ UR
 |[.v (.string s)]=>γ ⟨a s,tl s,[]⟩
 |_=>ζ
def abn(s:ρ)(r:dJ s=ε->(rO [li (tI (eK s))] (h_ (tI (eK s)))).ok Q)(j:dJ s=η->(rO [eP] []).ok Q):∀(M:O->Prop)(vals:E τ)(w:ψ)(ν:Nu),(∀k,w.heap.size<=k->M k)->aB ν [.v (.string s)] vals->RH M ν (λb=>([]:E AB).getD b .gone) w->(∀i b,ν i=γ b->i<([]:E AB).length)->aM θ 111 vals.toArray w (jR Q M ν w):=by
 have d:∀L:E Wh,eK s=L->(s.size<=1500)->(cm s dash||qe s)=ε->yI L=ε->aE (bif !cm (dF (tI L)) s then rO [eP] []else rO [li (tI L)] (h_ (tI L))) Q:=by
  rintro L rfl e c f;refine aD (λq=>⟨j ?_⟩) λq=>⟨r ?_⟩
  ·rw[g8]at q
   rw[dJ,q,g7]
  ·rw[og]at q
   rw[dJ,q,Ao,c,f,di e];rfl
 have l:∀L:E Wh,yI L=ε->aJ [Δ (tI L).length (tI L).length,aF (tI L).length (J (Y (tI L))),aO (tI L)]=ε:=λL h=>by simp only[Ω,ax,aj,bl,dn,bv];exact⟨aQ _,Q6 h⟩
 have a:aE (ad θ (gS wo (ai bF (BK yI tI)) dF aO) K 100 pU [.v (.string s)] [] (ag 0)) Q->∀(M:O->Prop)(vals:E τ)(w:ψ)(ν:Nu),(∀k,w.heap.size<=k->M k)->aB ν [.v (.string s)] vals->RH M ν (λb=>([]:E AB).getD b .gone) w->(∀i b,ν i=γ b->i<([]:E AB).length)->
  aM θ 111 vals.toArray w (jR Q M ν w):=λh M vals w ν hM t u m=>nz (WT ZA) mixed enters S_ (λ_ _=>cN _ _ _) hM h.out t u m
 by_cases e:s.size<=1500
 ·cases c:cm s dash with
  |true=>
   refine a ?_;rw[acp,show κ ((s.size:Z)>1500)=η from gF,show(ah (ap [45]))=dash from rfl,c];simp only[Bb,be,cz];have v:V (ο λ_=>[]) 0=[]:=rfl;have g:yI []=ε:=by decide+kernel
   rw[v];refine aq ?_ ?_
   ·have:=l [] g
    simp only[Ω,ax,aj]at this⊢;rw[show V (ο λq=>J (Y (tI [])) q) (tI []).length=tI []from hZ _ _ rfl];exact⟨g,this⟩
   ·rw[show V (ο λq=>J (Y (tI [])) q) (tI []).length=tI []from hZ _ _ rfl]
    exact d [] (by rw[eK,c];rfl) e (by rw[c];rfl) g
  |false=>
   have x:qe s=η->dJ s=η:=λh=>by rw[dJ,Ao,c,h];simp
   have o:(eK s).length<=1501:=by
    have:=va s dt (by decide);have:=adH dt (by decide) s.size s (aQ _);rw[eK,c];show((dD s dt).map _).length<=_
    rw[dv];omega
   cases f:yI (eK s)with
   |true=>
    refine abm ZA s e c (λn=>?_) λn=>j (x n)
    rw[aiO];simp only[cz];rw[show V (ο (J (Y (eK s)))) (eK s).length=eK s from hZ _ _ rfl];rw[show V (ο λq=>J (Y (tI (eK s))) q) (tI (eK s)).length=tI (eK s)from hZ _ _ rfl];refine(aq ?_ (d (eK s) rfl e (by rw[n,RP]) f)).out;have:=l (eK s) f;simp only[Ω,ax,aj,dn,aL,bl]at this⊢;exact⟨aQ _,trivial,by omega,f,by omega,this.2⟩
   |false=>
    have p:dJ s=η:=by rw[dJ,f];simp
    refine abm aoI s e c (λn=>?_) λ_=>j p
    rw[aiL];rw[show V (ο (J (Y (eK s)))) (eK s).length=eK s from hZ _ _ rfl];refine(aq ?_ ⟨j p⟩).out;simp only[Ω,ax,aj,dn,aL,bl,f];exact⟨aQ _,trivial,by omega,rfl⟩
 ·refine a ?_
  rw[acp,show κ ((s.size:Z)>1500)=ε from dc];exact⟨j (by rw[dJ,Ao,gN e];rfl)⟩
def Z1:ak θ 111 (ai [.val] Lq):=by
 refine nc enters S_ rfl λc d a b=>?_
 unfold Lq at a;split at a
 ·rename_i s
  cases a;simp only[Ω,ax,aj]at b;exact⟨[],Φ.refl _,abn s (λ_=>⟨_,rfl,rfl,Φ.refl _⟩) λh=>by rw[b]at h;cases h⟩
 ·cases a
def aqi:ak θ 111 (ai [.val] T8):=by
 refine nc enters S_ rfl λc d a b=>?_
 unfold T8 at a;split at a
 ·rename_i s
  cases a;simp only[Ω,ax,aj]at b;exact⟨[],Φ.refl _,abn s (λh=>by rw[h]at b;cases b) λ_=>⟨_,rfl,rfl,Φ.refl _⟩⟩
 ·cases a
def aoJ:ak θ 111 (tj [.val] (LM dJ b6)):=by
 refine QS rfl Z1 aqi λc u a d=>?_
 unfold LM at a;split at a
 ·rename_i s
  cases a;refine⟨rfl,?_⟩;cases b:dJ s with
  |true=>
   left;refine⟨rfl,[dJ s],?_,by simp only[Ω,ax,aj,b]⟩;show γ _=γ _
   rw[b6,b];rfl
  |false=>right;refine⟨rfl,by show b6 s=[];rw[b6,b];rfl,[!dJ s],rfl,by simp only[Ω,ax,aj,b];rfl⟩
 ·cases a
def Mk(s:ρ)(c:Z):∀(i:O)(x:ρ),x∈ (b_ s c i).1->x.size<=s.size
 |0,x,h=>by simp[b_]at h
 |i+1,x,h=>by
  unfold b_ pi at h;cases a:((i:Z)==(s.size:Z))||(bY s i==c)with
  |true=>
   rw[a]at h;simp only[a6,nm,nq]at h;rcases h with h|rfl
   ·exact Mk s c i x h
   ·rw[tA];omega
  |false=>rw[a]at h;exact Mk s c i x h
def Vj(s:ρ)(c:Z)(j:O):(bG s c j).size<=s.size:=by
 unfold bG eB;by_cases h:j<(eD s c).length
 ·rw[cX,df h,iK]
  exact Mk _ _ _ _ (ki h)
 ·rw[cX,nk (by omega)]
  exact ej _
def Vk(s:ρ)(c:Z):cJ s c<=s.size+1:=(se s c _).1
def A_(w:ρ):Wh:=⟨jp (bG w 58 0),⟨jp (bG (bG w 58 1) 44 0),jp (bG (bG w 58 1) 44 1),jp (bG (bG w 58 1) 44 2),jp (bG (bG w 58 1) 44 3),jp (bG (bG w 58 1) 44 4),jp (bG (bG w 58 1) 44 5),jp (bG (bG w 58 1) 44 6),jp (bG (bG w 58 1) 44 7)⟩⟩
def rs(w:ρ):ξ:=Ψ (cJ w 58) 2&&Ψ (cJ (bG w 58 1) 44) 8
def kH(s:ρ):E Wh:=(eD s 32).map A_
def td(s:ρ):ξ:=(eD s 32).all rs
def iJ(s:ρ):ξ:=κ (s.size<=1500)&&(cm s dash||(td s&&yI (kH s)&&cm (ef (kH s)) s))
def iE(s:ρ):E Wh:=bif iJ s&& !cm s dash then kH s else[]
def WW:aK θ (zB bG cJ jp ef yI):=az (az (az ba ZG) ap9) PC
def avF(ws:E ρ)(i:O)(h:i<ws.length):ws.take (i+1)=ws.take i++[eB ws i]:=by rw[Sm,df h];simp[eB,cX,df h]
def au'(s:ρ)(hs:s.size<=1500):ck θ 0 (.block 0 (.loop (a5 0 BE))) (bm 82 (DH .normal) 0 (EO s 0 (cJ s 32) 0) (zF 0 (Y []) (cJ s 32) (bG s 32)) (λa=>cond (td s) (a .normal (ar 0 82 [(0,.v (.string s)),(4,.own 0 (cJ s 32))]) [.row ε (cJ s 32) 9 (J (Y (kH s))) 123]) (a .ret (ar 0 82 [(2,.own 0 0),(3,.v (.bool η))]) [.row ε 0 9 (λ_=>[]) 123]))):=by
 refine dQ WW (n:=200) (m:=0) (lv:=DH) (λi=>EO s i (cJ s 32) i) (λi=>zF i (Y (((eD s 32).take i).map A_)) (cJ s 32) (bG s 32)) (λi=>((eD s 32).take i).all rs=ε) (cJ s 32) (λ_=>K) (du rfl rfl rfl) (aQ _) rfl λa Q l i r t=>⟨cN _ _ _,?_⟩
 have y:=Vk s 32;have z:(eD s 32).length=cJ s 32:=rfl;rw[asS];refine aD (λf=>?_) λf=>?_
 ·have f:=aV f
  have b:i<cJ s 32:=by omega
  have A:=Vj s 32 i;have B:=Vj (bG s 32 i) 58 1;have u:aa aY ((i:Z)+1)=((i+1:O):Z):=by rw[bz];omega
  have g:=avF (eD s 32) i b;rw[cV,u];have j:rs (bG s 32 i)=η->(a .ret (ar 0 82 [(2,.own 0 0),(3,.v (.bool η))]) [.row ε 0 9 (λ_=>[]) 123]).ok Q:=λh=>by
   have:td s=η:=by rw[td,List.all_eq_false];refine⟨bG s 32 i,?_,by simp[h]⟩;unfold bG eB;rw[cX,df b];exact ki b
   rw[this]at l;exact l
  refine aq (by simp only[Ω,ax,aj,aL,bM];omega) (aD (λo=>?_) λo=>?_)
  ·have c:cJ (bG s 32 i) 58≠2:=λe=>by rw[e]at o;cases o
   refine F ⟨_,Φ.refl _,j ?_⟩;rw[rs,show Ψ (cJ (bG s 32 i) 58) 2=η from by rw[Bool.eq_false_iff];exact λe=>c (cA e)];rfl
  ·have c:cJ (bG s 32 i) 58=2:=by
    have:((cJ (bG s 32 i) 58:Z))=2:=by simpa using o
    omega
   refine aq (by simp only[Ω,ax,aj,aL,bM];omega) (aD (λp=>?_) λp=>?_)
   ·have d:cJ (bG (bG s 32 i) 58 1) 44≠8:=λe=>by rw[e]at p;cases p
    refine F ⟨_,Φ.refl _,j ?_⟩;rw[rs,show Ψ (cJ (bG (bG s 32 i) 58 1) 44) 8=η from by rw[Bool.eq_false_iff];exact λe=>d (cA e),g7]
   ·have d:cJ (bG (bG s 32 i) 58 1) 44=8:=by
     have:((cJ (bG (bG s 32 i) 58 1) 44:Z))=8:=by simpa using p
     omega
    have k:rs (bG s 32 i)=ε:=by rw[rs,c,d];rfl
    refine c_ (F ⟨i+1,⟨rfl,b,?_⟩,rfl,?_⟩)
    ·rw[g,gM,r,ex]
     show(List.all [bG s 32 i] rs)=ε
     simp[k]
    ·show Φ _ (zF (i+1) (Y (((eD s 32).take (i+1)).map A_)) (cJ s 32) (bG s 32))
     rw[g,kP];exact .cons (ab.row λq v=>pQ _ (A_ (bG s 32 i)) i (by rw[dv,pz];omega) q v) (.cons (ab.refl _) .nil)
 ·have f:=cu f
  have e:i=cJ s 32:=by omega
  subst e;refine F ⟨_,Φ.refl _,?_⟩;rw[aU rfl];have w:(eD s 32).take (cJ s 32)=eD s 32:=Bp;rw[w]at r⊢;rw[show td s=ε from r]at l;exact l
def Lp(a:ρ->ξ)(tl:ρ->E Wh):E SA->χ FR
 |[.v (.string s)]=>γ {val:=.af [.own 0 (tl s).length,.v (.bool (a s))],new:=[.row ε (tl s).length 9 (J (Y (tl s))) 123]}
 |_=>ζ
def aqj:ak θ 90 (ai [.val] (Lp iJ iE)):=by
 refine ca WW func90 rfl λn r f t=>?_
 unfold Lp at f;split at f
 ·rename_i s
  cases f;have g:iJ s=η->dX (bJ [Md.val] [SA.v (.string s)] []) {val:=.af [.own 0 (iE s).length,.v (.bool (iJ s))],new:=[.row ε (iE s).length 9 (J (Y (iE s))) 123]} .ret [.af [.own 0 0,.v (.bool η)]] [.row ε 0 9 (λ_=>[]) 123]:=λh=>by
   have e:iE s=[]:=by rw[iE,h];rfl
   rw[e,h];exact⟨_,rfl,rfl,.cons (ab.row λj a=>aR a (dh _)) .nil⟩
  by_cases i:s.size<=1500
  ·have u:=Vk s 32
   have m:(kH s).length=cJ s 32:=by rw[kH,dv];rfl
   refine⟨[],OH s (cJ s 32) (bG s 32) (td s) (cJ s 32) (Y (kH s)),200,Φ.refl _,da (au' s i),?_⟩;show aE (ad θ (zB bG cJ jp ef yI) (OH s (cJ s 32) (bG s 32) (td s) (cJ s 32) (Y (kH s))) 200 BE [.v (.string s)] [] (ag 0)) _
   rw[axv,show κ ((s.size:Z)>1500)=η from gF,show(ah (ap [45]))=dash from rfl];have q:V (ο (J (Y (kH s)))) (cJ s 32)=kH s:=hZ _ _ m;rw[q];refine aD (λc=>by cases c) λ_=>aD (λc=>F ?_) λc=>aq ?_ (aD (λl=>aq ?_ (aD (λb=>F (g ?_)) λb=>aD (λd=>F (g ?_)) λd=>F ?_)) λl=>F (g ?_))
   ·have k:iJ s=ε:=by rw[iJ,c,di i];rfl
    have e:iE s=[]:=by rw[iE,c,Bb,g7];rfl
    rw[e,k];exact⟨_,rfl,rfl,.cons (ab.row λj a=>aR a (dh _)) .nil⟩
   ·simp only[Ω,ax,aj,bM]
    refine⟨by omega,cG ⟨rfl,.cons (ab.row λj a=>aR a (dh _)) (.cons (ab.refl _) .nil)⟩⟩
   ·simp only[Ω,ax,aj,bl,aL,dn,bv]
    omega
   ·rw[g8]at b
    rw[iJ,c,b];simp
   ·rw[g8]at d
    rw[iJ,c,d];simp
   ·rw[og]at b d
    have k:iJ s=ε:=by rw[iJ,c,l,b,d,di i];rfl
    have e:iE s=kH s:=by rw[iE,k,c];rfl
    rw[e,k,m];exact⟨_,rfl,rfl,Φ.refl _⟩
   ·rw[iJ,c,l]
    simp
  ·refine⟨[],bX 0 iv,200,Φ.refl _,Iq (c:=a5 0 BE) (by kernel_rfl) ur,?_⟩
   show aE (ad θ (zB bG cJ jp ef yI) (bX 0 iv) 200 BE [.v (.string s)] [] (ag 0)) _
   rw[axw,show κ ((s.size:Z)>1500)=ε from dc];exact F (g (by rw[iJ,gN i];rfl))
 ·cases f
def qI{a b:ρ}(h:a.data.toList=b.data.toList):a=b:=by
 cases a;cases b
 congr 1
 exact gg h
def My{a b:ρ}(h:cm a b=ε):a=b:=by have:=aV h;rw[pq,pq]at this;exact qI this
def aiR{a b:ρ}(h:a.data.toList≠b.data.toList):cm a b=η:=by
 refine gN λe=>h ?_
 rwa [pq,pq]at e
def GI(l:E υ):(ah l.toArray).data.toList=l:=rfl
variable {u:E (E υ)}
def Y4{ws:E ρ}(h:ws.map (·.data.toList)=u):ws=u.map λl=>⟨l.toArray⟩:=by
 subst h;rw[rR]
 symm
 exact(ye (g:=id) λb _=>qI rfl).trans (Sk _)
def Ev(s:ρ)(c:υ):dD s (ah (ap [c]))=(cD c s.data.toList).map λl=>⟨l.toArray⟩:=by refine Y4 ?_;rw[dD,Lib.splitB_data];exact abH _ _ (Lib.count_one c _).symm
def Vn(s:ρ)(c:υ):∀i:O,i<=s.size->cD c s.data.toList=(b_ s (c.toNat:Z) i).1.map (·.data.toList)++cD c (s.data.toList.drop (b_ s (c.toNat:Z) i).2)/\∀k,(b_ s (c.toNat:Z) i).2<=k->k<i->s.data.toList[k]?≠γ c
 |0,_=>⟨by simp[b_],λk _ h=>aR h (dh _)⟩
 |i+1,h=>by
  obtain⟨j,l⟩:=Vn s c i (by omega);have n:=(se s (c.toNat:Z) i).2;have o:s.data.toList.length=s.size:=by rw[lm];rfl
  have m:bY s (i:Z)=((s.data.toList[i]'(by omega)).toNat:Z):=by unfold bY;rw[cV,yn s.data i (by have:s.data.size=s.size:=rfl;omega)];rfl
  have p:s.data.toList[i]?=γ (s.data.toList[i]'(by omega)):=df _;have d:((i:Z)==(s.size:Z))=η:=by rw[cq];omega
  rw[b_,pi,d,JP];cases f:bY s (i:Z)==(c.toNat:Z)with
  |true=>
   have q:s.data.toList[i]'(by omega)=c:=by have:=eq_of_beq f;rw[m]at this;exact FM.1 (by omega)
   simp only[a6];refine⟨?_,λk a g=>by omega⟩;rw[j,kP,jN]
   congr 1
   have e:s.data.toList.drop (b_ s (c.toNat:Z) i).2=(s.extract (b_ s (c.toNat:Z) i).2 i).data.toList++c::s.data.toList.drop (i+1):=by
    rw[adI];have r:(s.data.toList.drop (b_ s (c.toNat:Z) i).2).drop (i-(b_ s (c.toNat:Z) i).2)=c::s.data.toList.drop (i+1):=by rw[Bi,show(b_ s (c.toNat:Z) i).2+(i-(b_ s (c.toNat:Z) i).2)=i by omega,Fo (by omega),q]
    rw[<-r,ad2]
   rw[e,Ca]
   ·rfl
   ·rw[adI]
    intro t;obtain⟨k,a⟩:=J8.1 t;rw[nl]at a;split at a
    ·rename_i b
     rw[qq]at a;exact l _ (by omega) (by omega) a
    ·cases a
  |false=>
   simp only[be];refine⟨j,λk a g=>?_⟩;rcases om k i with b|u
   ·exact l k a b
   ·have:k=i:=by omega
    subst this;rw[p];intro e;simp only[aC]at e;rw[m,e]at f;simp at f
def Cb(s:ρ)(c:υ):eD s (c.toNat:Z)=(cD c s.data.toList).map λl=>⟨l.toArray⟩:=by
 refine Y4 ?_;obtain⟨d,e⟩:=Vn s c s.size (aQ _);have f:=(se s (c.toNat:Z) s.size).2;have g:s.data.toList.length=s.size:=by rw[lm];rfl
 have a:c∉s.data.toList.drop (b_ s (c.toNat:Z) s.size).2:=λh=>by obtain⟨k,b⟩:=J8.1 h;rw[qq]at b;have i:=(fY.1 b).1;exact e _ (by omega) (by omega) b
 rw[d,sd _ a];show Fq _ (b_ s (c.toNat:Z) (s.size+1)).1=_
 rw[b_,pi,show((s.size:Z)==(s.size:Z))=ε from aeD _,Bool.true_or];simp only[a6,kP,eG,kQ];rw[adI,pA (by rw[py];omega)]
def jv(l:E υ):Z:=l.foldl (λa b=>10*a+((b.toNat:Z) -48)) 0
def E4(l:E υ)(b:υ):jv (l++[b])=10*jv l+((b.toNat:Z) -48):=by rw[jv,Bl];rfl
def acz(u:O):jv (gL u)=u:=by
 induction u using Fy with
 |_ u a=>
  have e:∀k,k<10->((ns (48+k)).toNat:Z) -48=k:=λk b=>by rw[Tz];omega
  rw[gL];split
  ·rename_i h
   have:=E4 [] (ns (48+u));rw[jO]at this;rw[this,e u h];show 10*jv []+(u:Z)=u
   rw[show jv []=0 from rfl];omega
  ·rw[E4,a (u/10) (by omega),e _ (tD _ (by omega))]
   omega
def UM{s:ρ}{i:O}(h:i<s.data.toList.length):bY s (i:Z)=((s.data.toList[i]).toNat:Z):=by unfold bY;rw[cV,yn s.data i (by simpa using h)];rfl
def Zp(l:E υ)(a:∀b∈l,qM b):∀i:O,i<=l.length->dH ⟨l.toArray⟩ i=(jv (l.take i),1)
 |0,_=>rfl
 |i+1,h=>by
  have c:=UM (s:=⟨l.toArray⟩) (i:=i) (by simp;omega);simp only[]at c;have d:=a l[i] (ki (by omega));unfold qM at d;rw[dH,Zp l a i (by omega),Sm,df (by omega),show(γ l[i]).toList=[l[i]]from rfl,E4,c];have e:((l[i].toNat:Z)==45)=η:=by rw[cq];omega
  rw[e,g7,di (by omega:(48:Z)<=(l[i].toNat:Z)),di (by omega:(l[i].toNat:Z)<=57)];rfl
def Zq(l:E υ)(a:∀b∈l,qM b):∀i:O,i<=l.length->dH ⟨(45::l).toArray⟩ (i+1)=(jv (l.take i),-1)
 |0,_=>by rw[dH];rfl
 |i+1,h=>by have c:=UM (s:=⟨(45::l).toArray⟩) (i:=i+1) (by simp;omega);simp only[Si]at c;have d:=a l[i] (ki (by omega));unfold qM at d;rw[dH,Zq l a i (by omega),Sm,df (by omega),show(γ l[i]).toList=[l[i]]from rfl,E4,c];rw[show Ψ (i+1) 0=η from rfl,l5,di (by omega:(48:Z)<=(l[i].toNat:Z)),di (by omega:(l[i].toNat:Z)<=57)];rfl
def Vz{u:O}(h:u<10^8):(gL u).length<=8:=by rw[JY];exact IC 7 u h
def sZ(n:Z)(d: -100000000<n)(e:n<100000000):jp ⟨(bg n).toArray⟩=n:=by
 have a:∀l:E υ,l.length<=9->iR ⟨l.toArray⟩=l.length:=λl h=>by rw[iR,sS];omega
 rw[bg];split
 ·rename_i b
  have c:=Vz (u:=n.natAbs) (by omega);have:=Zq (gL n.natAbs) (Ce _) (gL n.natAbs).length (aQ _);rw[jp,a _ (by simp only[bZ];omega),bZ,this,Bp,acz];show(-1:Z)*(n.natAbs:Z)=n
  omega
 ·rename_i b
  have c:=Vz (u:=n.toNat) (by omega);have:=Zp (gL n.toNat) (Ce _) (gL n.toNat).length (aQ _);rw[jp,a _ (by omega),this,Bp,acz];show(1:Z)*(n.toNat:Z)=n
  omega
def eight(r:Cy):E Z:=[r.c0,r.c1,r.c2,r.c3,r.c4,r.c5,r.c6,r.c7]
def JJ(w:Wh):ng w=bg w.s++58::iW ((eight w.r).map bg) [44]:=rfl
def Nd(n:Z):(58:υ)∉bg n:=Io (by decide) n
def akx(n:Z):(44:υ)∉bg n:=Io (by decide) n
def Wl(n:Z):(32:υ)∉bg n:=Io (by decide) n
def VC(r:Cy):cD 44 (iW ((eight r).map bg) [44])=(eight r).map bg:=by
 refine Mf _ _ λy b=>?_
 have a:y∈ (eight r).map bg:=b;obtain⟨n,_,rfl⟩:=gh.1 a;exact akx n
def ame{b:υ}{c:υ}:∀(xs:E (E υ)),b∈iW xs [c]->b=c\/∃x∈xs,b∈x
 |[],h=>by simp[adK]at h
 |x::xs,h=>by
  rw[tC,nm]at h;rcases h with h|h
  ·exact .inr ⟨x,jA,h⟩
  ·simp only[mD,List.mem_flatten,gh]at h
   obtain⟨l,⟨y,d,rfl⟩,a⟩:=h;rcases nm.1 a with a|a
   ·exact .inl (by simpa using a)
   ·exact .inr ⟨y,l8 _ d,a⟩
def Yo{b:υ}(r:Cy)(c:b≠44)(d:∀n,b∉bg n):b∉iW ((eight r).map bg) [44]:=λa=>by
 rcases ame _ a with e|⟨x,f,a⟩
 ·exact c e
 ·obtain⟨n,_,rfl⟩:=gh.1 f
  exact d n a
def ayP(w:Wh):(32:υ)∉ng w:=by
 rw[JJ,nm,dE];rintro(h|h|h)
 ·exact Wl _ h
 ·cases h
 ·exact Yo w.r (by decide) Wl h
variable {A:Z}
def kz(h: -1000000<=A/\A<=1000000):kq ⟨(bg A).toArray⟩=η/\c9 ⟨(bg A).toArray⟩=A:=by
 have:=afw A (by omega) (by omega);constructor
 ·rw[kq,GI,this]
 ·rw[c9,GI,this]
def acX{w:Wh}(h:e7 w=ε):wo (cU w)=(w,ε):=by
 have a:=D8 h;simp only[J2,iX,Kv,Ky,aj]at a;obtain⟨b,c,d,e,f,i,k,m,n⟩:=a;have o:e_ (cU w).data.toList colon.data.toList=(bg w.s,iW ((eight w.r).map bg) [44],ε):=by
  show e_ (ng w) [58]=_
  rw[JJ];exact Ml (Nd _)
 have q:pR (cU w) colon=⟨(bg w.s).toArray⟩:=by rw[pR,o]
 have r:gE (cU w) colon=⟨(iW ((eight w.r).map bg) [44]).toArray⟩:=by rw[gE,o]
 have p:dD (gE (cU w) colon) comma=((eight w.r).map bg).map λl=>⟨l.toArray⟩:=by rw[r,show comma=ah (ap [44])from rfl,Ev,GI,VC]
 rw[wo,vb,p];simp only[dv,eight,bZ,eY,Nat.reduceAdd];rw[show Ψ 8 8=ε from rfl,a6,q];have g:∀j,js (gE (cU w) colon) comma j=(((eight w.r).map bg).map λl=>(⟨l.toArray⟩:ρ)).getD j ⟨#[]⟩:=λj=>by rw[js,p]
 have g0:js (gE (cU w) colon) comma 0=⟨(bg w.r.c0).toArray⟩:=g 0;have s:js (gE (cU w) colon) comma 1=⟨(bg w.r.c1).toArray⟩:=g 1;have t:js (gE (cU w) colon) comma 2=⟨(bg w.r.c2).toArray⟩:=g 2;have u:js (gE (cU w) colon) comma 3=⟨(bg w.r.c3).toArray⟩:=g 3;have v:js (gE (cU w) colon) comma 4=⟨(bg w.r.c4).toArray⟩:=g 4;have x:js (gE (cU w) colon) comma 5=⟨(bg w.r.c5).toArray⟩:=g 5;have y:js (gE (cU w) colon) comma 6=⟨(bg w.r.c6).toArray⟩:=g 6;have z:js (gE (cU w) colon) comma 7=⟨(bg w.r.c7).toArray⟩:=g 7;rw[JH,g0,s,t,u,v,x,y,z,(kz b).1,(kz c).1,(kz d).1,(kz e).1,(kz f).1,(kz i).1,(kz k).1,(kz m).1,(kz n).1,(kz b).2,(kz c).2,(kz d).2,(kz e).2,(kz f).2,(kz i).2,(kz k).2,(kz m).2,(kz n).2];rfl
def acS{w:Wh}(h:e7 w=ε):rs (cU w)=ε/\A_ (cU w)=w:=by
 have c:=D8 h;simp only[J2,iX,Kv,Ky,aj]at c;obtain⟨o,p,q,r,s,t,u,v,x⟩:=c;have b:eD (cU w) 58=[⟨(bg w.s).toArray⟩,⟨(iW ((eight w.r).map bg) [44]).toArray⟩]:=by
  rw[show(58:Z)=(((58:υ).toNat:O):Z)from rfl,Cb];show Fq _ (cD 58 (ng w))=_
  rw[JJ,Ca _ _ (Nd _),sd _ (Yo w.r (by decide) Nd)];rfl
 have d:bG (cU w) 58 0=⟨(bg w.s).toArray⟩:=by rw[bG,b];rfl
 have e:bG (cU w) 58 1=⟨(iW ((eight w.r).map bg) [44]).toArray⟩:=by rw[bG,b];rfl
 have a:eD (bG (cU w) 58 1) 44=((eight w.r).map bg).map λl=>⟨l.toArray⟩:=by rw[e,show(44:Z)=(((44:υ).toNat:O):Z)from rfl,Cb,GI,VC]
 have g0:bG (bG (cU w) 58 1) 44 0=⟨(bg w.r.c0).toArray⟩:=by rw[bG,a];rfl
 have f:bG (bG (cU w) 58 1) 44 1=⟨(bg w.r.c1).toArray⟩:=by rw[bG,a];rfl
 have g:bG (bG (cU w) 58 1) 44 2=⟨(bg w.r.c2).toArray⟩:=by rw[bG,a];rfl
 have i:bG (bG (cU w) 58 1) 44 3=⟨(bg w.r.c3).toArray⟩:=by rw[bG,a];rfl
 have j:bG (bG (cU w) 58 1) 44 4=⟨(bg w.r.c4).toArray⟩:=by rw[bG,a];rfl
 have k:bG (bG (cU w) 58 1) 44 5=⟨(bg w.r.c5).toArray⟩:=by rw[bG,a];rfl
 have m:bG (bG (cU w) 58 1) 44 6=⟨(bg w.r.c6).toArray⟩:=by rw[bG,a];rfl
 have n:bG (bG (cU w) 58 1) 44 7=⟨(bg w.r.c7).toArray⟩:=by rw[bG,a];rfl
 refine⟨?_,?_⟩
 ·rw[rs,cJ,cJ,b,a]
  rfl
 ·rw[A_,d,g0,f,g,i,j,k,m,n,sZ _ (by omega) (by omega),sZ _ (by omega) (by omega),sZ _ (by omega) (by omega),sZ _ (by omega) (by omega),sZ _ (by omega) (by omega),sZ _ (by omega) (by omega),sZ _ (by omega) (by omega),sZ _ (by omega) (by omega),sZ _ (by omega) (by omega)]
def ab'{w:Wh}:cD 32 (dF (w::L)).data.toList=(w::L).map ng:=by
 show cD 32 (l4 (w::L))=_
 refine Mf _ _ λy b=>?_
 have a:y∈ (w::L).map ng:=b;obtain⟨c,_,rfl⟩:=gh.1 a;exact ayP c
def aca(w:Wh)(L:E Wh):cm (dF (w::L)) dash=η:=by
 refine aiR λe=>?_
 have a:(58:υ)∈ (dF (w::L)).data.toList:=by
  show(58:υ)∈l4 (w::L)
  rw[l4,eG,tC,nm,JJ,nm];exact .inl (.inr jA)
 rw[e]at a;simp[dash]at a
def Q_:dF []=dash:=rfl
def arH(h:∀w∈L,e7 w=ε):eK (dF L)=L/\(cm (dF L) dash||qe (dF L))=ε:=by
 cases L with
 |nil=>exact⟨by rw[eK,Q_,qO];rfl,by rw[Q_,qO];rfl⟩
 |cons w L=>
  have b:dD (dF (w::L)) dt=(w::L).map cU:=by rw[show dt=ah (ap [32])from rfl,Ev,ab',rR];rfl
  constructor
  ·rw[eK,aca,be,b,rR]
   exact(ye (g:=id) λx a=>by simp only[JU,id,acX (h x a)]).trans (Sk _)
  ·rw[qe,b,Fl]
   have:((w::L).all ((λw=>(wo w).2) ∘cU))=ε:=bT.2 λx a=>by simp only[JU,acX (h x a)]
   rw[this,RP]
def abf(h:∀w∈L,e7 w=ε):cm (dF L) dash=ε/\L=[]\/cm (dF L) dash=η/\kH (dF L)=L/\td (dF L)=ε:=by
 cases L with
 |nil=>exact .inl ⟨by rw[Q_,qO],rfl⟩
 |cons w L=>
  have b:eD (dF (w::L)) 32=(w::L).map cU:=by rw[show(32:Z)=(((32:υ).toNat:O):Z)from rfl,Cb,ab',rR];rfl
  refine .inr ⟨aca w L,?_,?_⟩
  ·rw[kH,b,rR]
   exact(ye (g:=id) λx a=>by simp only[JU,id,(acS (h x a)).2]).trans (Sk _)
  ·rw[td,b,Fl]
   exact bT.2 λx a=>by simp only[JU,(acS (h x a)).1]
def Rb(h:bK L):∀w∈L,e7 w=ε:=Pv (rH h)
def aaJ(s:ρ)(T:E Wh):(dJ s=ε/\b6 s=T)↔ (bK T/\dF T=s/\s.size<=1500):=by
 constructor
 ·rintro⟨f,rfl⟩
  have b:=f;rw[dJ,aP,aP,Ao,aP]at b;obtain⟨⟨⟨a,_⟩,_⟩,d⟩:=b;have e:b6 s=tI (eK s):=by rw[b6,f];rfl
  rw[e];exact⟨ve _,My d,aV a⟩
 ·rintro⟨c,rfl,i⟩
  obtain⟨g,j⟩:=arH (Rb c);have h:dJ (dF T)=ε:=by rw[dJ,Ao,g,j,vm c,AQ c,qO,di i];rfl
  exact⟨h,by rw[b6,h,g,AQ c];rfl⟩
def abe(s:ρ)(T:E Wh):(iJ s=ε/\iE s=T)↔ (bK T/\dF T=s/\s.size<=1500):=by
 constructor
 ·rintro⟨k,rfl⟩
  have h:=k;rw[iJ,aP]at h;obtain⟨a,b⟩:=h;cases i:cm s dash with
  |true=>
   have e:iE s=[]:=by rw[iE,i,Bb,g7];rfl
   rw[e];exact⟨zJ,(My i).symm,aV a⟩
  |false=>
   rw[i,JP,aP,aP]at b;obtain⟨⟨q,m⟩,l⟩:=b;have e:iE s=kH s:=by rw[iE,k,i];rfl
   have n:ef (kH s)=dF (tI (kH s)):=by rw[ef,m];rfl
   rw[n]at l;have f:=My l;have c:=ve (kH s);rcases abf (Rb c)with⟨d,_⟩|⟨_,g,_⟩
   ·rw[f,i]at d
    cases d
   ·rw[f]at g
    rw[e];generalize tI (kH s)=T at f c g;subst g;exact⟨c,f,aV a⟩
 ·rintro⟨c,rfl,f⟩
  rcases abf (Rb c)with⟨d,rfl⟩|⟨d,g,o⟩
  ·have j:iJ (dF [])=ε:=by rw[iJ,d,di f];rfl
   exact⟨j,by rw[iE,d,Bb,g7];rfl⟩
  ·have p:ef T=dF T:=by rw[ef,vm c,a6,AQ c]
   have j:iJ (dF T)=ε:=by rw[iJ,d,g,o,vm c,p,qO,di f];rfl
   exact⟨j,by rw[iE,j,d,g];rfl⟩
def P5(s:ρ):iJ s=dJ s/\iE s=b6 s:=by
 cases h:dJ s with
 |true=>obtain⟨c,a⟩:=(abe s (b6 s)).2 ((aaJ s (b6 s)).1 ⟨h,rfl⟩);exact⟨c,a⟩
 |false=>
  have b:iJ s=η:=by
   cases a:iJ s with
   |false=>rfl
   |true=>have:=((aaJ s (iE s)).2 ((abe s (iE s)).1 ⟨a,rfl⟩)).1;rw[h]at this;cases this
  exact⟨b,by rw[iE,b,b6,h];rfl⟩
def k8:E υ->Z
 |45::l=> -jv l
 |l=>jv l
def wh(l:E υ):ξ:=κ (1<=l.length)&&κ (l.length<=4)&&l.all λb=>κ (48<=b.toNat)&&κ (b.toNat<=57)
def qc:E υ->ξ
 |45::l=>wh l
 |l=>wh l
def Mq:∀(k u:O),u<10^k->1<=k->(gL u).length<=k
 |0,_,_,h=>aR h (by omega)
 |1,u,h,_=>by rw[gL,dif_pos (by omega)];exact aQ _
 |k+2,u,h,_=>by
  rw[gL];split
  ·show 1<=k+2
   omega
  ·rw[bN]
   have:=Mq (k+1) (u/10) (by rw[Ke]at h;omega) (by omega);show _+1<=_
   omega
def aok(n:Z):(10:υ)∉bg n:=Io ⟨by decide,.inl (by decide)⟩ n
def am0:nj:=⟨λ|103=>209|210=>259|206=>289|n=>n,λ|9=>9|4=>4|24=>66|3=>3|n=>n,λ|n=>n⟩
def amZ:Go.Proofs.Lays.n103 θ am0:=by repeat' (first|kernel_rfl|(intros;kernel_rfl)|decide|constructor)
def aow(l:E υ):qc l=wh (ya l [45])/\k8 l=bif R8 l [45]then-jv (ya l [45])else jv (ya l [45]):=by
 match l with
 |[]=>exact⟨rfl,rfl⟩
 |b::l=>
  by_cases h:b=45
  ·subst h
   have e:R8 (45::l) [45]=ε:=rfl;unfold ya;rw[e];exact⟨rfl,rfl⟩
  ·have e:R8 (b::l) [45]=η:=by
    show(((45:υ)==b)&&_)=η
    rw[cq.2 (Ne.symm h)];rfl
   unfold ya;rw[e];refine⟨?_,?_⟩
   ·unfold qc
    split
    ·rename_i q
     simp only[mE]at q;exact aR q.1 h
    ·rfl
   ·unfold k8
    split
    ·rename_i q
     simp only[mE]at q;exact aR q.1 h
    ·rfl
def Wg(w:ψ)(e:ae)(s:ρ):Fr (au w) w (xZ w e s):=⟨rfl,rfl,rfl,by rw[Lib.bytesWorld_size];omega,λk a _=>Lib.bytesWorld_at_old w e s k a⟩
def ji(b:υ):ξ:=κ (48<=b.toNat)&&κ (b.toNat<=57)
def ayf(h:l.all ji=ε)(f:l.length<=4):0<=jv l/\jv l<10000:=by
 have c:∀(l:E υ)(a:Z),0<=a->l.all ji=ε->0<=l.foldl (λa b=>10*a+((b.toNat:Z) -48)) a/\l.foldl (λa b=>10*a+((b.toNat:Z) -48)) a<(a+1)*10^l.length:=by
  intro l;induction l with
  |nil=>intro a d _;exact⟨d,by simp;omega⟩
  |cons b l g=>intro a d h;rw[gA,aP]at h;obtain⟨e,h⟩:=h;unfold ji at e;rw[aP,aL,aL]at e;obtain⟨i,j⟩:=g (10*a+((b.toNat:Z) -48)) (by omega) h;rw[Bm];refine⟨i,Int.lt_of_lt_of_le j ?_⟩;rw[bZ,R3,ady (10^l.length:Z) 10,<-Int.mul_assoc];exact adz (by omega) (Int.le_of_lt (Int.pow_pos (by omega)))
 obtain⟨k,m⟩:=c l 0 (R1 _) h;refine⟨k,Int.lt_of_lt_of_le m ?_⟩;rw[adE,xW]
 match l,f with
 |[],_=>simp
 |[_],_=>simp
 |[_,_],_=>simp
 |[_,_,_],_=>simp
 |[_,_,_,_],_=>simp
def agC(s:ρ)(w:ψ)(N:a4 (au w) w)(_:s.size<=1099511627776):aM θ 121 #[.string s] w λe w'=>(bif qc s.data.toList then e=.returned (ι (k8 s.data.toList))else e=pT)/\Fr (au w) w w':=by
 have mixed:=mixed;have r:=Any.strings_CutPrefix amZ s ⟨#[45]⟩ w;obtain⟨S,T⟩:=aow s.data.toList;rw[S,T];have u:(ah #[45]).data.toList=[45]:=rfl;rw[u]at r;have U:(ya s.data.toList [45]).length<=s.data.toList.length:=by
  unfold ya;split
  ·rw[py];omega
  ·exact aQ _
 have hsl:s.data.toList.length=s.size:=by rw[lm];rfl
 generalize ya s.data.toList [45]=d at*;generalize R8 s.data.toList [45]=q at*;have x:wh d=(aH d.length 1 4&&d.all ji):=by
  unfold wh aH ji
  congr 1
  rw[kg];simp only[aP,aL];omega
 rw[x];clear x;have p:(ah d.toArray).size=d.length:=by simp[ay]
 go_enter func121,ntmps121
 go_wp2_with (go_at_call 209;refine r.mono ?_;rintro e w' ⟨rfl,rfl⟩)
 have l:aM θ 123 #[ι d.length,ι 1,ι 4] w' (gm w' (.bool (aH d.length 1 4))):=JD PN [ι d.length,ι 1,ι 4] rfl rfl rfl rfl rfl N;clear r S T u;cases y:aH (d.length:Z) 1 4 with
 |false=>
  rw[y]at l
  go_wp2_with (first|(go_at_call 123;refine l.mono ?_;rintro e w1 ⟨rfl,z⟩)|(go_at_call 70;refine(uM _).mono ?_;rintro e m ⟨rfl,rfl⟩))
  refine⟨rfl,?_,z⟩;rw[y];rfl
 |true=>
  rw[y]at l;have hl4:d.length<=4:=by unfold aH at y;simp only[aP,aL]at y;omega
  have t9:θ.underlying 9=γ .string:=by kernel_rfl
  have A:θ.underlying 22=γ (.slice 5):=by kernel_rfl
  have t5:θ.underlying 5=γ (.int .u8):=by kernel_rfl
  go_wp2_with (first|(go_at_call 123;refine l.mono ?_;rintro e w1 ⟨rfl,z⟩)|(go_at_call 70;refine(uN _).mono ?_;rintro e m ⟨rfl,rfl⟩))
  have t:=aze m 9 22 5 ⟨d.toArray⟩ t9 A t5;have B:Fr (au w') w' (xZ m 5 ⟨d.toArray⟩):=z.trans ((Wg m _ _).mono λk _ hk=>cF z.size hk);have f:∀j,j<d.length->(xZ m 5 ⟨d.toArray⟩).cell? ⟨m.heap.size,j,ζ⟩=γ (.int .u8 (d.getD j 0).toNat):=λj hj=>Lib.bytesWorld_cell m _ ⟨d.toArray⟩ j (by rw[p];exact hj)
  rw[p]at t;generalize xZ m 5 ⟨d.toArray⟩=W at*;generalize grownCap m d.length 0 5=cap at*;have u22:=fL A;rw[t];clear t
  go_wp2
  go_loop [5,20] (λn i=>∃k:O,k<=d.length/\i=.int .i64 k/\n=.int .i64 (jv (d.take k))/\(d.take k).all ji=ε) (λ_ i=>d.length-(intOf i).toNat)
  case atStart=>exact⟨0,ej _,rfl,rfl,rfl⟩
  case round=>
   obtain⟨k,hk,rfl,rfl,I⟩:=hrel;obtain⟨P,Q⟩:=ayf I (by rw[pz];omega);obtain⟨v,L⟩:∃v,v=jv (d.take k):=⟨_,rfl⟩;rw[<-L]at P Q⊢;by_cases o:k<d.length
   ·have hc:=f k o
    have C:d.getD k 0=d[k]:=by simp[o]
    have D:d.take (k+1)=d.take k++[d[k]]:=yf o;have G:d.all ji=ε->ji d[k]=ε:=λh=>bT.1 h _ (ki o)
    rw[C]at hc;have g:ji d[k]=ε->(d.take (k+1)).all ji=ε/\jv (d.take (k+1))=10*v+((d[k].toNat:Z) -48):=λM=>by rw[D,gM,I,E4,<-L];exact⟨by simp[M],rfl⟩
    generalize d[k]=b at*;have c:ji b=η->d.all ji=η:=λM=>by
     cases h:d.all ji with
     |false=>rfl
     |true=>rw[G h]at M;cases M
    have hz:d.length<9223372036854775807:=by omega
    clear f L I C D G N l;by_cases h1:48<=b.toNat
    ·have d1:(48:Z)<=b.toNat:=by omega
     by_cases h2:b.toNat<=57
     ·have d2:(b.toNat:Z)<=57:=by omega
      obtain⟨H,k2⟩:=g (by unfold ji;rw[di h1,di h2];rfl);clear g c
      go_wp2_with fail
      refine(uN _).mono ?_;rintro e w3 ⟨rfl,rfl⟩;clear z B;generalize hX:jv (d.take (k+1))=X at*;generalize hY:(d.take (k+1)).all ji=a at*
      go_wp2_with fail
      refine⟨⟨k+1,by omega,by simp,?_,?_⟩,by simp[intOf];omega⟩
      ·rw[hX,k2]
      ·rw[hY,H]
     ·have d2:¬(b.toNat:Z)<=57:=by omega
      have H:=c (by unfold ji;rw[gN h2,g7]);clear g c
      go_wp2_with fail
      refine(uM _).mono ?_;rintro e w3 ⟨rfl,rfl⟩;refine⟨rfl,?_,B⟩;rw[H,g7];rfl
    ·have d1:¬(48:Z)<=b.toNat:=by omega
     have H:=c (by unfold ji;rw[gN h1,l5]);clear g c
     go_wp2_with fail
     refine(uM _).mono ?_;rintro e w3 ⟨rfl,rfl⟩;refine⟨rfl,?_,B⟩;rw[H,g7];rfl
   ·have R:k=d.length:=by omega
    rw[R,Bp]at I L;have hz:d.length<9223372036854775807:=by omega
    clear f N l;cases q with
    |false=>
     go_wp2_with fail
     go_ret
     exact⟨rfl,B⟩
    |true=>
     go_wp2_with fail
     go_ret
     exact⟨rfl,B⟩
def cS(k:O)(r:E υ):ξ:=Ψ (cD 32 r).length k&&(cD 32 r).all qc
def aN(r:E υ)(i:O):Z:=k8 ((cD 32 r).getD i [])
def eZ{w w':ψ}{a:χ O}(h:w.grownBy w' a){M:O->Prop}(hM:∀k,a=γ k->M k):Fr M w w':=
 ⟨h.os,h.tape,h.output,h.size,λk b c=>h.block k b λe=>c (hM k e.symm)⟩
def dr{a b c:ψ}(h:Fr (au a) a b)(k:Fr (au b) b c):Fr (au a) a c:=h.trans (k.mono λ_ _ d=>cF h.size d)
def Pr{a b:ψ}(h:Fr (au a) a b):a.grownBy b ζ:=⟨h.os,h.tape,h.output,h.size,λk c _=>h.block k c (gi.2 c)⟩
def afd{α:Type}{p:α->ξ}{l:E α}(h:(l.take i).all p=ε)(a:i<l.length):(l.take (i+1)).all p=p l[i]:=by rw[yf a,gM,h];simp
def all_false{α:Type}{p:α->ξ}{l:E α}(a:i<l.length)(h:p l[i]=η):l.all p=η:=by
 cases e:l.all p with
 |false=>rfl
 |true=>rw[bT.1 e _ (ki a)]at h;cases h
def alN:(θ.info? 3).map (λi=>(i.zero,i.size,i.bytes))=γ (γ (ι 0),1,8):=by kernel_rfl
def Mh{c:υ}:∀(l:E υ),∀x∈cD c l,x.length<=l.length:=by
 intro l;induction l with
 |nil=>intro x a;simp[cD]at a;subst a;exact aQ _
 |cons b l d=>
  intro x a;unfold cD at a;rw[bZ];split at a
  ·rcases dE.1 a with rfl|a
   ·exact ej _
   ·have:=d x a
    omega
  ·split at a
   ·rename_i y f e
    rcases dE.1 a with rfl|a
    ·have:=d y (by rw[e];exact jA)
     rw[bZ];omega
    ·have:=d x (by rw[e];exact l8 _ a)
     omega
   ·rw[nq]at a
    subst a;simp
def aul{w a:ψ}(h:a=w.alloc (.cells ((u.map λl=>(⟨l.toArray⟩:ρ)).map b9).toArray N)):Fr (au w) w a/\w.heap.size<a.heap.size/\∀j (c:j<u.length),a.cell? ⟨w.heap.size,j,ζ⟩=γ (.string ⟨u[j].toArray⟩):=by subst h;refine⟨⟨rfl,rfl,rfl,by simp,λk d _=>gJ _ _ _ d⟩,by simp,λj c=>?_⟩;have b:(w.alloc (.cells ((u.map λl=>(⟨l.toArray⟩:ρ)).map b9).toArray N)).heap[w.heap.size]?=γ (.cells ((u.map λl=>(⟨l.toArray⟩:ρ)).map b9).toArray N):=oz w _;unfold oA;simp only;rw[b];simp[c]
def y4(s:ρ)(n:O)(hn:n<=3)(w:ψ)(X:a4 (au w) w)(hsz:s.size<4294967281):aM θ 64 #[.string s,ι n] w λe w'=>(bif cS n s.data.toList then ∃g,w.heap.size<=g/\e=.returned (.slice (γ ⟨g,0,ζ⟩) n n)/\w'.heap[g]?=γ (.cells ((cD 32 s.data.toList).map λx=>ι (k8 x)).toArray 3 (0,0))else e=pT)/\Fr (au w) w w':=by
 have mixed:=mixed;obtain⟨m,hm⟩:=AS X;have B:=RI {uF with} uF.i9 s ⟨#[32]⟩ m w hsz hm (by decide);have hl:=va s ⟨#[32]⟩ (by decide);have L:=Ev s 32;rw[show Bh ⟨#[32]⟩ 0 (Bg s ⟨#[32]⟩) s=dD s ⟨#[32]⟩from rfl,<-hl,L,dv]at B;have f:∀x∈cD 32 s.data.toList,x.length<=1099511627776:=λx N=>by
  have:=Mh _ x N;have e:s.data.toList.length=s.size:=by rw[lm];rfl
  omega
 unfold cS;clear hm hl L;generalize cD 32 s.data.toList=b at*;have t3:θ.underlying 3=γ (.int .i64):=by kernel_rfl
 have z:θ.underlying 80=γ (.slice 3):=by kernel_rfl
 have t71:θ.underlying 38=γ (.slice 9):=by kernel_rfl
 obtain⟨i0,hi,hz0,P,hz2⟩:=info_parts alN;have hbq:((b.length:Z)==(n:Z))=Ψ b.length n:=by rw[kg];simp;omega
 go_enter aeu,ntmps64
 go_wp2_with (go_at_call 15;refine B.mono ?_;rintro e w1 ⟨rfl,Q⟩;obtain⟨f1,z1,c1⟩:=aul Q;clear Q)
 clear B hbq;cases hq:Ψ b.length n with
 |false=>refine(uM _).mono ?_;rintro e w2 ⟨rfl,rfl⟩;exact⟨rfl,by rw[hq];rfl,f1⟩
 |true=>
  have hln:b.length=n:=cA hq;refine(uN _).mono ?_;rintro e w2 ⟨rfl,rfl⟩
  go_wp2_with (at_make;refine wpList_make_own _ rfl _ _ 80 rfl w2.heap.size 3 i0 (ι 0) 1 z hi hz0 P .i64 .i64 n n rfl rfl rfl (by rw[hz2];omega) (by unfold jB;omega) (aQ _) ?_)
  intro w3 c t;have f3:Fr (au w) w w3:=f1.trans (eZ t λk e=>by cases e);have c3:∀j (o:j<b.length),w3.cell? ⟨w.heap.size,j,ζ⟩=γ (.string ⟨b[j].toArray⟩):=λj o=>(oB (a:=⟨w.heap.size,j,ζ⟩) (t.block _ z1 (by simp))).trans (c1 j o)
  have z3:w.heap.size<w3.heap.size:=eN z1 t.size;obtain⟨G,hG⟩:∃G,G=w2.heap.size:=⟨_,rfl⟩;have R:w.heap.size<G:=by omega
  rw[<-hG]at c⊢;clear c1 f1 t hG
  go_wp2
  go_loopw [6,20] (λv i wr=>∃k:O,k<=n/\i=.int .i64 k/\v=.slice (γ ⟨G,0,ζ⟩) k n/\wr.ownsRow G 3 1 (.slice (γ ⟨G,0,ζ⟩) k n) k ((b.map λx=>ι (k8 x)).take k)/\(b.take k).all qc=ε/\Fr (au w) w wr/\w.heap.size<wr.heap.size/\∀j (o:j<b.length),wr.cell? ⟨w.heap.size,j,ζ⟩=γ (.string ⟨b[j].toArray⟩)) (λ_ i _=>n-(intOf i).toNat)
  case atStart=>exact⟨0,ej _,rfl,rfl,c,rfl,f3,z3,c3⟩
  case round=>
   obtain⟨k,hk,rfl,rfl,c,S,H,T,cr⟩:=hrel;by_cases hlt:k<n
   ·have q:k<b.length:=by omega
    have hc:=cr k q;have d:=agC ⟨b[k].toArray⟩ wr ((X.fr H).mono λi _ hi=>cF H.size hi) (by rw[m6];exact f _ (ki q));rw[show(ah b[k].toArray).data.toList=b[k]from rfl]at d;have C:=afd (p:=qc) S q;have r:=all_false (p:=qc) (l:=b) q;have y:((b.map λx=>ι (k8 x)).take k)++[ι (k8 b[k])]=(b.map λx=>ι (k8 x)).take (k+1):=by rw[yf (by rw[dv];exact q),J5]
    have hln2:(b.length:Z)<9223372036854775807:=by omega
    have hlt2:(k:Z)<b.length:=by omega
    clear X f c3 f3 z3;generalize b[k]=x at*;cases N:qc x with
    |false=>
     rw[N]at d;have hfx:=r N;clear C r y S c cr
     go_wp2_with (go_at_call 121;refine d.mono ?_;rintro e w4 ⟨he,f4⟩;obtain rfl:=he)
     refine⟨rfl,?_,dr H f4⟩;rw[hfx,g7];rfl
    |true=>
     rw[N]at d C;clear r S;have next:∀(w4 I:ψ),Fr (au wr) wr w4->(w4.alloc (.cells #[ι (k8 x)] 3)).grownBy I (γ G)->Fr (au w) w I/\w.heap.size<I.heap.size/\∀j (o:j<b.length),I.cell? ⟨w.heap.size,j,ζ⟩=γ (.string ⟨b[j].toArray⟩):=λw4 I h4 h5=>by have g4:=fJ w4 (.cells #[ι (k8 x)] 3) ζ;have z4:=h4.size;have z5:=g4.size;refine⟨(dr H h4).trans ((eZ g4 (M:=au w) λk e=>by cases e).trans (eZ h5 λk e=>by cases e;exact Kb R)),eN T (cF z4 (cF z5 h5.size)),λj o=>?_⟩;refine(oB ?_).trans (cr j o);exact(h5.block _ (eN T (cF z4 z5)) (by simp;omega)).trans ((g4.block _ (eN T z4) (by simp)).trans (h4.block _ T (gi.2 T)))
     clear cr
     go_wp2_with (first|(go_at_call 121;refine d.mono ?_;rintro e w4 ⟨he,f4⟩;obtain rfl:=he)|(at_builtin;refine wpList_append_fits _ rfl _ _ 80 rfl G 3 i0 1 z hi P G k n _ rfl ((c.kept (Pr ‹_›) (by simp[Value.ownBlock])).alloc _) ⟨_,0,ζ⟩ 1 1 [ι (k8 x)] rfl rfl ?c1 ?c2 ?c3 ?_))
     case c1=>
      intro j u o
      match j,o with
      |0,o=>simp at o;subst o;simp[vn]
     case c2=>intro u hu;simp at hu;subst hu;rfl
     case c3=>omega
     intro I D A;obtain⟨n1,n2,n3⟩:=next _ _ ‹_› A;clear d A next c y H
     go_wp2
     go_roundw
     case rel=>exact⟨k+1,by omega,by simp,rfl,D,C,n1,n2,n3⟩
     case measure=>simp[intOf];omega
   ·have hkn:k=n:=by omega
    subst hkn;have U:b.take k=b:=pA (by omega);have W:(b.map λx=>ι (k8 x)).take k=b.map λx=>ι (k8 x):=pA (by rw[dv];omega)
    rw[U]at S;rw[W]at c;clear X f c3 f3 z3 cr U W
    go_wp2
    go_ret
    refine⟨?_,H⟩;rw[hq,S];refine⟨G,Kb R,rfl,?_⟩;rcases c.2 with⟨h,_⟩|⟨g,cap,cur,h,_,hg,_,_,hs,y⟩
    ·cases h
    ·simp only[azE,aC,Addr.mk.injEq,aj,bv]at h
     obtain⟨rfl,rfl⟩:=h;rw[hg,<-y,pA (by rw[lm,hs];exact aQ _)]
def Pp{n g:O}{w:ψ}{t:ae}(a:cS n l=ε)(h:w.heap[g]?=γ (.cells ((cD 32 l).map λx=>ι (k8 x)).toArray t (0,0)))(i:O)(b:i<n):w.cell? ⟨g,i,ζ⟩=γ (ι (aN l i)):=by
 have c:(cD 32 l).length=n:=by unfold cS at a;rw[aP]at a;exact cA a.1
 rw[hO w g i _ _ _ h];unfold aN;simp[show i<(cD 32 l).length by omega]
def fV(a:E Z):E υ:=iW (a.map bg) [32]
def alO:(θ.info? 9).map (λi=>(i.zero,i.size,i.bytes))=γ (γ (.string oh),1,16):=by kernel_rfl
def UV(n:Z)(w:ψ)(a:a4 (au w) w)(b: -9223372036854775808<=n)(c:n<=9223372036854775807):aM θ 18 #[ι n] w (gm w (.string (bE n))):=
 JD ZR [ι n] (δ:={val:=.v (.string (bE n)),aw:=[κ (-9223372036854775808<=n),κ (n<=9223372036854775807)]}) rfl rfl (by simp only[Ω,ax,aj,aL];exact⟨b,c⟩) rfl rfl a
def C7(n:Z)(a: -9223372036854775808<=n)(b:n<=9223372036854775807):(bg n).length<=20:=by
 unfold bg;split
 ·rw[bZ]
  have:=Mq 19 n.natAbs (by omega) (by omega);omega
 ·have:=Mq 19 n.toNat (by omega) (by omega)
  omega
def ab8(k:O):∀(xs:E (E υ)),(∀x∈xs,x.length<=k)->(mD [32] xs).length<=xs.length*(k+1)
 |[],_=>by simp[mD]
 |x::r,h=>by
  have c:=h x jA;have a:=ab8 k r λz b=>h z (l8 _ b)
  unfold mD at a⊢;simp only[eG,Bj,bN,bZ,eY,fZ];omega
def amd(k:O)(xs:E (E υ))(h:∀x∈xs,x.length<=k):(iW xs [32]).length<=xs.length*(k+1):=by
 cases xs with
 |nil=>simp[adK]
 |cons x r=>
  have b:=h x jA;have c:=ab8 k r λz a=>h z (l8 _ a)
  rw[tC,bN,bZ,fZ];omega
def Gv(d:E Z)(b o c:O)(w:ψ)(U:a4 (au w) w)(hl:d.length<=16)(_:d.length<=c)(hb:b<w.heap.size)(g:∀n∈d,-9223372036854775808<=n/\n<=9223372036854775807)(W:∀j (A:j<d.length),w.cell? ⟨b,o+j,ζ⟩=γ (ι d[j])):aM θ 71 #[.slice (γ ⟨b,o,ζ⟩) d.length c] w (gm w (.string ⟨(fV d).toArray⟩)):=by
 have mixed:=mixed;have t3:θ.underlying 3=γ (.int .i64):=by kernel_rfl
 have t187:θ.underlying 80=γ (.slice 3):=by kernel_rfl
 have B:θ.underlying 38=γ (.slice 9):=by kernel_rfl
 obtain⟨i0,Q,X,C,hz2⟩:=info_parts alO
 go_enter aew,ntmps71
 go_wp2_with (at_make;refine wpList_make_own _ rfl _ _ 38 rfl w.heap.size 9 i0 (.string oh) 1 B Q X C .i64 .i64 d.length d.length rfl rfl rfl (by rw[hz2];omega) (by unfold jB;omega) (aQ _) ?_)
 intro w3 f D;have f3:Fr (au w) w w3:=eZ D λk e=>by cases e
 obtain⟨G,S⟩:∃G,G=w.heap.size:=⟨_,rfl⟩;rw[<-S]at f⊢;clear D
 go_wp2
 go_loopw [3,11] (λv i wr=>∃k:O,k<=d.length/\i=.int .i64 k/\v=.slice (γ ⟨G,0,ζ⟩) k d.length/\wr.ownsRow G 9 1 (.slice (γ ⟨G,0,ζ⟩) k d.length) k ((d.map λx=>b9 (bE x)).take k)/\Fr (au w) w wr) (λ_ i _=>d.length-(intOf i).toNat)
 case atStart=>exact⟨0,ej _,rfl,rfl,f,f3⟩
 case round=>
  obtain⟨k,hk,rfl,rfl,f,t⟩:=hrel;by_cases m:k<d.length
  ·have hcw:wr.cell? ⟨b,o+k,ζ⟩=γ (ι d[k]):=(oB (a:=⟨b,o+k,ζ⟩) (t.block b hb (gi.2 hb))).trans (W k m)
   have r:=g _ (ki m);have hit:=UV d[k] wr ((U.fr t).mono λi _ Q=>cF t.size Q) r.1 r.2;have htk:((d.map λx=>b9 (bE x)).take k)++[.string (bE d[k])]=(d.map λx=>b9 (bE x)).take (k+1):=by rw[yf (by rw[dv];exact m),J5]
   have hln2:(d.length:Z)<9223372036854775807:=by omega
   have hlt2:(k:Z)<d.length:=by omega
   clear U g W f3 r;generalize d[k]=x at*;have next:∀(w4 T:ψ),Fr (au wr) wr w4->(w4.alloc (.cells #[.string (bE x)] 9)).grownBy T (γ G)->Fr (au w) w T:=λw4 T h4 h5=>(dr t h4).trans ((eZ (fJ w4 (.cells #[.string (bE x)] 9) ζ) (M:=au w) λk e=>by cases e).trans (eZ h5 λk e=>by cases e;exact Ka S.symm))
   clear S
   go_wp2_with (first|(go_at_call 18;refine hit.mono ?_;rintro e w4 ⟨he,f4⟩;obtain rfl:=he)|(at_builtin;refine wpList_append_fits _ rfl _ _ 38 rfl G 9 i0 1 B Q C G k d.length _ rfl ((f.kept (Pr ‹_›) (by simp[Value.ownBlock])).alloc _) ⟨_,0,ζ⟩ 1 1 [.string (bE x)] rfl rfl ?c1 ?c2 ?c3 ?_))
   case c1=>
    intro j u A
    match j,A with
    |0,A=>simp at A;subst A;simp[vn]
   case c2=>intro u hu;simp at hu;subst hu;rfl
   case c3=>omega
   intro T l q;have n1:=next _ _ ‹_› q;clear hit q next f t
   go_wp2
   go_roundw
   case rel=>exact⟨k+1,by omega,by simp,rfl,by first|exact l|exact htk▸l,n1⟩
   case measure=>simp[intOf];omega
  ·have hkn:k=d.length:=by omega
   subst hkn;have H:(d.map λx=>b9 (bE x)).take d.length=d.map λx=>b9 (bE x):=pA (by rw[dv];exact aQ _)
   rw[H]at f;have I:G<wr.heap.size:=(f.lt G rfl).2;have L:(iW ((d.map bE).map (·.data.toList)) (ah #[32]).data.toList).length<=140737488355328:=by
    have:=amd 20 ((d.map bE).map (·.data.toList)) λx p=>by obtain⟨y,hy,rfl⟩:=gh.1 p;obtain⟨z,hz,rfl⟩:=gh.1 hy;exact C7 z (g z hz).1 (g z hz).2
    simp only[dv]at this;have e:(ah #[32]).data.toList=[32]:=rfl;rw[e];omega
   have s:=Any.strings_Join C_ Cu G 0 d.length (d.map bE) ⟨#[32]⟩ wr (λj x p=>by
    rw[bH,f.cellAt j (by have:=(fY.1 p).1;rw[dv]at this;omega)];rw[Sf]at p⊢;cases h:d[j]?with
    |none=>rw[h]at p;cases p
    |some z=>rw[h]at p;simp only[Bw,aC]at p⊢;rw[p]) I (by rw[dv];omega) (by rw[dv];exact aQ _) L
   rw[dv]at s;have P:iW ((d.map bE).map (·.data.toList)) (ah #[32]).data.toList=fV d:=by rw[rR];rfl
   rw[P]at s;clear U g W f3 H L P f S I hk m;generalize fV d=R at*;generalize d.length=N at*
   go_wp2_with (go_at_call 130;refine s.mono ?_;rintro e w6 ⟨rfl,hb6⟩)
   go_ret
   exact⟨rfl,dr t ((Below.fr hb6).mono λ_ _ h=>h.elim)⟩
abbrev uP:ρ:=⟨#[111,107]⟩
def dW(D:O)(L:E Wh)(w:ψ):Prop:=∃p n c,w.heap[D]?=γ (.cells #[.slice p n c] 34 (0,0))/\bj w (.slice p n c) L
abbrev cn(w:ψ)(D:O):O->Prop:=λk=>w.heap.size<=k\/k=D
def dj(D:O)(L:E Wh)(r:χ (E Wh×E υ))(w:ψ)(e:jM)(w':ψ):Prop:=
 Fr (cn w D) w w'/\match r with
  |some x=>e=.returned (.string ⟨x.2.toArray⟩)/\dW D x.1 w'/\bK x.1
  |none=>e=pT/\dW D L w'
def dW.ne(h:dW i L X):¬ud X i:=λ⟨l,b,a⟩=>by obtain⟨p,n,c,h,_⟩:=h;rw[h]at a;simp only[aC,rT]at a;exact aR a.2.1 (by decide)
def dW.lt(h:dW i L X):i<X.heap.size:=by obtain⟨p,n,c,h,_⟩:=h;exact(cC.1 h).1
def dW.fr{D:O}{w w':ψ}(h:dW D L w)(f:Fr (au w) w w'):dW D L w':=by have a:=h.lt;obtain⟨p,n,c,h,b⟩:=h;exact⟨p,n,c,(f.block D a (gi.2 a)).trans h,b.below f⟩
def a4.nw(h:a4 (cn X i) X):a4 (au X) X:=h.mono λ_ _ a=>.inl a
def a4.fw{w w':ψ}(h:a4 (au w) w)(f:Fr (au w) w w'):a4 (au w') w':=(h.fr f).mono λ_ _ a=>cF f.size a
def a4.Zr{w w':ψ}(h:a4 (cn w i) w)(f:Fr (cn w i) w w'):a4 (cn w' i) w':=(h.fr f).mono λ_ _ a=>a.elim (λx=>.inl (cF f.size x)) .inr
def Fr.o6{w w':ψ}{D:O}(f:Fr (au w) w w'):Fr (cn w D) w w':=f.mono λ_ _ h=>.inl h
def dW.set{L T:E Wh}{p:χ cM}{n c:O}(h:dW i L X)(hs:bj X (.slice p n c) T):dW i T (X.setCell ⟨i,0,ζ⟩ (.slice p n c))/\Fr (cn X i) X (X.setCell ⟨i,0,ζ⟩ (.slice p n c)):=by have b:Fr (λk=>k=i) X (X.setCell ⟨i,0,ζ⟩ (.slice p n c)):=⟨rfl,rfl,rfl,by simp[mL],λk _ d=>kM _ _ _ _ (λe=>d e)⟩;have a:=h.ne;obtain⟨g,j,l,h,_⟩:=h;refine⟨⟨p,n,c,by simp[mL,Ba,h],hs.fr (M:=λk=>k=i) (λk _ e f=>a (e▸f)) b⟩,b.mono λ_ _ e=>.inr e⟩
def bj.slice{v:τ}(h:bj X v L):∃p n c,v=.slice p n c:=by obtain⟨a,_,h,_⟩:=h;simp only[VR]at h;obtain⟨p,c,rfl,_⟩:=h;exact⟨p,_,c,rfl⟩
def Uy(D:O)(p:χ cM)(n c:O)(a:τ)(w:ψ)(b:w.heap[D]?=γ (.cells #[a] 34 (0,0))):aM θ 58 #[.pointer (γ ⟨D,0,ζ⟩),.slice p n c,.bool ε] w λe w'=>e=.returned (.string uP)/\w'=w.setCell ⟨D,0,ζ⟩ (.slice p n c):=by
 have mixed:=mixed;have d:w.cell? ⟨D,0,ζ⟩=γ a:=by rw[hO w D 0 #[a] _ (0,0) b];rfl
 have f:w.frozen? ⟨D,0,ζ⟩=η:=tO w D 0 #[a] _ b;clear b
 go_enter Tp,ntmps58
 go_wp2_with (go_at_call 70;refine(uN _).mono ?_;rintro e g ⟨rfl,rfl⟩)
 go_ret
 exact⟨rfl,rfl⟩
def Ux(D:O)(v:τ)(w:ψ):aM θ 58 #[.pointer (γ ⟨D,0,ζ⟩),v,.bool η] w λe w'=>e=pT/\w'=w:=by
 have mixed:=mixed
 go_enter Tp,ntmps58
 go_wp2_with (go_at_call 70;refine(uM _).mono ?_;rintro e a ⟨rfl,rfl⟩)
 exact⟨rfl,rfl,rfl⟩
def uk{L T:E Wh}{b:ξ}{s:τ}(a:dW i L X)(hs:b=ε->bj X s T)(d:b=ε->bK T):aM θ 58 #[.pointer (γ ⟨i,0,ζ⟩),s,.bool b] X (dj i L (bif b then γ (T,[111,107])else ζ) X):=by
 cases b with
 |false=>refine(Ux i s X).mono ?_;rintro e f ⟨rfl,rfl⟩;exact⟨Fr.refl _ _,rfl,a⟩
 |true=>have hs:=hs rfl;obtain⟨p,n,c,rfl⟩:=hs.slice;obtain⟨k,l,m,g,_⟩:=id a;refine(Uy i p n c _ X g).mono ?_;rintro e f ⟨rfl,rfl⟩;obtain⟨h,j⟩:=a.set hs;exact⟨j,rfl,h,d rfl⟩
def ago(s:ρ)(h:a4 (au X) X):aM θ 111 #[.string s] X (fc X (dJ s) (b6 s)):=by
 cases a:dJ s with
 |false=>have e:tj [.val] (LM dJ b6) [.v (.string s)] [] 0=γ (dU 0 [] (dJ s) (b6 s) []):=rfl;rw[a]at e;refine(y' aoJ [.string s] e rfl rfl rfl h).mono ?_;rintro e i ⟨x,c,rfl,d,_,_,f⟩;exact vj d f
 |true=>
  have g:b6 s=tI (eK s):=by unfold b6;rw[a];rfl
  have e:ai [.val] Lq [.v (.string s)] [] 0=γ {val:=.af [.sl 0 9 0 0 (tI (eK s)).length (γ (tI (eK s)).length),.v (.bool ε)],rd:=[],put:=[],new:=h_ (tI (eK s)),aw:=[dJ s]}:=rfl;rw[g];refine(y' Z1 [.string s] e (by simp only[Ω,ax,aj];exact a) rfl rfl h).mono ?_;rintro e i ⟨x,c,rfl,d,n,o,f⟩;exact vi d (n 0 _ rfl) (λb p=>o 0 b (fA 0) p) f
def L7(s:ρ)(c:a4 (au X) X):aM θ 59 #[.string s] X λe w'=>(bif dJ s then ∃v,e=.returned v/\bj w' v (b6 s)else e=pT)/\Fr (au X) X w':=by
 have mixed:=mixed;have a:=ago s c;cases b:dJ s with
 |false=>
  rw[b]at a;clear c b
  go_enter func59,ntmps59
  go_wp2_with (first|(go_at_call 111;refine a.mono ?_;rintro e g ⟨v,rfl,f,d⟩)|(go_at_call 70;refine(uM _).mono ?_;rintro e h ⟨rfl,rfl⟩))
  exact⟨rfl,rfl,d⟩
 |true=>
  rw[b]at a;clear c b
  go_enter func59,ntmps59
  go_wp2_with (first|(go_at_call 111;refine a.mono ?_;rintro e g ⟨v,rfl,f,d⟩)|(go_at_call 70;refine(uN _).mono ?_;rintro e h ⟨rfl,rfl⟩))
  go_ret
  exact⟨⟨_,rfl,f trivial⟩,d⟩
noncomputable def p9:bc->bc| .seq a _=>a|c=>c
noncomputable def sN:bc->bc| .seq _ b=>b|c=>c
noncomputable def Yq:bc->aX a_| .region _ o _=>o|_=> #[]
def Lg:E τ->χ (τ×E ξ)
 |[.bool b]=>γ (.tuple #[],[b])
 |_=>ζ
def ap6:ak θ 70 (aW Lg):=by
 refine n4 (λargs w=>enters 70 f70 Tq rfl args w) λd x f a c w g=>?_
 unfold Lg at a;split at a
 ·rename_i b
  simp only[aC,cI]at a;obtain⟨rfl,rfl⟩:=a;simp only[Ω,ax,aj]at c;subst c;refine(uN w).mono ?_;rintro e h ⟨rfl,rfl⟩;exact⟨rfl,Fr.refl _ _⟩
 ·cases a
def arX{w w':ψ}(hM:∀k,w.heap.size<=k->B k)(c:a4 B w)(h:∀i,R i=ζ){g n:O}(l:E τ)(t:ae)(y:l.length=n)(m:n<=jB)(z:w.heap.size<=g)(r:w'.heap[g]?=γ (.cells l.toArray t (0,0)))(f:Fr (au w) w w')(A:∀x∈l,x.oneCell'=ε)(G:O->E τ)(C:∀j,j<n->G j=(l.drop j).take 1)(D:Q .ret [.own 0 n] [.row ε n 1 G t]):jR Q B R w (.returned (.slice (γ ⟨g,0,ζ⟩) n n)) w':=by
 have o:=(cC.1 r).1;have s:(λi:O=>if i=0 then γ (⟨g,0,n⟩:Bk)else ζ) 0=γ ⟨g,0,n⟩:=rfl;have d:∀i b,(λi:O=>if i=0 then γ (⟨g,0,n⟩:Bk)else ζ) i=γ b->i=0/\b=⟨g,0,n⟩:=λi b a=>by
  simp only at a;split at a
  ·rename_i e
   cases a;exact⟨e,rfl⟩
  ·cases a
 generalize(λi:O=>if i=0 then γ (⟨g,0,n⟩:Bk)else ζ)=p at*;have u:Fr B w w':=f.mono λk _ v=>hM k v
 refine⟨_,.own 0 n,[.row ε n 1 G t],p,rfl,D,?_,⟨λi=>?_,λi j b H I _ _ L q=>?_,λi b _ a=>?_,λi b a=>?_,c.fr u⟩,u,λi b a=>(by rw[h i]at a;cases a),λi b a=>?_⟩
 ·simp only[VR]
  exact⟨_,s,rfl⟩
 ·cases i with
  |zero=>
   refine .inr ⟨⟨g,0,n⟩,l,t,(0,0),s,r,λ_=>⟨rfl,rfl,rfl,by simp[y],m⟩,aQ _,λj q=>?_⟩;rw[C j q];refine⟨⟨by rw[pz,py];omega,λx N=>A x (adZ (Sl N))⟩,λk v=>?_⟩;have:k=0:=by omega
   subst this;rw[nl,oW,qq];simp
  |succ i=>trivial
 ·have:=(d i b L).1
  have:=(d j H q).1;omega
 ·rw[(d i b a).2]
  exact hM _ z
 ·rw[(d i b a).2]
  exact o
 ·rw[(d i b a).1]
  exact oq
def BN(a:Z->ρ->ξ)(b:ρ->O->Z):E SA->χ FR
 |[.v (.string s),.v (.int .i64 n)]=>γ {val:=.own 0 n.toNat,new:=[.row ε n.toNat 1 (λj=>[.int .i64 (b s j)]) 3],aw:=[a n s,κ (0<=n),κ (n<=3),ω s.size 4294967281]}
 |_=>ζ
def fh(n:Z)(s:ρ):ξ:=cS n.toNat s.data.toList
def fB(s:ρ)(i:O):Z:=aN s.data.toList i
def PG:ak θ 64 (ai [.val,.val] (BN fh fB)):=by
 refine nc enters aeu rfl λv I c r=>?_
 unfold BN at c;split at c
 ·rename_i s n
  simp only[aC]at c;subst c;simp only[Ω,ax,aj,aL,bM]at r;obtain⟨a,A,L,B⟩:=r;refine⟨_,Φ.refl _,λM d w t hM o u h=>?_⟩
  match d,o with
  |[x,y],o=>
   simp only[ir,aB,VR,aj]at o;obtain⟨rfl,rfl⟩:=o;obtain⟨k,rfl⟩:=rQ A;have p:∀i,t i=ζ:=λi=>by
    cases e:t i with
    |none=>rfl
    |some b=>exact aR (h i b e) (by simp[bO])
   have l:=y4 s k (by omega) w (u.eL.mono λi _ C=>hM i C) B;unfold fh at a;rw[cV]at a;rw[a]at l;refine l.mono ?_;rintro e N ⟨⟨g,q,rfl,D⟩,f⟩;have G:(cD 32 s.data.toList).length=k:=by unfold cS at a;rw[aP]at a;exact cA a.1
   refine arX hM u.eL p _ _ (by rw[dv];exact G) (by unfold jB;omega) q D f (λx H=>?_) (λj=>[.int .i64 (fB s j)]) (λj P=>?_) ⟨_,rfl,rfl,Φ.refl _⟩
   ·obtain⟨z,_,rfl⟩:=gh.1 H
    rfl
   ·have m:j<(cD 32 s.data.toList).length:=by omega
    rw[Fo (by rw[dv];exact m),Sn,List.take_zero,J5];unfold fB aN;rw[cX,df m];rfl
 ·cases c
def Ii:E τ->Z
 |[.int .i64 n]=>n
 |_=>0
def zG:E τ->ξ
 |[.int .i64 n]=>κ (-9223372036854775808<=n)&&κ (n<=9223372036854775807)
 |_=>η
def sJ(g:O->E τ)(m:O):E Z:=(dK m).map λj=>Ii (g j)
def ij(a:E Z):ρ:=⟨(fV a).toArray⟩
def F9(a:E Z->ρ):E SA->χ FR
 |[.row m g]=>γ {val:=.v (.string (a (sJ g m))),aw:=[(dK m).all λj=>zG (g j),Δ m 16,ω 0 m]}
 |_=>ζ
def Z_:ak θ 71 (ai [.rd 1 3] (F9 ij)):=by
 refine nc enters aew rfl λP fr q I=>?_
 unfold F9 at q;split at q
 ·rename_i m g
  simp only[aC]at q;subst q;simp only[Ω,ax,aj,bl,bM]at I;obtain⟨Q,hm,h0⟩:=I;refine⟨_,Φ.refl _,λM r w L hM y a s=>?_⟩;have C:∀o,Fr (au w) w o->jR (dX (bJ [Md.rd 1 3] [SA.row m g] []) {val:=.v (.string (ij (sJ g m))),aw:=[(dK m).all λj=>zG (g j),Δ m 16,ω 0 m]}) M L w (.returned (.string (ij (sJ g m)))) o:=λo f=>
   have N:Fr M w o:=f.mono λk _ z=>hM k z
   ⟨_,_,bO [Md.rd 1 3] [SA.row m g],L,rfl,⟨_,rfl,rfl,Φ.refl _⟩,by simp only[VR],⟨λi=>(a.br i).of_block λk z hl=>f.block _ (a.lt i k z) (gi.2 (a.lt i k z)),a.sep,a.own,λi b A=>eN (a.lt i b A) f.size,a.eL.fr N⟩,N,Le.refl _,s⟩
  match r,y with
  |[x],y=>
   simp only[ir,aB,VR,aj]at y;obtain⟨p,c,rfl,_,hc,T⟩:=y;have A:=a.br 0;simp only[bO,Bn]at A;obtain⟨b,t,D⟩:=T (by omega);subst D;rcases A with⟨_,G,_⟩|⟨b',l,t',fz,G,U,_,hn,W⟩
   ·omega
   ·rw[t]at G
    cases G;have u:(sJ g m).length=m:=by simp[sJ]
    have d:∀j,j<m->g j=[.int .i64 (Ii (g j))]/\ -9223372036854775808<=Ii (g j)/\Ii (g j)<=9223372036854775807:=λj B=>by
     have:=bT.1 Q j (np.2 B)
     match hq:g j,this with
     |[.int .i64 n],h=>unfold zG at h;rw[aP,aL,aL]at h;exact⟨rfl,h⟩
    have:=Gv (sJ g m) b.n b.o c w (a.eL.mono λi _ X=>hM i X) (by omega) (by omega) (a.lt 0 b t) (λn H=>?_) (λj B=>?_)
    ·rw[u]at this
     refine this.mono ?_;rintro e o ⟨rfl,hf⟩;exact C o hf
    ·obtain⟨j,B,rfl⟩:=gh.1 H
     exact(d j (np.1 B)).2
    ·have v:j<m:=by omega
     rw[oL U];have:=(W j v).2 0 (by omega);simp only[rS,im]at this;rw[this,(d j v).1];simp[sJ]
 ·cases q
def Jn:Spec:=λa H _=>match a with
 |[.ptr i 1 0 0,.sl j 9 0 0 n c,.v (.bool b)]=>(match H.getD i .gone with
  | .cells [_] t=>bif Ψ t 34 then γ {val:=.v (.string uP),rd:=[i],put:=[(i,.cells [.sl j 9 0 0 n c] t)],aw:=[b]}else ζ
  |_=>ζ)
 |_=>ζ
def ZC:ak θ 58 Jn:=by
 refine⟨λargs w=>enters 58 f58 Tp rfl args w,λT H C δ U f w d D m o W r G I=>?_⟩;unfold Jn at d;split at d
 case h_2=>cases d
 rename_i i j n c b;split at d
 case h_2=>cases d
 rename_i x t X;cases u:Ψ t 34 with
 |false=>rw[u]at d;cases d
 |true=>
 rw[u,a6]at d;cases d;have ht:=cA u;subst ht;simp only[Ω,ax,aj]at D;subst D
 match f,m with
 |[p,s,z],m=>
  simp only[aB,aj]at m;obtain⟨L,M,v⟩:=m;have v:=xO v;subst v;have N:=o i (nq.2 rfl);rw[X]at N;obtain⟨b,l,y,P,Q,g4⟩:=N;simp only[VR]at L;obtain⟨b',R,rfl⟩:=L;rw[y]at R;cases R
  match l,g4 with
  |[v0],_=>
   have g:=M;simp only[VR]at g;obtain⟨q,S,rfl,_⟩:=g;rw[P,show(0+(0*1+0))=0 from rfl];refine(Uy b.n q n S v0 w Q).mono ?_;rintro e w' ⟨rfl,rfl⟩;refine⟨_,U,rfl,Le.refl _,λi h h'=>aR h h',by simp only[VR],λk A a=>?_,λk A a=>by simp at a,rfl,rfl,rfl,by simp[mL],λk a B=>?_,λk A a=>by simp at a,λk k' A b3 _ a=>by simp at a⟩
   ·simp only[eW]at a
    split at a
    ·rename_i e
     subst e;cases a;exact⟨b,[.slice q n S],y,P,by simp[mL,Ba,Q],M,trivial⟩
    ·cases a
   ·exact kM _ _ _ _ (λe=>B (i,_) b (nq.2 rfl) y e.symm)
def dS(n c:O)(f:Θ):E AB:=[.cells [.sl 1 9 0 0 n (γ c)] 34,.row η n 9 (J f) 123]
def DZ(D:O)(ν:Nu):Nu:=λi=>if i=0 then γ ⟨D,0,1⟩else if i=1 then ν 0 else ζ
def Gb(w:ψ)(D c:O)(ν:Nu):Prop:=ν 0=γ ⟨D,0,1⟩/\(∀b,ν 1=γ b->b.n<w.heap.size/\ud w b.n/\b.n≠D)/\(ν 1=ζ->c=0)
def Ch(s:dW i L X)(I:a4 (cn X i) X):∃(c:O)(ν:Nu),Gb X i c ν/\(∀d b,ν d=γ b->d<2)/\RH (cn X i) ν (λb=>(dS L.length c (Y L)).getD b .gone) X:=by
 have t:=s.lt;have u:=s.ne;obtain⟨p,n,c,h,ν,k,r,M⟩:=s;have z:DZ i ν 0=γ ⟨i,0,1⟩:=rfl;have m:DZ i ν 1=ν 0:=rfl;have o:∀d b,DZ i ν d=γ b->(d=0/\b=⟨i,0,1⟩)\/(d=1/\ν 0=γ b):=λd b f=>by
  unfold DZ at f;split at f
  ·cases f
   exact .inl ⟨by assumption,rfl⟩
  ·split at f
   ·exact .inr ⟨by assumption,f⟩
   ·cases f
 have A:∀b,ν 0=γ b->b.n≠i:=λb f e=>u (e▸(k 0 b f).2.2)
 generalize DZ i ν=N at*;simp only[VR]at r;obtain⟨T,P,B,_,Q,C⟩:=r;simp only[azE]at B;obtain⟨rfl,rfl,rfl⟩:=B;refine⟨c,N,⟨z,λb f=>?_,λG=>?_⟩,λd b f=>?_,λd=>?_,λd j b H v g _ f x=>?_,λd b g f=>?_,λd b f=>?_,I⟩
 ·rw[m]at f
  exact⟨(k 0 b f).2.1,(k 0 b f).2.2,A b f⟩
 ·rw[m]at G
  rcases qs c with q|q
  ·exact q
  ·obtain⟨b,f,_⟩:=C q
   rw[G]at f;cases f
 ·rcases o d b f with⟨rfl,_⟩|⟨rfl,_⟩<;>omega
 ·match d with
  |0=>refine⟨_,[.slice p L.length c],z,rfl,h,?_,trivial⟩;simp only[VR];rw[m];exact⟨p,c,rfl,λP q=>ov q,Q,C⟩
  |1=>
   rcases M with⟨a,b,c⟩|⟨b,l,R,S,k,r⟩
   ·exact .inl ⟨a,b,m.trans c⟩
   ·exact .inr ⟨b,l,R,S,m.trans k,r⟩
  |d+2=>trivial
 ·rcases o d b f with⟨rfl,rfl⟩|⟨rfl,_⟩
  ·rcases o j H x with⟨rfl,_⟩|⟨rfl,y⟩
   ·exact aR rfl v
   ·exact λe=>A H y e.symm
  ·cases g
 ·rcases o d b f with⟨rfl,rfl⟩|⟨rfl,_⟩
  ·exact .inr rfl
  ·cases g
 ·rcases o d b f with⟨rfl,rfl⟩|⟨rfl,y⟩
  ·exact t
  ·exact(k 0 b y).2.1
def aaQ{x:AV}(e:R 0=γ ⟨i,0,1⟩)(f:RH B R (λb=>S.getD b .gone) X)(g:S.getD 0 .gone=.cells [x] 34):∃v,X.heap[i]?=γ (.cells #[v] 34 (0,0))/\VR R x v:=by
 have c:=f.br 0;simp only[g]at c;obtain⟨b,l,d,_,h,a⟩:=c;rw[e]at d;cases d
 match l,a with
 |[v],a=>exact⟨v,h,a.1⟩
def ar0{D i n:O}{c:χ O}(f:R 0=γ ⟨D,0,1⟩)(a:RH B R (λb=>S.getD b .gone) X)(g:n=L.length)(h:S.getD 0 .gone=.cells [.sl i 9 0 0 n c] 34)(j:S.getD i .gone=.row ε n 9 (J (Y L)) 123):dW D L X:=by
 obtain⟨v,k,l⟩:=aaQ f a h;have d:=a.br i;simp only[j]at d;have e:=bj.of g l d λb m=>a.lt i b m
 obtain⟨p,o,q,rfl⟩:=e.slice;exact⟨p,o,q,k,e⟩
def Qd{D n c:O}{ν d:Nu}{w w':ψ}(z:Gb w D c ν)(e:Le ν d)(r:Fr (cn w D) w w')(s:RH (cn w D) d (λb=>S.getD b .gone) w')(A:n=L.length)(B:S.getD 0 .gone=.cells [.sl 1 9 0 0 n (γ c)] 34)(C:S.getD 1 .gone=.row η n 9 (J (Y L)) 123):dW D L w':=by
 subst A;obtain⟨G,I,M⟩:=z;obtain⟨v,N,t⟩:=aaQ (e _ _ G) s B;simp only[VR]at t;obtain⟨p,u,rfl,P,x,Q⟩:=t;obtain rfl:=P c rfl;refine⟨p,_,u,N,?_⟩;cases a:ν 1 with
 |none=>obtain rfl:=M a;have R:L=[]:=Sj.1 (ad9.1 x);subst R;refine⟨λ_=>ζ,λi b h=>(by cases h),?_,.inl ⟨rfl,rfl,rfl⟩⟩;simp only[VR];exact⟨p,0,rfl,by simp,aQ _,λh=>aR h (ol 0)⟩
 |some b=>
  obtain⟨y,T,U⟩:=I b a;have m:=e _ _ a;refine⟨λj=>if j=0 then γ b else ζ,λj b' k=>?_,?_,?_⟩
  ·simp only at k
   split at k
   ·cases k
    refine⟨by assumption,eN y r.size,?_⟩;obtain⟨l,o,W⟩:=T;exact⟨l,o,(r.block _ y λh=>h.elim (λh=>by omega) U).trans W⟩
   ·cases k
  ·simp only[VR]
   refine⟨p,u,rfl,by simp,x,λX=>?_⟩;obtain⟨H,f,q⟩:=Q X;rw[m]at f;cases f;exact⟨b,by simp,q⟩
  ·have g:=s.br 1
   simp only[C]at g;rcases g with⟨_,_,g⟩|⟨H,l,t',o,f,q⟩
   ·rw[m]at g
    cases g
   ·rw[m]at f
    cases f;exact .inr ⟨b,l,t',o,by simp,q⟩
def ah0{Γ:aG}(d:aK θ Γ){fn:cb}(r:θ.funcs[I]?=γ fn){L T:E Wh}{t:E υ}{vs:E τ}(s:dW i L X)(u:a4 (cn X i) X)(hex:∀c,(ad θ Γ K 100 fn (.ptr 0 1 0 0::vs.map .v) (dS L.length c (Y L)) (ag 2)).ok λ_ l g=>l=[.v (.string ⟨t.toArray⟩)]/\∃a c,g.getD 0 .gone=.cells [.sl a 9 0 0 T.length c] 34/\g.getD a .gone=.row ε T.length 9 (J (Y T)) 123)(x:bK T):aM θ I (.pointer (γ ⟨i,0,ζ⟩)::vs).toArray X (dj i L (γ (T,t)) X):=by
 obtain⟨c,G,⟨n,_⟩,b,y⟩:=Ch s u;refine(nz (vals:=.pointer (γ ⟨i,0,ζ⟩)::vs) d mixed enters r (de _) (λk z=>.inl z) (hex c) ⟨?_,xP vs⟩ y b).mono ?_
 ·simp only[VR]
  exact⟨_,n,rfl⟩
 ·rintro e H ⟨v,M,g,A,rfl,⟨p,a,c,B,C⟩,q,h,j,m,_⟩
  simp only[mE,aj]at p;subst p;simp only[VR]at q;subst q;exact⟨j,rfl,ar0 (m _ _ n) h rfl B C,x⟩
abbrev p_:dx:=λe T H=>.out e T H
structure TP (Γ:aG) (M:O->Prop) (w:ψ) (ν:Nu) (T:E AV) (H:E AB) (ops:aX a_) (R:jM->ψ->Prop):Prop where
 mk':∃(k:O)(QQ:Ex->E AV->E AB->Prop)(o:a_)(g:FuncId)(args:aX cP)(ts:aX ae),
  (ku θ Γ ops.toList (ops.toList.take k) T H [] λT' H' tr=>cond (jS ops.toList tr.reverse&&wg k ops.toList) (.out .normal T' H') .err).ok QQ/\ops.toList[k]?=γ o/\o.guard=ζ/\o.op=.call ⟨.value (.func g),args,ts⟩/\(∀args w,(g_ g args).run θ w=.ok (.enter g args) w)/\Gk k ops.toList args.toList=ε/\
  ∀T' H',QQ .normal T' H'->∀w' ν' (vals:E τ),aB ν' (args.toList.map (bP T')) vals->(YF k ops.toList=ε->RH M ν' (λb=>H'.getD b .gone) w'/\Le ν ν')->Fr M w w'->a4 M w'->aM θ g vals.toArray w' λe w''=>∃chain,e=.panicked chain/\R (.panicked chain) w''
def ahs{Γ:aG}(j:aK θ Γ){fn:cb}{ops:aX a_}{c:bc}{l w:ψ}{d ν:Nu}{R:jM->ψ->Prop}{a:a8}(hM:∀k,l.heap.size<=k->B k)(r:SR B l d G S a w ν)(s:a.defers=[])(h:TP Γ B l d G S ops R):(xT (.region i ops ε) c).wp θ (bodyPost θ fn R) a w:=by obtain⟨k,X,o,g,args,H,t,u,v,x,y,z,A⟩:=h.mk';refine yu (arL j mixed hM t u v x y z r λC D I M L m f N p P Q n=>(A C D I L m f N (λq=>⟨(p q).heap,(p q).le⟩) P Q).mono ?_);rintro e U ⟨b,rfl,W⟩;exact⟨b,rfl,n.trans s,W⟩
def akB{Γ:aG}(g:aK θ Γ){fn:cb}{n o:bc}{ops:aX a_}{j:bc}(s:θ.funcs[I]?=γ fn)(t:fn.body=γ (.seq n (.seq o (.seq (.region i ops ε) j)))){avs:E AV}{vals:E τ}{Ta T:E AV}{H Ha H1:E AB}{c:jM->ψ->Prop}(hM:∀k,X.heap.size<=k->B k)(u:aB R avs vals)(v:RH B R (λb=>H.getD b .gone) X)(d:∀a b,R a=γ b->a<H.length)(x:(a0 θ Γ 100 K n (avs++eH (fn.ntmps-avs.length) (.v aZ)) H p_).ok λe l m=>e=.normal/\l=Ta/\m=Ha)(y:(a0 θ Γ 100 K o Ta Ha p_).ok λe l m=>e=.normal/\l=T/\m=H1)(h:TP Γ B X R T H1 ops c):aM θ I vals.toArray X c:=by refine FP s t (yu (oF (sq g mixed enters 100 H.length K n (cN _ _ _) B X R hM d _ H p_ _ _ X R x (rF u v d) rfl) ?_));rintro e L z ⟨A,l,m,p,rfl,⟨rfl,rfl,rfl⟩,C,D⟩;refine yu (oF (sq g mixed enters 100 H.length K o (cN _ _ _) B X R hM d _ _ p_ _ _ z p y C D) ?_);rintro e N P ⟨A,l,m,G,rfl,⟨rfl,rfl,rfl⟩,q,r⟩;exact ahs g hM q r h
def amU{D n c:O}{w w':ψ}{ν d:Nu}(i:Gb w D c ν)(j:n=L.length)(k:S.getD 0 .gone=.cells [.sl 1 9 0 0 n (γ c)] 34)(l:S.getD 1 .gone=.row η n 9 (J (Y L)) 123)(g:RH (cn w D) d (λb=>S.getD b .gone) w'/\Le ν d)(h:Fr (cn w D) w w')(v:τ):aM θ 58 #[.pointer (γ ⟨D,0,ζ⟩),v,.bool η] w' λe f=>∃a,e=.panicked a/\dj D L ζ w (.panicked a) f:=by refine(Ux D v w').mono ?_;rintro e f ⟨rfl,rfl⟩;exact⟨_,rfl,h,rfl,Qd i g.2 h g.1 j k l⟩
def Ji{P:bS}{Γ:aG}(L:aK P Γ){cf:Cf}{M:O->Prop}{w0:ψ}{U:Nu}(hM:∀k,w0.heap.size<=k->M k){Q:Ex->E AV->E AB->Prop}(N:TO P M Q cf){all:E a_}{Qw:e9->a8->ψ->Prop}{m:E AV->E AB->am}{tl:E a_}:∀(ops:E a_)(k:O)(T:E AV)(H:E AB)(a:a8)(w:ψ)(ν:Nu),all.drop k=ops++tl->(fE P Γ cf all ops T H m).ok Q->SR M w0 U T H a w ν->(∀T' H' y w' n,(m T' H').ok Q->SR M w0 U T' H' y w' n->y.defers=a.defers->tU P all.toArray Qw (vt (k+ops.length) tl.length) y w')->tU P all.toArray Qw (vt k (ops.length+tl.length)) a w
 |[],k,T,H,a,w,ν,_,h,s,hQ=>by rw[eY,bH];exact hQ T H a w ν h s rfl
 |o::q,k,T,H,a,w,ν,hd,h,s,hQ=>by
  have A:all[k]?=γ o:=by have:=tN (·[0]?) hd;simpa using this
  have W:all.drop (k+1)=q++tl:=by rw[<-Bi,hd];rfl
  have vT:∀t,VR ν (T.getD t .dead) (a.tmps.getD t aZ):=s.tmps;rw[bZ,So,ad0,TL];have X:∀T' H' y w' n,(m T' H').ok Q->SR M w0 U T' H' y w' n->y.defers=a.defers->tU P all.toArray Qw (vt (k+1+q.length) tl.length) y w':=λT' H' y w' n R B h3=>by have:=hQ T' H' y w' n R B h3;rw[bZ,<-J',So]at this;exact this
  clear hQ;have skip:gy all T o.guard η->(xv o T H λT H=>fE P Γ cf all q T H m).ok Q->l_ P all.toArray Qw k (tU P all.toArray Qw (vt (k+1) (q.length+tl.length))) a w:=by
   intro hw h;unfold l_;simp only[vr,A];rw[AZ hw λt _=>vT t];simp only[tz,tQ];unfold xv at h;rcases kT h with⟨R,B⟩|⟨_,B⟩
   ·refine Ji L hM N q (k+1) _ H _ w ν W B (s.put R (Le.refl _) (by simp only[VR]) s.heap s.fr s.cg) λT' H' y w' n A C D=>X T' H' y w' n A C (by rw[D,kG])
   ·exact B.elim
  have kn:gy all T o.guard ε->(xI P Γ cf o T H λT H=>fE P Γ cf all q T H m).ok Q->l_ P all.toArray Qw k (tU P all.toArray Qw (vt (k+1) (q.length+tl.length))) a w:=by
   intro hw h;unfold l_;simp only[vr,A];rw[AZ hw λt _=>vT t];simp only[qA];refine .inl ?_;unfold xI at h;simp only[M0,Hk,CI]at h;split at h
   ·rename_i δ hδ
    obtain⟨ho,h⟩:=zY h;rcases kT h with⟨R,B⟩|⟨_,B⟩
    ·rw[aP]at R
     have u:∀p∈δ.put,(H.getD p.1 .gone).wr=ε:=λp hp=>bT.1 R.2 p hp
     have G:∀j,j<δ.new.length->ν (H.length+j)=ζ:=by
      intro j _;cases S:ν (H.length+j)with
      |none=>rfl
      |some b=>have:=s.cg _ b S;omega
     refine IT L hδ ho (λz _=>lK λt _=>vT t) (λb _=>s.heap.br b) s.heap.lt G (λi' c j' b b' hp _ hne hl R B=>s.heap.sep i' j' b b' hne (u _ hp) hl R B) (s.heap.Gt (λk A=>hM k (cF s.fr.size A)) u) λv w' n I=>?_
     have hRH:=s.heap.step (λk A=>hM k (cF s.fr.size A)) I u G;have e:(λb=>(i3 H δ).getD b .gone)=kp H.length δ λb=>H.getD b .gone:=by
      funext b
      exact Gi u b
     have hdom:∀i b,n i=γ b->i<(i3 H δ).length:=by
      intro i b hb;have hl:(i3 H δ).length=H.length+δ.new.length:=by simp[i3,ta]
      rw[hl];cases S:ν i with
      |some b'=>have:=s.cg i b' S;omega
      |none=>have:=I.cg i S (by rw[hb];simp);omega
     refine Ji L hM N q (k+1) _ _ _ w' n W B (s.put R.1 I.le I.val (by rw[e];exact hRH) (I.fr s.heap u s.fr) hdom) λT' H' y w' n A C D=>X T' H' y w' n A C (by rw[D,kG])
    ·exact B.elim
   ·split at h
    ·rename_i g avs r
     obtain⟨dst,op,ty,pos,after,qz⟩:=o;unfold N1 at r;split at r
     ·rename_i c hop
      simp only at hop;subst hop;split at r
      ·rename_i f hcal
       split at r
       ·rename_i g' caps hf
        simp only[aC,cI]at r;obtain⟨rfl,rfl⟩:=r;have hfv:=lK (T:=T) (a:=a) (ν:=ν) (z:=f) λt _=>vT t
        obtain⟨l,B,h3⟩:=M' hf hfv;have hargs:aB ν (c.args.toList.map (bP T)) (c.args.toList.map a.eval):=uc λx _=>lK λt _=>vT t
        obtain⟨c1,c2⟩:=N _ _ _ _ _ w ν h (hargs.append h3) s.heap s.cg (λk A=>hM k (cF s.fr.size A));have he:(dw a.eval ⟨dst,.call c,ty,pos,after,qz⟩).run P w=.ok (.enter g' (c.args.toList.map a.eval++l).toArray) w:=by
         have e:(c.args.map a.eval++l.toArray)=(c.args.toList.map a.eval++l).toArray:=by apply gg;simp
         rw[<-e];simp[dw,resolve,hcal,B,Fb,invoke,c1]
        unfold ot;rw[he];simp only[yi];refine c2.mono ?_;rintro e w' ⟨v,av,H',n,rfl,k1,k2,k3,k4,k5,k6⟩;rcases kT k1 with⟨d1,d2⟩|⟨_,d2⟩
        ·exact Ji L hM N q (k+1) _ _ _ w' n W d2 (s.put d1 k5 k2 k3 (s.fr.trans k4) k6) λT' H' y w' n A C D=>X T' H' y w' n A C (by rw[D,kG])
        ·exact d2.elim
       ·cases r
      ·cases r
     ·cases r
    ·exact h.elim
  unfold fE at h;cases r:p4 all T o.guard with
  |fail=>rw[r]at h;exact h.elim
  |go=>rw[r]at h;exact kn (by simp[gy,r]) h
  |skip=>rw[r]at h;exact skip (by simp[gy,r]) h
  |ask d b want=>
   rw[r]at h;have hdb:T.getD d .dead=.v (.bool b):=by
    unfold p4 at r;split at r
    ·cases r
    ·split at r
     ·cases r
     ·split at r
      ·rename_i hh;cases r;exact hh
      ·cases r
      ·cases r
   have hs:T.set d (.v (.bool b))=T:=Jk hdb (by simp);cases b<;>cases want<;>simp only[a6,be,hs]at h
   ·exact kn (by simp[gy,r]) h
   ·exact skip (by simp[gy,r]) h
   ·exact skip (by simp[gy,r]) h
   ·exact kn (by simp[gy,r]) h
def arm{Γ:aG}(r:aK P Γ){k id:O}{ops:aX a_}(hM:∀k,X.heap.size<=k->B k){b:E AV->E AB->am}(l:(fE P Γ (λ_ _ _ _=>.err) ops.toList (ops.toList.take k) G S b).ok Q){o:a_}{args:aX cP}{y:aX ae}(q:ops.toList[k]?=γ o)(A:o.guard=ζ)(s:o.op=.call ⟨.value (.func I),args,y⟩)(D:∀args w,(g_ I args).run P w=.ok (.enter I args) w){a:a8}{w:ψ}{ν:Nu}(h:SR B X R G S a w ν)(m:∀T' H',(b T' H').ok Q->∀j w' d (vals:E τ),aB d (args.toList.map (bP T')) vals->SR B X R T' H' j w' d->j.defers=a.defers->aM P I vals.toArray w' λe n=>∃c,e=.panicked c/\C (.panic c) j n):(JR id ops η).wp P C a w:=by
 refine wp_region ?_;have p:k<ops.toList.length:=(fY.1 q).1;have u:(ops.toList.take k).length=k:=by rw[pz];omega
 have v:ops.toList.drop k=o::ops.toList.drop (k+1):=by rw[Fo p];rw[df p]at q;cases q;rfl
 have f:=Ji (Qw:=C) (all:=ops.toList) (tl:=ops.toList.drop k) r hM (Q:=Q) (cf:=λ_ _ _ _=>.err) (λI L H' Kc vals w' d N=>N.elim) (ops.toList.take k) 0 G S a w ν (by rw[J0];exact(ad2 k _).symm) l h λT' H' j w' d U x W=>?_
 ·have e:(ops.toList.take k).length+(ops.toList.drop k).length=ops.size:=by rw[<-bN,ad2];simp
  rw[e]at f;rw[ad1];rw[RO]at f;exact f
 ·rw[u,v,bZ,ad0,TL,bH]
  unfold l_;simp only[vr,q];rw[aU (by simp[ow,A])];refine .inl ?_;unfold ot;rw[Qv s D];simp only[yi];have i:aB d (args.toList.map (bP T')) (args.toList.map j.eval):=uc λz _=>lK λt _=>x.tmps t
  refine(m T' H' U j w' d _ i x W).mono ?_;rintro e n ⟨c,rfl,g⟩;exact g
def I7(bs:E O)(a:E fb):ξ:=a.all λe=>bs.all λb=> !(xR e).elem b
def Wc{S:O->ξ}{b:O}:∀(L:E Item)(k:O)(H:O->AB),(∀x∈L,(xR x.e).elem b=η)->ff S k L H b=H b
 |[],_,_,_=>rfl
 |x::L,k,H,h=>by
  unfold ff;rw[Wc L (k+1) _ λy c=>h y (l8 _ c)];split
  ·refine z6 λd=>?_
   have:=JI d;have a:=h x jA;rw[List.elem_eq_mem,qy]at a;exact a this
  ·rfl
def arM{Γ:aG}(hΓ:aK P Γ)(D:P.follows .mixedOrders=ε){k id:O}{ops:aX a_}(hM:∀k,X.heap.size<=k->B k)(bs:E O)(L:(ku P Γ ops.toList (ops.toList.take k) G S [] λT' H' tr=>cond (jS ops.toList tr.reverse&&(wg k ops.toList&&I7 bs tr.reverse)) (.out .normal T' H') .err).ok Q){o:a_}{args:aX cP}{ts:aX ae}(ho:ops.toList[k]?=γ o)(hg:o.guard=ζ)(hop:o.op=.call ⟨.value (.func I),args,ts⟩)(eg:∀args w,(g_ I args).run P w=.ok (.enter I args) w)(u:Gk k ops.toList args.toList=ε){a:a8}{w:ψ}{ν:Nu}(h:SR B X R G S a w ν)(N:∀T' H',Q .normal T' H'->∀U w' l (vals:E τ),aB l (args.toList.map (bP T')) vals->(∀b∈bs,BR l b (S.getD b .gone) w')->Le R l->Fr B X w'->a4 B w'->U.defers=a.defers->aM P I vals.toArray w' λe W=>∃f,e=.panicked f/\C (.panic f) U W):(JR id ops ε).wp P C a w:=by
 obtain⟨m,T',H',r,p⟩:=zd L;rcases(kT p).symm with⟨_,p⟩|⟨hc,p⟩
 ·exact p.elim
 rw[aP,aP]at hc;obtain⟨v,g,y⟩:=hc;have v:jS ops.toList m=ε:=by simpa using v
 have y:I7 bs m=ε:=by simpa using y
 have H:k<ops.toList.length:=(fY.1 ho).1;have rl:m.length=k:=by rw[Aw r];simp at H⊢;omega
 have ra:=xo r;have n:items (ops.toList.take k) m=items ops.toList m:=by simp only[items];rw[<-rl];exact E_ ops.toList m
 rw[<-RO (xs:=ops)];have hS':SR B X R G S a {w with drawn:=w.drawn+1} ν:=⟨h.tmps,⟨λi=>(h.heap.br i).of_block λ_ _ _=>rfl,h.heap.sep,h.heap.own,h.heap.lt,h.heap.eL⟩,h.fr.drew,h.cg,h.len,h.le⟩;refine TM D ?_;have:=Up (Q:=C) hΓ hM r H v g hS' λd U w' l M hd T c=>?_
 ·simpa using this
 unfold l_;simp only[vr,ho];rw[aU (by simp[ow,hg])];refine .inl ?_;unfold ot;rw[Qv hop eg];simp only[yi];have q:∀(j:O) x,(items ops.toList m)[j]?=γ x->(j<k/\ops.toList[j]?=γ x.o)/\x.e∈m:=by
  intro j x s;simp only[items,Fp]at s;split at s
  ·rename_i o' e' h1 p
   cases s;exact⟨⟨by have:=(fY.1 p).1;omega,h1⟩,kj p⟩
  ·cases s
 have A:aB l (args.toList.map (bP T')) (args.toList.map U.eval):=uc λz hz=>lK λt ht=>by
  subst ht;have e:T'.getD t .dead=gR d 0 (items ops.toList m) (λt=>G.getD t .dead) t:=by
   rw[ra.wi t,n];refine ux rfl λj x s hdx=>?_
   obtain⟨⟨hjk,hjo⟩,_⟩:=q j x s;have:=bT.1 (bT.1 u _ hz) j (np.2 hjk);rw[hjo]at this;simp only[hdx,mG,Bb,JP]at this;rw[bH,T j this]
  rw[e];exact M.tmps t
 refine(N T' H' p U w' l _ A (λb hb=>?_) M.le M.fr M.heap.eL hd).mono ?_
 ·have hq:ff d 0 (items ops.toList m) (λb=>S.getD b .gone) b=S.getD b .gone:=Wc _ _ _ λx s=>by obtain⟨j,hj⟩:=List.getElem?_of_mem s;have h3:=bT.1 (bT.1 y _ (q j x hj).2) b hb;simpa using h3
  rw[<-hq];exact M.heap.br b
 ·rintro e W ⟨f,rfl,hq⟩
  exact hq
def aye(t:cM)(w:ψ):(Ki (.iface 257 (.pointer (γ t)))).run θ w=.ok (.agg #[.pointer (γ ⟨10,257,ζ⟩),.pointer (γ ⟨w.heap.size,0,ζ⟩),.int .u64 150]) (w.alloc (.cells #[.pointer (γ t)] 257)):=by kernel_rfl
def ax'(a:cM)(w:ψ):(azs (FD "reflectlite.Value.Type" 0) (λt _ _ _=>azr t) #[.agg #[.pointer (γ ⟨10,257,ζ⟩),.pointer (γ a),.int .u64 150]]).run θ w=.ok (.iface 309 (.agg #[.pointer (γ ⟨10,257,ζ⟩)])) w:=by kernel_rfl
def anI(h:τ)(w:ψ):(JV 470 309 (.agg #[h]) "Kind").run θ w=.ok (341,h) w:=by kernel_rfl
def amG(w:ψ):((aef λt=>Functor.map (λa:O=>jc pu (a:Z)) (SC t)) #[.pointer (γ ⟨10,257,ζ⟩)]).run θ w=.ok (.int .u8 22) w:=by kernel_rfl
def amF(w:ψ):((aef λt=>Functor.map (λa:O=>jc pu (a:Z)) (SC t)) #[.pointer (γ ⟨10,253,ζ⟩)]).run θ w=.ok (.int .u8 22) w:=by kernel_rfl
def aaU(z:Sem τ)(f:ae->cM->O->O->Sem τ)(v:τ):Kh z f #[v]=(do match<-FC v with|none=>z|some (t,a,fl)=>f t a fl (fl%32)):=rfl
def aar(a:cM)(w:ψ):(FC (.agg #[.pointer (γ ⟨10,257,ζ⟩),.pointer (γ a),.int .u64 150])).run θ w=.ok (γ (257,a,150)) w:=by kernel_rfl
def al_(a p:cM)(W:ψ)(b:W.cell? a=γ (.pointer (γ p))):(Kh (FD "reflectlite.Value.IsNil" 0) aei #[.agg #[.pointer (γ ⟨10,257,ζ⟩),.pointer (γ a),.int .u64 150]]).run θ W=.ok (.bool η) W:=by rw[aaU];simp only[f_,aar,FF];simp[aei,vF,isAgg,KC,underlying257,b,FF]
def anG(h:τ)(w:ψ):(JV 470 309 (.agg #[h]) "Elem").run θ w=.ok (361,.agg #[h]) w:=by kernel_rfl
def anH(h:τ)(w:ψ):(JV 470 309 (.agg #[h]) "Implements").run θ w=.ok (362,.agg #[h]) w:=by kernel_rfl
def Y2(h:τ)(w:ψ):(JV 470 309 (.agg #[h]) "AssignableTo").run θ w=.ok (359,.agg #[h]) w:=by kernel_rfl
def aiE(w:ψ):(azq azo #[.agg #[.pointer (γ ⟨10,257,ζ⟩)]]).run θ w=.ok (.iface 309 (.agg #[.pointer (γ ⟨10,253,ζ⟩)])) w:=by kernel_rfl
def alJ(w:ψ):(FB "Implements" azp #[.agg #[.pointer (γ ⟨10,253,ζ⟩)],.iface 309 (.agg #[.pointer (γ ⟨10,41,ζ⟩)])]).run θ w=.ok (.bool ε) w:=by kernel_rfl
def ayb(v:τ)(w:ψ):(Sy #[.iface 253 v]).run θ w=.ok (.iface 309 (.agg #[.pointer (γ ⟨10,253,ζ⟩)])) w:=by kernel_rfl
def aya(v:τ)(w:ψ):(Sy #[.iface 275 v]).run θ w=.ok (.iface 309 (.agg #[.pointer (γ ⟨10,275,ζ⟩)])) w:=by kernel_rfl
def afs(w:ψ):(FB "AssignableTo" Sx #[.agg #[.pointer (γ ⟨10,253,ζ⟩)],.iface 309 (.agg #[.pointer (γ ⟨10,253,ζ⟩)])]).run θ w=.ok (.bool ε) w:=by kernel_rfl
def afr(w:ψ):(FB "AssignableTo" Sx #[.agg #[.pointer (γ ⟨10,275,ζ⟩)],.iface 309 (.agg #[.pointer (γ ⟨10,253,ζ⟩)])]).run θ w=.ok (.bool η) w:=by kernel_rfl
def ayd(e:cM)(w:ψ):(Ki (.iface 253 (.pointer (γ e)))).run θ w=.ok (.agg #[.pointer (γ ⟨10,253,ζ⟩),.pointer (γ ⟨w.heap.size,0,ζ⟩),.int .u64 150]) (w.alloc (.cells #[.pointer (γ e)] 253)):=by kernel_rfl
def aiF(w:ψ):(Rtype.elem? 257).run θ w=.ok (γ 253) w:=by kernel_rfl
def Tryz.mkM(p:cM)(w:ψ):(aAj 253 p aeh).run θ w=.ok (.agg #[.pointer (γ ⟨10,253,ζ⟩),.pointer (γ p),.int .u64 406]) w:=by kernel_rfl
def aiG(a p:cM)(W:ψ)(b:W.cell? a=γ (.pointer (γ p))):(Kh (FD "reflectlite.Value.Elem" 0) aeg #[.agg #[.pointer (γ ⟨10,257,ζ⟩),.pointer (γ a),.int .u64 150]]).run θ W=.ok (.agg #[.pointer (γ ⟨10,253,ζ⟩),.pointer (γ p),.int .u64 406]) W:=by rw[aaU];simp only[f_,aar,FF];simp[aeg,vF,isAgg,KC,underlying257,b,FF,aiF,Tryz.mkM]
def ar4(v x:τ):aej #[v,x]=(do
 let(γ (dst,a,fl),γ (c,b,_)):=(<-FC v,<-FC x)
  |unsupported (.noEntry "extern/(internal/reflectlite.Value).Set.zeroValue")
 if fl/aeh%2==0 then unsupported (.noEntry "extern/(internal/reflectlite.Value).Set.unaddressable")
 let val<-vF c b
 if<-azC dst c then KB dst a val
 else if<-Rtype.implements dst c then
  if(<-SC c)==20 then
   match val with
   | .nilIface=>unsupported (.noEntry "extern/reflectlite: a nil value of one interface type handed on as a value of another")
   |_=>KB dst a val
  else KB dst a (.iface c val)
 else panicString ("reflectlite.Set: value of type " ++(<-Rtype.spelt c)++ " is not assignable to type " ++(<-Rtype.spelt dst))
 pure (.tuple #[])):=rfl
def ara(a:cM)(w:ψ):(FC (.agg #[.pointer (γ ⟨10,253,ζ⟩),.pointer (γ a),.int .u64 406])).run θ w=.ok (γ (253,a,406)) w:=by kernel_rfl
def aq'(a:cM)(w:ψ):(FC (.agg #[.pointer (γ ⟨10,253,ζ⟩),.pointer (γ a),.int .u64 150])).run θ w=.ok (γ (253,a,150)) w:=by kernel_rfl
def ah5(w:ψ):(azC 253 253).run θ w=.ok ε w:=by kernel_rfl
def atZ(a b e:cM)(c:τ)(W:ψ)(d:W.cell? b=γ (.pointer (γ e)))(f:W.cell? a=γ c)(g:W.frozen? a=η):(aej #[.agg #[.pointer (γ ⟨10,253,ζ⟩),.pointer (γ a),.int .u64 406],.agg #[.pointer (γ ⟨10,253,ζ⟩),.pointer (γ b),.int .u64 150]]).run θ W=.ok (.tuple #[]) (W.setCell a (.pointer (γ e))):=by rw[ar4];simp only[f_,ara,aq',FF];simp[aeh,vF,isAgg,KC,underlying253,d,FF,ah5,KB,Value.cells,storeCells,vn];rw[run_store θ W a _ _ (by rfl)];simp[f,g]
def aon(v:τ)(a:ae)(w:ψ):(Be (.iface 275 v) a 314 ε).run θ w=.ok (.tuple #[.nilIface,.bool η]) w:=run_typeAssert_lacksB underlying314 (by kernel_rfl) (by kernel_rfl) v a w
def aou(v:τ)(a:ae)(w:ψ):(Be (.iface 275 v) a 317 ε).run θ w=.ok (.tuple #[.nilIface,.bool η]) w:=run_typeAssert_lacksB underlying317 (by kernel_rfl) (by kernel_rfl) v a w
def alC(v:τ)(a:ae)(w:ψ):(Be (.iface 275 v) a 319 ε).run θ w=.ok (.tuple #[.iface 275 v,.bool ε]) w:=run_typeAssert_hasB underlying319 (by kernel_rfl) v a w
def anK(h:τ)(w:ψ):(JV 470 275 h "Unwrap").run θ w=.ok (351,h) w:=by kernel_rfl
abbrev Rm(a:cM):τ:=.agg #[.pointer (γ ⟨10,257,ζ⟩),.pointer (γ a),.int .u64 150]
abbrev pM(a:cM):Obj:=.cells #[.pointer (γ ⟨10,257,ζ⟩),.pointer (γ a),.int .u64 150] 280
abbrev hM:τ:=.iface 309 (.agg #[.pointer (γ ⟨10,253,ζ⟩)])
def afq(t:τ)(w:ψ):aM θ 258 #[.nilIface,t] w λe w'=>e=.returned (.bool η)/\w'=w:=by
 go_enter func258,ntmps258
 go_wp2
 go_ret
 exact⟨rfl,rfl⟩
def lA{a:cM}{v:τ}(h:X.cell? a=γ v):a.block<X.heap.size:=by
 rcases om a.block X.heap.size with b|b
 ·exact b
 ·simp[oA,JL b]at h
def Uu(e t a:cM)(b:τ)(w:ψ)(h:w.cell? a=γ (.pointer (γ t)))(c:w.cell? t=γ b)(f:w.frozen? t=η):aM θ 288 #[.iface 253 (.pointer (γ e)),.iface 257 (.pointer (γ t)),Rm a,hM] w λi w'=>i=.returned (.bool ε)/\w'=((w.alloc (pM a)).alloc (.cells #[.pointer (γ e)] 253)).setCell t (.pointer (γ e)):=by
 have n:= @nt θ 285 _ (λargs=>Ki (args.getD 0 (.tuple #[]))) aeq (by kernel_rfl) (by kernel_rfl) (by kernel_rfl) (by kernel_rfl);have j:= @nt θ 306 _ Sy func306 (by kernel_rfl) (by kernel_rfl) (by kernel_rfl) (by kernel_rfl);have k:= @nt θ 359 _ (FB "AssignableTo" Sx) func359 (by kernel_rfl) (by kernel_rfl) (by kernel_rfl) (by kernel_rfl);have l:= @nt θ 307 _ (Kh (FD "reflectlite.Value.Elem" 0) aeg) func307 (by kernel_rfl) (by kernel_rfl) (by kernel_rfl) (by kernel_rfl);have m:= @nt θ 308 _ aej func308 (by kernel_rfl) (by kernel_rfl) (by kernel_rfl) (by kernel_rfl);have o:=ayb;have p:=Y2;have q:=afs;have r:=ayd;have g:=lA h;have d:=lA c;have s:=aiG a t (w.alloc (pM a)) (by rw[fD _ _ a g];exact h);have u:=atZ t ⟨w.heap.size+1,0,ζ⟩ e b ((w.alloc (pM a)).alloc (.cells #[.pointer (γ e)] 253))
  (by rw[tJ _ _ _ _ (by simp)];rfl)
  (by rw[fD _ _ t (by simp;omega),fD _ _ t d];exact c)
  (by rw[Ks _ _ t (by simp;omega),Ks _ _ t (aeb d)];exact f)
 go_enter func288,ntmps288
 go_wp2
 refine oE 1 ?_;rw[oD]
 go_wp2
 go_ret
 exact⟨rfl,rfl⟩
abbrev wIn(w:ψ)(t a e:cM):ψ:=((w.alloc (pM a)).alloc (.cells #[.pointer (γ e)] 253)).setCell t (.pointer (γ e))
def afo(j b e t a:cM)(n c:O)(d:τ)(w:ψ)(A:0<n)(q:w.cell? j=γ (.slice (γ b) n c))(r:w.cell? b=γ (.iface 253 (.pointer (γ e))))(s:w.cell? a=γ (.pointer (γ t)))(f:w.cell? t=γ d)(h:w.frozen? t=η):aM θ 288 #[.iface 275 (.pointer (γ j)),.iface 257 (.pointer (γ t)),Rm a,hM] w λu w'=>u=.returned (.bool ε)/\w'=wIn (w.alloc (pM a)) t a e:=by
 have B:= @nt θ 285 _ (λargs=>Ki (args.getD 0 (.tuple #[]))) aeq (by kernel_rfl) (by kernel_rfl) (by kernel_rfl) (by kernel_rfl);have v:= @nt θ 306 _ Sy func306 (by kernel_rfl) (by kernel_rfl) (by kernel_rfl) (by kernel_rfl);have x:= @nt θ 359 _ (FB "AssignableTo" Sx) func359 (by kernel_rfl) (by kernel_rfl) (by kernel_rfl) (by kernel_rfl);have C:=aya;have D:=Y2;have G:=afr;have H:=aon;have I:=aou;have L:=alC;have M:=anK;have i:=lA q;have k:=lA r;have l:=lA s;have g:=lA f;have y:(w.alloc (pM a)).cell? j=γ (.slice (γ b) n c):=by rw[fD _ _ j i];exact q
 have z:(w.alloc (pM a)).cell? b=γ (.iface 253 (.pointer (γ e))):=by rw[fD _ _ b k];exact r
 have m:(w.alloc (pM a)).cell? a=γ (.pointer (γ t)):=by rw[fD _ _ a l];exact s
 have o:(w.alloc (pM a)).cell? t=γ d:=by rw[fD _ _ t g];exact f
 have p:(w.alloc (pM a)).frozen? t=η:=by rw[Ks _ _ t (aeb g)];exact h
 go_enter func288,ntmps288
 go_wp2
 refine oE 1 ?_;rw[oD]
 go_wp2
 refine oE 1 ?_;rw[oD]
 go_wp2_with (go_at_call 288;refine(Uu e t a d _ m o p).mono ?_;rintro u w' ⟨rfl,rfl⟩)
 go_ret
 exact⟨rfl,rfl⟩
abbrev eT:τ:=.iface 309 (.agg #[.pointer (γ ⟨10,41,ζ⟩)])
abbrev xQ(w:ψ)(t:cM):ψ:=(w.alloc (.cells #[.pointer (γ t)] 257)).alloc (pM ⟨w.heap.size,0,ζ⟩)
def TN{Q:ψ->Prop}(d:ae)(x:τ)(t:cM)(w:ψ)(e:w.cell? ⟨5,0,ζ⟩=γ eT)(b:aM θ 288 #[.iface d x,.iface 257 (.pointer (γ t)),Rm ⟨w.heap.size,0,ζ⟩,hM] (xQ w t) λa w'=>a=.returned (.bool ε)/\Q w'):aM θ 258 #[.iface d x,.iface 257 (.pointer (γ t))] w λa w'=>a=.returned (.bool ε)/\Q w':=by
 have o:= @nt θ 285 _ (λargs=>Ki (args.getD 0 (.tuple #[]))) aeq (by kernel_rfl) (by kernel_rfl) (by kernel_rfl) (by kernel_rfl);have p:= @nt θ 286 _ (azs (FD "reflectlite.Value.Type" 0) (λt _ _ _=>azr t)) func286 (by kernel_rfl) (by kernel_rfl) (by kernel_rfl) (by kernel_rfl);have q:= @nt θ 287 _ (Kh (FD "reflectlite.Value.IsNil" 0) aei) func287 (by kernel_rfl) (by kernel_rfl) (by kernel_rfl) (by kernel_rfl);have f:= @nt θ 341 _ (aef λt=>do pure (.int .u8 (<-SC t))) func341 (by kernel_rfl) (by kernel_rfl) (by kernel_rfl) (by kernel_rfl);have g:= @nt θ 361 _ (azq azo) func361 (by kernel_rfl) (by kernel_rfl) (by kernel_rfl) (by kernel_rfl);have h:= @nt θ 362 _ (FB "Implements" azp) func362 (by kernel_rfl) (by kernel_rfl) (by kernel_rfl) (by kernel_rfl);have r:=aye;have s:=ax';have u:=anI;have v:=anG;have y:=anH;have i:=amG;have j:=amF;have k:=aiE;have l:=alJ;have c:5<w.heap.size:=lA e;have z:=al_ ⟨w.heap.size,0,ζ⟩ t (xQ w t) (by rw[fD _ _ ⟨w.heap.size,0,ζ⟩ (by simp)];simp);have m:(xQ w t).cell? ⟨5,0,ζ⟩=γ eT:=by rw[fD _ _ ⟨5,0,ζ⟩ (by simp<;>omega),fD _ _ ⟨5,0,ζ⟩ c];exact e
 go_enter func258,ntmps258
 go_wp2_with (go_at_call 288;refine b.mono ?_;rintro a w' ⟨rfl,n⟩)
 go_ret
 exact⟨rfl,n⟩
def oX(v:τ)(w:ψ):Prop:=(∃e,v=.iface 253 (.pointer (γ e)))\/∃j b e n c,v=.iface 275 (.pointer (γ j))/\0<n/\w.cell? j=γ (.slice (γ b) n c)/\w.cell? b=γ (.iface 253 (.pointer (γ e)))
def acI{w b:ψ}(h:Below i b w)(c:i<=w.heap.size){t a e:cM}(d:i<=t.block):Below i b (wIn w t a e):=
 ((h.alloc c _).alloc (by simp;omega) _).setCell d _
def aym{w a:ψ}(h:Below i a w)(b:i<=w.heap.size){t:cM}:Below i a (xQ w t):=
 (h.alloc b _).alloc (by simp;omega) _
def aeK(v:τ)(t:cM)(f:τ)(w:ψ)(o:w.cell? ⟨5,0,ζ⟩=γ eT)(s:oX v w)(g:w.cell? t=γ f)(k:w.frozen? t=η)(B:O)(p:B<=t.block):aM θ 258 #[v,.iface 257 (.pointer (γ t))] w λl w'=>l=.returned (.bool ε)/\Below B w w':=by
 have m:=lA g;have i:(xQ w t).cell? ⟨w.heap.size,0,ζ⟩=γ (.pointer (γ t)):=by rw[fD _ _ ⟨w.heap.size,0,ζ⟩ (by simp)];simp
 have d:∀{a:cM}{x:τ},w.cell? a=γ x->(xQ w t).cell? a=γ x:=λh=>by rw[fD _ _ _ (by have:=lA h;simp;omega),fD _ _ _ (lA h)];exact h
 have q:(xQ w t).frozen? t=η:=by rw[Ks _ _ t (by simp;omega),Ks _ _ t (aeb m)];exact k
 have r:=aym (t:=t) (vo B w) (by omega);rcases s with⟨e,rfl⟩|⟨j,b,e,n,c,rfl,u,y,z⟩
 ·refine TN _ _ t w o ((Uu e t _ f _ i (d g) q).mono ?_)
  rintro l w' ⟨rfl,rfl⟩;exact⟨rfl,acI r (by simp;omega) p⟩
 ·refine TN _ _ t w o ((afo j b e t _ n c f _ u (d y) (d z) i (d g) q).mono ?_)
  rintro l w' ⟨rfl,rfl⟩;exact⟨rfl,acI (r.alloc (by simp;omega) _) (by simp;omega) p⟩
def oX.amk{v:τ}{w w':ψ}(h:oX v w)(d:∀a x,w.cell? a=γ x->w'.cell? a=γ x):oX v w':=by
 rcases h with h|⟨j,b,e,n,c,f,g,i,k⟩
 ·exact .inl h
 ·exact .inr ⟨j,b,e,n,c,f,g,d _ _ i,d _ _ k⟩
def aj8(v:τ)(w:ψ)(c:w.cell? ⟨5,0,ζ⟩=γ eT)(e:oX v w):aM θ 205 #[v] w λf w'=>f=.returned (.bool η)/\Below w.heap.size w w':=by
 have g:=lA c;have b:∀(a:cM)(x:τ),w.cell? a=γ x->(w.alloc (.cells #[.pointer ζ] 253)).cell? a=γ x:=λa x h=>by rw[fD _ _ _ (lA h)];exact h
 have d:=aeK v ⟨w.heap.size,0,ζ⟩ (.pointer ζ) (w.alloc (.cells #[.pointer ζ] 253)) (b _ _ c) (e.amk b) (by simp) (by simp) w.heap.size (aQ _);clear e b c
 go_enter aeo,ntmps205
 go_wp2_with (go_at_call 258;refine d.mono ?_;rintro f w' ⟨rfl,i⟩)
 go_ret
 exact⟨rfl,((vo _ w).alloc (aQ _) _).trans i⟩
def aj9(w:ψ):aM θ 205 #[.nilIface] w λb w'=>b=.returned (.bool ε)/\Below w.heap.size w w':=by
 have a:=λ(t:τ)(w:ψ)=>afq t w
 go_enter aeo,ntmps205
 go_wp2_with (go_at_call 258;refine(a _ _).mono ?_;rintro b w' ⟨rfl,rfl⟩)
 go_ret
 exact⟨rfl,(vo _ w).alloc (aQ _) _⟩
def ayq(l h:Z)(w:ψ)(b:aH A l h=ε):aM θ 123 #[.int .i64 A,.int .i64 l,.int .i64 h] w λe w'=>e=.returned (.bool ε)/\w'=w:=by
 have a:=cd.1 b;have c:A>=l:=a.1;have d:A<=h:=a.2
 go_enter Td,aez
 go_wp2
 go_ret
 exact⟨rfl,rfl⟩
def ayp(l h:Z)(w:ψ)(a:aH A l h=η):aM θ 123 #[.int .i64 A,.int .i64 l,.int .i64 h] w λe w'=>e=.returned (.bool η)/\w'=w:=by
 have b:¬(l<=A/\A<=h):=λh=>by rw[cd.2 h]at a;cases a
 clear a;by_cases c:l<=A
 ·have d:¬A<=h:=λd=>b ⟨c,d⟩
  have f:A>=l:=c;clear b c
  go_enter Td,aez
  go_wp2
  go_ret
  exact⟨rfl,rfl⟩
 ·have f:¬A>=l:=c
  clear b c
  go_enter Td,aez
  go_wp2
  go_ret
  exact⟨rfl,rfl⟩
def Hw{n:Z}(w:ψ)(a:aH n 6 240=ε):aM θ 257 #[.int .i64 n] w λe w'=>e=.returned .nilIface/\w'=w:=by
 have b:=λw=>ayq 6 240 w a
 go_enter func257,ntmps257
 go_wp2_with (go_at_call 123;refine(b _).mono ?_;rintro c w' ⟨rfl,rfl⟩)
 go_ret
 exact⟨rfl,rfl⟩
def Hv{n:Z}(w:ψ)(a:aH n 6 240=η):aM θ 257 #[.int .i64 n] w λe w'=>e=.returned (.iface 253 (.pointer (γ ⟨w.heap.size,0,ζ⟩)))/\w'=w.alloc (.cells #[.int .i64 n] 255):=by
 have b:=λw=>ayp 6 240 w a
 go_enter func257,ntmps257
 go_wp2_with (go_at_call 123;refine(b _).mono ?_;rintro c w' ⟨rfl,rfl⟩)
 go_ret
 exact⟨rfl,rfl⟩
abbrev mf(p:cM):τ:=.iface 253 (.pointer (γ p))
def ae6(s:O)(w:ψ)(a:w.cell? ⟨s,0,ζ⟩=γ .nilIface)(b:w.cell? ⟨s,1,ζ⟩=γ .nilIface):aM θ 256 #[.slice (γ ⟨s,0,ζ⟩) 2 2] w λe w'=>e=.returned .nilIface/\w'=w:=by
 have c:=tH
 go_enter Tj,Tv
 go_wp2
 refine oE 3 ?_
 iterate 3
  rw[oD]
  go_wp2
 go_ret
 exact⟨rfl,rfl⟩
def Y3(w:ψ):(adu 274 (ι 0) (ι 1)).run θ w=.ok (.slice (γ ⟨w.heap.size,0,ζ⟩) 0 1) (w.alloc (.cells #[.nilIface] 41)):=by kernel_rfl
def mS2(w:ψ):(adu 274 (ι 0) (ι 2)).run θ w=.ok (.slice (γ ⟨w.heap.size,0,ζ⟩) 0 2) (w.alloc (.cells #[.nilIface,.nilIface] 41)):=by kernel_rfl
def LY(w:ψ)(g n c:O)(s:cM)(x:τ)(a:aX τ)(e:w.heap[g]?=γ (.cells a 41 (0,0)))(f:w.cell? s=γ x)(k:x.oneCell'=ε)(l:n+1<=c)(m:n+1<=a.size):(rP #[274,274] 274 #[.slice (γ ⟨g,0,ζ⟩) n c,.slice (γ s) 1 1]).run θ w=.ok (.slice (γ ⟨g,0,ζ⟩) (n+1) c) (w.setRow g (a.toList.take n++[x]++a.toList.drop (n+1)).toArray):=by
 have b:(θ.info? 41).map (·.size)=γ 1:=by kernel_rfl
 obtain⟨i,b,d⟩:=dL.1 b;have:=run_append_room (P:=θ) w 274 274 41 i underlying274 b g n c a e s 1 1 [x] (by rw[d];rfl) (λj u h=>by
  match j,h with
  |0,h=>simp only[kO,aC]at h;subst h;simpa[vn]using f
  |j+1,h=>simp at h) (by simpa using k) l (by rw[d];simpa using m)
 rw[this,d,rS];rfl
abbrev Rq(w:ψ)(x:τ):ψ:=((w.alloc (.cells #[.nilIface] 41)).alloc (.cells #[.slice (γ ⟨w.heap.size,0,ζ⟩) 0 1] 277)).alloc (.cells #[x] 41)
abbrev E6(w:ψ)(x:τ):ψ:=((w.alloc (.cells #[x] 41)).alloc (.cells #[.slice (γ ⟨w.heap.size,0,ζ⟩) 1 1] 277)).alloc (.cells #[x] 41)
def ayn(w:ψ)(x:τ):(Rq w x).heap[w.heap.size]?=γ (.cells #[.nilIface] 41 (0,0)):=by rw[gJ _ _ _ (by simp;omega),gJ _ _ _ (by simp)];exact aeF w _
def Ur(w:ψ)(p:cM):(rP #[274,274] 274 #[.slice (γ ⟨w.heap.size,0,ζ⟩) 0 1,.slice (γ ⟨w.heap.size+1+1,0,ζ⟩) 1 1]).run θ (Rq w (mf p))=.ok (.slice (γ ⟨w.heap.size,0,ζ⟩) 1 1) ((Rq w (mf p)).setRow w.heap.size #[mf p]):=by refine LY _ _ 0 1 _ (mf p) #[.nilIface] (ayn w _) ?_ rfl (by omega) (by simp);rw[tJ _ _ _ _ (by simp)];rfl
def Rs(w:ψ)(x:τ):Below w.heap.size w (E6 w x):=(((vo _ w).alloc (aQ _) _).alloc (by simp) _).alloc (by simp;omega) _
def ae4(s:O)(p:cM)(w:ψ)(b:w.cell? ⟨s,0,ζ⟩=γ (mf p))(c:w.cell? ⟨s,1,ζ⟩=γ .nilIface):aM θ 256 #[.slice (γ ⟨s,0,ζ⟩) 2 2] w λe w'=>e=.returned (.iface 275 (.pointer (γ ⟨w.heap.size+1,0,ζ⟩)))/\w'=E6 w (mf p):=by
 have d:=tH;have f:=Y3;have g:=Ur w p;have a:s<w.heap.size:=lA b;have h:((w.alloc (.cells #[.nilIface] 41)).alloc (.cells #[.slice (γ ⟨w.heap.size,0,ζ⟩) 0 1] 277)).cell? ⟨s,0,ζ⟩=γ (mf p):=by rw[fD _ _ _ (by simp;omega),fD _ _ _ a];exact b
 have i:(E6 w (mf p)).cell? ⟨s,1,ζ⟩=γ .nilIface:=((Rs w _).cell (p:=⟨s,1,ζ⟩) a).trans c
 go_enter Tj,Tv
 go_wp2
 refine oE 3 ?_
 iterate 3
  rw[oD]
  go_wp2
 refine oE 3 ?_
 iterate 3
  rw[oD]
  go_wp2
 go_ret
 exact⟨rfl,rfl⟩
def ae5(s:O)(p:cM)(w:ψ)(b:w.cell? ⟨s,0,ζ⟩=γ .nilIface)(c:w.cell? ⟨s,1,ζ⟩=γ (mf p)):aM θ 256 #[.slice (γ ⟨s,0,ζ⟩) 2 2] w λe w'=>e=.returned (.iface 275 (.pointer (γ ⟨w.heap.size+1,0,ζ⟩)))/\w'=E6 w (mf p):=by
 have d:=tH;have f:=Y3;have g:=Ur w p;have a:s<w.heap.size:=lA b;have h:((w.alloc (.cells #[.nilIface] 41)).alloc (.cells #[.slice (γ ⟨w.heap.size,0,ζ⟩) 0 1] 277)).cell? ⟨s,0,ζ⟩=γ .nilIface:=by rw[fD _ _ _ (by simp;omega),fD _ _ _ a];exact b
 have i:((w.alloc (.cells #[.nilIface] 41)).alloc (.cells #[.slice (γ ⟨w.heap.size,0,ζ⟩) 0 1] 277)).cell? ⟨s,1,ζ⟩=γ (mf p):=by rw[fD _ _ _ (by simp;omega),fD _ _ _ a];exact c
 go_enter Tj,Tv
 go_wp2
 refine oE 3 ?_
 iterate 3
  rw[oD]
  go_wp2
 refine oE 3 ?_
 iterate 3
  rw[oD]
  go_wp2
 go_ret
 exact⟨rfl,rfl⟩
abbrev wJ2(w:ψ)(x:τ):ψ:=((w.alloc (.cells #[.nilIface,.nilIface] 41)).alloc (.cells #[.slice (γ ⟨w.heap.size,0,ζ⟩) 0 2] 277)).alloc (.cells #[x] 41)
abbrev Rr(w:ψ)(x:τ):ψ:=((w.alloc (.cells #[x,.nilIface] 41)).alloc (.cells #[.slice (γ ⟨w.heap.size,0,ζ⟩) 1 2] 277)).alloc (.cells #[x] 41)
abbrev Rt(w:ψ)(x y:τ):ψ:=(((w.alloc (.cells #[x,y] 41)).alloc (.cells #[.slice (γ ⟨w.heap.size,0,ζ⟩) 2 2] 277)).alloc (.cells #[x] 41)).alloc (.cells #[y] 41)
def afh(w:ψ)(p:cM):(rP #[274,274] 274 #[.slice (γ ⟨w.heap.size,0,ζ⟩) 0 2,.slice (γ ⟨w.heap.size+1+1,0,ζ⟩) 1 1]).run θ (wJ2 w (mf p))=.ok (.slice (γ ⟨w.heap.size,0,ζ⟩) 1 2) ((wJ2 w (mf p)).setRow w.heap.size #[mf p,.nilIface]):=by
 refine LY _ _ 0 2 _ (mf p) #[.nilIface,.nilIface] ?_ ?_ rfl (by omega) (by simp)
 ·rw[gJ _ _ _ (by simp;omega),gJ _ _ _ (by simp)]
  exact aeF w _
 ·rw[tJ _ _ _ _ (by simp)]
  rfl
def afi(w:ψ)(p q:cM):(rP #[274,274] 274 #[.slice (γ ⟨w.heap.size,0,ζ⟩) 1 2,.slice (γ ⟨w.heap.size+1+1+1,0,ζ⟩) 1 1]).run θ ((Rr w (mf p)).alloc (.cells #[mf q] 41))=.ok (.slice (γ ⟨w.heap.size,0,ζ⟩) 2 2) (((Rr w (mf p)).alloc (.cells #[mf q] 41)).setRow w.heap.size #[mf p,mf q]):=by
 refine LY _ _ 1 2 _ (mf q) #[mf p,.nilIface] ?_ ?_ rfl (by omega) (by simp)
 ·rw[gJ _ _ _ (by simp;omega),gJ _ _ _ (by simp;omega),gJ _ _ _ (by simp)]
  exact aeF w _
 ·rw[tJ _ _ _ _ (by simp)]
  rfl
def ae3(s:O)(p q:cM)(w:ψ)(b:w.cell? ⟨s,0,ζ⟩=γ (mf p))(c:w.cell? ⟨s,1,ζ⟩=γ (mf q)):aM θ 256 #[.slice (γ ⟨s,0,ζ⟩) 2 2] w λe w'=>e=.returned (.iface 275 (.pointer (γ ⟨w.heap.size+1,0,ζ⟩)))/\w'=Rt w (mf p) (mf q):=by
 have d:=tH;have f:=mS2;have g:=afh w p;have h:=afi w p q;have a:s<w.heap.size:=lA b;have i:((w.alloc (.cells #[.nilIface,.nilIface] 41)).alloc (.cells #[.slice (γ ⟨w.heap.size,0,ζ⟩) 0 2] 277)).cell? ⟨s,0,ζ⟩=γ (mf p):=by rw[fD _ _ _ (by simp;omega),fD _ _ _ a];exact b
 have j:(Rr w (mf p)).cell? ⟨s,1,ζ⟩=γ (mf q):=by rw[fD _ _ _ (by simp;omega),fD _ _ _ (by simp;omega),fD _ _ _ a];exact c
 go_enter Tj,Tv
 go_wp2
 refine oE 3 ?_
 iterate 3
  rw[oD]
  go_wp2
 refine oE 3 ?_
 iterate 3
  rw[oD]
  go_wp2
 go_ret
 exact⟨rfl,rfl⟩
def Y_(w:ψ)(p:cM):oX (.iface 275 (.pointer (γ ⟨w.heap.size+1,0,ζ⟩))) (E6 w (mf p)):=by
 refine .inr ⟨_,⟨w.heap.size,0,ζ⟩,p,1,1,rfl,by omega,?_,?_⟩
 ·rw[fD _ _ _ (by simp),tJ _ _ _ _ (by simp)]
  rfl
 ·rw[fD _ _ _ (by simp;omega),fD _ _ _ (by simp),tJ _ _ _ _ (by simp)]
  rfl
def anY(w:ψ)(p q:cM):oX (.iface 275 (.pointer (γ ⟨w.heap.size+1,0,ζ⟩))) (Rt w (mf p) (mf q)):=by
 refine .inr ⟨_,⟨w.heap.size,0,ζ⟩,p,2,2,rfl,by omega,?_,?_⟩
 ·rw[fD _ _ _ (by simp),fD _ _ _ (by simp),tJ _ _ _ _ (by simp)]
  rfl
 ·rw[fD _ _ _ (by simp;omega),fD _ _ _ (by simp;omega),fD _ _ _ (by simp),tJ _ _ _ _ (by simp)]
  rfl
def ayo(w:ψ)(x y:τ):Below w.heap.size w (Rt w x y):=((((vo _ w).alloc (aQ _) _).alloc (by simp) _).alloc (by simp;omega) _).alloc (by simp;omega) _
def anT{a b:Z}(w:ψ)(d:aH a 6 240=η)(f:aH b 6 240=ε):aM θ 204 #[.int .i64 a,.int .i64 b,.bool q] w λe w'=>∃v,e=.returned (.tuple #[.int .i64 0,v])/\oX v w'/\Below w.heap.size w w':=by
 have g:=λw=>Hv (n:=a) w d
 have i:=λw=>Hw (n:=b) w f
 have l:=tH;have j:=ae4 (w.heap.size+1) ⟨w.heap.size,0,ζ⟩ ((w.alloc (.cells #[.int .i64 a] 255)).alloc (.cells #[mf ⟨w.heap.size,0,ζ⟩,.nilIface] 41)) (by simp) (by simp);clear d f
 go_enter Kn,Tu
 go_wp2_with fail
 go_at_call 257
 refine(g _).mono ?_;rintro e w' ⟨rfl,k⟩;subst w'
 go_wp2_with fail
 go_at_call 257
 refine(i _).mono ?_;rintro e w' ⟨rfl,k⟩;subst w'
 go_wp2_with fail
 go_at_call 256
 refine j.mono ?_;rintro e w' ⟨rfl,rfl⟩
 go_wp2_with fail
 go_ret2
 refine⟨.iface 275 (.pointer (γ ⟨w.heap.size+1+1+1,0,ζ⟩)),rfl,?_,(((vo _ w).alloc (aQ _) _).alloc (by simp) _).trans ((Rs _ _).mono (by simp;omega))⟩;have h:=Y_ ((w.alloc (.cells #[.int .i64 a] 255)).alloc (.cells #[mf ⟨w.heap.size,0,ζ⟩,.nilIface] 41)) ⟨w.heap.size,0,ζ⟩;simpa using h
def anU{a b:Z}(w:ψ)(d:aH a 6 240=ε)(f:aH b 6 240=η):aM θ 204 #[.int .i64 a,.int .i64 b,.bool q] w λe w'=>∃v,e=.returned (.tuple #[.int .i64 0,v])/\oX v w'/\Below w.heap.size w w':=by
 have g:=λw=>Hw (n:=a) w d
 have i:=λw=>Hv (n:=b) w f
 have l:=tH;have j:=ae5 (w.heap.size+1) ⟨w.heap.size,0,ζ⟩ ((w.alloc (.cells #[.int .i64 b] 255)).alloc (.cells #[.nilIface,mf ⟨w.heap.size,0,ζ⟩] 41)) (by simp) (by simp);clear d f
 go_enter Kn,Tu
 go_wp2_with fail
 go_at_call 257
 refine(g _).mono ?_;rintro e w' ⟨rfl,k⟩;subst w'
 go_wp2_with fail
 go_at_call 257
 refine(i _).mono ?_;rintro e w' ⟨rfl,k⟩;subst w'
 go_wp2_with fail
 go_at_call 256
 refine j.mono ?_;rintro e w' ⟨rfl,rfl⟩
 go_wp2_with fail
 go_ret2
 refine⟨.iface 275 (.pointer (γ ⟨w.heap.size+1+1+1,0,ζ⟩)),rfl,?_,(((vo _ w).alloc (aQ _) _).alloc (by simp) _).trans ((Rs _ _).mono (by simp;omega))⟩;have h:=Y_ ((w.alloc (.cells #[.int .i64 b] 255)).alloc (.cells #[.nilIface,mf ⟨w.heap.size,0,ζ⟩] 41)) ⟨w.heap.size,0,ζ⟩;simpa using h
def anS{a b:Z}(w:ψ)(d:aH a 6 240=η)(f:aH b 6 240=η):aM θ 204 #[.int .i64 a,.int .i64 b,.bool q] w λe w'=>∃v,e=.returned (.tuple #[.int .i64 0,v])/\oX v w'/\Below w.heap.size w w':=by
 have g:=λw=>Hv (n:=a) w d
 have i:=λw=>Hv (n:=b) w f
 have l:=tH;have j:=ae3 (w.heap.size+1+1) ⟨w.heap.size,0,ζ⟩ ⟨w.heap.size+1,0,ζ⟩ (((w.alloc (.cells #[.int .i64 a] 255)).alloc (.cells #[.int .i64 b] 255)).alloc (.cells #[mf ⟨w.heap.size,0,ζ⟩,mf ⟨w.heap.size+1,0,ζ⟩] 41)) (by rw[tJ _ _ _ _ (by simp)];rfl) (by rw[tJ _ _ _ _ (by simp)];rfl);clear d f
 go_enter Kn,Tu
 go_wp2_with fail
 go_at_call 257
 refine(g _).mono ?_;rintro e w' ⟨rfl,k⟩;subst w'
 go_wp2_with fail
 go_at_call 257
 refine(i _).mono ?_;rintro e w' ⟨rfl,k⟩;subst w'
 go_wp2_with fail
 go_at_call 256
 refine j.mono ?_;rintro e w' ⟨rfl,rfl⟩
 go_wp2_with fail
 go_ret2
 refine⟨.iface 275 (.pointer (γ ⟨w.heap.size+1+1+1+1,0,ζ⟩)),rfl,?_,((((vo _ w).alloc (aQ _) _).alloc (by simp) _).alloc (by simp;omega) _).trans ((ayo _ _ _).mono (by simp;omega))⟩;have h:=anY (((w.alloc (.cells #[.int .i64 a] 255)).alloc (.cells #[.int .i64 b] 255)).alloc (.cells #[mf ⟨w.heap.size,0,ζ⟩,mf ⟨w.heap.size+1,0,ζ⟩] 41)) ⟨w.heap.size,0,ζ⟩ ⟨w.heap.size+1,0,ζ⟩;simpa using h
def anR{a b:Z}(w:ψ)(c:aH a 6 240=ε)(d:aH b 6 240=ε)(j:b>=a):aM θ 204 #[.int .i64 a,.int .i64 b,.bool ε] w λe w'=>∃v,e=.returned (.tuple #[.int .i64 0,v])/\oX v w'/\Below w.heap.size w w':=by
 have f:=λw=>Hw (n:=a) w c
 have g:=λw=>Hw (n:=b) w d
 have k:=tH;have h:=ae6 w.heap.size (w.alloc (.cells #[.nilIface,.nilIface] 41)) (by simp) (by simp);clear c d
 go_enter Kn,Tu
 go_wp2_with fail
 go_at_call 257
 refine(f _).mono ?_;rintro e w' ⟨rfl,i⟩;subst w'
 go_wp2_with fail
 go_at_call 257
 refine(g _).mono ?_;rintro e w' ⟨rfl,i⟩;subst w'
 go_wp2_with fail
 go_at_call 256
 refine h.mono ?_;rintro e w' ⟨rfl,rfl⟩
 go_wp2_with fail
 go_ret2
 exact⟨_,rfl,.inl ⟨_,rfl⟩,((vo _ w).alloc (aQ _) _).alloc (by simp) _⟩
def jH(a b:Z)(c:ξ):ξ:=aH a 6 240&&(aH b 6 240&& !(c&&κ (b>=a)))
def anV{a b:Z}(w:ψ)(h:jH a b q=η):aM θ 204 #[.int .i64 a,.int .i64 b,.bool q] w λe w'=>∃v,e=.returned (.tuple #[.int .i64 0,v])/\oX v w'/\Below w.heap.size w w':=by
 cases f:aH a 6 240 with
 |false=>
  cases d:aH b 6 240 with
  |false=>exact anS w f d
  |true=>exact anT w f d
 |true=>
  cases d:aH b 6 240 with
  |false=>exact anU w f d
  |true=>
   cases q with
   |false=>rw[jH,f,d]at h;cases h
   |true=>
    have g:κ (b>=a)=ε:=by
     cases i:κ (b>=a)with
     |true=>rfl
     |false=>rw[jH,f,d,i]at h;cases h
    exact anR w f d (aV g)
def ft(a b:Z):Z:=(Nat.gcd a.natAbs b.natAbs:Z)
def vQ(gf:Z->Z->Z):E SA->χ FR
 |[.v (.int .i64 a),.v (.int .i64 b)]=>γ {val:=.v (ι (gf a b)),aw:=[aH a (-1000000000000) 1000000000000,aH b (-1000000000000) 1000000000000]}
 |_=>ζ
def apE:ak θ 154 (ai [.val,.val] (vQ ft)):=by
 refine⟨PD.1,λh H f Q u i w c y z A p B j k=>?_⟩;unfold ai at c;split at c
 case h_2=>cases c
 rename_i g q;split at c
 case h_2=>cases c
 rename_i C n;unfold vQ at n;split at n
 case h_2=>cases n
 rename_i a b l;cases n;have D:=c;simp only[lY]at c;cases o:((!oT [Md.val,Md.val]||j0 ((er [Md.val,Md.val] g).filterMap id))&&([]:E AB).all lP&&Ψ (bJ [Md.val,Md.val] (g.map (·.sa)) []).length (bO [Md.val,Md.val] (g.map (·.sa))).length)with
 |false=>rw[o]at c;cases c
 |true=>
 rw[o]at c;simp only[a6,aC]at c;subst c;have m:aJ (g.flatMap (·.ob))=ε/\aJ [aH a (-1000000000000) 1000000000000,aH b (-1000000000000) 1000000000000]=ε:=by simpa[aJ,gM]using y
 have r:=m.2;simp only[Ω]at r;have G:=cd.1 r.1;have I:=cd.1 r.2.1;have s:ai [.val,.val] BL h H f=γ {val:=.v (ι (ft a b)),rd:=(er [Md.val,Md.val] g).filterMap id,put:=fS (er [Md.val,Md.val] g) (bJ [Md.val,Md.val] (g.map (·.sa)) []),new:=[],aw:=g.flatMap (·.ob)++[]}:=by unfold ai;rw[q];simp only[l,BL,lY,Hu G I];rw[l]at o;simp only[o];rfl
 refine(PD.2 h H f _ u i w s (by simpa[aJ,gM]using m.1) z A p B j (k.call λx l=>by first|exact l|cases l)).mono ?_;rintro e S ⟨v,t,rfl,d⟩;exact⟨v,t,rfl,d.le,d.cg,d.val,d.put,d.new,d.os,d.tape,d.output,d.size,d.block,d.fresh,d.apart⟩
abbrev Dw:Ex->E O:=cj [0,1] [0] [4]
def asz(a b:Z):a0 θ g0 100 K (a5 0 SK) (ar 0 15 ((Dw .normal).zip [.v (ι a),.v (ι b)])) [] (cw 15 Dw 0)=bif b != (0:Z)then Ξ [!κ (b=(0:Z))] (am.out .normal [vI b,vI (Int.tmod a b)] [])else am.out (Ex.exit 0) [vI a] []:=by kernel_rfl
noncomputable abbrev Oy(a b c:Z):O->χ Sum:=bX 0 (bm 15 (Dw .normal) 0 [.v (ι a),.v (ι b)] [] (λd=>d .normal (ar 0 15 [(0,.v (ι c))]) []))
def awV(a b c:Z):ad θ g0 (Oy a b c) 100 SK [.v (ι a),.v (ι b)] [] (ag 0)=Ξ [cy ([vI a,vI b]=[vI a,vI b]/\Φ [] [])] (rO [vI (if aa .i64 ((0:Z) -c)>c then aa .i64 ((0:Z) -c)else c)] []):=by kernel_rfl
def auT(a b:Z):ck θ 0 (.block 0 (.loop (a5 0 SK))) (bm 15 (Dw .normal) 0 [.v (ι a),.v (ι b)] [] (λd=>d .normal (ar 0 15 [(0,.v (ι (gI (b.natAbs+1) a b)))]) [])):=by
 refine Dd ba (n:=100) (m:=0) (lv:=Dw) (σ:=O×Z×Z) (λs=>[.v (ι s.2.1),.v (ι s.2.2)]) (λ_=>[]) (λs=>s.2.2.natAbs<s.1/\gI s.1 s.2.1 s.2.2=gI (b.natAbs+1) a b) (λs=>s.1) (b.natAbs+1,a,b) (λ_=>K) (du rfl rfl rfl) (aQ _) ⟨fA _,rfl⟩ λd Q g s h=>⟨cN _ _ _,?_⟩
 obtain⟨n,x,y⟩:=s;obtain⟨f,e⟩:=h;rw[asz];cases n with
 |zero=>exact aR f (dh _)
 |succ n=>
  refine aD (λc=>?_) λc=>?_
  ·have c:y≠0:=by simpa using c
   have e:gI n y (x.tmod y)=gI (b.natAbs+1) a b:=by
    rw[<-e];show _=if y=0 then x else gI n y (x.tmod y)
    rw[bI c]
   have f:y.natAbs<n+1:=f;have k:(x.tmod y).natAbs<y.natAbs:=by rw[adA];exact tD _ (by omega)
   exact aq (by simp[aJ,c]) (F ⟨(n,y,x.tmod y),⟨⟨by show(x.tmod y).natAbs<n;omega,e⟩,fA _⟩,rfl,.nil⟩)
  ·have c:y=0:=by simpa using c
   have e:x=gI (b.natAbs+1) a b:=by
    rw[<-e];show _=if y=0 then x else gI n y (x.tmod y)
    rw[aU c]
   refine F ⟨_,.nil,?_⟩;rw[aU rfl];rw[<-e]at g;exact g
def ZQ:ak θ 131 (ai [.val,.val] (vQ ft)):=by
 refine ca ba func131 rfl λf i c d=>?_
 unfold vQ at c;split at c
 ·rename_i a b
  cases c;simp only[Ω]at d;obtain⟨g,h,_⟩:=d;have e:=Hu (cd.1 g) (cd.1 h);refine⟨[],Oy a b (gI (b.natAbs+1) a b),100,.nil,da (auT a b),?_⟩;show aE (ad θ g0 (Oy a b (gI (b.natAbs+1) a b)) 100 SK [.v (ι a),.v (ι b)] [] (ag 0)) _
  rw[awV];refine aq (by rw[Ω];exact⟨cG ⟨rfl,.nil⟩,rfl⟩) (F ⟨_,rfl,?_,.nil⟩);show[AV.v (ι (mX a b))]=[AV.v (ι (ft a b))]
  rw[e];rfl
 ·cases c
def CS(gf:Z->Z->Z):aG:=ext (ext g0 131 (ai [.val,.val] (vQ gf))) 154 (ai [.val,.val] (vQ gf))
def wC(yI:E Wh->ξ)(tI:E Wh->E Wh):aG:=ext (ext g0 128 (tj bF (Gc yI tI))) 102 (ai bF (qC yI tI))
noncomputable abbrev MJ:cb:=f73
noncomputable abbrev MK:cb:=f88
abbrev qW(m:O)(f:Θ)(k:O)(g:Θ):E AB:=[.row η m 9 (J f) 123,.row η k 9 (J g) 123]
abbrev qX(m:O)(f:Θ)(k:O)(g:Θ):E AB:=[.row η m 9 (J f) 123,.row ε k 9 (J g) 123]
abbrev kx(m:O)(f:Θ):E AB:=[.row η m 9 (J f) 123]
abbrev DB:Ex->E O:=cj [5,15,16,17] [5] [2]
abbrev EJ(k:O)(x:Z)(i:O):E AV:=[.v (ι x),.sl 1 9 0 0 k (γ k),.v (ι k),.v (ι i)]
def asK(gf:Z->Z->Z)(m:O)(f:Θ)(k:O)(g:Θ)(x:Z)(i:O):let a:=(↑i:Z);let c:=AB.row η m 9 (J f) 123;let d:=(g (0+aT a) 0);let e:=(-1000000000000:Z);let h:=(1000000000000:Z);let b:=(↑k:Z);a0 θ (CS gf) 100 K (a5 0 MJ) (ar 0 27 ((DB .normal).zip (EJ k x i))) (qW m f k g) (cw 27 DB 1)
 =bif κ (a<b)then Ξ [κ (a<b),κ (0+aT a<k),aH x e h,aH d e h] (am.out .normal [vI (gf x d),AV.sl 1 9 0 0 k (γ k),vI b,vI (aa .i64 (a+(1:Z)))] [c,AB.row η k 9 (J g) 123])else am.out (Ex.exit 0) [vI x] [c]:=by intros;kernel_rfl
noncomputable abbrev amJ(m:O)(f:Θ)(k:O)(g:Θ)(x:Z):O->χ Sum:=bX 0 (bm 27 (DB .normal) 1 (EJ k 0 0) (qW m f k g) (λa=>a .normal (ar 0 27 [(5,.v (ι x))]) (kx m f)))
def axg(yI:E Wh->ξ)(tI:E Wh->E Wh)(m:O)(f:Θ)(k:O)(g:Θ)(x:Z):let b:=(V (ο λq=>J f (0+q)) m);let a:=(ce (tI b));let c:=AB.row η m 9 (J f) 123;ad θ (wC yI tI) (amJ m f k g x) 100 MJ [.sl 0 9 0 0 m ζ] (kx m f) (ag 1)
 =Ξ [Δ (0+m) m,aF m λq=>J f (0+q),κ (m<=274877906944)] (bif !yI b then rO [vI (-1:Z)] [c]else Ξ [cy ([vI 0,AV.sl 1 9 0 0 a (γ a),vI (↑a:Z),vI 0]=EJ k (0:Z) 0/\Φ [c,AB.row η a 9 (J (Y (tI b))) 123] (qW m f k g))] (rO [vI x] [c])):=by intros;kernel_rfl
abbrev DC:Ex->E O:=cj [3,5,6] [5] [2]
abbrev EK(k:O)(x:Z)(i:O):E AV:=[.own 1 k,.v (ι x),.v (ι i)]
def asL(gf:Z->Z->Z)(m:O)(f:Θ)(k:O)(g:Θ)(x:Z)(i:O):let a:=(↑i:Z);let b:=AB.row η m 9 (J f) 123;let c:=(-1000000000000:Z);let d:=(1000000000000:Z);let e:=(g (aT a) 0);a0 θ (CS gf) 100 K (a5 0 MK) (ar 0 28 ((DC .normal).zip (EK k x i))) (qX m f k g) (cw 28 DC 1)
 =bif κ (a<(↑k:Z))then Ξ [κ (a<(↑k:Z)),κ (aT a<k),aH x c d,aH e c d] (am.out .normal [AV.own 1 k,vI (gf x e),vI (aa .i64 (a+(1:Z)))] [b,AB.row ε k 9 (J g) 123])else am.out (Ex.exit 0) [vI x] [b]:=by intros;kernel_rfl
noncomputable abbrev amK(m:O)(f:Θ)(k:O)(g:Θ)(x:Z):O->χ Sum:=bX 0 (bm 28 (DC .normal) 1 (EK k 0 0) (qX m f k g) (λa=>a .normal (ar 0 28 [(5,.v (ι x))]) (kx m f)))
def axh(yI:E Wh->ξ)(tI:E Wh->E Wh)(m:O)(f:Θ)(k:O)(g:Θ)(x:Z):let a:=(V (ο λq=>J f (0+q)) m);let b:=AB.row η m 9 (J f) 123;let c:=(ce (tI a));ad θ (wC yI tI) (amK m f k g x) 100 MK [.sl 0 9 0 0 m ζ] (kx m f) (ag 1)
 =Ξ [Δ (0+m) m,aF m λq=>J f (0+q),κ (m<=274877906944)] (bif !yI a then rO [vI (-1:Z)] [b]else Ξ [cy ([AV.own 1 c,vI 0,vI 0]=EK k (0:Z) 0/\Φ [b,AB.row ε c 9 (J (Y (tI a))) 123] (qX m f k g))] (rO [vI x] [b])):=by intros;kernel_rfl
noncomputable abbrev MM:cb:=f72
noncomputable abbrev MN:cb:=f87
abbrev DD:Ex->E O:=cj [3,5,15,16,17] [5] [2]
abbrev EL(k:O)(x:Z)(i:O):E AV:=[.sl 1 9 0 0 k (γ k),.v (ι x),.sl 1 9 0 0 k (γ k),.v (ι k),.v (ι i)]
def asM(gf:Z->Z->Z)(m:O)(f:Θ)(k:O)(g:Θ)(x:Z)(i:O):let a:=(↑i:Z);let b:=(↑k:Z);let c:=AB.row η m 9 (J f) 123;let d:=AV.sl 1 9 0 0 k (γ k);let e:=(-1000000000000:Z);let h:=(1000000000000:Z);let j:=(aa .i64 (g (0+aT a) 0-g 0 0));a0 θ (CS gf) 100 K (a5 0 MM) (ar 0 32 ((DD .normal).zip (EL k x i))) (qW m f k g) (cw 32 DD 1)
 =bif κ (a<b)then Ξ [κ (a<b),κ (0+aT a<k),κ ((0:Z)<b),κ (0<k),aH x e h,aH j e h] (am.out .normal [d,vI (gf x j),d,vI b,vI (aa .i64 (a+(1:Z)))] [c,AB.row η k 9 (J g) 123])else am.out (Ex.exit 0) [vI x] [c]:=by intros;kernel_rfl
noncomputable abbrev amL(m:O)(f:Θ)(k:O)(g:Θ)(x:Z):O->χ Sum:=bX 0 (bm 32 (DD .normal) 1 (EL k 0 0) (qW m f k g) (λa=>a .normal (ar 0 32 [(5,.v (ι x))]) (kx m f)))
def axl(yI:E Wh->ξ)(tI:E Wh->E Wh)(m:O)(f:Θ)(k:O)(g:Θ)(x:Z):let b:=(V (ο λq=>J f (0+q)) m);let c:=AB.row η m 9 (J f) 123;let a:=(ce (tI b));let d:=AV.sl 1 9 0 0 a (γ a);ad θ (wC yI tI) (amL m f k g x) 100 MM [.sl 0 9 0 0 m ζ] (kx m f) (ag 1)
 =Ξ [Δ (0+m) m,aF m λq=>J f (0+q),κ (m<=274877906944)] (bif !yI b then rO [vI (-1:Z)] [c]else Ξ [cy ([d,vI 0,d,vI (↑a:Z),vI 0]=EL k (0:Z) 0/\Φ [c,AB.row η a 9 (J (Y (tI b))) 123] (qW m f k g))] (rO [vI x] [c])):=by intros;kernel_rfl
abbrev DE:Ex->E O:=cj [3,5,6] [5] [2]
abbrev xH(k:O)(x:Z)(i:O):E AV:=[.own 1 k,.v (ι x),.v (ι ((i:Z)+1))]
def asN(gf:Z->Z->Z)(m:O)(f:Θ)(k:O)(g:Θ)(x:Z)(i:O):let b:=(↑i:Z);let a:=(1:Z);let d:=AB.row η m 9 (J f) 123;let e:=(-1000000000000:Z);let c:=(↑k:Z);let h:=(1000000000000:Z);let j:=(aa .i64 (g (aT (b+a)) 0-g 0 0));a0 θ (CS gf) 100 K (a5 0 MN) (ar 0 33 ((DE .normal).zip (xH k x i))) (qX m f k g) (cw 33 DE 1)
 =bif κ (b+a<c)then Ξ [κ (b+a<c),κ (aT (b+a)<k),κ ((0:Z)<c),κ (0<k),aH x e h,aH j e h] (am.out .normal [AV.own 1 k,vI (gf x j),vI (aa .i64 (b+a+a))] [d,AB.row ε k 9 (J g) 123])else am.out (Ex.exit 0) [vI x] [d]:=by intros;kernel_rfl
noncomputable abbrev amM(m:O)(f:Θ)(k:O)(g:Θ)(x:Z):O->χ Sum:=bX 0 (bm 33 (DE .normal) 1 (xH k 0 0) (qX m f k g) (λa=>a .normal (ar 0 33 [(5,.v (ι x))]) (kx m f)))
def axm(yI:E Wh->ξ)(tI:E Wh->E Wh)(m:O)(f:Θ)(k:O)(g:Θ)(x:Z):let a:=(V (ο λq=>J f (0+q)) m);let b:=AB.row η m 9 (J f) 123;let c:=(ce (tI a));ad θ (wC yI tI) (amM m f k g x) 100 MN [.sl 0 9 0 0 m ζ] (kx m f) (ag 1)
 =Ξ [Δ (0+m) m,aF m λq=>J f (0+q),κ (m<=274877906944)] (bif !yI a then rO [vI (-1:Z)] [b]else Ξ [cy ([AV.own 1 c,vI 0,vI 1]=xH k (0:Z) 0/\Φ [b,AB.row ε c 9 (J (Y (tI a))) 123] (qX m f k g))] (rO [vI x] [b])):=by intros;kernel_rfl
end
end Go.Proofs.YtdadmpgfcfkidaaGreatDoor
