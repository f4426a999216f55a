/- Part 4 of the proof of FnExecuteNoneCard, FnExecuteTwiceCard, FnExecuteWhatCard. -/
import Derived.Test.YtdadmpgfcfkidaaGreatDoorZm3
import Derived.Laws.FloatArith
import Derived.Laws.Externs
import Derived.WalkLawsBesides
import Derived.OrdersHeld
import Derived.Deep.RegionHeld3
import Derived.Lib.AppendZeros
import Derived.Lib.Walk
import Derived.Lib.SliceRun
set_option maxRecDepth 100000
set_option maxHeartbeats 8000000
set_option linter.defProp false
set_option linter.unusedVariables false
set_option linter.unusedSimpArgs false
open Go renaming Act→a8,Calls→aM,Code→bc,Func→cb,FuncId→dm,Oper→a_,Operand→cP,TypeId→ae,Value→τ,World→ψ,callFunc→g_,execOp→dw,floatToFloatBits→Kw,floatToIntVal→BF,grownCap→l9,run_float_arith→TH,undef→aZ
open Go.Act renaming put→jx
open _root_ renaming Array→aX,Bool→ξ,ByteArray→ρ,Int→Z,List→E,Nat→O,Option→χ,UInt8→υ,absurd→aR
open Array renaming mk→ap,replicate→tx,size_replicate→RN
open Go.Builtin renaming zeroCells→qo
open ByteArray renaming mk→ah,size→ay
open Go.Code renaming cond→Fa,seq→xT
open Go.Extern.MathFloor renaming toIntegral→adn
open Fin renaming val→Fc
open Go.FloatKind renaming f32→bR,f64→jz
open Go.Shelf renaming Ren→nj
open Ieee.Datum renaming integral→ay_,number→ay'
open Ieee.Format renaming binade→adp,mul→aza,nearest→adq,order→azb,read→RW,word→adr
open Ieee.Toward renaming cut→RX,even→JW
open Ieee renaming signed→iV
open Int renaming mul_eq_zero→R2,tdiv→eh,tmod→fk,toNat→aT
open Go.IntKind renaming i64→aY,wrap→aa,wrap_i64→R6
open Go.Lib renaming decDigits→gL,itoa→bg,join→iW,nDigits→x_,zeros24→Fk
open List renaming finRange→px,length→ce,range→dK,replicate→eH
open Nat renaming beq→Ψ,ble→Δ,blt→ω,div_one→ad6,gcd→Bq,mul_assoc→Fw
open OfNat renaming ofNat→Su
open Or renaming inl→lr
open Go.Region renaming Mode→FE,binds→mH,free→aek,free_spec→azt,noSelect→ael,noSelect_spec→azu,ready→mI
open Go.Sort renaming grow→Kj
open Go.Proofs.Tryz renaming f116→SG,f118→ls,f173→SY,f221→FH,f60→S6,f66→S7,f78→yl,func116→Tb,func118→Tc,func202→Th,func240→aep,func62→aet,func78→aex,prog→θ
open Go.Value renaming int→jc,slice→gj
open Go.World renaming cell?→oA
open Decidable renaming decide→κ
open Bool renaming false→η,true→ε
open Option renaming none→ζ,some→γ
open Go.RowKit renaming wrap64→tV
open Go.Proofs.Tryz
namespace Go.Proofs.YtdadmpgfcfkidaaGreatDoor
noncomputable section
open Go.RowKit Go.Shelf Go.Sort Go.Lib
def azk:=@List.mem_of_find?_eq_some
def mF:=@List.setIfInBounds_toArray
def aea:=@Nat.mul_eq_zero
def gl:=@Go.bodyPost_ret
def iS(h:ao):O->Z
 |0=>0
 |i+1=>ft (iS h i) (h i)
def akC(a:Z):ft 0 a=a.natAbs:=by unfold ft;rw[show(0:Z).natAbs=0 from rfl,ad7]
def Ai{h:O->Z}{k:O}(a:∀i,i<k-> -2000<=h i/\h i<=2000):∀i,i<=k->0<=iS h i/\iS h i<=2000
 |0,_=>by show 0<=(0:Z)/\(0:Z)<=2000;omega
 |i+1,c=>by
  have d:=Ai a i (by omega);have e:=a i (by omega);show 0<=(Bq (iS h i).natAbs (h i).natAbs:Z)/\(Bq (iS h i).natAbs (h i).natAbs:Z)<=2000
  refine⟨by omega,?_⟩;by_cases b:(iS h i).natAbs=0
  ·rw[b,ad7]
   omega
  ·have:=Nat.gcd_le_left (h i).natAbs (show 0<(iS h i).natAbs by omega)
   omega
def HT:aK θ (CS ft):=az (az ba ZQ) apE
def HU:aK θ (wC yI tI):=az (az ba Py) PK
def th(T:E Wh):O->Z:=λi=>Y T i 0
def lF(T:E Wh):O->Z:=λi=>aa aY (Y T i 0-Y T 0 0)
variable {L:E Wh}
variable {i:O}
def aud(a:i<L.length):th L i=L[i].s:=by unfold th;rw[tu a];rfl
def xK(h:bK L){i:O}(a:i<L.length): -1000<=Y L i 0/\Y L i 0<=1000:=by have e:Y L i 0=L[i].s:=aud a;rw[e];exact(xb (rH h) (ki a)).1
def au3(m:O)(f:Θ)(T:E Wh)(d:bK T):ck θ 1 (.block 0 (.loop (a5 0 MJ))) (bm 27 (DB .normal) 1 (EJ T.length 0 0) (qW m f T.length (Y T)) (λa=>a .normal (ar 0 27 [(5,.v (ι (iS (th T) T.length)))]) (kx m f))):=by
 refine dQ HT (n:=100) (m:=1) (lv:=DB) (λi=>EJ T.length (iS (th T) i) i) (λ_=>qW m f T.length (Y T)) (λ_=>True) T.length (λ_=>K) (du rfl rfl rfl) (aQ _) trivial λa Q g i _ p=>⟨cN _ _ _,?_⟩
 have e:=kF (rH d);rw[asK];refine aD (λb=>?_) λb=>?_
 ·have b:=aV b
  have c:i<T.length:=by omega
  rw[show 0+aT (i:Z)=i by omega,bz (x:=(i:Z)+1)];have q:=Ai (h:=th T) (k:=T.length) (λj l=>by have:=xK d l;show-2000<=Y T j 0/\Y T j 0<=2000;omega) i (by omega);have r:=xK d c;refine aq (by simp only[Ω,ax,aj,aL];exact⟨by omega,by omega,cd.2 (by omega),cd.2 (by omega)⟩) (F ⟨i+1,⟨rfl,c,trivial⟩,rfl,Φ.refl _⟩)
 ·have b:=cu b
  have:i=T.length:=by omega
  subst this;refine F ⟨_,Φ.refl _,?_⟩;rw[aU rfl];exact g
def au4(m:O)(f:Θ)(T:E Wh)(d:bK T):ck θ 1 (.block 0 (.loop (a5 0 MK))) (bm 28 (DC .normal) 1 (EK T.length 0 0) (qX m f T.length (Y T)) (λa=>a .normal (ar 0 28 [(5,.v (ι (iS (th T) T.length)))]) (kx m f))):=by
 refine dQ HT (n:=100) (m:=1) (lv:=DC) (λi=>EK T.length (iS (th T) i) i) (λ_=>qX m f T.length (Y T)) (λ_=>True) T.length (λ_=>K) (du rfl rfl rfl) (aQ _) trivial λa Q g i _ p=>⟨cN _ _ _,?_⟩
 have e:=kF (rH d);rw[asL];refine aD (λb=>?_) λb=>?_
 ·have b:=aV b
  have c:i<T.length:=by omega
  rw[show aT (i:Z)=i by omega,bz (x:=(i:Z)+1)];have q:=Ai (h:=th T) (k:=T.length) (λj l=>by have:=xK d l;show-2000<=Y T j 0/\Y T j 0<=2000;omega) i (by omega);have r:=xK d c;refine aq (by simp only[Ω,ax,aj,aL];exact⟨by omega,by omega,cd.2 (by omega),cd.2 (by omega)⟩) (F ⟨i+1,⟨rfl,c,trivial⟩,rfl,Φ.refl _⟩)
 ·have b:=cu b
  have:i=T.length:=by omega
  subst this;refine F ⟨_,Φ.refl _,?_⟩;rw[aU rfl];exact g
def Ci(a:bK L)(b:i<L.length): -2000<=lF L i/\lF L i<=2000:=by have c:=xK a b;have d:=xK a (i:=0) (by omega);unfold lF;rw[bz];omega
def au5(m:O)(f:Θ)(T:E Wh)(d:bK T):ck θ 1 (.block 0 (.loop (a5 0 MM))) (bm 32 (DD .normal) 1 (EL T.length 0 0) (qW m f T.length (Y T)) (λa=>a .normal (ar 0 32 [(5,.v (ι (iS (lF T) T.length)))]) (kx m f))):=by
 refine dQ HT (n:=100) (m:=1) (lv:=DD) (λi=>EL T.length (iS (lF T) i) i) (λ_=>qW m f T.length (Y T)) (λ_=>True) T.length (λ_=>K) (du rfl rfl rfl) (aQ _) trivial λa Q g i _ p=>⟨cN _ _ _,?_⟩
 have e:=kF (rH d);rw[asM];refine aD (λb=>?_) λb=>?_
 ·have b:=aV b
  have c:i<T.length:=by omega
  rw[show 0+aT (i:Z)=i by omega,bz (x:=(i:Z)+1)];have q:=Ai (h:=lF T) (k:=T.length) (λj l=>Ci d l) i (by omega);have r: -2000<=aa aY (Y T i 0-Y T 0 0)/\aa aY (Y T i 0-Y T 0 0)<=2000:=Ci d c;refine aq (by simp only[Ω,ax,aj,aL];exact⟨by omega,by omega,by omega,by omega,cd.2 (by omega),cd.2 (by omega)⟩) (F ⟨i+1,⟨rfl,c,trivial⟩,rfl,Φ.refl _⟩)
 ·have b:=cu b
  have:i=T.length:=by omega
  subst this;refine F ⟨_,Φ.refl _,?_⟩;rw[aU rfl];exact g
def Vx:iS (lF L) 1=0:=by
 show ft 0 (lF L 0)=0
 rw[akC];unfold lF;rw[Int.sub_self];rfl
def au6(m:O)(f:Θ)(T:E Wh)(d:bK T):ck θ 1 (.block 0 (.loop (a5 0 MN))) (bm 33 (DE .normal) 1 (xH T.length 0 0) (qX m f T.length (Y T)) (λa=>a .normal (ar 0 33 [(5,.v (ι (iS (lF T) T.length)))]) (kx m f))):=by
 have o:xH T.length 0 0=xH T.length (iS (lF T) (0+1)) 0:=by rw[bH,Vx]
 rw[o];refine dQ HT (n:=100) (m:=1) (lv:=DE) (λi=>xH T.length (iS (lF T) (i+1)) i) (λ_=>qX m f T.length (Y T)) (λi=>i=0\/i<T.length) T.length (λ_=>K) (du rfl rfl rfl) (aQ _) (.inl rfl) λa Q g i p t=>⟨cN _ _ _,?_⟩
 have l:=kF (rH d);rw[asN];refine aD (λb=>?_) λb=>?_
 ·have b:=aV b
  have c:i+1<T.length:=by omega
  rw[show aT ((i:Z)+1)=i+1 by omega,bz (x:=(i:Z)+1+1)];have u:=Ai (h:=lF T) (k:=T.length) (λj q=>Ci d q) (i+1) (by omega);have v: -2000<=aa aY (Y T (i+1) 0-Y T 0 0)/\aa aY (Y T (i+1) 0-Y T 0 0)<=2000:=Ci d c;refine aq (by simp only[Ω,ax,aj,aL];exact⟨by omega,by omega,by omega,by omega,cd.2 (by omega),cd.2 (by omega)⟩) (F ⟨i+1,⟨rfl,by omega,.inr c⟩,rfl,Φ.refl _⟩)
 ·have b:=cu b
  have e:iS (lF T) (i+1)=iS (lF T) T.length:=by
   by_cases r:T.length=0
   ·have:i=0:=by omega
    subst this;rw[r,bH,Vx];rfl
   ·have:i+1=T.length:=by omega
    rw[this]
  refine F ⟨_,Φ.refl _,?_⟩;rw[aU rfl];rw[<-e]at g;exact g
def j4(L:E Wh):Z:=bif yI L then iS (th (tI L)) (tI L).length else-1
def jT(L:E Wh):Z:=bif yI L then iS (lF (tI L)) (tI L).length else-1
def oG(v:E Wh->Z):E SA->χ FR
 |[.row m g]=>γ {val:=.v (.int .i64 (v (V (ο g) m))),aw:=[aF m g,κ (m<=2^38)]}
 |_=>ζ
variable {A:Z}
variable {p:O->E τ}
def IG{v:E Wh->Z}{ob:E ξ}{fn:cb}{Λ:O->χ Sum}(e:aF i p=ε)(l:i<=2^38){P:Prop}(c:P)(a:P->aJ ob=ε)(f:yI (V (ο p) i)=η->v (V (ο p) i)= -1)(h:yI (V (ο p) i)=ε->v (V (ο p) i)=A)(k:ad θ (wC yI tI) Λ 100 fn [.sl 0 9 0 0 i ζ] (kx i (ο p)) (ag 1)=Ξ [Δ (0+i) i,aF i λq=>J (ο p) (0+q),κ (i<=274877906944)] (bif !yI (V (ο λq=>J (ο p) (0+q)) i)then .out .ret [.v (ι (-1))] [.row η i 9 (J (ο p)) 123]else Ξ ob (.out .ret [.v (ι A)] [.row η i 9 (J (ο p)) 123]))):aE (ad θ (wC yI tI) Λ 100 fn [.sl 0 9 0 0 i ζ] (kx i (ο p)) (ag 1)) (dX (bJ bF [.row i p] []) {val:=.v (ι (v (V (ο p) i))),aw:=[aF i p,κ (i<=2^38)]}):=by
 rw[k];simp only[cz,cZ];refine fu (aD (λq=>?_) λq=>?_)
 ·have b:yI (V (ο p) i)=η:=by simpa using q
  exact F ⟨_,rfl,by rw[f b],.cons (ab.row λj d=>(a7 e j d).symm) .nil⟩
 ·have b:yI (V (ο p) i)=ε:=by simpa using q
  exact aq (a c) (F ⟨_,rfl,by rw[h b],.cons (ab.row λj d=>(a7 e j d).symm) .nil⟩)
def ap':ak θ 73 (ai bF (oG j4)):=by
 refine ca HU func73 rfl λd i a b=>?_
 unfold oG at a;split at a
 ·rename_i m g
  cases a;simp only[Ω]at b;obtain⟨c,e,_⟩:=b;have f:=aV e;refine⟨kx m (ο g),_,100,.cons (ab.row λj h=>a7 c j h) .nil,da (au3 m (ο g) (tI (V (ο g) m)) (ve _)),?_⟩;refine IG c f trivial (λ_=>?_) (λq=>by rw[j4,q];rfl) (λq=>by rw[j4,q];rfl) (axg yI tI m (ο g) _ _ _);simp only[cz,cZ,Ω,ax,aj];exact cG ⟨rfl,Φ.refl _⟩
 ·cases a
def aqa:ak θ 88 (ai bF (oG j4)):=by
 refine ca HU func88 rfl λd i a b=>?_
 unfold oG at a;split at a
 ·rename_i m g
  cases a;simp only[Ω]at b;obtain⟨c,e,_⟩:=b;have f:=aV e;refine⟨kx m (ο g),_,100,.cons (ab.row λj h=>a7 c j h) .nil,da (au4 m (ο g) (tI (V (ο g) m)) (ve _)),?_⟩;refine IG c f trivial (λ_=>?_) (λq=>by rw[j4,q];rfl) (λq=>by rw[j4,q];rfl) (axh yI tI m (ο g) _ _ _);simp only[cz,cZ,Ω,ax,aj];exact cG ⟨rfl,Φ.refl _⟩
 ·cases a
def apz:ak θ 72 (ai bF (oG jT)):=by
 refine ca HU func72 rfl λd i a b=>?_
 unfold oG at a;split at a
 ·rename_i m g
  cases a;simp only[Ω]at b;obtain⟨c,e,_⟩:=b;have f:=aV e;refine⟨kx m (ο g),_,100,.cons (ab.row λj h=>a7 c j h) .nil,da (au5 m (ο g) (tI (V (ο g) m)) (ve _)),?_⟩;refine IG c f trivial (λ_=>?_) (λq=>by rw[jT,q];rfl) (λq=>by rw[jT,q];rfl) (axl yI tI m (ο g) _ _ _);simp only[cz,cZ,Ω,ax,aj];exact cG ⟨rfl,Φ.refl _⟩
 ·cases a
def apA:ak θ 87 (ai bF (oG jT)):=by
 refine ca HU func87 rfl λd i a b=>?_
 unfold oG at a;split at a
 ·rename_i m g
  cases a;simp only[Ω]at b;obtain⟨c,e,_⟩:=b;have f:=aV e;refine⟨kx m (ο g),_,100,.cons (ab.row λj h=>a7 c j h) .nil,da (au6 m (ο g) (tI (V (ο g) m)) (ve _)),?_⟩;refine IG c f trivial (λ_=>?_) (λq=>by rw[jT,q];rfl) (λq=>by rw[jT,q];rfl) (axm yI tI m (ο g) _ _ _);simp only[cz,cZ,Ω,ax,aj];exact cG ⟨rfl,Φ.refl _⟩
 ·cases a
def MU:E τ->χ (τ×E ξ)
 |[.nilIface]=>γ (.bool ε,[])
 |_=>ζ
def apy:ak θ 205 (aW MU):=by
 refine n4 (λargs w=>enters 205 _ Tryz.func205 (by kernel_rfl) args w) λc x d a f w _=>?_
 unfold MU at a;split at a
 ·simp only[aC,cI]at a
  obtain⟨rfl,rfl⟩:=a;refine(aj9 w).mono ?_;rintro e g ⟨rfl,h⟩;exact⟨rfl,h.os,h.tape,h.output,h.size,λk b _=>h.block k b⟩
 ·cases a
def Nt(gf:Z->Z->Z):aG:=ext lN 131 (ai [.val,.val] (vQ gf))
def aw9(gf:Z->Z->Z)(a b:Z)(c:ξ):let d:=(rO [AV.af [vI (gf a b),AV.v Value.nilIface]] []);let e:=(-1000000000000:Z);let f:=(1000000000000:Z);let g:=[aH a e f,aH b e f];ad θ (Nt gf) K 100 f204 [.v (ι a),.v (ι b),.v (.bool c)] [] (ag 0)
 =bif !aH a (6:Z) (240:Z)then am.err else bif !aH b (6:Z) (240:Z)then am.err else bif c then bif κ (b>=a)then am.err else Ξ g d else Ξ g d:=by intros;kernel_rfl
def Lf(d:Z->Z->ξ->ξ)(gf:Z->Z->Z):E SA->χ FR
 |[.v (.int .i64 a),.v (.int .i64 b),.v (.bool c)]=>γ {val:=.af [.v (ι (gf a b)),.v .nilIface],aw:=[d a b c]}
 |_=>ζ
def ak_:aK θ (Nt ft):=az nI ZQ
def ap4:ak θ 204 (ai [.val,.val,.val] (Lf jH ft)):=by
 refine ca ak_ Tryz.func204 rfl λk n e f=>?_
 unfold Lf at e;split at e
 ·rename_i a b c
  cases e;simp only[Ω]at f;obtain⟨h,_⟩:=f;refine⟨[],K,100,.nil,de _,?_⟩;show aE (ad θ (Nt ft) K 100 f204 [.v (ι a),.v (ι b),.v (.bool c)] [] (ag 0)) _
  rw[aw9];rw[jH,aP,aP]at h;obtain⟨g,i,j⟩:=h;have o:=cd.1 g;have p:=cd.1 i;have d:aE (Ξ [aH a (-1000000000000:Z) (1000000000000:Z),aH b (-1000000000000:Z) (1000000000000:Z)] (am.out Ex.ret [AV.af [AV.v (jc aY (ft a b)),AV.v Value.nilIface]] [])) (dX (bJ [.val,.val,.val] [.v (ι a),.v (ι b),.v (.bool c)] []) {val:=.af [.v (ι (ft a b)),.v .nilIface],aw:=[jH a b c]}):=
   aq (by simp only[Ω,ax,aj];exact⟨cd.2 (by omega),cd.2 (by omega)⟩) (F ⟨_,rfl,rfl,.nil⟩)
  refine bA (by rw[g];rfl) (bA (by rw[i];rfl) ?_);cases c with
  |true=>refine cv rfl (bA ?_ d);rw[ex]at j;simpa using j
  |false=>exact bA rfl d
 ·cases e
def awT(a b:Z):ad θ g0 K 100 f206 [.v (ι a),.v (ι b)] [] (ag 0)=rO [AV.agg [vI a,vI 0,vI 0,vI 0,vI 0,vI 0,vI b,vI 0]] []:=by kernel_rfl
def K9:E SA->χ FR
 |[.v (.int .i64 a),.v (.int .i64 b)]=>γ {val:=.agg [.v (ι a),.v (ι 0),.v (ι 0),.v (ι 0),.v (ι 0),.v (ι 0),.v (ι b),.v (ι 0)]}
 |_=>ζ
def apD:ak θ 206 (ai [.val,.val] K9):=by
 refine ca ba func206 rfl λb e a f=>?_
 unfold K9 at a;split at a
 ·rename_i c d
  cases a;refine⟨[],K,100,.nil,de _,?_⟩;show aE (ad θ g0 K 100 f206 [.v (ι c),.v (ι d)] [] (ag 0)) _
  rw[awT];exact F ⟨_,rfl,rfl,.nil⟩
 ·cases a
def LC(v:E Wh->E Wh)(t u:E Wh->ξ):E SA->χ FR
 |[.row 2 g]=>match g 0,g 1 with
  |[.int .i64 a,.int .i64 b,.int .i64 c,.int .i64 d,.int .i64 e,.int .i64 f,.int .i64 h,.int .i64 i,.int .i64 j],[.int .i64 k,.int .i64 l,.int .i64 m,.int .i64 n,.int .i64 o,.int .i64 p,.int .i64 q,.int .i64 r,.int .i64 s]=>γ {val:=li (v [⟨a,⟨b,c,d,e,f,h,i,j⟩⟩,⟨k,⟨l,m,n,o,p,q,r,s⟩⟩]),new:=h_ (v [⟨a,⟨b,c,d,e,f,h,i,j⟩⟩,⟨k,⟨l,m,n,o,p,q,r,s⟩⟩]),aw:=[u [⟨a,⟨b,c,d,e,f,h,i,j⟩⟩,⟨k,⟨l,m,n,o,p,q,r,s⟩⟩],t [⟨a,⟨b,c,d,e,f,h,i,j⟩⟩,⟨k,⟨l,m,n,o,p,q,r,s⟩⟩]]}
  |_,_=>ζ
 |_=>ζ
def LB(a b:E Wh->ξ):E SA->χ FR
 |[.row 2 g]=>match g 0,g 1 with
  |[.int .i64 c,.int .i64 d,.int .i64 e,.int .i64 f,.int .i64 h,.int .i64 i,.int .i64 j,.int .i64 k,.int .i64 l],[.int .i64 m,.int .i64 n,.int .i64 o,.int .i64 p,.int .i64 q,.int .i64 r,.int .i64 s,.int .i64 t,.int .i64 u]=>γ {val:=eP,aw:=[b [⟨c,⟨d,e,f,h,i,j,k,l⟩⟩,⟨m,⟨n,o,p,q,r,s,t,u⟩⟩],!a [⟨c,⟨d,e,f,h,i,j,k,l⟩⟩,⟨m,⟨n,o,p,q,r,s,t,u⟩⟩]]}
  |_,_=>ζ
 |_=>ζ
def act{a b c d e f h i k l m n o q r s t u:Z}(v:p 0=[.int .i64 a,.int .i64 b,.int .i64 c,.int .i64 d,.int .i64 e,.int .i64 f,.int .i64 h,.int .i64 i,.int .i64 k])(w:p 1=[.int .i64 l,.int .i64 m,.int .i64 n,.int .i64 o,.int .i64 q,.int .i64 r,.int .i64 s,.int .i64 t,.int .i64 u]):V (ο p) 2=[⟨a,⟨b,c,d,e,f,h,i,k⟩⟩,⟨l,⟨m,n,o,q,r,s,t,u⟩⟩]/\aF 2 p=ε:=by
 refine⟨?_,bT.2 λj x=>?_⟩
 ·show[bh (ο p 0),bh (ο p 1)]=_
  unfold bh ο;rw[v,w];rfl
 ·have x:j<2:=by simpa using x
  rcases(by omega:j=0\/j=1)with rfl|rfl
  ·rw[v];rfl
  ·rw[w];rfl
def aqH:ak θ 113 (ai bF (LC bo bC fP)):=by
 refine QP (λc i a=>?_) Z9;unfold LC at a;split at a
 ·rename_i g
  split at a
  ·rename_i j k l m n o p q r s t u v w x y z A d e
   cases a;obtain⟨b,f⟩:=act d e;refine⟨_,rfl,by simp only[b],by simp only[b],rfl,λh=>?_⟩;simp only[Ω,ax,aj]at h⊢;rw[b];exact⟨f,by decide,h.1,h.2⟩
  ·cases a
 ·cases a
def aqG:ak θ 113 (ai bF (LB bC fP)):=by
 refine QP (λb i a=>?_) Z8;unfold LB at a;split at a
 ·rename_i g
  split at a
  ·rename_i j k l m n o p q r s t u v w x y z A c d
   cases a;obtain⟨e,f⟩:=act c d;refine⟨_,rfl,rfl,rfl,rfl,λh=>?_⟩;simp only[Ω,ax,aj]at h⊢;rw[e];exact⟨f,by decide,h.1,h.2⟩
  ·cases a
 ·cases a
def Nz(a:Z->Z->ξ->ξ)(gf:Z->Z->Z):aG:=ext (ext (ext lN 204 (ai [.val,.val,.val] (Lf a gf))) 205 (aW MU)) 206 (ai [.val,.val] K9)
def NC(c:Z->Z->ξ->ξ)(gf:Z->Z->Z)(d:E Wh->E Wh)(a b:E Wh->ξ):aG:=ext (Nz c gf) 113 (ai bF (LC d a b))
def NA(c:Z->Z->ξ->ξ)(gf:Z->Z->Z)(a b:E Wh->ξ):aG:=ext (Nz c gf) 113 (ai bF (LB a b))
def axt(n:Z->Z->ξ->ξ)(gf:Z->Z->Z)(h:E Wh->E Wh)(f g:E Wh->ξ)(a b:Z)(c:ξ)(d:Z):let e:=(0:Z);let i:= !κ (gf a b=e);let o:=(aa .i64 (eh b (gf a b)));let p:=(aa .i64 (a+b));let j:=[Wh.mk o (Cy.mk p e e e e e e e),Wh.mk (aa .i64 (eh p (gf a b))) (Cy.mk (aa .i64 (e-d)) e e e e e e e)];let k:=[Wh.mk o (Cy.mk (aa .i64 (a-b)) e e e e e e e),Wh.mk (aa .i64 (eh (aa .i64 (e-aa .i64 (a-b))) (gf a b))) (Cy.mk d e e e e e e e)];let l:=(ce (h j));let m:=(ce (h k));ad θ (NC n gf h f g) K 100 SG [.v (ι a),.v (ι b),.v (.bool c),.v (ι d)] [] (ag 0)
 =Ξ [n a b c] (bif !aH d (-300:Z) (300:Z)then rO [AV.af [AV.v (gj ζ 0 0),vB η]] []else bif c then Ξ [i,i,g k,f k] (rO [AV.af [AV.sl 0 9 0 0 m (γ m),vB ε]] [AB.row ε m 9 (J (Y (h k))) 123])else Ξ [i,i,g j,f j] (rO [AV.af [AV.sl 0 9 0 0 l (γ l),vB ε]] [AB.row ε l 9 (J (Y (h j))) 123])):=by intros;kernel_rfl
def axs(i:Z->Z->ξ->ξ)(gf:Z->Z->Z)(f g:E Wh->ξ)(a b:Z)(c:ξ)(d:Z):let e:=(0:Z);let j:=[AV.af [AV.v (gj ζ 0 0),vB η]];let h:= !κ (gf a b=e);let k:=(aa .i64 (eh b (gf a b)));let l:=(aa .i64 (a+b));let m:=(rO j []);let n:=[Wh.mk k (Cy.mk l e e e e e e e),Wh.mk (aa .i64 (eh l (gf a b))) (Cy.mk (aa .i64 (e-d)) e e e e e e e)];let o:=[Wh.mk k (Cy.mk (aa .i64 (a-b)) e e e e e e e),Wh.mk (aa .i64 (eh (aa .i64 (e-aa .i64 (a-b))) (gf a b))) (Cy.mk d e e e e e e e)];ad θ (NA i gf f g) K 100 SG [.v (ι a),.v (ι b),.v (.bool c),.v (ι d)] [] (ag 0)
 =Ξ [i a b c] (bif !aH d (-300:Z) (300:Z)then rO j []else bif c then Ξ [h,h,g o,!f o] m else Ξ [h,h,g n,!f n] m):=by intros;kernel_rfl
def Ng{a b:Z}(c:aH a 6 240=ε)(d:aH b 6 240=ε):mX a b=ft a b:=by have c:=cd.1 c;have d:=cd.1 d;exact Hu (by omega) (by omega)
def WU:aK θ (Nz jH ft):=az (az (az nI ap4) apy) apD
def ale:aK θ (NC jH ft bo bC fP):=az WU aqH
def alc:aK θ (NA jH ft bC fP):=az WU aqG
def Qh(a b:Z)(c:ξ)(d:Z):j_ a b c d=(jH a b c&&aH d (-300) 300):=by rw[j_,jH];cases aH a 6 240<;>cases aH b 6 240<;>cases c<;>cases κ (b>=a)<;>rfl
variable {q:ξ}
def Pw{a b:Z}(h:jH a b q=ε):aH a 6 240=ε/\aH b 6 240=ε:=by rw[jH,aP,aP]at h;exact⟨h.1,h.2.1⟩
def uW(a b d:Z):E Wh:=[⟨aa aY (eh b (ft a b)),⟨aa aY (a-b),0,0,0,0,0,0,0⟩⟩,⟨aa aY (eh (aa aY (0-aa aY (a-b))) (ft a b)),⟨d,0,0,0,0,0,0,0⟩⟩]
def uX(a b d:Z):E Wh:=[⟨aa aY (eh b (ft a b)),⟨aa aY (a+b),0,0,0,0,0,0,0⟩⟩,⟨aa aY (eh (aa aY (a+b)) (ft a b)),⟨aa aY (0-d),0,0,0,0,0,0,0⟩⟩]
def Qe{a b:Z}(h:jH a b ε=ε)(d:Z):uW a b d=o_ a b ε d:=by obtain⟨c,e⟩:=Pw h;have f:=cd.1 c;have g:=cd.1 e;rw[uW,o_,Ng c e,a6,bz (x:=a-b),bz (x:=0-(a-b)),bz (x:=b-a),show 0-(a-b)=b-a by omega]
def Qf{a b:Z}(h:jH a b η=ε)(d:Z):uX a b d=o_ a b η d:=by obtain⟨c,e⟩:=Pw h;rw[uX,o_,Ng c e,be]
def Wr{a b:Z}(h:jH a b q=ε):(!κ (ft a b=0))=ε:=by obtain⟨d,e⟩:=Pw h;rw[<-Ng d e,gN (Wq d e)];rfl
def Vq(h: -9223372036854775808<=A/\A<=9223372036854775807):nC ⟨A,0,0,0,0,0,0,0⟩:=λk a=>by
 rcases(by omega:k=0\/k=1\/k=2\/k=3\/k=4\/k=5\/k=6\/k=7)with rfl|rfl|rfl|rfl|rfl|rfl|rfl|rfl
 ·exact h
 all_goals
  show-9223372036854775808<=(0:Z)/\(0:Z)<=9223372036854775807
  omega
def I_{x y s t:Z}(b: -9223372036854775808<=x/\x<=9223372036854775807)(c: -9223372036854775808<=y/\y<=9223372036854775807):fP [⟨s,⟨x,0,0,0,0,0,0,0⟩⟩,⟨t,⟨y,0,0,0,0,0,0,0⟩⟩]=ε:=cG λw a=>by
 rcases dE.1 a with rfl|a
 ·exact Vq b
 ·rcases dE.1 a with rfl|a
  ·exact Vq c
  ·cases a
def Ls(rd:Z->Z->ξ->Z->E Wh)(e:Z->Z->ξ->Z->ξ):E SA->χ FR
 |[.v (.int .i64 a),.v (.int .i64 b),.v (.bool c),.v (.int .i64 d)]=>γ {val:=li (rd a b c d),new:=h_ (rd a b c d),aw:=[e a b c d]}
 |_=>ζ
def T9(e:Z->Z->ξ->Z->ξ):E SA->χ FR
 |[.v (.int .i64 a),.v (.int .i64 b),.v (.bool c),.v (.int .i64 d)]=>γ {val:=eP,aw:=[!e a b c d]}
 |_=>ζ
def Z2:ak θ 116 (ai [.val,.val,.val,.val] (Ls fG fy)):=by
 refine ca ale Tb rfl λn o f k=>?_
 unfold Ls at f;split at f
 ·rename_i a b c d
  cases f;simp only[Ω]at k;obtain⟨h,_⟩:=k;refine⟨[],K,100,.nil,de _,?_⟩;show aE (ad θ (NC jH ft bo bC fP) K 100 SG [.v (ι a),.v (ι b),.v (.bool c),.v (ι d)] [] (ag 0)) _
  rw[axt];have l:=h;rw[fy,Qh,aP,aP]at l;obtain⟨⟨e,j⟩,m⟩:=l;have p:=cd.1 j;have g:fG a b c d=bo (o_ a b c d):=(xk (by rw[Qh,e,j];rfl)).1;have i:=Wr e;refine aq (by rw[Ω];exact⟨e,rfl⟩) (bA (by rw[j];rfl) ?_);cases c with
  |true=>
   refine cv rfl ?_;show aE (Ξ [!κ (ft a b=0),!κ (ft a b=0),fP (uW a b d),bC (uW a b d)] (.out .ret [li (bo (uW a b d))] (h_ (bo (uW a b d))))) _
   rw[Qe e d];refine aq ?_ (F ⟨_,rfl,by rw[g];rfl,by rw[g];exact Φ.refl _⟩);simp only[Ω,ax,aj];refine⟨i,i,?_,m⟩;rw[<-Qe e d];exact I_ (n6 _) (by omega)
  |false=>
   refine bA rfl ?_;show aE (Ξ [!κ (ft a b=0),!κ (ft a b=0),fP (uX a b d),bC (uX a b d)] (.out .ret [li (bo (uX a b d))] (h_ (bo (uX a b d))))) _
   rw[Qf e d];refine aq ?_ (F ⟨_,rfl,by rw[g];rfl,by rw[g];exact Φ.refl _⟩);simp only[Ω,ax,aj];refine⟨i,i,?_,m⟩;rw[<-Qf e d];exact I_ (n6 _) (n6 _)
 ·cases f
variable {B:O->Prop}
variable {X:ψ}
def avA(h:a4 B X):X.cell? ⟨5,0,ζ⟩=γ eT:=by obtain⟨_,l,t,c,a,b⟩:=h (5,Um) (by simp[vf]);have a:X.heap[5]?=γ (.cells (List.toArray l) t c):=a;have b:l=[eT]:=b;subst b;simp[oA,a]
def ar2{a b d:Z}(w:ψ)(i:w.cell? ⟨5,0,ζ⟩=γ eT)(h:jH a b q=η):aM θ 116 #[.int .i64 a,.int .i64 b,.bool q,.int .i64 d] w λe w'=>e=.returned (.tuple #[.slice ζ 0 0,.bool η])/\Below w.heap.size w w':=by
 have k:=anV w h;have l:=lA i
 go_enter Tb,ntmps116
 go_wp2_with fail
 go_at_call 204
 refine k.mono ?_;rintro e m ⟨v,rfl,j,f⟩;have n:=aj8 v m ((f.cell l).trans i) j;clear j
 go_wp2_with fail
 go_at_call 205
 refine n.mono ?_;rintro e o ⟨rfl,g⟩
 go_wp2_with fail
 go_ret2
 exact⟨rfl,f.trans (g.mono f.size)⟩
def aqk:ak θ 116 (ai [.val,.val,.val,.val] (T9 fy)):=by
 refine nc enters Tb (by kernel_rfl) λx C r v=>?_
 unfold T9 at r;split at r
 ·rename_i a b c d
  cases r;simp only[Ω]at v;obtain⟨h,_⟩:=v;refine⟨[],.nil,λM p w y hM q g l=>?_⟩;cases f:jH a b c with
  |true=>
   refine(nz (Λ:=K) (n:=100) (Q:=dX (bJ [.val,.val,.val,.val] [.v (ι a),.v (ι b),.v (.bool c),.v (ι d)] []) {val:=eP,aw:=[!fy a b c d]}) alc mixed enters Tb (de _) hM ?_ q g l).mono λ_ _ h=>h
   show(ad θ (NA jH ft bC fP) K 100 SG [.v (ι a),.v (ι b),.v (.bool c),.v (ι d)] [] (ag 0)).ok _
   refine aE.out ?_;rw[axs];refine aq (by rw[Ω];exact⟨f,rfl⟩) ?_;refine aD (λ_=>F ⟨_,rfl,rfl,.nil⟩) λs=>?_
   have s:aH d (-300) 300=ε:=by simpa using s
   have G:=cd.1 s;have t:=Wr f;have u:=h;rw[fy,Qh,f,s]at u;cases c with
   |true=>
    refine cv rfl ?_;show aE (Ξ [!κ (ft a b=0),!κ (ft a b=0),fP (uW a b d),!bC (uW a b d)] (.out .ret [eP] [])) _
    refine aq ?_ (F ⟨_,rfl,rfl,.nil⟩);simp only[Ω,ax,aj];refine⟨t,t,I_ (n6 _) (by omega),?_⟩;rw[Qe f d];simpa using u
   |false=>
    refine bA rfl ?_;show aE (Ξ [!κ (ft a b=0),!κ (ft a b=0),fP (uX a b d),!bC (uX a b d)] (.out .ret [eP] [])) _
    refine aq ?_ (F ⟨_,rfl,rfl,.nil⟩);simp only[Ω,ax,aj];refine⟨t,t,I_ (n6 _) (n6 _),?_⟩;rw[Qf f d];simpa using u
  |false=>
   match p,q with
   |[H,I,L,v4],q=>
    simp only[ir,aB,VR,aj]at q;obtain⟨rfl,rfl,rfl,rfl⟩:=q;refine(ar2 w (avA g.eL) f).mono ?_;rintro e B ⟨rfl,o⟩;have j:Fr (λk=>w.heap.size<=k) w B:=⟨o.os,o.tape,o.output,o.size,λk m _=>o.block k m⟩;refine⟨_,eP,_,y,rfl,⟨_,rfl,rfl,.nil⟩,?_,?_,j.mono λk _ m=>hM k m,Le.refl _,l⟩
    ·simp only[VR]
     exact⟨[_,_],rfl,by simp only[aB,VR,aj]⟩
    ·exact⟨λi=>(g.br i).of_block λk m _=>j.block _ (g.lt i k m) (by have:=g.lt i k m;omega),g.sep,g.own,λi b o=>eN (g.lt i b o) j.size,g.eL.fr (j.mono λk _ m=>hM k m)⟩
 ·cases r
def LN(rd:Z->Z->ξ->Z->E Wh)(e:Z->Z->ξ->Z->ξ):E SA->χ UR
 |[.v (.int .i64 a),.v (.int .i64 b),.v (.bool c),.v (.int .i64 d)]=>γ ⟨e a b c d,rd a b c d,[]⟩
 |_=>ζ
def ar6{a b d:Z}(h:fy a b q d=η):fG a b q d=[]:=by
 cases e:j_ a b q d with
 |false=>exact(I' e).1
 |true=>rw[(xk e).1];rw[(xk e).2]at h;exact Jy h
def aoK:ak θ 116 (tj [.val,.val,.val,.val] (LN fG fy)):=by
 refine QS rfl Z2 aqk λg u e h=>?_
 unfold LN at e;split at e
 ·rename_i a b c d
  cases e;refine⟨rfl,?_⟩;cases f:fy a b c d with
  |true=>exact .inl ⟨rfl,[fy a b c d],rfl,by simp only[Ω,ax,aj];exact f⟩
  |false=>exact .inr ⟨rfl,ar6 f,[!fy a b c d],rfl,by simp only[Ω,ax,aj];rw[f];rfl⟩
 ·cases e
def na(c:ξ)(_:E Wh)(r:E υ):χ (E Wh×E υ):=
 bif cS 3 r&&fy (aN r 0) (aN r 1) c (aN r 2)then γ (fG (aN r 0) (aN r 1) c (aN r 2),[111,107])else ζ
def dj.after{r:χ (E Wh×E υ)}{w a:ψ}(f:Fr (au w) w a){e:Ending}(h:dj i L r a e X):dj i L r w e X:=
 ⟨(f.o6 (D:=i)).trans (h.1.mono λ_ _ b=>b.elim (λx=>.inl (cF f.size x)) .inr),h.2⟩
def dj.die{L:E Wh}{w a:ψ}(b:dW i L w)(f:Fr (au w) w a):dj i L ζ w pT a:=⟨f.o6,rfl,b.fr f⟩
def dj.Ay{w a:ψ}{t:E υ}(b:dW i L w)(c:bK L)(f:Fr (au w) w a):dj i L (γ (L,t)) w (.returned (.string ⟨t.toArray⟩)) a:=⟨f.o6,rfl,b.fr f,c⟩
variable {l:E υ}
def dj.qj{L T:E Wh}{w w':ψ}{e:Ending}(h:dj i L (γ (T,l)) w e w'):e=.returned (.string ⟨l.toArray⟩)/\dj i L (γ (T,l)) w (.returned (.string ⟨l.toArray⟩)) w':=by have:=h.2.1;exact⟨this,h.1,rfl,h.2.2⟩
def dj.rp{w w':ψ}{e:Ending}(h:dj i L ζ w e w'):e=pT/\dj i L ζ w pT w':=⟨h.2.1,h.1,rfl,h.2.2⟩
noncomputable abbrev G6:cb:=f62
noncomputable def wK:bc:=G6.body.getD .skip
noncomputable def rq:aX a_:=Yq (p9 (sN (sN wK)))
def bRi:G6.body=γ (.seq (p9 wK) (.seq (p9 (sN wK)) (.seq (.region 2 rq ε) (sN (sN (sN wK)))))):=by kernel_rfl
def CT(a:Z->ρ->ξ)(b:ρ->O->Z)(rd:Z->Z->ξ->Z->E Wh)(c:Z->Z->ξ->Z->ξ):aG:=ext (ext (ext g0 64 (ai [.val,.val] (BN a b))) 116 (tj [.val,.val,.val,.val] (LN rd c))) 58 Jn
def alg:aK θ (CT fh fB fG fy):=az (az (az ba PG) aoK) ZC
def ND(a:Z->ρ->ξ)(b:ρ->O->Z)(rd:Z->Z->ξ->Z->E Wh)(c:Z->Z->ξ->Z->ξ):aG:=ext (ext (ext g0 64 (ai [.val,.val] (BN a b))) 116 (ai [.val,.val,.val,.val] (Ls rd c))) 58 Jn
def alf:aK θ (ND fh fB fG fy):=az (az (az ba PG) Z2) ZC
def av9(d:Z->ρ->ξ)(a:ρ->O->Z)(rd:Z->Z->ξ->Z->E Wh)(e:Z->Z->ξ->Z->ξ)(s:ρ)(c:ξ)(n h:O)(f:Θ):let g:=(rd (a s 0) (a s 1) c (a s 2));let b:=(ce g);ad θ (ND d a rd e) K 100 G6 [.ptr 0 1 0 0,.v (.string s),.v (.bool c)] (dS n h f) (ag 2)
 =Ξ [d (3:Z) s,ω (ay s) 4294967281,e (a s 0) (a s 1) c (a s 2)] (rO [AV.v (.string uP)] [AB.cells [AV.sl 2 9 0 0 b (γ b)] 34,AB.row η n 9 (J f) 123,AB.row ε b 9 (J (Y g)) 123]):=by intros;kernel_rfl
abbrev Cp:AV:=.v (.string ⟨#[]⟩)
def Q7(s:ρ)(c:ξ):E AV:=(([.ptr 0 1 0 0,.v (.string s),.v (.bool c)]:E AV)++eH 22 (AV.v aZ)).set 6 Cp
def ab2(s:ρ)(c:ξ):E AV:=(((Q7 s c).set 7 (.own 2 3)).set 8 (.v (.string s))).set 9 (.own 2 3)
def XT(a:ρ->O->Z)(s:ρ)(n b:O)(f:Θ):E AB:=dS n b f++[.row ε 3 1 (λj=>[.int .i64 (a s j)]) 3]
def av_(d:Z->ρ->ξ)(e:ρ->O->Z)(rd:Z->Z->ξ->Z->E Wh)(g:Z->Z->ξ->Z->ξ)(s:ρ)(c:ξ)(n b:O)(f:Θ):let a:=AV.v aZ;a0 θ (CT d e rd g) 100 K (p9 wK) ([.ptr 0 1 0 0,.v (.string s),.v (.bool c)]++eH 22 (.v aZ)) (dS n b f) p_
 =am.out .normal [AV.ptr 0 1 0 0,AV.v (.string s),AV.v (.bool c),a,a,a,AV.v (.string (ah (ap []))),a,a,a,a,a,a,a,a,a,a,a,a,a,a,a,a,a,a] (dS n b f):=by intros;kernel_rfl
def awa(b:Z->ρ->ξ)(d:ρ->O->Z)(rd:Z->Z->ξ->Z->E Wh)(g:Z->Z->ξ->Z->ξ)(s:ρ)(c:ξ)(n e:O)(f:Θ):let a:=AV.v aZ;a0 θ (CT b d rd g) 100 K (p9 (sN wK)) (Q7 s c) (dS n e f) p_
 =Ξ [b (3:Z) s,ω (ay s) 4294967281] (am.out .normal [AV.ptr 0 1 0 0,AV.v (.string s),AV.v (.bool c),a,a,a,Cp,AV.own 2 3,AV.v (.string s),AV.own 2 3,a,a,a,a,a,a,a,a,a,a,a,a,a,a,a] [AB.cells [AV.sl 1 9 0 0 n (γ e)] 34,AB.row η n 9 (J f) 123,AB.row ε 3 1 (λj=>[ι (d s j)]) 3]):=by intros;kernel_rfl
def awb(e:Z->ρ->ξ)(a:ρ->O->Z)(rd:Z->Z->ξ->Z->E Wh)(b:Z->Z->ξ->Z->ξ)(s:ρ)(c:ξ)(n d:O)(f:Θ):(ku θ (CT e a rd b) rq.toList (rq.toList.take 14) (ab2 s c) (XT a s n d f) [] λT' H' tr=>cond (jS rq.toList tr.reverse&&wg 14 rq.toList) (.out .normal T' H') .err)=am.out .normal [AV.ptr 0 1 0 0,AV.v (.string s),AV.v (.bool c),AV.v aZ,AV.v aZ,AV.v aZ,Cp,AV.own 2 3,AV.v (.string s),AV.own 2 3,AV.ptr 0 1 0 0,AV.own 2 3,AV.ptr 2 1 0 0,vI (a s 0),AV.own 2 3,AV.ptr 2 1 1 0,vI (a s 1),AV.v (.bool c),AV.own 2 3,AV.ptr 2 1 2 0,vI (a s 2),AV.af [AV.sl 3 9 0 0 (ce (rd (a s 0) (a s 1) c (a s 2))) (γ (ce (rd (a s 0) (a s 1) c (a s 2)))),AV.v (.bool (b (a s 0) (a s 1) c (a s 2)))],AV.sl 3 9 0 0 (ce (rd (a s 0) (a s 1) c (a s 2))) (γ (ce (rd (a s 0) (a s 1) c (a s 2)))),AV.v (.bool (b (a s 0) (a s 1) c (a s 2))),AV.v aZ] [AB.cells [AV.sl 1 9 0 0 n (γ d)] 34,AB.row η n 9 (J f) 123,AB.row ε 3 1 (λj=>[ι (a s j)]) 3,AB.row η (ce (rd (a s 0) (a s 1) c (a s 2))) 9 (J (Y (rd (a s 0) (a s 1) c (a s 2)))) 123]:=by kernel_rfl
def ami:rq.toList[14]?=γ (rq.toList.getD 14 default):=by kernel_rfl
noncomputable def tm(o:a_):aX ae:=match o.op with| .call c=>c.argTypes|_=> #[]
def Yr:(rq.toList.getD 14 default).guard=ζ/\(rq.toList.getD 14 default).op=.call ⟨.value (.func 58),#[.tmp 10,.tmp 22,.tmp 23],tm (rq.toList.getD 14 default)⟩:=⟨by kernel_rfl,by kernel_rfl⟩
def o7{a b:ξ}(c:a=ε)(d:b=ε):aJ [a,b]=ε:=by subst c d;rfl
def ob3{a b c:ξ}(d:a=ε)(e:b=ε)(f:c=ε):aJ [a,b,c]=ε:=by subst d e f;rfl
variable {D:ρ}
def Zf(h:cS 3 D.data.toList=ε):fh 3 D=ε:=h
def UY(c:ξ)(s:ρ)(p:dW i L X)(r:a4 (cn X i) X)(hs:s.size<4294967281)(G:∀a b d,fy a b c d=ε->bK (fG a b c d)):aM θ 62 #[.pointer (γ ⟨i,0,ζ⟩),.string s,.bool c] X (dj i L (na c L s.data.toList) X):=by
 unfold na;have g:ω s.size 4294967281=ε:=by rw[bM];exact hs
 cases m:cS 3 s.data.toList with
 |false=>
  have j:=y4 s 3 (aQ _) X r.nw hs;rw[m]at j;clear hs G m g;have mixed:=mixed
  go_enter aet,ntmps62
  go_wp2_with (go_at_call 64;refine j.mono ?_;rintro e w1 ⟨N,P⟩;obtain rfl:=N)
  exact⟨rfl,dj.die p P⟩
 |true=>
  rw[ex];cases u:fy (aN s.data.toList 0) (aN s.data.toList 1) c (aN s.data.toList 2)with
  |true=>
   refine ah0 (vs:=[.string s,.bool c]) (T:=fG (aN s.data.toList 0) (aN s.data.toList 1) c (aN s.data.toList 2)) (t:=[111,107]) alf aet p r (λh=>?_) (G _ _ _ u);show(ad θ (ND fh fB fG fy) K 100 G6 [.ptr 0 1 0 0,.v (.string s),.v (.bool c)] (dS L.length h (Y L)) (ag 2)).ok _
   rw[av9];refine(aq (ob3 (Zf m) g u) ⟨?_⟩).out;exact⟨rfl,2,_,rfl,rfl⟩
  |false=>
   obtain⟨h,ν,H,l,Q⟩:=Ch p r;have I:=H.1;refine akB (vals:=[.pointer (γ ⟨i,0,ζ⟩),.string s,.bool c]) (avs:=[.ptr 0 1 0 0,.v (.string s),.v (.bool c)]) (Ta:=Q7 s c) (T:=ab2 s c) (Ha:=dS L.length h (Y L)) (H1:=XT fB s L.length h (Y L)) alg aet bRi (λk S=>.inl S) ⟨?_,rfl,rfl,trivial⟩ Q l ?_ ?_ ⟨14,λ_ v A=>bP v (.tmp 10)=.ptr 0 1 0 0/\bP v (.tmp 23)=.v (.bool η)/\A.getD 0 .gone=.cells [.sl 1 9 0 0 L.length (γ h)] 34/\A.getD 1 .gone=.row η L.length 9 (J (Y L)) 123,_,58,#[.tmp 10,.tmp 22,.tmp 23],_,?_,ami,Yr.1,Yr.2,λargs X=>enters _ _ Tryz.func58 rfl args X,by kernel_rfl,?_⟩
   ·simp only[VR]
    exact⟨_,I,rfl⟩
   ·show(a0 θ (CT fh fB fG fy) 100 K (p9 wK) ([.ptr 0 1 0 0,.v (.string s),.v (.bool c)]++eH 22 (.v aZ)) (dS L.length h (Y L)) p_).ok _
    rw[av_];exact⟨rfl,rfl,rfl⟩
   ·rw[awa]
    refine(aq (o7 (Zf m) g) ⟨?_⟩).out;exact⟨rfl,rfl,rfl⟩
   ·rw[awb]
    refine⟨rfl,?_,rfl,rfl⟩;show AV.v (.bool _)=_
    exact tN (λq=>AV.v (.bool q)) u
   ·rintro v A ⟨U,W,w,D⟩ w' ν' f n o hf _
    match f,n with
    |[x,y,z],n=>simp only[eG,kQ,aB,aj]at n;obtain⟨B,_,C⟩:=n;rw[U]at B;rw[W]at C;have o:=o (by kernel_rfl);simp only[VR]at B C;obtain⟨b,M,rfl⟩:=B;subst C;rw[o.2 _ _ I]at M;cases M;exact amU H rfl w D o hf y
def VK{Γ:aG}(l:aK θ Γ)(n m0:O){M:O->Prop}{m:ψ}{f:Nu}(hM:∀k,m.heap.size<=k->M k)(g:∀i b,f i=γ b->i<m0){d:dx}{Q:Ex->E AV->E AB->Prop}{z:bc}{Qw:Exit->a8->ψ->Prop}(u:∀T H a w ν,(d .normal T H).ok Q->SR M m f T H a w ν->a.defers=[]->z.wp θ Qw a w):∀(cs:E bc) T H a w ν,(fq θ Γ n cs T H d).ok Q->SR M m f T H a w ν->a.defers=[]->(k7 cs z).wp θ Qw a w
 |[],T,H,a,w,ν,h,o,p=>u T H a w ν h o p
 |c::cs,T,H,a,w,ν,h,o,p=>by
  refine yu (oF (sq l mixed enters n m0 K c (cN _ _ _) M m f hM g T H _ Q a w ν h o p) ?_);rintro e v x ⟨y,A,B,q,rfl,r,s,t⟩;cases y with
  |normal=>exact VK l n m0 hM g u cs A B v x q r s t
  |ret=>exact r.elim
  |exit j=>exact r.elim
def atY{D n c:O}{ν a:Nu}{w w':ψ}(A:Gb w D c ν)(f:Le ν a)(u:Fr (cn w D) w w')(B:n=L.length)(C:BR a 0 (.cells [.sl 1 9 0 0 n (γ c)] 34) w')(k:BR a 1 (.row η n 9 (J (Y L)) 123) w'):dW D L w':=by
 subst B;obtain⟨G,H,I⟩:=A;obtain⟨v,m,x⟩:∃v,w'.heap[D]?=γ (.cells #[v] 34 (0,0))/\VR a (.sl 1 9 0 0 L.length (γ c)) v:=by
  obtain⟨b,l,m,_,q,e⟩:=C;rw[f _ _ G]at m;cases m
  match l,e with
  |[v],e=>exact⟨v,q,e.1⟩
 simp only[VR]at x;obtain⟨p,y,rfl,q,e,M⟩:=x;obtain rfl:=q c rfl;refine⟨p,_,y,m,?_⟩;cases d:ν 1 with
 |none=>obtain rfl:=I d;have N:L=[]:=Sj.1 (ad9.1 e);subst N;refine⟨λ_=>ζ,λi b h=>(by cases h),?_,.inl ⟨rfl,rfl,rfl⟩⟩;simp only[VR];exact⟨p,0,rfl,by simp,aQ _,λh=>aR h (ol 0)⟩
 |some b=>
  obtain⟨z,P,Q⟩:=H b d;have r:=f _ _ d;refine⟨λj=>if j=0 then γ b else ζ,λj W o=>?_,?_,?_⟩
  ·simp only at o
   split at o
   ·cases o
    refine⟨by assumption,eN z u.size,?_⟩;obtain⟨l,s,R⟩:=P;exact⟨l,s,(u.block _ z λh=>h.elim (λh=>by omega) Q).trans R⟩
   ·cases o
  ·simp only[VR]
   refine⟨p,y,rfl,by simp,e,λS=>?_⟩;obtain⟨T,g,t⟩:=M S;rw[r]at g;cases g;exact⟨b,by simp,t⟩
  ·rcases k with⟨_,_,k⟩|⟨T,l,U,s,g,t⟩
   ·rw[r]at k
    cases k
   ·rw[r]at g
    cases g;exact .inr ⟨b,l,U,s,by simp,t⟩
abbrev amq(n c:O)(f:Θ)(H:E AB):Prop:=H.getD 0 .gone=.cells [.sl 1 9 0 0 n (γ c)] 34/\H.getD 1 .gone=.row η n 9 (J f) 123
variable {I:dm}
def GK{Γ:aG}(d:aK θ Γ){fn:cb}(q:θ.funcs[I]?=γ fn){t:E υ}{vs:E τ}(r:dW i L X)(s:a4 (cn X i) X)(u:bK L)(hex:∀c,(ad θ Γ K 100 fn (.ptr 0 1 0 0::vs.map .v) (dS L.length c (Y L)) (ag 2)).ok λ_ l j=>l=[.v (.string ⟨t.toArray⟩)]/\amq L.length c (Y L) j):aM θ I (.pointer (γ ⟨i,0,ζ⟩)::vs).toArray X (dj i L (γ (L,t)) X):=by
 obtain⟨c,G,m,a,x⟩:=Ch r s;have y:=m.1;refine(nz (vals:=.pointer (γ ⟨i,0,ζ⟩)::vs) d mixed enters q (de _) (λk z=>.inl z) (hex c) ⟨?_,xP vs⟩ x a).mono ?_
 ·simp only[VR]
  exact⟨_,y,rfl⟩
 ·rintro e H ⟨v,M,j,A,rfl,⟨o,B,C⟩,p,g,b,h,_⟩
  simp only[mE,aj]at o;subst o;simp only[VR]at p;subst p;exact⟨b,rfl,Qd m h b g rfl B C,u⟩
def BJ(g:dm)(us:E τ):Prop:=∀a,a4 (au a) a->aM θ g us.toArray a λe b=>e=pT/\Fr (au a) a b
def zX:BJ 70 [.bool η]:=λa _=>(uM a).mono λ_ _ ⟨b,c⟩=>⟨b,c▸Fr.refl _ _⟩
def Pq{n:O}(b:n<=3)(hs:D.size<4294967281)(h:cS n D.data.toList=η):BJ 64 [.string D,ι n]:=λc d=>(y4 D n b c d hs).mono λe f ⟨a,g⟩=>⟨by rw[h]at a;exact a,g⟩
def Ro{ν:Nu}:∀{us vals:E τ},aB ν (us.map .v) vals->vals=us
 |[],[],_=>rfl
 |[],_::_,h=>h.elim
 |_::_,[],h=>h.elim
 |u::us,v::vals,h=>by obtain⟨a,b⟩:=h;have a:v=u:=a;rw[a,Ro b]
def a4.aox{w w':ψ}(h:a4 (cn w i) w')(hs:w.heap.size<=w'.heap.size):a4 (au w') w':=h.mono λ_ _ a=>.inl (cF hs a)
def Vy{us:E τ}(d:BJ I us){w w':ψ}(c:Fr (cn w i) w w')(j:a4 (cn w i) w')(l:dW i L w'):aM θ I us.toArray w' λe b=>∃a,e=.panicked a/\dj i L ζ w (.panicked a) b:=by refine(d w' (j.aox c.size)).mono ?_;rintro e b ⟨rfl,f⟩;refine⟨_,rfl,c.trans ((Fr.o6 (D:=i) f).mono λk _ h=>h.elim (λh=>.inl (cF c.size h)) .inr),rfl,l.fr f⟩
abbrev ab_(vs:E τ)(fn:cb):E AV:=(.ptr 0 1 0 0::vs.map .v)++eH (fn.ntmps-(AV.ptr 0 1 0 0::vs.map .v).length) (.v aZ)
def ab9(H:E AB)(h:i<2):(H.take 2).getD i .gone=H.getD i .gone:=by rw[cX,cX,nl,aU h]
def we{Γ:aG}(l:aK θ Γ){fn:cb}(y:θ.funcs[I]?=γ fn){h:E bc}{id k:O}{ops:aX a_}{m:bc}(z:fn.body=γ (k7 h (.seq (.region id ops η) m))){o:a_}{g:dm}{args:aX cP}{A:aX ae}(B:ops.toList[k]?=γ o)(n:o.guard=ζ)(p:o.op=.call ⟨.value (.func g),args,A⟩)(C:∀args X,(g_ g args).run θ X=.ok (.enter g args) X){us:E τ}(G:BJ g us){vs:E τ}(M:dW i L X)(N:a4 (cn X i) X)(hex:∀c,(fq θ Γ 100 h (ab_ vs fn) (dS L.length c (Y L)) (λ_ T H=>fE θ Γ (λ_ _ _ _=>.err) ops.toList (ops.toList.take k) T H λT' H'=>.out .normal (args.toList.map (bP T')) (H'.take 2))).ok λ_ T H=>T=us.map .v/\H=dS L.length c (Y L)):aM θ I (.pointer (γ ⟨i,0,ζ⟩)::vs).toArray X (dj i L ζ X):=by
 obtain⟨c,P,t,d,R⟩:=Ch M N;have S:=t.1;have hM:∀k,X.heap.size<=k->cn X i k:=λk q=>.inl q
 refine FP y z (VK l 100 2 hM d (Q:=λ_ T H=>T=us.map .v/\H=dS L.length c (Y L)) (λT H a w1 U q W r=>?_) h _ _ _ X P (hex c) (rF ⟨?_,xP vs⟩ R d) rfl)
 ·refine yu (arm l hM q B n p C W λT' H' f a' w' w u v b s=>?_)
  obtain⟨D,x⟩:=f;rw[D]at v;obtain rfl:=Ro v;have g0:H'.getD 0 .gone=.cells [.sl 1 9 0 0 L.length (γ c)] 34:=(ab9 H' (by omega)).symm.trans (by rw[x];rfl);have g1:H'.getD 1 .gone=.row η L.length 9 (J (Y L)) 123:=(ab9 H' (by omega)).symm.trans (by rw[x];rfl);refine(Vy G b.fr b.heap.eL (Qd t b.le b.fr b.heap rfl g0 g1)).mono ?_;rintro e w'' ⟨j,rfl,hr⟩;exact⟨j,rfl,s.trans r,hr⟩
 ·simp only[VR]
  exact⟨_,S,rfl⟩
def ahZ{Γ:aG}(j:aK θ Γ){fn:cb}(H:θ.funcs[I]?=γ fn){p:bc}{id k:O}{ops:aX a_}{l:bc}(M:fn.body=γ (.seq p (.seq (.region id ops ε) l))){o:a_}{g:dm}{args:aX cP}{N:aX ae}(P:ops.toList[k]?=γ o)(q:o.guard=ζ)(r:o.op=.call ⟨.value (.func g),args,N⟩)(Q:∀args X,(g_ g args).run θ X=.ok (.enter g args) X)(d:Gk k ops.toList args.toList=ε){us:E τ}(R:BJ g us){vs:E τ}(S:dW i L X)(U:a4 (cn X i) X)(x:E AV)(W:∀c,(a0 θ Γ 100 K p (ab_ vs fn) (dS L.length c (Y L)) p_).ok λe y z=>e=.normal/\y=x/\z=dS L.length c (Y L))(hex:∀c,(ku θ Γ ops.toList (ops.toList.take k) x (dS L.length c (Y L)) [] λT' H' tr=>cond (jS ops.toList tr.reverse&&(wg k ops.toList&&I7 [0,1] tr.reverse)) (.out .normal T' H') .err).ok λ_ T _=>args.toList.map (bP T)=us.map .v):aM θ I (.pointer (γ ⟨i,0,ζ⟩)::vs).toArray X (dj i L ζ X):=by
 obtain⟨c,A,B,b,f⟩:=Ch S U;have w:=B.1;have hM:∀k,X.heap.size<=k->cn X i k:=λk D=>.inl D
 refine FP H M (yu (oF (sq j mixed enters 100 2 K p (cN _ _ _) (cn X i) X A hM b _ _ p_ _ _ X A (W c) (rF ⟨?_,xP vs⟩ f b) rfl) ?_))
 ·simp only[VR]
  exact⟨_,w,rfl⟩
 ·rintro e a w1 ⟨e',y,z,ν1,rfl,⟨rfl,rfl,rfl⟩,hS,s⟩
  refine yu (arM j mixed hM [0,1] (hex c) P q r Q d hS λT' H' hq a' w' ν' C G m t n u v=>?_);rw[hq]at G;obtain rfl:=Ro G;refine(Vy R n u (atY B t n rfl (m 0 (by simp)) (m 1 (by simp)))).mono ?_;rintro e w'' ⟨h,rfl,hr⟩;exact⟨h,rfl,v.trans s,hr⟩
def Zi(f:Ieee.Format)(s:ξ)(m:O)(d:Z)(h1:m.log2<=f.fractionBits)(U:f.leastPlace<=d)(H:((d-f.leastPlace).toNat+1)*f.binade+f.binade<f.infRung)(h4:f.infRung<=f.signWeight):∃e:Z,e<=d/\f.read (f.nearest s m d)=.number s (m*2^(d-e).toNat) e:=by
 have g:0<f.binade:=oo _;have M:∀b,b<f.signWeight->f.word s b%f.signWeight=b/\(f.word s b/f.signWeight%2==1)=s:=λb n=>by
  unfold adr;cases s
  ·simp only[tz,tQ]
   rw[Br n,vu n];exact⟨rfl,rfl⟩
  ·simp only[qA]
   rw[Nat.add_mod_left,Br n,Nat.add_div_left _ (by omega),vu n];exact⟨rfl,rfl⟩
 by_cases o:m=0
 ·subst o
  refine⟨f.leastPlace,U,?_⟩;unfold adq;rw[aU rfl];unfold RW;obtain⟨t,v⟩:=M 0 (by omega);simp only[t,v];rw[aU g,Bv]
 ·obtain⟨e,W⟩:∃e,e=max (d+(m.log2:Z) -(f.fractionBits:Z)) f.leastPlace:=⟨_,rfl⟩
  have w:e<=d:=by omega
  refine⟨e,w,?_⟩;have hd:(e-d).toNat=0:=by omega
  have hk:JW.cut s (m<<< (d-e).toNat) 0=m*2^(d-e).toNat:=by unfold RX;simp only[Nat.zero_min,Nat.shiftLeft_zero,ad6,Nat.mod_one];rw[vx];simp
  have e0:f.nearest s m d=f.word s ((e-f.leastPlace).toNat*f.binade+m*2^(d-e).toNat):=by
   unfold adq;rw[bI o];simp only;rw[<-W,hd,hk]
   congr 1
   apply Fv;have x:m*2^(d-e).toNat<2*f.binade:=by
    have:=log2_lt m;unfold adp
    calc m*2^(d-e).toNat<2^(m.log2+1)*2^(d-e).toNat:=Fx (log2_lt m) (oo _)
     _=2^(m.log2+1+(d-e).toNat):=(km ..).symm
     _<=2^(f.fractionBits+1):=pB (by omega) (by omega)
     _=2*2^f.fractionBits:=by rw[Ke];omega
   have h5:(e-f.leastPlace).toNat*f.binade<=(d-f.leastPlace).toNat*f.binade:=iY _ (by omega);rw[fZ,kk]at H;omega
  rw[e0];have x:m*2^(d-e).toNat<2*f.binade:=by
   unfold adp
   calc m*2^(d-e).toNat<2^(m.log2+1)*2^(d-e).toNat:=Fx (log2_lt m) (oo _)
    _=2^(m.log2+1+(d-e).toNat):=(km ..).symm
    _<=2^(f.fractionBits+1):=pB (by omega) (by omega)
    _=2*2^f.fractionBits:=by rw[Ke];omega
  have y:e=f.leastPlace\/f.binade<=m*2^(d-e).toNat:=by
   by_cases hc:e=f.leastPlace
   ·exact .inl hc
   ·refine .inr ?_
    have:d-e=(f.fractionBits:Z) -m.log2:=by omega
    unfold adp
    calc 2^f.fractionBits=2^m.log2*2^(d-e).toNat:=by rw[<-km];congr 1;omega
     _<=m*2^(d-e).toNat:=iY _ (Nat.log2_self_le o)
  have h5:(e-f.leastPlace).toNat*f.binade<=(d-f.leastPlace).toNat*f.binade:=iY _ (by omega);rw[fZ,kk]at H;generalize m*2^(d-e).toNat=a at*;generalize hq:(e-f.leastPlace).toNat=c at*;obtain⟨t,v⟩:=M (c*f.binade+a) (by omega);unfold RW;simp only[t,v];by_cases k:c*f.binade+a<f.binade
  ·rw[aU k]
   have:c=0:=by
    rcases qs c with h|h
    ·exact h
    ·have:=iY f.binade h
     omega
   subst this;rw[Bv,bH]
   congr 1
   try omega
  ·rw[bI k,oW]
   have hKb:f.binade<=a:=by
    rcases y with h|h
    ·have:c=0:=by omega
     subst this;omega
    ·exact h
   obtain⟨r,rfl⟩:∃r,a=f.binade+r:=⟨a-f.binade,by omega⟩;have T:r<f.binade:=by omega
   have e3:(c*f.binade+(f.binade+r))%f.binade=r:=by rw[<-J',<-Ss,tE,Nat.mul_add_mod,Br T]
   have e4:(c*f.binade+(f.binade+r))/f.binade=c+1:=by rw[<-J',<-Ss,tE,ad' g,vu T]
   rw[e3,e4]
   congr 1
   rw[Sq];omega
def ahD(s:ξ)(n d:O):Ieee.Toward.down.cut s n d=n/2^d+(s&&n%2^d !=0).toNat:=by
 unfold RX;simp only[vx,kk];by_cases h:d<=n.log2+2
 ·rw[Fv h]
 ·rw[ad_ (by omega)]
  have a:n<2^(n.log2+2):=eN (log2_lt n) (pB (by omega) (by omega));have b:n<2^d:=eN a (pB (by omega) (by omega));rw[vu a,vu b,Br a,Br b]
def ahH(s:ξ)(n d:O):Ieee.Toward.zero.cut s n d=n/2^d:=by
 unfold RX;simp only[vx,kk,Bool.toNat_false,im];by_cases h:d<=n.log2+2
 ·rw[Fv h]
 ·rw[ad_ (by omega)]
  have a:n<2^(n.log2+2):=eN (log2_lt n) (pB (by omega) (by omega));have b:n<2^d:=eN a (pB (by omega) (by omega));rw[vu a,vu b]
def jw(m:O)(i:Z):O:=m*2^i.toNat/2^(-i).toNat
def lV(m:O)(i:Z):ξ:=m*2^i.toNat%2^(-i).toNat !=0
def acT{m:O}{i a:Z}(h:a<=i):jw (m*2^(i-a).toNat) a=jw m i/\lV (m*2^(i-a).toNat) a=lV m i:=by
 unfold jw lV;by_cases j:0<=a
 ·have e:(-a).toNat=0:=by omega
  have b:(-i).toNat=0:=by omega
  rw[e,b,Fw,<-km,show(i-a).toNat+a.toNat=i.toNat by omega];exact⟨rfl,rfl⟩
 ·have f:a.toNat=0:=by omega
  rw[f,Bs,rS];by_cases k:0<=i
  ·have b:(-i).toNat=0:=by omega
   have c:(i-a).toNat=i.toNat+(-a).toNat:=by omega
   rw[b,c,km,<-Fw,Nat.mul_div_cancel _ (oo _),Nat.mul_mod_left,Bs,ad6,Nat.mod_one];exact⟨rfl,rfl⟩
  ·have b:i.toNat=0:=by omega
   have c:(-a).toNat=(-i).toNat+(i-a).toNat:=by omega
   rw[b,Bs,rS,c,km];refine⟨Nat.mul_div_mul_right _ _ (oo _),?_⟩;rw[Nat.mul_mod_mul_right];have l:=oo (i-a).toNat;cases d:m%2^(-i).toNat !=0 with
   |false=>
    have:m%2^(-i).toNat=0:=by simpa using d
    rw[this,Bv];rfl
   |true=>
    have:m%2^(-i).toNat≠0:=by simpa using d
    have g:m%2^(-i).toNat*2^(i-a).toNat≠0:=Nat.mul_ne_zero this (by omega);simpa using g
def al4(s:ξ)(m:O)(i:Z):(ay' s m i).integral .down=.number s (jw m i+(s&&lV m i).toNat) 0:=by unfold ay_;simp only[ahD,vx];rfl
def toInt_zero(s:ξ)(m:O)(i:Z):(ay' s m i).toInt .zero=γ (iV s (jw m i) 0):=by unfold Ieee.Datum.toInt ay_;simp only[ahH,vx];rfl
def ayG{e:O}(h:A+(i.log2:Z)<=(e:Z)):jw i A<2^(e+1):=by
 unfold jw;rw[ad5 (oo _)]
 calc i*2^A.toNat<2^(i.log2+1)*2^A.toNat:=Fx (log2_lt i) (oo _)
  _=2^(i.log2+1+A.toNat):=(km ..).symm
  _<=2^(e+1+(-A).toNat):=pB (by omega) (by omega)
  _=2^(e+1)*2^(-A).toNat:=km ..
def ajP:bR.format.infRung<=bR.format.signWeight:=by decide
def ajS:jz.format.infRung<=jz.format.signWeight:=by decide+kernel
def VP:jz.format.leastPlace= -1074:=by decide+kernel
def ajQ:jz.format.binade=4503599627370496:=by decide+kernel
def ajR:jz.format.infRung=9218868437227405312:=by decide+kernel
def Zh(s:ξ)(m:O)(i:Z)(b:m.log2<=52)(c: -1074<=i)(d:i<=100):∃a:Z,a<=i/\jz.format.read (jz.format.nearest s m i)=.number s (m*2^(i-a).toNat) a:=
 Zi _ s m i b (by rw[VP];exact c) (by rw[VP,ajQ,ajR];omega) ajS
def aoa(s:ξ)(m:O)(i:Z)(b:m.log2<=23)(c: -149<=i)(d:i<=60):∃a:Z,a<=i/\bR.format.read (bR.format.nearest s m i)=.number s (m*2^(i-a).toNat) a:=
 Zi _ s m i b (by rw[Cv];exact c) (by rw[Cv,GU,GV];omega) ajP
def aaK{m:O}(h:bR.format.read i=.number q m A):m<16777216/\ -149<=A/\(m=0->A= -149):=by
 unfold RW at h;simp only[GW,GU,GV,Cv]at h;split at h
 ·cases h
  omega
 ·split at h
  ·cases h
   omega
  ·split at h
   ·cases h
   ·cases h
def qh(s:ξ)(m u:O):iV s m u=bif s then-((m*2^u:O):Z)else((m*2^u:O):Z):=by unfold iV;rw[vx];cases s<;>rfl
def aj6{y:O}(h:io y A):∃s m i,bR.format.read y=.number s m i/\i+(m.log2:Z)<=A/\m.log2<=23/\ -149<=i:=by obtain⟨s,m,i,a,b⟩:=h;obtain⟨d,c,_⟩:=aaK a;exact⟨s,m,i,a,b,sO (by omega),c⟩
def qL(y:O):O:=(Kw .f32 y .f64).getD 0
def qR(r:O):O:=jz.encode ((jz.decode r).integral .down)
def ahO{y:O}(h:bR.format.read y=.number q i A)(f:i.log2<=23)(g: -149<=A)(j:A<=60):Kw .f32 y .f64=γ (qL y)/\∃a,a<=A/\jz.decode (qL y)=.number q (i*2^(A-a).toNat) a:=by
 obtain⟨a,d,b⟩:=Zh q i A (by omega) (by omega) (by omega);have c:Kw .f32 y .f64=γ (jz.format.nearest q i A):=by
  unfold Kw;rw[bI (by decide)];show(match bR.format.read y with| .nan _ _=>_| .infinity q=>_| .number q i e=>_)=_
  rw[h];show(if(jz.format.read (jz.format.nearest q i A)).isInfinity then ζ else γ (jz.format.nearest q i A))=_
  rw[b];rfl
 refine⟨by unfold qL;rw[c];rfl,a,d,?_⟩;unfold qL;rw[c];exact b
def ako{m:O}{e:O}(h:jz.decode i=.number q m A)(p:jw m A<2^e)(d:e<=50):BF .f64 (qR i) .i64=γ (iV q (jw m A+(q&&lV m A).toNat) 0):=by
 have t:jw m A+(q&&lV m A).toNat<=2^e:=by
  have:(q&&lV m A).toNat<=1:=by cases(q&&lV m A)<;>decide
  omega
 have f:2^e<=2^50:=pB (by omega) d;unfold qR;rw[h,al4];generalize jw m A+(q&&lV m A).toNat=a at*;have b:a.log2<=52:=sO (by omega);obtain⟨c,g,j⟩:=Zh q a 0 b (by omega) (by omega);have k:(jz.decode (jz.encode (.number q a 0))).toInt .zero=γ (iV q a 0):=by
  show(jz.format.read (jz.format.nearest q a 0)).toInt .zero=_
  rw[j,toInt_zero,(acT g).1]
  congr 2
  unfold jw;simp
 unfold BF;rw[k];have l:aY.min<=iV q a 0/\iV q a 0<=aY.max:=by
  have n:aY.min= -9223372036854775808:=by decide
  have o:aY.max=9223372036854775807:=by decide
  rw[n,o,qh];cases q<;>simp only[a6,be]<;>omega
 simp only;rw[aU l]
def ax2{y:O}{e:O}(h:bR.format.read y=.number q i A)(g:jw i A<2^e)(a:e<=50):BF .f32 y .i64=γ (iV q (jw i A) 0):=by
 have b:2^e<=2^50:=pB (by omega) a;unfold BF;rw[show bR.decode y=.number q i A from h,toInt_zero];have c:aY.min<=iV q (jw i A) 0/\iV q (jw i A) 0<=aY.max:=by
  have d:aY.min= -9223372036854775808:=by decide
  have f:aY.max=9223372036854775807:=by decide
  rw[d,f,qh];cases q<;>simp only[a6,be]<;>omega
 simp only;rw[aU c]
def aq6{y:O}(h:bR.format.read y=.number q i A)(x:jw i A<2^24):∃o,bR.format.order (bR.nearest (iV q (jw i A) 0)) y=γ o/\(o==.gt)=(q&&lV i A):=by
 obtain⟨W,v⟩:∃W,W=jw i A:=⟨_,rfl⟩;rw[<-v]at x⊢;obtain⟨t,w⟩:∃t,t=κ (iV q W 0<0):=⟨_,rfl⟩;have g:(iV q W 0).natAbs=W:=by rw[QF];simp
 obtain⟨d,L,z⟩:=aoa t W 0 (sO (by omega)) (by omega) (by omega);have B:bR.format.read (bR.nearest (iV q W 0))=.number t (W*2^(0-d).toNat) d:=by rw[<-z];unfold FloatKind.nearest;rw[g,w];rfl
 unfold azb;rw[B,h];refine⟨_,rfl,?_⟩;have j:∀a b:Z,(compare a b==Ordering.gt)=κ (b<a):=λa b=>by rw[kg,fm,aL,Int.compare_eq_gt]
 rw[j]
 --both at C l n
 have D:∃k:O,(W*2^(0-d).toNat)*2^(d-min d A).toNat=W*2^(-A).toNat*2^k/\i*2^(A-min d A).toNat=i*2^A.toNat*2^k:=by
  refine⟨(A-min d A).toNat-A.toNat,?_,?_⟩
  ·rw[Fw,Fw,<-km,<-km]
   congr 2
   omega
  ·rw[Fw,<-km]
   congr 2
   omega
 obtain⟨k,G,H⟩:=D;rw[qh,qh,G,H];have p:i*2^A.toNat=W*2^(-A).toNat+i*2^A.toNat%2^(-A).toNat:=by rw[v];unfold jw;rw[tE (_/_)];exact(Nat.div_add_mod _ _).symm
 have I:lV i A=(i*2^A.toNat%2^(-A).toNat !=0):=rfl;rw[I];generalize i*2^A.toNat%2^(-A).toNat=R at*;rw[p,fZ];have M:=oo (-A).toNat;have N:=oo k;have f:R*2^k=0↔R=0:=by rw[aea];exact⟨λh=>h.elim id λh=>aR h (by omega),.inl⟩
 have r:W*2^(-A).toNat*2^k=0↔W=0:=by rw[Fw,<-km,aea];have:=oo ((-A).toNat+k);exact⟨λh=>h.elim id λh=>aR h (by omega),.inl⟩
 generalize R*2^k=RK at*;have u:t=(q&&W !=0):=by rw[w,kg,aL,qh];cases q<;>simp<;>omega
 generalize W*2^(-A).toNat*2^k=c at*;rw[kg,aL,u];cases q
 ·simp only[l5,be]
  constructor
  ·intro h;omega
  ·intro h;cases h
 ·simp only[ex,a6]
  by_cases e:W=0
  ·have:c=0:=r.2 e
   simp only[e,bne_self_eq_false,be,bne_iff_ne,ne_eq];rw[<-f];omega
  ·have:(W !=0)=ε:=by simpa using e
   simp only[this,a6,bne_iff_ne,ne_eq];rw[<-f];omega
def Rl{y:O}(h:io y 23):∃(N n:Z)(o:Ordering),Kw .f32 y .f64=γ (qL y)/\(∃s m i,jz.decode (qL y)=.number s m i)/\BF .f64 (qR (qL y)) .i64=γ N/\BF .f32 y .i64=γ n/\bR.format.order (bR.nearest n) y=γ o/\N=(bif o==.gt then n-1 else n)/\(-16777217<=N/\N<=16777217)/\ -16777217<=n/\n<=16777217:=by
 obtain⟨s,m,i,b,j,k,l⟩:=aj6 h;have c:jw m i<2^24:=ayG (e:=23) j;obtain⟨p,a,q,g⟩:=ahO b k l (by omega);obtain⟨d,r⟩:=acT (m:=m) q;obtain⟨o,t,u⟩:=aq6 b c;refine⟨_,_,o,p,⟨_,_,_,g⟩,ako g (e:=24) (by rw[d];exact c) (by omega),ax2 b (e:=24) c (by omega),t,?_,?_⟩
 ·rw[d,r,u,qh,qh]
  cases s
  ·simp
  ·simp only[ex,a6,Bs,rS]
   cases lV m i
   ·simp
   ·simp only[a6,Bool.toNat_true];omega
 ·rw[d,qh,qh]
  have:(s&&lV m i).toNat<=1:=by cases(s&&lV m i)<;>decide
  have f:(s&&lV (m*2^(i-a).toNat) a).toNat<=1:=by cases(s&&lV (m*2^(i-a).toNat) a)<;>decide
  cases s<;>simp only[a6,be,Bs,rS]at* <;>omega
def acq:(2:O)^23=8388608:=by decide
def CL(o:χ Ordering):ξ:=o==γ .gt||o==γ .eq
def C'(o:χ Ordering):ξ:=o==γ .lt||o==γ .eq
def dV(x:O):ξ:=CL (bR.format.order x 3313500160)&&C' (bR.format.order x 1166016512)
def arz(h:dV i=ε):io i 12:=by
 unfold dV at h;rw[aP]at h;obtain⟨d,f⟩:=h;unfold azb at d f;have p:bR.format.read 3313500160=.number ε 8388608 (-11):=by decide+kernel
 have q:bR.format.read 1166016512=.number η 8388608 (-11):=by decide+kernel
 rw[p]at d;rw[q]at f;cases g:bR.format.read i with
 |nan s t=>rw[g]at d;cases d
 |infinity s=>
  rw[g]at d f;cases s
  ·cases f
  ·cases d
 |number s m c=>
  rw[g]at d f;obtain⟨w,y,r⟩:=aaK g;refine⟨s,m,c,g,?_⟩;by_cases l:c+(m.log2:Z)<=12
  ·exact l
  ·exfalso
   have u:m≠0:=λe=>by have:=r e;subst e;rw[show Nat.log2 0=0 by decide]at l;omega
   have j:∀a b:Z,C' (γ (compare a b))=ε->a<=b:=λa b h=>by unfold C' at h;rw[po,fm,fm,aC,aC,Int.compare_eq_lt,Int.compare_eq_eq]at h;omega
   have k:∀a b:Z,CL (γ (compare a b))=ε->b<=a:=λa b h=>by unfold CL at h;rw[po,fm,fm,aC,aC,Int.compare_eq_gt,Int.compare_eq_eq]at h;omega
   have n:=k _ _ d;have o:=j _ _ f;rw[qh,qh]at n o;have v:8388608*2^(-11-min c (-11)).toNat<m*2^(c-min c (-11)).toNat:=by
    calc 8388608*2^(-11-min c (-11)).toNat=2^(23+(-11-min c (-11)).toNat):=by rw[km,acq]
     _<2^(m.log2+(c-min c (-11)).toNat):=Nat.pow_lt_pow_right (by omega) (by omega)
     _=2^m.log2*2^(c-min c (-11)).toNat:=km ..
     _<=m*2^(c-min c (-11)).toNat:=iY _ (Nat.log2_self_le u)
   cases s<;>simp only[a6,be]at n o<;>omega
def ax4:∀g:O,g<=8->bR.format.read (bR.nearest ((2^g:O):Z))=.number η 8388608 ((g:Z) -23):=λg a=>by
 have:g=0\/g=1\/g=2\/g=3\/g=4\/g=5\/g=6\/g=7\/g=8:=by omega
 rcases this with rfl|rfl|rfl|rfl|rfl|rfl|rfl|rfl|rfl<;>decide+kernel
def arv(L:O):2^(L+1)*8388608=2^(L+23+1):=by
 have e:L+23+1=(L+1)+23:=by omega
 rw[e,km 2 (L+1) 23,acq]
def an1(m:O):(m*8388608).log2<=m.log2+23:=by refine sO ?_;rw[<-arv];exact Fx (log2_lt m) (by omega)
def mul_eq{x y:O}{s t:ξ}{m n:O}{i j:Z}(a:bR.format.read x=.number s m i)(b:bR.format.read y=.number t n j):bR.format.mul x y=γ (bR.format.nearest (s^^t) (m*n) (i+j)):=by unfold aza;rw[a,b];rfl
def an2{x y:O}{s t:ξ}{m n:O}{i j e:Z}(a:bR.format.read x=.number s m i)(b:bR.format.read y=.number t n j)(c:i+j+((m*n).log2:Z)<=e)(d: -120<=e)(f:e<=100):(bR.format.mul x y).isSome=ε/\io ((bR.format.mul x y).getD 0) (e+1):=by rw[mul_eq a b];exact⟨rfl,ID (s^^t) (m*n) (i+j) c d f⟩
def mul_two{g:O}(b:io i 12)(c:g<=8):(bR.format.mul i (bR.nearest ((2^g:O):Z))).isSome=ε/\io ((bR.format.mul i (bR.nearest ((2^g:O):Z))).getD 0) 21:=by obtain⟨s,m,a,d,f⟩:=b;have h:=an1 m;exact an2 d (ax4 g c) (e:=20) (by omega) (by omega) (by omega)
def pf(x g:O):O:=(bR.format.mul x (bR.nearest ((2^g:O):Z))).getD 0
def o9(x g:O):O:=(bR.format.add (pf x g) 1056964608).getD 0
def PZ{x g:O}(h:dV x=ε)(c:g<=8):bR.format.mul x (bR.nearest ((2^g:O):Z))=γ (pf x g)/\bR.format.add (pf x g) 1056964608=γ (o9 x g)/\io (o9 x g) 23:=by
 obtain⟨a,d⟩:=mul_two (arz h) c;have f:bR.format.mul x (bR.nearest ((2^g:O):Z))=γ (pf x g):=by
  unfold pf;cases e:bR.format.mul x (bR.nearest ((2^g:O):Z))with
  |none=>rw[e]at a;cases a
  |some z=>rfl
 have i:io (pf x g) 21:=d;obtain⟨b,j⟩:=BV (e:=21) i (CJ (show wq 1056964608 21=ε by decide+kernel)) (by omega) (by omega);have k:bR.format.add (pf x g) 1056964608=γ (o9 x g):=by
  unfold o9;cases e:bR.format.add (pf x g) 1056964608 with
  |none=>rw[e]at b;cases b
  |some z=>rfl
 exact⟨f,k,j⟩
def ju(x g:O):Z:=(BF .f64 (qR (qL (o9 x g))) .i64).getD 0
def acw{x g:O}(h:dV x=ε)(a:g<=8): -16777217<=ju x g/\ju x g<=16777217:=by obtain⟨_,_,f⟩:=PZ h a;obtain⟨N,n,o,_,_,e,_,_,_,b,_⟩:=Rl f;unfold ju;rw[e];exact b
def atI{m:O}(h:jz.decode i=.number q m A)(w:ψ):(g_ 291 #[.float .f64 i]).run θ w=.ok (.value (.float .f64 (qR i))) w:=by
 rw[nt func291 (e:=adn "math.archFloor" .down) (by kernel_rfl) (by kernel_rfl) (by kernel_rfl) (by kernel_rfl)];have e:(adn "math.archFloor" .down #[.float .f64 i]).run θ w=.ok (.float .f64 (qR i)) w:=by
  unfold qR
  conv in(adn _ _ _)=>whnf
  rw[h];rfl
 rw[e];rfl
def agq{m:O}(h:jz.decode i=.number q m A)(w:ψ):aM θ 261 #[.float .f64 i] w λe w'=>e=.returned (.float .f64 (qR i))/\w'=w:=by
 have mixed:=mixed;have a:=atI h;clear h
 go_enter func261,ntmps261
 go_wp2
 refine gl (v:=.float .f64 (qR i)) ?_ rfl ⟨rfl,rfl⟩;simp[results,results261,go_sem]
def aaz(h:i<=8):aa .i64 (2^i:Z)=((2^i:O):Z)/\((2^i:O):Z)<=256/\1<=((2^i:O):Z):=by
 have:i=0\/i=1\/i=2\/i=3\/i=4\/i=5\/i=6\/i=7\/i=8:=by omega
 rcases this with rfl|rfl|rfl|rfl|rfl|rfl|rfl|rfl|rfl<;>decide
def agS{x g:O}(h:dV x=ε)(c:g<=8)(w:ψ):aM θ 218 #[.float .f32 x,.int .i64 g] w λe w'=>e=.returned (ι (ju x g))/\w'=w:=by
 have mixed:=mixed;obtain⟨d,f,j⟩:=PZ h c;obtain⟨N,n,o,k,⟨s,m,i,l⟩,a,q,r,t,u,v,y⟩:=Rl j;have p:ju x g=N:=by unfold ju;rw[a];rfl
 rw[p];have b:=λw=>agq l w
 obtain⟨A,B,C⟩:=aaz c;generalize D:((2^g:O):Z)=P at*;have G:∀W,(binOp .mul 154 (.float .f32 x) (.float .f32 (floatOfInt .f32 P))).run θ W=.ok (.float .f32 (pf x g)) W:=λW=>TH W .mul 154 .f32 x _ _ d
 have H:∀W,(binOp .add 154 (.float .f32 (pf x g)) (.float .f32 1056964608)).run θ W=.ok (.float .f32 (o9 x g)) W:=λW=>TH W .add 154 .f32 _ _ _ f
 have I:∀W,(convert 154 258 (.float .f32 (o9 x g))).run θ W=.ok (.float .f64 (qL (o9 x g))) W:=λW=>run_convert_float_float W 154 258 .f32 .f64 _ _ (by kernel_rfl) (by kernel_rfl) k
 have L:∀W,(convert 258 3 (.float .f64 (qR (qL (o9 x g))))).run θ W=.ok (ι N) W:=λW=>run_convert_float_int W 258 3 .f64 .i64 _ _ (by kernel_rfl) (by kernel_rfl) a
 have z:(g:Z)<=8:=by omega
 clear d f j k l a q r t u v y p h
 go_enter func218,ntmps218
 go_wp2_with (go_at_call 261;refine(b _).mono ?_;rintro e M ⟨rfl,rfl⟩)
 go_ret
 exact⟨rfl,rfl⟩
def agw{x g:O}(h:dV x=ε)(b:g<=8)(w:ψ):aM θ 240 #[.float .f32 x,.int .i64 g] w λe w'=>e=.returned (ι (ju x g))/\w'=w:=by
 have mixed:=mixed;obtain⟨c,d,f⟩:=PZ h b;obtain⟨N,n,o,q,⟨s,m,i,r⟩,j,k,l,t,z,A,B⟩:=Rl f;have p:ju x g=N:=by unfold ju;rw[j];rfl
 rw[p];obtain⟨C,D,G⟩:=aaz b;generalize H:((2^g:O):Z)=P at*;have I:∀W,(binOp .mul 154 (.float .f32 x) (.float .f32 (floatOfInt .f32 P))).run θ W=.ok (.float .f32 (pf x g)) W:=λW=>TH W .mul 154 .f32 x _ _ c
 have L:∀W,(binOp .add 154 (.float .f32 (pf x g)) (.float .f32 1056964608)).run θ W=.ok (.float .f32 (o9 x g)) W:=λW=>TH W .add 154 .f32 _ _ _ d
 have M:∀W,(convert 154 3 (.float .f32 (o9 x g))).run θ W=.ok (ι n) W:=λW=>run_convert_float_int W 154 3 .f32 .i64 _ _ (by kernel_rfl) (by kernel_rfl) k
 have u:bR.format.order (floatOfInt .f32 n) (o9 x g)=γ o:=l;have v:(g:Z)<=8:=by omega
 have Q:aa .i64 (n-1)=n-1:=by rw[R6];omega
 clear c d f q r j k l p h;subst t;cases y:o==.gt with
 |true=>
  have a:o=.gt:=by simpa using y
  subst a
  go_enter aep,ntmps240
  go_wp2
  go_ret
  exact⟨rfl,rfl⟩
 |false=>
  go_enter aep,ntmps240
  go_wp2
  go_ret
  exact⟨rfl,rfl⟩
def agG(x:O)(w:ψ):aM θ 217 #[.float .f32 x] w λe w'=>e=.returned (.bool (dV x))/\w'=w:=by
 have mixed:=mixed;obtain⟨a,c⟩:∃a,bR.format.order x 3313500160=a:=⟨_,rfl⟩;obtain⟨b,d⟩:∃b,bR.format.order x 1166016512=b:=⟨_,rfl⟩;have e:dV x=(CL a&&C' b):=by unfold dV;rw[c,d]
 rw[e];clear e;rcases a with _|a<;>(try cases a)<;>rcases b with _|b<;>(try cases b)<;>
 ·go_enter func217,ntmps217
  go_wp2
  go_ret
  exact⟨rfl,rfl⟩
def agH(x:O)(w:ψ):aM θ 169 #[.float .f32 x] w λe w'=>e=.returned (.bool (dV x))/\w'=w:=by
 have mixed:=mixed;obtain⟨a,c⟩:∃a,bR.format.order x 3313500160=a:=⟨_,rfl⟩;obtain⟨b,d⟩:∃b,bR.format.order x 1166016512=b:=⟨_,rfl⟩;have e:dV x=(CL a&&C' b):=by unfold dV;rw[c,d]
 rw[e];clear e;rcases a with _|a<;>(try cases a)<;>rcases b with _|b<;>(try cases b)<;>
 ·go_enter func169,ntmps169
  go_wp2
  go_ret
  exact⟨rfl,rfl⟩
def yE(pv:O->ξ):E τ->χ (τ×E ξ)
 |[.float .f32 x]=>γ (.bool (pv x),[])
 |_=>ζ
def yN(pv:O->ξ)(a:Θ):E τ->χ (τ×E ξ)
 |[.float .f32 x,.int .i64 g]=>γ (ι (a x g.toNat),[pv x,κ (0<=g),κ (g<=8)])
 |_=>ζ
def Jp{a:E τ->χ (τ×E ξ)}(b:∀args w,(g_ I args).run θ w=.ok (.enter I args) w)(h:∀vs x ob,a vs=γ (x,ob)->aJ ob=ε->∀w,aM θ I vs.toArray w λe w'=>e=.returned x/\w'=w):ak θ I (aW a):=
 n4 b λvs x ob c d w _=>(h vs x ob c d w).mono λ_ _ ⟨g,i⟩=>⟨g,i▸Fr.refl _ _⟩
def aqf:ak θ 217 (aW (yE dV)):=Jp (λargs w=>enters 217 f217 func217 rfl args w) λb x c a _ w=>by
 unfold yE at a;split at a
 ·cases a
  exact agG _ w
 ·cases a
def aqg:ak θ 169 (aW (yE dV)):=Jp (λargs w=>enters 169 f169 func169 rfl args w) λb x c a _ w=>by
 unfold yE at a;split at a
 ·cases a
  exact agH _ w
 ·cases a
def aqN:ak θ 218 (aW (yN dV ju)):=Jp (λargs w=>enters 218 f218 func218 rfl args w) λe x f a b w=>by
 unfold yN at a;split at a
 ·rename_i x g
  cases a;simp only[Ω,ax,aj,aL]at b;obtain⟨c,d,h⟩:=b;obtain⟨g,rfl⟩:=rQ d;exact agS c (by omega) w
 ·cases a
def aqO:ak θ 240 (aW (yN dV ju)):=Jp (λargs w=>enters 240 f240 aep rfl args w) λe x f a b w=>by
 unfold yN at a;split at a
 ·rename_i x g
  cases a;simp only[Ω,ax,aj,aL]at b;obtain⟨c,d,h⟩:=b;obtain⟨g,rfl⟩:=rQ d;exact agw c (by omega) w
 ·cases a
def WI(pv:O->ξ)(a:Θ):aG:=ext (ext lN 217 (aW (yE pv))) 218 (aW (yN pv a))
def WJ(pv:O->ξ)(a:Θ):aG:=ext (ext nH 169 (aW (yE pv))) 240 (aW (yN pv a))
def awW(pv:O->ξ)(c:Θ)(a b:O)(g:Z):let d:=[AV.af [AV.agg [vI 0,vI 0],vB η]];let e:=κ (g<=(8:Z));let f:=κ ((0:Z)<=g);ad θ (WI pv c) K 100 f76 [.v (.complex .f32 a b),.v (ι g)] [] dR
 =bif pv a then bif !pv b then rO d []else bif !aH g (0:Z) (8:Z)then rO d []else Ξ [pv a,f,e,pv b,f,e] (rO [AV.af [AV.agg [vI (c a (aT g)),vI (c b (aT g))],vB ε]] [])else rO d []:=by intros;kernel_rfl
def awX(pv:O->ξ)(c:Θ)(a b:O)(g:Z):let d:=[AV.af [AV.agg [vI 0,vI 0],vB η]];let e:=κ ((0:Z)<=g);let f:=κ (g<=(8:Z));ad θ (WJ pv c) K 100 f98 [.v (.complex .f32 a b),.v (ι g)] [] dR
 =bif !pv a then rO d []else bif !pv b then rO d []else bif !aH g (0:Z) (8:Z)then rO d []else Ξ [pv a,e,f,pv b,e,f] (rO [AV.af [AV.agg [vI (c a (aT g)),vI (c b (aT g))],vB ε]] []):=by intros;kernel_rfl
def kv(a b:O)(g:Z):ξ:=dV a&&(dV b&&aH g 0 8)
def jU(a b:O)(g:Z):Z:=bif kv a b g then ju a g.toNat else 0
def jV(a b:O)(g:Z):Z:=bif kv a b g then ju b g.toNat else 0
def alB(a b:O)(g:Z):(-16777217<=jU a b g/\jU a b g<=16777217)/\ -16777217<=jV a b g/\jV a b g<=16777217:=by
 unfold jU jV;cases h:kv a b g with
 |false=>simp
 |true=>unfold kv at h;rw[aP,aP]at h;obtain⟨c,d,e⟩:=h;have:=cd.1 e;exact⟨acw c (by omega),acw d (by omega)⟩
def yA(c d:O->O->Z->Z)(gk:O->O->Z->ξ):E τ->χ (τ×E ξ)
 |[.complex .f32 a b,.int .i64 g]=>γ (.tuple #[.agg #[ι (c a b g),ι (d a b g)],.bool (gk a b g)],[])
 |_=>ζ
def ak6:aK θ (WI dV ju):=az (az nI aqf) aqN
def ak7:aK θ (WJ dV ju):=az (az qT aqg) aqO
def apF:ak θ 76 (aW (yA jU jV kv)):=by
 refine et (n:=100) ak6 func76 rfl λl x m c o=>?_
 unfold yA at c;split at c
 ·rename_i a b g
  simp only[aC,cI]at c;obtain⟨rfl,rfl⟩:=c;have e:=awW dV ju a b g;simp only[eG,kQ];rw[e];unfold jU jV kv
  suffices h:aE _ (oI (.tuple #[.agg #[ι (bif dV a&&(dV b&&aH g 0 8)then ju a g.toNat else 0),ι (bif dV a&&(dV b&&aH g 0 8)then ju b g.toNat else 0)],.bool (dV a&&(dV b&&aH g 0 8))]))from⟨h.out⟩
  refine aD (λd=>aD (λi=>?_) λi=>aD (λj=>?_) λj=>?_) λd=>?_
  ·rw[d,show dV b=η by simpa using i]
   exact F ⟨_,rfl,rfl⟩
  ·rw[d,show dV b=ε by simpa using i,show aH g 0 8=η by simpa using j]
   exact F ⟨_,rfl,rfl⟩
  ·have k:dV b=ε:=by simpa using i
   have f:aH g 0 8=ε:=by simpa using j
   have:=cd.1 f;rw[d,k,f];exact c_ (F ⟨_,rfl,rfl⟩)
  ·rw[d]
   exact F ⟨_,rfl,rfl⟩
 ·cases c
def apG:ak θ 98 (aW (yA jU jV kv)):=by
 refine et (n:=100) ak7 func98 rfl λm x o c p=>?_
 unfold yA at c;split at c
 ·rename_i a b g
  simp only[aC,cI]at c;obtain⟨rfl,rfl⟩:=c;have e:=awX dV ju a b g;simp only[eG,kQ];rw[e];unfold jU jV kv
  suffices h:aE _ (oI (.tuple #[.agg #[ι (bif dV a&&(dV b&&aH g 0 8)then ju a g.toNat else 0),ι (bif dV a&&(dV b&&aH g 0 8)then ju b g.toNat else 0)],.bool (dV a&&(dV b&&aH g 0 8))]))from⟨h.out⟩
  refine aD (λd=>?_) λd=>aD (λi=>?_) λi=>aD (λj=>?_) λj=>?_
  ·rw[show dV a=η by simpa using d]
   exact F ⟨_,rfl,rfl⟩
  ·rw[show dV a=ε by simpa using d,show dV b=η by simpa using i]
   exact F ⟨_,rfl,rfl⟩
  ·rw[show dV a=ε by simpa using d,show dV b=ε by simpa using i,show aH g 0 8=η by simpa using j]
   exact F ⟨_,rfl,rfl⟩
  ·have k:dV a=ε:=by simpa using d
   have l:dV b=ε:=by simpa using i
   have f:aH g 0 8=ε:=by simpa using j
   have:=cd.1 f;rw[k,l,f];exact c_ (F ⟨_,rfl,rfl⟩)
 ·cases c
abbrev cO(f:Θ):O->E τ:=λj=>[ι (f j 0),ι (f j 1),ι (f j 2),ι (f j 3),ι (f j 4),ι (f j 5),ι (f j 6),ι (f j 7)]
def wM(f:Θ)(m:O):E Cy:=(dK m).map λj=>bq (f j)
def ks(L:E Cy):O->O->Z:=λj k=>match L[j]?with
 |some c=>c.f k
 |none=>0
def YR(f:Θ)(m:O):(wM f m).length=m:=by simp[wM]
def anz(f:Θ){m j:O}(a:j<m):(wM f m)[j]?=γ (bq (f j)):=by simp[wM,a]
def Ql{f g:O->O->Z}(h:∀k,k<8->f i k=g i k):cO f i=cO g i:=by simp only[cO,h 0 (by omega),h 1 (by omega),h 2 (by omega),h 3 (by omega),h 4 (by omega),h 5 (by omega),h 6 (by omega),h 7 (by omega)]
def ato(f:Θ){m j:O}(a:j<m):cO (ks (wM f m)) j=cO f j:=by
 refine Ql λk b=>?_
 simp only[ks,anz f a];rcases(by omega:k=0\/k=1\/k=2\/k=3\/k=4\/k=5\/k=6\/k=7)with rfl|rfl|rfl|rfl|rfl|rfl|rfl|rfl<;>rfl
structure LI where
 b:ξ
 T:E Cy
 aw:E ξ
abbrev z0(T:E Cy):E AB:=[.row ε T.length 8 (cO (ks T)) 88]
abbrev acA(T:E Cy):AV:=.af [.own 0 T.length,.v (.bool ε)]
def Jo(mds:E Md)(U:E SA->χ LI):Spec:=λb H a=>
 match tf H mds b with
 |some c=>match U (c.map (·.sa))with
  |some u=>γ {val:=.af [.sl a 8 0 0 u.T.length ζ,.v (.bool u.b)],rd:=(er mds c).filterMap id,put:=[],new:=[.row η u.T.length 8 (cO (ks u.T)) 88],aw:=c.flatMap (·.ob)++u.aw}
  |none=>ζ
 |none=>ζ
variable {P:Program}
def aue{mds:E Md}{FY FN:E SA->χ FR}{U:E SA->χ LI}(hw:oT mds=η)(hY:ak P I (ai mds FY))(hN:ak P I (ai mds FN))(h:∀sas u,U sas=γ u->aJ u.aw=ε->Ψ (bJ mds sas []).length (bO mds sas).length=ε/\((u.b=ε/\∃ob,FY sas=γ {val:=acA u.T,new:=z0 u.T,aw:=ob}/\aJ ob=ε)\/(u.b=η/\u.T=[]/\∃ob,FN sas=γ {val:=eP,aw:=ob}/\aJ ob=ε))):ak P I (Jo mds U):=by
 refine⟨hY.1,λs H g δ ν t w B ho hv hr S p hsep y=>?_⟩;unfold Jo at B;split at B
 case h_2=>cases B
 rename_i C T;split at B
 case h_2=>cases B
 rename_i u hu;simp only[aC]at B;subst B;have D:aJ (C.flatMap (·.ob))=ε/\aJ u.aw=ε:=by simpa[aJ,gM]using ho
 obtain⟨R,hc⟩:=h _ _ hu D.2;have z:fS (er mds C) (bJ mds (C.map (·.sa)) [])=[]:=I3 _ _ λb W=>Ge hw b W
 rcases hc with⟨W,ob,G,L⟩|⟨W,hT,ob,G,L⟩
 ·have M:ai mds FY s H g=γ {val:=.af [.own g u.T.length,.v (.bool ε)],rd:=(er mds C).filterMap id,put:=[],new:=z0 u.T,aw:=C.flatMap (·.ob)++ob}:=by
   unfold ai;rw[T];simp only[G];show cond _ _ _=_
   rw[hw,R,z];rfl
  refine(hY.2 s H g _ ν t w M (by simpa[aJ,gM]using And.intro D.1 L) hv hr S p (λi o j b b' hp=>by cases hp) (y.call λx X=>by first|exact X|cases X)).mono ?_;rintro e w' ⟨v,m,rfl,d⟩;have A:=d.new 0 _ rfl;have hv2:VR m (.af [.sl g 8 0 0 u.T.length ζ,.v (.bool u.b)]) v:=by
   have:=d.val;simp only[VR]at this⊢;obtain⟨l,G,L⟩:=this
   match l,L with
   |[a,c],⟨⟨b0,f,ha⟩,N,_⟩=>
    refine⟨[a,c],G,⟨γ ⟨b0.n,b0.o,ζ⟩,b0.c,ha,λc' Q=>(by cases Q),?_,λ_=>⟨b0,f,by simp⟩⟩,by rw[W];exact N,trivial⟩;rcases A with⟨q,_,_⟩|⟨k,l,t',fz,q,_,_,h4,_⟩
    ·cases q
    ·rw[im]at q
     rw[f]at q;cases q;exact h4
  refine⟨v,m,rfl,d.le,d.cg,hv2,λi b R=>(by cases R),λj b n=>?_,d.os,d.tape,d.output,d.size,d.block,d.fresh,d.apart⟩
  match j with
  |0=>
   simp only[kO,aC]at n;subst n;rcases A with⟨q,_,_⟩|⟨k,l,t',fz,q,h2,_,h4,h5⟩
   ·cases q
   ·exact .inr ⟨k,l,t',fz,q,h2,λh=>(by cases h),h4,h5⟩
  |j+1=>simp at n
 ·have M:ai mds FN s H g=γ {val:=eP,rd:=(er mds C).filterMap id,put:=[],new:=[],aw:=C.flatMap (·.ob)++ob}:=by
   unfold ai;rw[T];simp only[G];show cond _ _ _=_
   rw[hw,R,z];rfl
  refine(hN.2 s H g _ ν t w M (by simpa[aJ,gM]using And.intro D.1 L) hv hr S (λj n=>aR n (dh _)) (λi o j b b' hp=>by cases hp) (y.call λx X=>by first|exact X|cases X)).mono ?_;rintro e w' ⟨v,m,rfl,d⟩;have r:m g=ζ:=by
   have h0:ν g=ζ:=p 0 (oq);cases hq:m g with
   |none=>rfl
   |some b=>have:=d.cg g h0 (by rw[hq];simp);simp at this
  have hv0:VR m (.af [.sl g 8 0 0 0 ζ,.v (.bool η)]) v:=by
   have:=d.val;simp only[VR]at this⊢;obtain⟨l,G,L⟩:=this
   match l,L with
   |[a,b],⟨ha,N,_⟩=>exact⟨[a,b],G,⟨ζ,0,ha,λc' Q=>(by cases Q),aQ _,λhc=>aR hc (ol 0)⟩,N,trivial⟩
  refine⟨v,m,rfl,d.le,λi q h2=>?_,by rw[W,hT];exact hv0,λi b R=>(by cases R),λj b n=>?_,d.os,d.tape,d.output,d.size,d.block,λj b n hq=>?_,λj j' b b' hne n hj'=>?_⟩
  ·have:=d.cg i q h2
   simp at this;omega
  ·match j with
   |0=>simp only[kO,aC]at n;subst n;rw[hT];exact .inl ⟨rfl,rfl,r⟩
   |j+1=>simp at n
  ·have n:j<1:=n
   have:j=0:=by omega
   subst this;rw[im,r]at hq;cases hq
  ·have n:j<1:=n
   have hj':j'<1:=hj';omega
noncomputable abbrev G4:cb:=f77
noncomputable abbrev G5:cb:=f99
def Nw(a:(O->O->Z)->Z->O->O->Z)(b:(O->O->Z)->Z->O->ξ):aG:=ext (ext g0 74 (ai dl (qB a b))) 96 (ai dl (qB a b))
def zA(a:E Wh->ξ):aG:=ext (ext nH 112 (ai bF (qD a))) 157 (ai bF (qD a))
abbrev jk(m:O)(f:Θ)(i:O)(h:Θ):E AB:=[.row η m 9 (J f) 123,.row ε i 8 (cO h) 88]
abbrev qY(m:O)(f:Θ):E AB:=[.row η m 9 (J f) 123]
abbrev DF:Ex->E O:=cj [0,1,6,20,21] [6] [4,5]
abbrev EM(m n i:O):E AV:=[.sl 0 9 0 0 m ζ,.v (ι n),.own 1 i,.v (ι n),.v (ι i)]
def asO(a:(O->O->Z)->Z->O->O->Z)(j:(O->O->Z)->Z->O->ξ)(m:O)(f:Θ)(n:O)(h:Θ)(i:O):let b:=(ο λq=>J f (0+q));let e:=AB.row η m 9 (J f) 123;let d:=(↑n:Z);let g:=(↑i:Z);let c:=(aa .i64 (g*aa .i64 (eh (24:Z) d)));a0 θ (Nw a j) 100 K (a5 0 G4) (ar 0 41 ((DF .normal).zip (EM m n i))) (jk m f i h) (cw 41 DF 1)
 =bif κ (g<d)then Ξ [!κ (d=(0:Z)),Δ (0+m) m,aF m λq=>J f (0+q),κ (m<=274877906944)] (bif !j b c m then rO [AV.v (gj ζ 0 0),vB η] [e]else Ξ [Δ i i,Δ (i+1) 549755813888] (am.out .normal [AV.sl 0 9 0 0 m ζ,vI d,AV.own 1 (i+1),vI d,vI (aa .i64 (g+(1:Z)))] [e,AB.row ε (i+1) 8 (λq=>[ι (bif ω q i then h q 0 else a b c m 0),ι (bif ω q i then h q 1 else a b c m 1),ι (bif ω q i then h q 2 else a b c m 2),ι (bif ω q i then h q 3 else a b c m 3),ι (bif ω q i then h q 4 else a b c m 4),ι (bif ω q i then h q 5 else a b c m 5),ι (bif ω q i then h q 6 else a b c m 6),ι (bif ω q i then h q 7 else a b c m 7)]) 88]))else am.out (Ex.exit 0) [AV.own 1 i] [e,AB.row ε i 8 (cO h) 88]:=by intros;kernel_rfl
noncomputable abbrev Is(m:O)(f:Θ)(n:O)(c:ξ)(h:Θ):O->χ Sum:=bX 0 (bm 41 (DF .normal) 1 (EM m n 0) (jk m f 0 λ_ _=>0) (λa=>cond c (a .normal (ar 0 41 [(6,.own 1 n)]) (jk m f n h)) (a .ret (ar 0 41 [(4,.v (.slice ζ 0 0)),(5,.v (.bool η))]) (qY m f))))
def axn(b:E Wh->ξ)(m:O)(f:Θ)(x:Z)(n:O)(c:ξ)(h:Θ):let d:=[AV.af [AV.v (gj ζ 0 0),vB η]];let a:=AB.row η m 9 (J f) 123;let e:=(0:Z);ad θ (zA b) (Is m f n c h) 100 G4 [.sl 0 9 0 0 m ζ,.v (ι x)] (qY m f) (ag 1)
 =bif κ (x>= (1:Z))then Ξ [!κ (x=e)] (bif !fk (24:Z) x==e then rO d [a]else Ξ [Δ (0+m) m,aF m λq=>J f (0+q),κ (m<=549755813888)] (bif !b (V (ο λq=>J f (0+q)) m)then rO d [a]else Ξ [κ (e<=x),κ (x<=(1099511627776:Z)),cy ([AV.sl 0 9 0 0 m ζ,vI x,AV.own 1 0,vI x,vI 0]=EM m n 0/\Φ [a,AB.row ε 0 8 (λ_=>[ι 0,ι 0,ι 0,ι 0,ι 0,ι 0,ι 0,ι 0]) 88] (jk m f 0 λ_ _=>e))] (bif c then rO [AV.af [AV.own 1 n,vB ε]] [a,AB.row ε n 8 (cO h) 88]else rO d [a])))else rO d [a]:=by intros;kernel_rfl
abbrev DG:Ex->E O:=cj [0,1,6,7] [6] [4,5]
abbrev EN(m n i:O):E AV:=[.sl 0 9 0 0 m ζ,.v (ι n),.own 1 i,.v (ι i)]
def asP(a:(O->O->Z)->Z->O->O->Z)(j:(O->O->Z)->Z->O->ξ)(m:O)(f:Θ)(n:O)(h:Θ)(i:O):let b:=(ο λq=>J f (0+q));let e:=AB.row η m 9 (J f) 123;let d:=(↑n:Z);let g:=(↑i:Z);let c:=(aa .i64 (g*aa .i64 (eh (24:Z) d)));a0 θ (Nw a j) 100 K (a5 0 G5) (ar 0 42 ((DG .normal).zip (EN m n i))) (jk m f i h) (cw 42 DG 1)
 =bif κ (g<d)then Ξ [!κ (d=(0:Z)),Δ (0+m) m,aF m λq=>J f (0+q),κ (m<=274877906944)] (bif !j b c m then rO [AV.own 1 0,vB η] [e,AB.row ε 0 8 (λ_=>[]) 88]else Ξ [Δ i i,Δ (i+1) 549755813888] (am.out .normal [AV.sl 0 9 0 0 m ζ,vI d,AV.own 1 (i+1),vI (aa .i64 (g+(1:Z)))] [e,AB.row ε (i+1) 8 (λq=>[ι (bif ω q i then h q 0 else a b c m 0),ι (bif ω q i then h q 1 else a b c m 1),ι (bif ω q i then h q 2 else a b c m 2),ι (bif ω q i then h q 3 else a b c m 3),ι (bif ω q i then h q 4 else a b c m 4),ι (bif ω q i then h q 5 else a b c m 5),ι (bif ω q i then h q 6 else a b c m 6),ι (bif ω q i then h q 7 else a b c m 7)]) 88]))else am.out (Ex.exit 0) [AV.own 1 i] [e,AB.row ε i 8 (cO h) 88]:=by intros;kernel_rfl
noncomputable abbrev OF(m:O)(f:Θ)(n:O)(c:ξ)(h:Θ):O->χ Sum:=bX 0 (bm 42 (DG .normal) 1 (EN m n 0) (jk m f 0 λ_ _=>0) (λa=>cond c (a .normal (ar 0 42 [(6,.own 1 n)]) (jk m f n h)) (a .ret (ar 0 42 [(4,.own 1 0),(5,.v (.bool η))]) (jk m f 0 λ_ _=>0))))
def axo(a:E Wh->ξ)(m:O)(f:Θ)(x:Z)(n:O)(c:ξ)(h:Θ):let b:=[AV.af [AV.own 1 0,vB η]];let g:=AB.row η m 9 (J f) 123;let e:=(0:Z);let d:=[g,AB.row ε 0 8 (λ_=>[]) 88];ad θ (zA a) (OF m f n c h) 100 G5 [.sl 0 9 0 0 m ζ,.v (ι x)] (qY m f) (ag 1)
 =bif κ (x>= (1:Z))then bif κ (x<=(24:Z))then Ξ [!κ (x=e)] (bif !fk (24:Z) x==e then rO b d else Ξ [Δ (0+m) m,aF m λq=>J f (0+q),κ (m<=549755813888)] (bif !a (V (ο λq=>J f (0+q)) m)then rO b d else Ξ [cy ([AV.sl 0 9 0 0 m ζ,vI x,AV.own 1 0,vI 0]=EN m n 0/\Φ d (jk m f 0 λ_ _=>e))] (bif c then rO [AV.af [AV.own 1 n,vB ε]] [g,AB.row ε n 8 (cO h) 88]else rO b [g,AB.row ε 0 8 (cO λ_ _=>e) 88])))else rO b d else rO b d:=by intros;kernel_rfl
def jr(f:Θ)(m:O)(x:Z):O->O->Z:=λj=>d_ f ((j:Z)*eh 24 x) m
def qg(f:Θ)(m:O)(x:Z)(j:O):ξ:= !dB f ((j:Z)*eh 24 x) m
def kK(x:Z):ξ:=κ (x>=1)&&(κ (x<=24)&&(fk 24 x==0))
def eA(f:Θ)(m:O)(x:Z):ξ:=kK x&&(aO (V f m)&&bV (qg f m x) x.toNat)
def fH(f:Θ)(m:O)(x:Z):E Cy:=bif eA f m x then wM (jr f m x) x.toNat else[]
def Ja(h:kK A=ε):1<=A/\A<=24:=by rw[kK,aP,aP,aL,aL]at h;exact⟨h.1,h.2.1⟩
def avG{n:O}(a:1<=n)(b:n<=24):0<=eh 24 (n:Z)/\eh 24 (n:Z)<=24:=by rw[Bf (by omega)];exact⟨Int.ediv_nonneg (by omega) (by omega),Int.ediv_le_self _ (by omega)⟩
def aa0{i n:O}(b:i<n)(a:n<=24):aa aY ((i:Z)*aa aY (eh 24 (n:Z)))=(i:Z)*eh 24 (n:Z):=by have h:=avG (n:=n) (by omega) a;have c:=zW (x:=(i:Z)) (y:=eh 24 (n:Z)) (A:=24) (B:=24) (by omega) (by omega) (by omega) h.2;rw[bz (x:=eh 24 (n:Z)),bz]
def WS:aK θ (Nw d_ dB):=by refine az (az ba IP) ?_;rw[KI];exact Px
def Nx:aK θ (zA aO):=by unfold zA;rw[t_];exact az (az qT D7) z9
def aa1(f:Θ)(m n i:O)(o:Θ)(a:∀j,j<i->o j=jr f m n j)(j:O)(b:j<i+1):[ι (bif ω j i then o j 0 else d_ f ((i:Z)*eh 24 (n:Z)) m 0),ι (bif ω j i then o j 1 else d_ f ((i:Z)*eh 24 (n:Z)) m 1),ι (bif ω j i then o j 2 else d_ f ((i:Z)*eh 24 (n:Z)) m 2),ι (bif ω j i then o j 3 else d_ f ((i:Z)*eh 24 (n:Z)) m 3),ι (bif ω j i then o j 4 else d_ f ((i:Z)*eh 24 (n:Z)) m 4),ι (bif ω j i then o j 5 else d_ f ((i:Z)*eh 24 (n:Z)) m 5),ι (bif ω j i then o j 6 else d_ f ((i:Z)*eh 24 (n:Z)) m 6),ι (bif ω j i then o j 7 else d_ f ((i:Z)*eh 24 (n:Z)) m 7)]=cO (jr f m n) j:=by
 by_cases h:j<i
 ·rw[B6 h]
  simp only[a6,a j h]
 ·have:j=i:=by omega
  subst this;rw[UB];rfl
def abS(m:O)(f:Θ)(n:O)(o:m<=2^38)(l:n<=24):ck θ 1 (.block 0 (.loop (a5 0 G4))) (bm 41 (DF .normal) 1 (EM m n 0) (jk m f 0 λ_ _=>0) (λa=>cond (bV (qg f m n) n) (a .normal (ar 0 41 [(6,.own 1 n)]) (jk m f n (jr f m n))) (a .ret (ar 0 41 [(4,.v (.slice ζ 0 0)),(5,.v (.bool η))]) (qY m f)))):=by
 refine dQ WS (n:=100) (m:=1) (lv:=DF) (λi=>EM m n i) (λi=>jk m f i (bif Ψ i 0 then(λ_ _=>0)else jr f m n)) (λi=>bV (qg f m n) i=ε) n (λ_=>K) (du rfl rfl rfl) (aQ _) rfl λa Q g i c r=>⟨cN _ _ _,?_⟩
 have h:∀j,j<i->(bif Ψ i 0 then(λ_ _=>(0:Z))else jr f m n) j=jr f m n j:=by
  intro j d;cases i with
  |zero=>exact aR d (dh _)
  |succ i=>rfl
 rw[asO];simp only[cz,oN,sh];refine aD (λe=>?_) λe=>?_
 ·have e:=aV e
  have b:i<n:=by omega
  rw[aa0 b l,bz (x:=(i:Z)+1)];refine aq (by simp only[Ω,ax,aj,g8,qy,aL,bl,dn,bv];omega) (aD (λq=>?_) λq=>c_ (F ⟨i+1,⟨rfl,b,ro c q⟩,rfl,.cons (ab.refl _) (.cons (ab.row λj d=>?_) .nil)⟩))
  ·refine F ⟨_,Φ.refl _,?_⟩
   rw[o5 b q]at g;exact g
  ·exact aa1 f m n i _ h j d
 ·have e:=cu e
  have:i=n:=by omega
  subst this;refine F ⟨jk m f i (jr f m i),.cons (ab.refl _) (.cons (ab.row λj d=>Ql λk _=>by rw[h j d]) .nil),?_⟩;rw[aU rfl];rw[c]at g;exact g
def au7(m:O)(f:Θ)(n:O)(o:m<=2^38)(l:n<=24):ck θ 1 (.block 0 (.loop (a5 0 G5))) (bm 42 (DG .normal) 1 (EN m n 0) (jk m f 0 λ_ _=>0) (λa=>cond (bV (qg f m n) n) (a .normal (ar 0 42 [(6,.own 1 n)]) (jk m f n (jr f m n))) (a .ret (ar 0 42 [(4,.own 1 0),(5,.v (.bool η))]) (jk m f 0 λ_ _=>0)))):=by
 refine dQ WS (n:=100) (m:=1) (lv:=DG) (λi=>EN m n i) (λi=>jk m f i (bif Ψ i 0 then(λ_ _=>0)else jr f m n)) (λi=>bV (qg f m n) i=ε) n (λ_=>K) (du rfl rfl rfl) (aQ _) rfl λa Q g i d r=>⟨cN _ _ _,?_⟩
 have h:∀j,j<i->(bif Ψ i 0 then(λ_ _=>(0:Z))else jr f m n) j=jr f m n j:=by
  intro j b;cases i with
  |zero=>exact aR b (dh _)
  |succ i=>rfl
 rw[asP];simp only[cz,oN,sh];refine aD (λe=>?_) λe=>?_
 ·have e:=aV e
  have c:i<n:=by omega
  rw[aa0 c l,bz (x:=(i:Z)+1)];refine aq (by simp only[Ω,ax,aj,g8,qy,aL,bl,dn,bv];omega) (aD (λq=>?_) λq=>c_ (F ⟨i+1,⟨rfl,c,ro d q⟩,rfl,.cons (ab.refl _) (.cons (ab.row λj b=>?_) .nil)⟩))
  ·refine F ⟨jk m f 0 λ_ _=>0,.cons (ab.refl _) (.cons (ab.row λj b=>aR b (dh _)) .nil),?_⟩
   rw[o5 c q]at g;exact g
  ·exact aa1 f m n i _ h j b
 ·have e:=cu e
  have:i=n:=by omega
  subst this;refine F ⟨jk m f i (jr f m i),.cons (ab.refl _) (.cons (ab.row λj b=>Ql λk _=>by rw[h j b]) .nil),?_⟩;rw[aU rfl];rw[d]at g;exact g
def Ua:E SA->χ FR
 |[.row m g,.v (.int .i64 x)]=>γ {val:=acA (fH (ο g) m x),new:=z0 (fH (ο g) m x),aw:=[aF m g,κ (m<=2^38),eA (ο g) m x]}
 |_=>ζ
def T_:E SA->χ FR
 |[.row m g,.v (.int .i64 x)]=>γ {val:=eP,aw:=[aF m g,κ (m<=2^38),!eA (ο g) m x]}
 |_=>ζ
def LO(a:(O->O->Z)->O->Z->ξ)(rt:(O->O->Z)->O->Z->E Cy):E SA->χ LI
 |[.row m g,.v (.int .i64 x)]=>γ ⟨a (ο g) m x,rt (ο g) m x,[aF m g,κ (m<=2^38)]⟩
 |_=>ζ
def Lu(a:(O->O->Z)->O->Z->ξ)(rt:(O->O->Z)->O->Z->E Cy):E SA->χ FR
 |[.row m g,.v (.int .i64 x)]=>γ {val:=.af [.own 0 (rt (ο g) m x).length,.v (.bool (a (ο g) m x))],new:=z0 (rt (ο g) m x),aw:=[aF m g,κ (m<=2^38)]}
 |_=>ζ
variable {z:O->O->Z}
def aaW(h:eA z i A=ε):kK A=ε/\aO (V z i)=ε/\bV (qg z i A) A.toNat=ε:=by rw[eA,aP,aP]at h;exact⟨h.1,h.2.1,h.2.2⟩
def aaY(h:eA z i A=ε):fH z i A=wM (jr z i A) A.toNat:=by rw[fH,h];rfl
def Qk(h:eA z i A=η):fH z i A=[]:=by rw[fH,h];rfl
def aaX(f:Θ)(m:O)(x:Z):(fH f m x).length<=24:=by
 cases h:eA f m x with
 |true=>have:=Ja (aaW h).1;rw[aaY h,YR];omega
 |false=>rw[Qk h];exact ej _
def atx(_:A>=1)(h:fk 24 A=0):A<=24:=by
 by_cases a:A<=24
 ·exact a
 ·exfalso
  rw[xX (by omega),Int.emod_eq_of_lt (by omega) (by omega)]at h;omega
variable {Q:Ex->E AV->E AB->Prop}
def aaV(n:O)(q:n<=24)(o:kK A=ε->A=n)(r:i<=2^38)(h:eA z i A=ε->aE (.out .ret [.af [.own 1 n,.v (.bool ε)]] (jk i z n (jr z i n))) Q)(c:eA z i A=η->aE (.out .ret [.af [.v (.slice ζ 0 0),.v (.bool η)]] (qY i z)) Q):aE (ad θ (zA aO) (Is i z n (bV (qg z i n) n) (jr z i n)) 100 G4 [.sl 0 9 0 0 i ζ,.v (ι A)] (qY i z) (ag 1)) Q:=by
 rw[axn];simp only[cz,cZ];refine aD (λd=>?_) λd=>c (by rw[eA,kK,d];rfl)
 have k:=aV d;refine aq (by simp only[Ω,ax,aj,g8,qy];omega) (aD (λb=>c ?_) λb=>?_)
 ·have b:(fk 24 A==0)=η:=by simpa using b
  rw[eA,kK,b,g7,g7];rfl
 ·have b:(fk 24 A==0)=ε:=by simpa using b
  have g:kK A=ε:=by rw[kK,d,b,di (atx k (fm.1 b))];rfl
  have e:=o g;subst e;refine fu (aD (λa=>c ?_) λa=>aq ?_ (aD (λl=>h ?_) λl=>c ?_))
  ·have a:aO (V z i)=η:=by simpa using a
   rw[eA,a,g];rfl
  ·simp only[Ω,ax,aj,aL]
   exact⟨by omega,by omega,cG ⟨rfl,.cons (ab.refl _) (.cons (ab.row λj p=>aR p (dh _)) .nil)⟩⟩
  ·have a:aO (V z i)=ε:=by simpa using a
   rw[eA,a,g,cV,l];rfl
  ·have a:aO (V z i)=ε:=by simpa using a
   rw[eA,a,g,cV,l];rfl
def aaZ{n:O}(c:aF i p=ε)(d:eA (ο p) i A=ε)(f:A=n):Φ (jk i (ο p) n (jr (ο p) i n)) ([.row η i 9 p 123]++z0 (fH (ο p) i A))/\(fH (ο p) i A).length=n:=by
 subst f;have e:=aaY d;rw[cV]at e;have b:(fH (ο p) i n).length=n:=by rw[e,YR]
 refine⟨.cons (ab.row λj a=>(a7 c j a).symm) ?_,b⟩;show Φ _ [.row ε (fH (ο p) i n).length 8 (cO (ks (fH (ο p) i n))) 88]
 rw[b,e];exact .cons (ab.row λj a=>(ato _ a).symm) .nil
def aqo:ak θ 77 (ai dl Ua):=by
 refine ca Nx func77 rfl λi q a c=>?_
 unfold Ua at a;split at a
 ·rename_i m g x
  cases a;simp only[Ω]at c;obtain⟨d,k,e,_⟩:=c;have f:=aV k;have r:=Ja (aaW e).1;obtain⟨n,h⟩:∃n:O,x=n:=⟨x.toNat,by omega⟩;refine⟨qY m (ο g),Is m (ο g) n (bV (qg (ο g) m n) n) (jr (ο g) m n),100,.cons (ab.row λj l=>a7 d j l) .nil,da (abS m (ο g) n f (by omega)),?_⟩;refine aaV n (by omega) (λ_=>h) f (λb=>?_) λb=>by rw[e]at b;cases b
  obtain⟨o,p⟩:=aaZ d b h;exact F ⟨_,rfl,by rw[p];rfl,o⟩
 ·cases a
def aqm:ak θ 77 (ai dl T_):=by
 refine ca Nx func77 rfl λo r a e=>?_
 unfold T_ at a;split at a
 ·rename_i m g x
  cases a;simp only[Ω]at e;obtain⟨f,p,b,_⟩:=e;have i:=aV p;have b:eA (ο g) m x=η:=by simpa using b
  obtain⟨n,k,c⟩:∃n:O,n<=24/\(kK x=ε->x=n):=by
   cases q:kK x with
   |true=>have:=Ja q;exact⟨x.toNat,by omega,λ_=>by omega⟩
   |false=>exact⟨0,by omega,λh=>by cases h⟩
  refine⟨qY m (ο g),Is m (ο g) n (bV (qg (ο g) m n) n) (jr (ο g) m n),100,.cons (ab.row λj d=>a7 f j d) .nil,da (abS m (ο g) n i k),?_⟩;refine aaV n k c i (λl=>by rw[b]at l;cases l) λ_=>?_
  exact F ⟨_,rfl,rfl,.cons (ab.row λj d=>(a7 f j d).symm) .nil⟩
 ·cases a
def aoL:ak θ 77 (Jo dl (LO eA fH)):=by
 refine aue rfl aqo aqm λf u a c=>?_
 unfold LO at a;split at a
 ·rename_i m g x
  cases a;simp only[Ω]at c;obtain⟨d,e,_⟩:=c;refine⟨rfl,?_⟩;cases b:eA (ο g) m x with
  |true=>left;refine⟨rfl,[aF m g,κ (m<=2^38),eA (ο g) m x],rfl,?_⟩;simp only[Ω,ax,aj];exact⟨d,e,b⟩
  |false=>right;refine⟨rfl,Qk b,[aF m g,κ (m<=2^38),!eA (ο g) m x],rfl,?_⟩;simp only[Ω,ax,aj];exact⟨d,e,by rw[b];rfl⟩
 ·cases a
def aqn:ak θ 99 (ai dl (Lu eA fH)):=by
 refine ca Nx func99 rfl λu H i s=>?_
 unfold Lu at i;split at i
 ·rename_i m g x
  cases i;simp only[Ω]at s;obtain⟨l,v,_⟩:=s;have w:=aV v;obtain⟨n,y,p⟩:∃n:O,n<=24/\(kK x=ε->x=n):=by
   cases d:kK x with
   |true=>have:=Ja d;exact⟨x.toNat,by omega,λ_=>by omega⟩
   |false=>exact⟨0,by omega,λh=>by cases h⟩
  refine⟨qY m (ο g),OF m (ο g) n (bV (qg (ο g) m n) n) (jr (ο g) m n),100,.cons (ab.row λj b=>a7 l j b) .nil,da (au7 m (ο g) n w y),?_⟩;show aE (ad θ (zA aO) (OF m (ο g) n (bV (qg (ο g) m n) n) (jr (ο g) m n)) 100 G5 [.sl 0 9 0 0 m ζ,.v (ι x)] (qY m (ο g)) (ag 1)) _
  rw[axo];simp only[cz,cZ];have f:∀(o:O->E τ),eA (ο g) m x=η->aE (.out .ret [.af [.own 1 0,.v (.bool η)]] [.row η m 9 (J (ο g)) 123,.row ε 0 8 o 88]) (dX (bJ dl [.row m g,.v (ι x)] []) {val:=.af [.own 0 (fH (ο g) m x).length,.v (.bool (eA (ο g) m x))],new:=z0 (fH (ο g) m x),aw:=[aF m g,κ (m<=2^38)]}):=by intro o h;rw[Qk h,h];exact F ⟨_,rfl,rfl,.cons (ab.row λj b=>(a7 l j b).symm) (.cons (ab.row λj b=>aR b (dh _)) .nil)⟩
  refine aD (λk=>aD (λq=>?_) λq=>f _ (by rw[eA,kK,q,l5,g7];rfl)) λk=>f _ (by rw[eA,kK,k];rfl)
  have C:=aV k;refine aq (by simp only[Ω,ax,aj,g8,qy];omega) (aD (λc=>f _ ?_) λc=>?_)
  ·have c:(fk 24 x==0)=η:=by simpa using c
   rw[eA,kK,c,g7,g7];rfl
  ·have c:(fk 24 x==0)=ε:=by simpa using c
   have d:kK x=ε:=by rw[kK,k,c,q];rfl
   have e:=p d;subst e;refine fu (aD (λa=>f _ ?_) λa=>aq ?_ (aD (λr=>?_) λr=>f _ ?_))
   ·have a:aO (V (ο g) m)=η:=by simpa using a
    rw[eA,a,d];rfl
   ·simp only[Ω,ax,aj]
    exact cG ⟨rfl,.cons (ab.refl _) (.cons (ab.row λj b=>aR b (dh _)) .nil)⟩
   ·have a:aO (V (ο g) m)=ε:=by simpa using a
    have t:eA (ο g) m n=ε:=by rw[eA,a,d,cV,r];rfl
    obtain⟨D,G⟩:=aaZ l t rfl;exact F ⟨_,rfl,by rw[G,t];rfl,D⟩
   ·have a:aO (V (ο g) m)=ε:=by simpa using a
    rw[eA,a,d,cV,r];rfl
 ·cases i
def XK:aG:=Xr
def alx:aK θ XK:=alu
def NO:aG:=XK
def XF:aK θ NO:=alx
def apX:ak θ 241 (aW zn):=by
 refine et (n:=100) XF func241 rfl λk x l j o=>?_
 unfold zn at j;split at j
 ·rename_i a b c d f g h i m
  simp only[aC,cI]at j;obtain⟨rfl,rfl⟩:=j;have e:ad θ NO K 100 f241 ([.agg ⟨[.int .i64 a,.int .i64 b,.int .i64 c,.int .i64 d,.int .i64 f,.int .i64 g,.int .i64 h,.int .i64 i]⟩,.int .i64 m].map .v) [] dR=cond (!aH ((v8 a b c d f g h i) 0) (W (0-m)) m) (rv (.bool η)) (cond (!aH ((v8 a b c d f g h i) 1) (W (0-m)) m) (rv (.bool η)) (cond (!aH ((v8 a b c d f g h i) 2) (W (0-m)) m) (rv (.bool η)) (cond (!aH ((v8 a b c d f g h i) 3) (W (0-m)) m) (rv (.bool η)) (cond (!aH ((v8 a b c d f g h i) 4) (W (0-m)) m) (rv (.bool η)) (cond (!aH ((v8 a b c d f g h i) 5) (W (0-m)) m) (rv (.bool η)) (cond (!aH ((v8 a b c d f g h i) 6) (W (0-m)) m) (rv (.bool η)) (cond (!aH ((v8 a b c d f g h i) 7) (W (0-m)) m) (rv (.bool η)) (rv (.bool ε))))))))):=by kernel_rfl
  rw[e];exact uy (by simp only[xe,uQ,qi,v8,B',Mb])
 ·cases j
def XD:aG:=ext NO 241 (aW zn)
def XE:aK θ XD:=az XF apX
def CD:E τ->χ (τ×E ξ)
 |[.agg ⟨[.int .i64 a,.int .i64 b,.int .i64 c,.int .i64 d]⟩,.agg ⟨[.int .i64 e,.int .i64 f,.int .i64 g,.int .i64 h]⟩]=>γ (ig (λk=>W ((v4 a b c d) k+(v4 e f g h) k)),[])
 |_=>ζ
def Z6:ak θ 142 (aW CD):=by
 refine et (n:=100) XE func142 rfl λb x c a d=>?_
 unfold CD at a;split at a
 ·rename_i e f g h i j k l
  simp only[aC,cI]at a;obtain⟨rfl,rfl⟩:=a;exact one (by kernel_rfl)
 ·cases a
def XM:aG:=ext XD 142 (aW CD)
def XN:aK θ XM:=az XE Z6
def MZ:E τ->χ (τ×E ξ)
 |[.agg ⟨[.int .i64 a,.int .i64 b,.int .i64 c,.int .i64 d]⟩,.int .i64 n]=>γ (ig (λk=>W (n*(v4 a b c d) k)),[])
 |_=>ζ
def aqx:ak θ 264 (aW MZ):=by
 refine et (n:=100) XN func264 rfl λb x c a d=>?_
 unfold MZ at a;split at a
 ·rename_i e f g h n
  simp only[aC,cI]at a;obtain⟨rfl,rfl⟩:=a;exact one (by kernel_rfl)
 ·cases a
def XO:aG:=ext XM 264 (aW MZ)
def XP:aK θ XO:=az XN aqx
def MT:E τ->χ (τ×E ξ)
 |[.int .i64 n]=>γ (ig (GB n.toNat),[κ (0<=n),κ (n<=(12:O))])
 |_=>ζ
def ao':ak θ 263 (aW MT):=by
 refine et (n:=100) XP func263 rfl λf x g a d=>?_
 unfold MT at a;split at a
 ·rename_i n
  simp only[aC,cI]at a;obtain⟨rfl,rfl⟩:=a;obtain⟨b,c⟩:=D2 d;have b:=aV b;have c:=aV c;obtain⟨k,rfl⟩:=rQ b;have e:k=0\/k=1\/k=2\/k=3\/k=4\/k=5\/k=6\/k=7\/k=8\/k=9\/k=10\/k=11\/k=12:=by omega
  clear d b c;rcases e with rfl|rfl|rfl|rfl|rfl|rfl|rfl|rfl|rfl|rfl|rfl|rfl|rfl
  iterate 13 exact one (by kernel_rfl)
 ·cases a
def Xj:aG:=ext XO 263 (aW MT)
def Xk:aK θ Xj:=az XP ao'
def MS:E τ->χ (τ×E ξ)
 |[.int .i64 n]=>γ (ig (GB n.toNat),[κ (0<=n),κ (n<=(23:O))])
 |_=>ζ
def ao_:ak θ 263 (aW MS):=by
 refine et (n:=100) Xk func263 rfl λf x g a d=>?_
 unfold MS at a;split at a
 ·rename_i n
  simp only[aC,cI]at a;obtain⟨rfl,rfl⟩:=a;obtain⟨b,c⟩:=D2 d;have b:=aV b;have c:=aV c;obtain⟨k,rfl⟩:=rQ b;have e:k=0\/k=1\/k=2\/k=3\/k=4\/k=5\/k=6\/k=7\/k=8\/k=9\/k=10\/k=11\/k=12\/k=13\/k=14\/k=15\/k=16\/k=17\/k=18\/k=19\/k=20\/k=21\/k=22\/k=23:=by omega
  clear d b c;rcases e with rfl|rfl|rfl|rfl|rfl|rfl|rfl|rfl|rfl|rfl|rfl|rfl|rfl|rfl|rfl|rfl|rfl|rfl|rfl|rfl|rfl|rfl|rfl|rfl
  iterate 24 exact one (by kernel_rfl)
 ·cases a
def NJ:aG:=ext Xj 263 (aW MS)
def Xi:aK θ NJ:=az Xk ao_
def MV:E τ->χ (τ×E ξ)
 |[.agg ⟨[.int .i64 a,.int .i64 b,.int .i64 c,.int .i64 d,.int .i64 e,.int .i64 f,.int .i64 g,.int .i64 h]⟩]=>γ (ig (qZ (v8 a b c d e f g h)),[])
 |_=>ζ
def apN:ak θ 222 (aW MV):=by
 refine et (n:=100) Xi func222 rfl λk x l a m=>?_
 unfold MV at a;split at a
 ·rename_i b c d f g h i j
  simp only[aC,cI]at a;obtain⟨rfl,rfl⟩:=a;have e:pX (ad θ NJ K 100 f222 ([.agg ⟨[.int .i64 b,.int .i64 c,.int .i64 d,.int .i64 f,.int .i64 g,.int .i64 h,.int .i64 i,.int .i64 j]⟩].map .v) [] dR)=γ (ig (Ig (v8 b c d f g h i j) 8)):=by kernel_rfl
  rw[abs (alH (v8 b c d f g h i j))]at e;exact one e
 ·cases a
def Xn:aG:=ext NJ 222 (aW MV)
def alt:aK θ Xn:=az Xi apN
def XI:aG:=Xn
def XJ:aK θ XI:=alt
def Cx:E τ->χ (τ×E ξ)
 |[.agg ⟨[.int .i64 a,.int .i64 b,.int .i64 c,.int .i64 d,.int .i64 e,.int .i64 f,.int .i64 g,.int .i64 h]⟩,.agg ⟨[.int .i64 i,.int .i64 j,.int .i64 k,.int .i64 l,.int .i64 m,.int .i64 n,.int .i64 o,.int .i64 p]⟩]=>γ (ig (qZ (ez (jo (v8 a b c d e f g h)) (v8 i j k l m n o p))),[])
 |_=>ζ
def ZF:ak θ 143 (aW Cx):=by
 refine et (n:=100) XJ func143 rfl λb x c a d=>?_
 unfold Cx at a;split at a
 ·rename_i e f g h i j k l m o p q r s t u
  simp only[aC,cI]at a;obtain⟨rfl,rfl⟩:=a;exact one (by kernel_rfl)
 ·cases a
def Xl:aG:=ext XI 143 (aW Cx)
def alr:aK θ Xl:=az XJ ZF
def Xg:aG:=Xl
def Xh:aK θ Xg:=alr
def MW:E τ->χ (τ×E ξ)
 |[.agg ⟨[.int .i64 a,.int .i64 b,.int .i64 c,.int .i64 d,.int .i64 e,.int .i64 f,.int .i64 g,.int .i64 h]⟩,.int .i64 n]=>γ (dA (fX (v8 a b c d e f g h) n.toNat),[κ (0<=n),κ (n<=(23:O))])
 |_=>ζ
def apT:ak θ 234 (aW MW):=by
 refine et (n:=100) Xh func234 rfl λf x g a d=>?_
 unfold MW at a;split at a
 ·rename_i h i j l m o p q n
  simp only[aC,cI]at a;obtain⟨rfl,rfl⟩:=a;obtain⟨b,c⟩:=D2 d;have b:=aV b;have c:=aV c;obtain⟨k,rfl⟩:=rQ b;have e:k=0\/k=1\/k=2\/k=3\/k=4\/k=5\/k=6\/k=7\/k=8\/k=9\/k=10\/k=11\/k=12\/k=13\/k=14\/k=15\/k=16\/k=17\/k=18\/k=19\/k=20\/k=21\/k=22\/k=23:=by omega
  clear d b c;rcases e with rfl|rfl|rfl|rfl|rfl|rfl|rfl|rfl|rfl|rfl|rfl|rfl|rfl|rfl|rfl|rfl|rfl|rfl|rfl|rfl|rfl|rfl|rfl|rfl
  iterate 24 exact one (by kernel_rfl)
 ·cases a
def NN:aG:=ext Xg 234 (aW MW)
def Xw:aK θ NN:=az Xh apT
def MX:E τ->χ (τ×E ξ)
 |[.agg ⟨[.int .i64 a,.int .i64 b,.int .i64 c,.int .i64 d,.int .i64 e,.int .i64 f,.int .i64 g,.int .i64 h]⟩]=>γ (ig (qZ (v8 a b c d e f g h)),[])
 |_=>ζ
def apU:ak θ 242 (aW MX):=by
 refine et (n:=100) Xw func242 rfl λl x m k o=>?_
 unfold MX at k;split at k
 ·rename_i a b c d f h i j
  simp only[aC,cI]at k;obtain⟨rfl,rfl⟩:=k;have e:pX (ad θ NN K 100 f242 ([.agg ⟨[.int .i64 a,.int .i64 b,.int .i64 c,.int .i64 d,.int .i64 f,.int .i64 h,.int .i64 i,.int .i64 j]⟩].map .v) [] dR)=γ (ig (v4 (W (W (2*(v8 a b c d f h i j) 2)+W (4*(v8 a b c d f h i j) 6))) (W (W (W (W (0-(v8 a b c d f h i j) 1)+W (2*(v8 a b c d f h i j) 3))+(v8 a b c d f h i j) 5)+(v8 a b c d f h i j) 7)) (W (2*(v8 a b c d f h i j) 4)) (W (W ((v8 a b c d f h i j) 1+(v8 a b c d f h i j) 5)+(v8 a b c d f h i j) 7)))):=by kernel_rfl
  rw[abs (g:=qZ (v8 a b c d f h i j)) (We ?_ ?_ ?_ ?_)]at e
  ·exact one e
  all_goals (simp only[v4,qZ,Ih,rI,rJ,adF])
 ·cases k
def Xx:aG:=ext NN 242 (aW MX)
def alv:aK θ Xx:=az Xw apU
def Xy:aG:=Xx
def Xz:aK θ Xy:=alv
def CC:E τ->χ (τ×E ξ)
 |[.agg ⟨[.int .i64 a,.int .i64 b,.int .i64 c,.int .i64 d,.int .i64 e,.int .i64 f,.int .i64 g,.int .i64 h]⟩,.agg ⟨[.int .i64 i,.int .i64 j,.int .i64 k,.int .i64 l,.int .i64 m,.int .i64 n,.int .i64 o,.int .i64 p]⟩]=>γ (ig (qZ (ez (jo (v8 a b c d e f g h)) (v8 i j k l m n o p))),[])
 |_=>ζ
def ZX:ak θ 175 (aW CC):=by
 refine et (n:=100) Xz func175 rfl λb x c a d=>?_
 unfold CC at a;split at a
 ·rename_i e f g h i j k l m o p q r s t u
  simp only[aC,cI]at a;obtain⟨rfl,rfl⟩:=a;exact one (by kernel_rfl)
 ·cases a
def XB:aG:=ext Xy 175 (aW CC)
def XC:aK θ XB:=az Xz ZX
def CB:E τ->χ (τ×E ξ)
 |[.agg ⟨[.int .i64 a,.int .i64 b,.int .i64 c,.int .i64 d]⟩,.int .i64 n,.agg ⟨[.int .i64 e,.int .i64 f,.int .i64 g,.int .i64 h]⟩]=>γ (ig (λk=>W ((v4 a b c d) k+W (n*(v4 e f g h) k))),[])
 |_=>ζ
def ZV:ak θ 174 (aW CB):=by
 refine et (n:=100) XC func174 rfl λb x c a d=>?_
 unfold CB at a;split at a
 ·rename_i e f g h n i j k l
  simp only[aC,cI]at a;obtain⟨rfl,rfl⟩:=a;exact one (by kernel_rfl)
 ·cases a
def XA:aG:=ext XB 174 (aW CB)
def alw:aK θ XA:=az XC ZV
abbrev U(n:Z):Z:=IntKind.u64.wrap n
def u_(x y:Z):Z:=
 if 0<=x/\0<=y then(if x=0/\y=0 then 0 else 1)
 else if x<=0/\y<=0 then-1
 else if x<0 then(if x*x>2*(y*y)then-1 else 1)
 else(if x*x>2*(y*y)then 1 else-1)
abbrev ri(x:Z):am:=rv (ι x)
abbrev NY(x:Z):ξ:=aH x (-9223372036854775808) 9223372036854775807
abbrev xq(s:ao):Z:=W (W (W (W (s 0*s 0)+W (W (2*s 1)*s 1)) -W (W (3*s 2)*s 2)) -W (W (6*s 3)*s 3))
abbrev yq(s:ao):Z:=W (W (W (2*s 0)*s 1) -W (W (6*s 2)*s 3))
def QD(s:ao):Z:=if u_ (s 0) (s 1)=u_ (s 2) (s 3)\/u_ (s 2) (s 3)=0 then u_ (s 0) (s 1)else if u_ (s 0) (s 1)=0 then u_ (s 2) (s 3)else u_ (s 0) (s 1)*u_ (xq s) (yq s)
def XL:aG:=XA
def aly:aK θ XL:=alw
def sE:aG:=XL
def CY:aK θ sE:=aly
abbrev MI(W:ψ)(bB:O):O->Prop:=λk=>W.heap.size<=k\/k=bB
variable {R:Nu}
def UG{m c bB cB:O}{bL:Bk}{tB tr:ae}(h:BR R 0 ((gr z m c tB tr).getD 0 .gone) X)(g:R 0=γ ⟨bB,0,cB⟩)(i:R 1=γ bL)(r:0<m):X.heap[bB]?=γ (.cells #[.slice (γ ⟨bL.n,bL.o,ζ⟩) m c] tB (0,0)):=by
 simp only[gr,Bn]at h;obtain⟨b,l,e,s,j,d⟩:=h;rw[g]at e;cases e;rw[j];cases l with
 |nil=>simp only[aB]at d
 |cons y k=>
  cases k with
  |cons=>simp only[aB]at d;exact d.2.elim
  |nil=>simp only[aB,VR,aj]at d;obtain⟨p,t,rfl,n,u,o⟩:=d;have:=n c rfl;subst this;obtain⟨v,f,q⟩:=o (by omega);rw[i]at f;cases f;rw[q];simp
def Yt{w X a:ψ}(h:X.grownBy a ζ):lQ w B X a:=⟨h.size,λ_ _ _ _ b=>(h.block _ (cC.1 b).1 (by simp)).trans b⟩
def avz{w X:ψ}(h:a4 B w)(g:a4 (λk=>w.heap.size<=k\/k=i) w)(b:lQ w B w X):a4 (MI X i) X:=λx c=>by obtain⟨j,l,t,m,d,n⟩:=h x c;obtain⟨o,_⟩:=g x c;have a:=(cC.1 d).1;exact⟨λf=>f.elim (λf=>by have:=b.1;omega) λe=>o (.inr e),l,t,m,b.2 x.1 _ a j d,n⟩
def at3{nn:O}{bB cB:O}{bL:Bk}{a:O->O->Z}{m c:O}{tB tr:ae}{M:O->Prop}(hH:RH (λk=>X.heap.size<=k\/k=bB) R (λb=>(gr a m c tB tr).getD b .gone) X)(h0:R 0=γ ⟨bB,0,cB⟩)(h1:R 1=γ bL)(n:∀i b,R i=γ b->i<2)(hm0:0<m)(hm:m<=2^40)(hMb:¬M bB)(hML:¬M bL.n)(htab:a4 M X):SeqStopsK (cx ζ) nn θ 221 #[.pointer (γ ⟨bB,0,ζ⟩)] (λx:Fin m=>[m8 (a x) (a ((x+1)%m))].toArray) (lQ X M) (λxs=>xs=px m) (λ_=>True) m X:=by
 intro l f Jx W hW hJ hJx hY hJ0;have ltB:bB<X.heap.size:=hH.lt 0 _ h0;have ltL:bL.n<X.heap.size:=hH.lt 1 _ h1;have B:∀g:ψ,X.heap.size<=g.heap.size->g.heap[bB]?=X.heap[bB]?->g.heap[bL.n]?=X.heap[bL.n]?->lQ X M X g->RH (MI g bB) R (λb=>(gr a m c tB tr).getD b .gone) g:=by
  intro g hs e1 e2 U;refine⟨λi=>(hH.br i).of_block λk t _=>?_,hH.sep,λi b hw w=>?_,λi b w=>eN (hH.lt i b w) hs,avz htab hH.eL U⟩
  ·have:=n i k t
   rcases(by omega:i=0\/i=1)with rfl|rfl
   ·rw[h0]at t;cases t;exact e1
   ·rw[h1]at t;cases t;exact e2
  ·have:=n i b w
   rcases(by omega:i=0\/i=1)with rfl|rfl
   ·rw[h0]at w;cases w;exact .inr rfl
   ·simp[AB.wr]at hw
 have nuEq:∀j,Le R j->(∀i b,j i=γ b->i<2)->j=R:=by
  intro j hle hd
  funext i
  rcases(by omega:i=0\/i=1\/2<=i)with rfl|rfl|hi
  ·rw[h0,hle _ _ h0]
  ·rw[h1,hle _ _ h1]
  ·cases e:j i with
   |none=>
    cases e':R i with
    |none=>rfl
    |some b=>have:=n i b e';omega
   |some b=>have:=hd i b e;omega
 have L:=UG (hH.br 0) h0 h1 hm0
 --own steps:new blocks alone
 have grown:∀{g u:ψ}{T:E AV}{A:a8},g.heap[bB]?=X.heap[bB]?->SR (MI g bB) g R T (gr a m c tB tr) A u R->g.grownBy u ζ:=by
  intro g u T A hX y;refine⟨y.fr.os,y.fr.tape,y.fr.output,y.fr.size,λk t _=>?_⟩;by_cases e:k=bB
  ·subst e
   rw[UG (y.heap.br 0) h0 h1 hm0,hX,L]
  ·exact y.fr.block k t λh=>by
    rcases h with h|h
    ·omega
    ·exact e h
 have hpos:∀T (A:a8) g u j,SR (MI g bB) g R T (gr a m c tB tr) A u j->j=R:=λT A g u j h=>nuEq j h.le λi b w=>by simpa[gr]using h.cg i b w
 --at the loop's head
 let HD:O->a8->ψ->Prop:=λi A g=>A.defers=[]/\SR (MI g bB) g R (ka l m c i) (gr a m c tB tr) A g R/\f ((px m).take i) g/\g.heap[bB]?=X.heap[bB]?/\g.heap[bL.n]?=X.heap[bL.n]?/\W.heap.size<=g.heap.size/\lQ X M X g
 have hWsz:=hW.size;have e1W:W.heap[bB]?=X.heap[bB]?:=hW.block bB ltB;have e2W:W.heap[bL.n]?=X.heap[bL.n]?:=hW.block bL.n ltL;have hkW:lQ X M X W:=⟨hW.size,λk o t _ ho=>(hW.block k t).trans ho⟩
 --what an own piece of code leaves
 have own:∀{g u:ψ}{T T':E AV}{A A':a8}{j:Nu}{i:O},W.heap.size<=g.heap.size->g.heap[bB]?=X.heap[bB]?->g.heap[bL.n]?=X.heap[bL.n]?->f ((px m).take i) g->lQ X M X g->SR (MI g bB) g R T (gr a m c tB tr) A u j->
   f ((px m).take i) u/\u.heap[bB]?=X.heap[bB]?/\u.heap[bL.n]?=X.heap[bL.n]?/\W.heap.size<=u.heap.size/\lQ X M X u/\SR (MI u bB) u R T (gr a m c tB tr) A u R:=by
  intro g u T T' A A' j i hs g1 g2 hj U y;have:=hpos _ _ _ _ _ y;subst this;have hg:=grown g1 y;have k1:=(hg.block bB (by omega) (by simp)).trans g1;have k2:=(hg.block bL.n (by omega) (by simp)).trans g2;exact⟨hJ _ _ _ ζ hj hg (λr e=>by cases e),k1,k2,cF hs hg.size,U.trans (Yt hg),⟨y.tmps,B u (by have:=hg.size;omega) k1 k2 (U.trans (Yt hg)),Fr.refl _ _,y.cg,y.len,Le.refl _⟩⟩
 refine callsIn_of_wp func221 afF trivial ?_;have hvr:aB R [.v (yv l),.ptr 0 1 0 0] [yv l,.pointer (γ ⟨bB,0,ζ⟩)]:=by simp only[aB,VR,aj,bv];exact⟨_,h0,by simp⟩
 have hst:=rF (M:=MI W bB) (fn:=FH) hvr (B W hWsz e1W e2W hkW) (λi b w=>by simpa[gr]using n i b w);have fin:∀(A:a8)(g:ψ),A.defers=[]->((f (px m) g)\/∃N,Jx N g)->bodyPost θ FH (λe W'=>(∃v,e=.returned v)/\((∃xs,xs=px m/\f xs W')\/(∃N,True/\Jx N W'))) .ret A g:=by
  intro A g hd hx;refine⟨hd,_,results_none rfl _ _ _,⟨_,rfl⟩,?_⟩;rcases hx with hx|⟨N,hx⟩
  ·exact .inl ⟨_,rfl,hx⟩
  ·exact .inr ⟨N,trivial,hx⟩
 refine jQ (mM (oQ (nn:=nn) ba mixed enters ζ [] 100 P7 (by kernel_rfl) (MI W bB) W R (λk t=>.inl t) _ _ _ (λe T' S=>e=.normal/\T'=ka l m c 0/\S=gr a m c tB tr) _ W R (by rw[show[AV.v (yv l),.ptr 0 1 0 0]++eH ((FH).ntmps-[AV.v (yv l),.ptr 0 1 0 0].length) (AV.v aZ)=[.v (yv l),.ptr 0 1 0 0]++eH 24 (.v aZ)from rfl,aty];exact⟨rfl,rfl,rfl⟩) hst rfl) ?_);intro e A g hp;obtain⟨e',T',S,j,rfl,⟨rfl,rfl,rfl⟩,y,hd⟩:=OP hp n;obtain⟨j1,k1,k2,k3,k4,C⟩:=own (T':=[]) (A':=A) (i:=0) (aQ _) e1W e2W (by simpa using hJ0) hkW y;show(Code.block 0 (.loop wO)).wpIn (cx ζ) nn θ _ A g
 refine BG (wpIn_loop (λA g=>∃i,i<=m/\HD i A g) (λA _=>m-(intOf (A.tmps.getD 7 aZ)).toNat) ⟨0,ej _,hd,C,j1,k1,k2,k3,k4⟩ ?_);clear y hd C j1 k1 k2 k3 k4 hp hst hvr;rintro A g ⟨i,him,hd,y,hj,g1,g2,g3,g4⟩;have mu:∀{i:O}{A:a8}{g X0:ψ},SR (MI X0 bB) X0 R (ka l m c i) (gr a m c tB tr) A g R->(intOf (A.tmps.getD 7 aZ)).toNat=i:=by intro i A g X0 h;have:=h.tmps 7;rw[show(ka l m c i).getD 7 .dead=.v (ι i)from by kernel_rfl]at this;simp only[VR]at this;rw[this];simp[intOf]
 have hmu:=mu y;rw[anB];refine jQ (mM (oQ (nn:=nn) ba mixed enters ζ [] 100 P8 (by kernel_rfl) (MI g bB) g R (λk t=>.inl t) _ _ _ (λe T' S=>e=.normal/\T'=(ka l m c i).set 8 (.v (.bool (κ ((i:Z)<m))))/\S=gr a m c tB tr) _ g R (by rw[atz];exact⟨rfl,rfl,rfl⟩) y hd) ?_);rintro e A1 X1 ⟨e',T',S,j,rfl,⟨rfl,rfl,rfl⟩,C,hd1⟩;obtain⟨hj1,g11,g12,g13,g14,C⟩:=own (T':=[]) (A':=A) g3 g1 g2 hj g4 C;have hc8:A1.eval (.tmp 8)=.bool (κ ((i:Z)<m)):=by have:=C.tmps 8;rw[show((ka l m c i).set 8 (.v (.bool (κ ((i:Z)<m))))).getD 8 .dead=.v (.bool (κ ((i:Z)<m)))from by kernel_rfl]at this;simp only[VR]at this;exact this
 show(xT (.cond (.tmp 8) .skip (.exit 0)) _).wpIn (cx ζ) nn θ _ A1 X1
 refine jQ (wpIn_cond hc8 ?_);rcases(om i m).symm with hge|hlt
 · --the end
   rw[bI (by simp;omega)];refine TK ?_;have:i=m:=by omega
   subst this;simp only[Exit.then,Exit.inBlock,qA];refine fin A1 X1 hd1 (.inl ?_);rw[pA (by simp)]at hj1;exact hj1
 ·rw[aU (by simp;omega)]
  refine KD ?_;show(xT (.block 1 _) _).wpIn (cx ζ) nn θ _ A1 X1
  refine jQ (BG (jQ ?_))
  --region 2,and the head of region 3
  have hW1:Go.Proofs.YtdadmpgfcfkidaaGreatDoor.W (i+1)=((i+1:O):Z):=by rw[fj];omega
  have hnx:(Go.Proofs.YtdadmpgfcfkidaaGreatDoor.W (i+1)).tmod m=(((i+1)%m:O):Z):=by rw[hW1];exact(Int.ofNat_tmod _ _).symm
  have hml:(i+1)%m<m:=tD _ hm0;have hr2:=atA l m c i (κ ((i:Z)<m)) a tB tr;rw[hnx]at hr2;have hr2:(abi ((ka l m c i).set 8 (.v (.bool (κ ((i:Z)<m))))) (gr a m c tB tr)).ok (λe T' S=>e=.normal/\T'=((ka l m c i).set 12 (.v (yv l))).set 22 (.v (m8 (a i) (a ((i+1)%m))))/\S=gr a m c tB tr):=by
   rw[hr2];have ok:aJ [κ ((i:Z)<m),κ (0+i<m),!κ ((m:Z)=0),κ ((0:Z)<=(((i+1)%m:O):Z)),κ ((((i+1)%m:O):Z)<m),κ (0+(((i+1)%m:O):Z).toNat<m)]=ε:=by simp only[Ω,ax,aj,aL,g8,qy,cV];refine⟨by omega,by omega,by omega,by omega,by omega,by omega⟩
   refine(aq ok ⟨?_⟩).out;simp only[cV,bH];exact⟨rfl,rfl,rfl⟩
  refine mM (oQ (nn:=nn) ba mixed enters ζ [] 100 P9 (by kernel_rfl) (MI X1 bB) X1 R (λk t=>.inl t) _ _ _ _ _ X1 R hr2 C hd1) ?_;rintro e A2 X2 ⟨e',T2,H2,ν2,rfl,hk2,s,hd2⟩;cases e' with
  |exit id=>exact hk2.elim
  |ret=>exact hk2.elim
  |normal=>
   obtain⟨es,T3,H3,hrun,z⟩:=zd hk2;rcases(kT z).symm with⟨_,z⟩|⟨hdr,z⟩
   ·exact z.elim
   show(xT (.region 3 IW ε) _).wpIn (cx ζ) nn θ _ A2 X2
   refine jQ (wpIn_region_any mixed ?_);rw[show IW=opsL.toArray by simp[opsL]];have hS2':SR (MI X1 bB) X1 R T2 H2 A2 {X2 with drawn:=X2.drawn+1} ν2:=⟨s.tmps,⟨λi=>(s.heap.br i).of_block λ_ _ _=>rfl,s.heap.sep,s.heap.own,s.heap.lt,s.heap.eL⟩,s.fr.drew,s.cg,s.len,s.le⟩;rw[show opsL.toArray.size=opsL.length by simp];refine afg (k:=11) ba (λk t=>.inl t) hrun (by rw[YJ];decide) ahT (by simpa using hdr) avE ?_ hS2' ?_
   ·rintro⟨A9,X9,⟨v,hv⟩,_⟩
    cases hv
   ·intro D X3 ν3 hS3 hd3
    unfold eV at z;split at z
    ·rename_i p hwk
     obtain⟨_,hp1,hp2⟩:=z;have hS4:=n9 hwk hS3 n;rw[hp1,hp2]at hS4;obtain⟨hj3,g31,g32,g33,g34,H⟩:=own (T':=[]) (A':=A) g13 g11 g12 hj1 g14 hS4;have hx12:D.eval (.tmp 12)=yv l:=by have:=H.tmps 12;rw[show(((ka l m c i).set 12 (.v (yv l))).set 22 (.v (m8 (a i) (a ((i+1)%m))))).getD 12 .dead=.v (yv l)from by kernel_rfl]at this;simp only[VR]at this;exact this
     have hx22:D.eval (.tmp 22)=m8 (a i) (a ((i+1)%m)):=by have:=H.tmps 22;rw[show(((ka l m c i).set 12 (.v (yv l))).set 22 (.v (m8 (a i) (a ((i+1)%m))))).getD 22 .dead=.v (m8 (a i) (a ((i+1)%m)))from by kernel_rfl]at this;simp only[VR]at this;exact this
     have hyl:=hY ((px m).take i) ⟨i,hlt⟩ X3 hj3 (by simp;omega);have htake:(px m).take (i+1)=(px m).take i++[⟨i,hlt⟩]:=by rw[Sm];simp[hlt]
     have hsz3:24<D.tmps.size:=by
      have:=H.len;have e:(((ka l m c i).set 12 (.v (yv l))).set 22 (.v (m8 (a i) (a ((i+1)%m))))).length=26:=by kernel_rfl
      omega
     rw[YJ];refine wpAnyIn_all (fuel:=1) arG (by simp) λq hq=>?_
     obtain rfl:q=11:=by simpa using hq
     refine RD aq2 aq4 aq3 hx12 hx22 hyl ?_;rintro e G (⟨rfl,hj4,I⟩|⟨rfl,hjx⟩)
     ·refine⟨.bool ε,rfl,wpAnyIn_all (fuel:=0) aaH (by simp) λq hq=>?_⟩
      obtain rfl:q=12:=by simpa using hq
      rw[aai];have P:(D.put (γ 23) (.bool ε)).eval (.tmp 23)=.bool ε:=by
       show(D.put (γ 23) (.bool ε)).tmps.getD 23 aZ=_
       rw[xi (λd e=>by cases e;show(23:O)<_;omega)];simp
      refine Pn aae aah aag P ⟨aaI,?_⟩;rw[aaf];have hsz4:X.heap.size<=G.heap.size:=by have:=I.1;omega
      have k1:G.heap[bB]?=X.heap[bB]?:=by rw[L];exact I.2 bB _ ltB hMb (g31.trans L)
      have k2:G.heap[bL.n]?=X.heap[bL.n]?:=by
       cases ho:X.heap[bL.n]?with
       |none=>rw[Array.getElem?_eq_none_iff]at ho;omega
       |some o=>exact I.2 bL.n o ltL hML (g32.trans ho)
      have hS6:SR (MI G bB) G R _ (gr a m c tB tr) D G R:=⟨H.tmps,B G hsz4 k1 k2 (g34.trans I),Fr.refl _ _,H.cg,H.len,Le.refl _⟩;have hS7:=SR.put (dst:=γ 23) (x:=.v (.bool ε)) (v:=.bool ε) hS6 (by kernel_rfl) (Le.refl _) (by simp only[VR]) hS6.heap hS6.fr hS6.cg;have hS8:=SR.put (dst:=γ 24) (x:=.v (.bool η)) (v:=.bool η) hS7 (by kernel_rfl) (Le.refl _) (by simp only[VR]) hS7.heap hS7.fr hS7.cg;have Q:((D.put (γ 23) (.bool ε)).put (γ 24) (.bool (!ε))).eval (.tmp 24)=.bool η:=by
       show((D.put (γ 23) (.bool ε)).put (γ 24) (.bool (!ε))).tmps.getD 24 aZ=_
       rw[xi (λd e=>by cases e;rw[Eh];exact hsz3)];simp
      show(Fa (.tmp 24) .ret .skip).wpIn (cx ζ) nn θ _ _ G
      refine wpIn_cond_false Q (KD ?_);show Ek.wpIn (cx ζ) nn θ _ _ G
      have hd8:((D.put (γ 23) (.bool ε)).put (γ 24) (.bool (!ε))).defers=[]:=by rw[kG,kG];exact hd3.trans hd2
      refine mM (oQ (nn:=nn) ba mixed enters ζ [] 100 Ek (by kernel_rfl) (MI G bB) G R (λk t=>.inl t) _ _ _ (λe T' S=>e=.normal/\T'=ka l m c (i+1)/\S=gr a m c tB tr) _ G R (by
       have:=atB l m c i η (m8 (a i) (a ((i+1)%m))) a tB tr;rw[hW1]at this;show(a0 θ g0 100 K Ek (((((ka l m c i).set 12 (.v (yv l))).set 22 (.v (m8 (a i) (a ((i+1)%m))))).set 23 (.v (.bool ε))).set 24 (.v (.bool η))) (gr a m c tB tr) (eV (cj [0,1,5,6,7] [] []) 2)).ok _
       rw[this];exact⟨rfl,rfl,rfl⟩) hS8 hd8) ?_
      intro e A6 X6 hp6;obtain⟨e',T',S,j,rfl,⟨rfl,rfl,rfl⟩,hS9,hd9⟩:=OP hp6 n;obtain⟨j9,k91,k92,k93,k94,hS9⟩:=own (T':=[]) (A':=A) (i:=i+1) (by have:=I.1;omega) k1 k2 (by rw[htake];exact hj4) (g34.trans I) hS9;refine⟨⟨i+1,by omega,hd9,hS9,j9,k91,k92,k93,k94⟩,?_⟩;rw[mu hS9,hmu];omega
     ·refine⟨.bool η,rfl,wpAnyIn_all (fuel:=0) aaH (by simp) λq hq=>?_⟩
      obtain rfl:q=12:=by simpa using hq
      rw[aai];have P:(D.put (γ 23) (.bool η)).eval (.tmp 23)=.bool η:=by
       show(D.put (γ 23) (.bool η)).tmps.getD 23 aZ=_
       rw[xi (λd e=>by cases e;show(23:O)<_;omega)];simp
      refine Pn aae aah aag P ⟨aaI,?_⟩;rw[aaf];have Q:((D.put (γ 23) (.bool η)).put (γ 24) (.bool (!η))).eval (.tmp 24)=.bool ε:=by
       show((D.put (γ 23) (.bool η)).put (γ 24) (.bool (!η))).tmps.getD 24 aZ=_
       rw[xi (λd e=>by cases e;rw[Eh];exact hsz3)];simp
      have hd8:((D.put (γ 23) (.bool η)).put (γ 24) (.bool (!η))).defers=[]:=by rw[kG,kG];exact hd3.trans hd2
      show(Fa (.tmp 24) .ret .skip).wpIn (cx ζ) nn θ _ _ G
      exact aeH Q (wpIn_ret (fin _ G hd8 (.inr ⟨_,hjx⟩)))
    ·exact z.elim
def Yj:E τ->ξ
 |[.int .i64 _,.int .i64 _,.int .i64 _,.int .i64 _,.int .i64 _,.int .i64 _,.int .i64 _,.int .i64 _]=>ε
 |_=>η
def bi(g:O->E τ):O->O->Z:=λj k=>intOf ((g j).getD k aZ)
def ip(m:O)(g:O->E τ):ξ:=(dK m).all λj=>Yj (g j)
def kR(h:ip i p=ε)(j:O)(a:j<i):p j=gd (bi p) j:=by
 have:=bT.1 h j (by simpa using a);simp only[gd,bi,ι];unfold Yj at this;split at this
 ·rename_i e;rw[e];rfl
 ·cases this
def ue{m:O}{a:O->O->Z}(h:∀j,j<m->p j=gd a j):ip m p=ε:=bT.2 λj b=>by rw[h j (by simpa using b)];rfl
def rfA:bc->bc| .rangeFunc _ _ a _=>a|c=>c
def rfB:bc->bc| .rangeFunc _ _ _ b=>b|c=>c
def at2{nn:O}{W:ψ}{d:Nu}{TT:E AV}{HH H':E AB}{a1:a8}{L:E τ}{a:O->O->Z}{m ib il:O}{tB tr:ae}(f:SR (fQ W d HH) W d TT HH a1 W d)(g:aB d [.ptr ib 0 0 0] L)(s:HH.getD ib .gone=.cells [.sl il 8 0 0 m ζ] tB)(t:HH.getD il .gone=.row η m 8 (gd a) tr)(N:ib≠il)(P:0<m)(hm:m<=2^40)(Q:∀i,(H'.getD i .gone).wr=ε->(HH.getD i .gone).wr=ε/\i≠ib):SeqStopsK (cx ζ) nn θ 221 L.toArray (λx:Fin m=>[m8 (a x) (a ((x+1)%m))].toArray) (lQ W (fQ W d H')) (λxs=>xs=px m) (λ_=>True) m W:=by
 cases L with
 |nil=>simp only[aB]at g
 |cons y ys=>
  cases ys with
  |cons=>simp only[aB]at g;exact g.2.elim
  |nil=>
   simp only[aB,VR,aj]at g;obtain⟨b,B,rfl⟩:=g;have C:=f.heap.br ib;simp only[s]at C;obtain⟨b',l,e1,R,e3,D⟩:=C;rw[B]at e1;cases e1;cases l with
   |nil=>simp only[aB]at D
   |cons z zs=>
    cases zs with
    |cons=>simp only[aB]at D;exact D.2.elim
    |nil=>
     simp only[aB,VR,aj]at D;obtain⟨p,c,rfl,_,h3,h4⟩:=D;obtain⟨u,G,h6⟩:=h4 (by omega)
     let S:Nu:=λi=>match i with|0=>γ b|1=>γ u|_=>ζ
     have T:RH (λk=>W.heap.size<=k\/k=b.n) S (λi=>(gr a m c tB tr).getD i .gone) W:=by
      have H:=f.heap.br il;simp only[t]at H;have I:=f.heap.sep ib il b u N (by rw[s];rfl) (by rw[t];rfl) B G;refine⟨λi=>?_,λi j v b2 U w hl o h2=>?_,λi v w o=>?_,λi v o=>?_,f.heap.eL.mono λk _ h=>h.elim .inl λe=>.inr ⟨ib,b,by rw[s];rfl,B,e.symm⟩⟩
      ·match i with
       |0=>refine⟨b,_,rfl,R,e3,?_⟩;simp only[aB,VR,aj];exact⟨p,c,rfl,λc' h=>by cases h;rfl,h3,λ_=>⟨u,rfl,h6⟩⟩
       |1=>
        rcases H with⟨_,h0,_⟩|⟨bb,l,t',fz,g1,g2⟩
        ·omega
        ·rw[G]at g1
         cases g1;exact .inr ⟨u,l,t',fz,rfl,g2⟩
       |n+2=>trivial
      ·match i,j with
       |0,1=>cases o;cases h2;exact I
       |1,_=>simp[AB.wr]at w
       |0,0=>exact(U rfl).elim
       |0,n+2=>cases h2
       |n+2,_=>cases o
      ·match i with
       |0=>cases o;exact .inr rfl
       |1=>simp[AB.wr]at w
       |n+2=>cases o
      ·match i with
       |0=>cases o;exact f.heap.lt ib b B
       |1=>cases o;exact f.heap.lt il u G
       |n+2=>cases o
     have ltB:=f.heap.lt ib b B;have ltL:=f.heap.lt il u G;have X:=at3 (nn:=nn) (M:=fQ W d H') (bB:=b.n) (cB:=b.c) (bL:=u) (a:=a) (c:=c) (tB:=tB) (tr:=tr) T (by show γ b=_;rw[show b=⟨b.n,0,b.c⟩ by rw[<-R]]) rfl (λi v o=>by
      match i with
      |0=>omega
      |1=>omega
      |n+2=>cases o) P hm ?_ ?_ (f.heap.eL.mono λk _ h=>h.elim .inl λ⟨i,v,w,q,e⟩=>.inr ⟨i,v,(Q i w).1,q,e⟩)
     ·rw[R]
      exact X
     ·rintro(hk|⟨i,v,w,q,e⟩)
      ·omega
      ·obtain⟨r,A⟩:=Q i w
       exact f.heap.sep i ib v b A r (by rw[s];rfl) q B e
     ·rintro(hk|⟨i,v,w,q,e⟩)
      ·omega
      ·obtain⟨r,A⟩:=Q i w
       refine f.heap.sep i il v u (λe=>?_) r (by rw[t];rfl) q G e;subst e;rw[t]at r;simp[AB.wr]at r
def aiP{fn:cb}(a:θ.funcs[I]?=γ fn)(b:fn.body.isSome=ε):∀args w,(g_ I args).run θ w=.ok (.enter I args) w:=λargs w=>enters I fn a b args w
def k_(a:Θ)(j:O):ξ:=qi (a j) (-100) 100
def kE(a:Θ)(n:O):ξ:=(dK n).all λj=>k_ a j
def Pt{n j:O}(h:kE z n=ε)(b:j<n):k_ z j=ε:=bT.1 h j (by simpa using b)
def Zx(h:kE z i=ε)(b:k_ z i=ε):kE z (i+1)=ε:=by unfold kE;rw[J9,gM];simp only[gA,kh,jb,aP];exact⟨h,b⟩
def Zw{n j:O}(c:j<n)(b:k_ z j=η):kE z n=η:=by
 cases h:kE z n with
 |false=>rfl
 |true=>rw[Pt h c]at b;cases b
structure PV where
 m:O
 n:O
 g:O->E τ
 t:ae
abbrev Az(m:O):AV:=.sl 0 8 0 0 m ζ
def lO(s:PV):E AB:=[.row η s.m 8 (gd (bi s.g)) s.t]
def uU(s:PV):E ξ:=[Ψ s.n s.m,ip s.m s.g,κ (s.m<=2^38)]
abbrev O4:Ex->E O:=cj [0,3] [0] [2]
def GJ:E AV->E AB->χ PV
 |[.sl 0 8 0 0 m ζ,.v (.int .i64 0)],[.row η n 8 g t]=>γ ⟨m,n,g,t⟩
 |_,_=>ζ
def QU(s:PV)(i:O):E (O×AV):=[(0,Az s.m),(3,.v (ι i))]
def D'(s:PV)(a:dx):am:=cond (kE (bi s.g) s.m) (a .normal (ar 0 19 [(0,Az s.m)]) (lO s)) (a .ret (ar 0 19 [(2,.v (.bool η))]) (lO s))
def as5(s:PV)(i:O):a0 θ sE 100 K (a5 0 SY) (ar 0 19 (QU s i)) (lO s) (eV O4 1)=cond (κ ((i:Z)<s.m)) (Ξ [κ ((i:Z)<s.m),κ (0+i<s.m)] (cond (!k_ (bi s.g) (0+i)) (.out .ret (ar 0 19 [(2,.v (.bool η))]) (lO s)) (.out .normal (ar 0 19 [(0,Az s.m),(3,.v (ι (W (i+1))))]) (lO s)))) (.out (.exit 0) (ar 0 19 [(0,Az s.m)]) (lO s)):=by kernel_rfl
def I6{s:PV}(a:aJ (uU s)=ε):s.n=s.m/\(∀j,j<s.m->s.g j=gd (bi s.g) j)/\s.m<=2^38:=by simp only[uU,Ω,aL]at a;exact⟨cA a.1,kR a.2.1,a.2.2.1⟩
def avi:ck θ 1 (.block 0 (.loop (a5 0 SY))) (sP 19 [0,3] GJ uU D'):=by
 refine Y' CY (n:=100) (m:=1) (lv:=O4) (Λ:=K) QU (λs _=>lO s) (λs i=>kE (bi s.g) i=ε) (λs=>s.m) rfl (cN _ _ _) (aQ _) ?_ ?_
 ·intro k H s e h
  unfold GJ at e;split at e
  ·rename_i m n g t
   cases e;obtain⟨b,c,l⟩:=I6 h;simp only at b c l;subst b;exact⟨[.row η n 8 g t],by kernel_rfl,.cons (ab.row c) .nil,rfl⟩
  ·cases e
 ·intro s a Q h f i j o
  obtain⟨_,_,r⟩:=I6 h;show aE (a0 θ sE 100 K (a5 0 SY) (ar 0 19 (QU s i)) (lO s) (eV O4 1)) _
  rw[as5,bH];refine aD (λb=>?_) λb=>?_
  ·have b:=aV b
   have d:i<s.m:=by omega
   refine c_ (aD (λc=>?_) λc=>?_)
   ·refine F ⟨_,Φ.refl _,?_⟩
    rw[D',Zw d (by simpa using c)]at f;exact f
   ·refine F ⟨d,?_,Φ.refl _,Zx j (by simpa using c)⟩
    rw[fj (x:=(i:Z)+1) (by omega) (by omega)];rfl
  ·have b:=cu b
   have:i=s.m:=by omega
   subst this;refine F ⟨_,Φ.refl _,?_⟩;rw[aU rfl];rw[D',j]at f;exact f
def gG(a:Θ)(m:O):ξ:=kE a m&&aH m 1 48
def FW:E SA->χ FR
 |[.row m g]=>γ {val:=.v (.bool (gG (bi g) m)),aw:=[ip m g,κ (m<=2^38)]}
 |_=>ζ
def nR:E Md:=[.rd 8 88]
def aqQ:ak θ 173 (ai nR FW):=by
 refine Pb (n:=100) (Λ:=bX 0 (sP 19 [0,3] GJ uU D')) CY func173 rfl λi o c h=>?_
 unfold FW at c;split at c
 ·rename_i m g
  cases c;simp only[Ω]at h;obtain⟨d,k,_⟩:=h;refine⟨[.row η m 8 (gd (bi g)) 88],.cons (ab.row λj b=>kR d j b) .nil,da avi,?_⟩;have e:ad θ sE (bX 0 (sP 19 [0,3] GJ uU D')) 100 SY (ir 0 nR [.row m g]) [.row η m 8 (gd (bi g)) 88] (ag 1)
   =Ξ [Ψ m m,ip m (gd (bi g)),κ (m<=2^38)] (cond (kE (bi g) m) (.out .ret [.v (.bool (aH m 1 48))] [.row η m 8 (gd (bi g)) 88]) (.out .ret [.v (.bool η)] [.row η m 8 (gd (bi g)) 88])):=by kernel_rfl
  rw[show([AB.row η m 8 (gd (bi g)) 88]).length=1 from rfl,e];refine aq (by simp only[Ω,ax,ue (m:=m) (a:=bi g) λj _=>rfl,k,kr,and_self]) (aD (λf=>?_) λf=>?_)
  ·refine F ⟨_,rfl,?_,.cons (ab.row λj b=>(kR d j b).symm) .nil⟩
   rw[gG,f];rfl
  ·refine F ⟨_,rfl,?_,.cons (ab.row λj b=>(kR d j b).symm) .nil⟩
   rw[gG,f];rfl
 ·cases c
def ny(a:Θ)(m:O):Z:=match(dK m).find? λj=> !k_ a j with
 |some j=>(j:Z)
 |none=> -1
def afA(a:Θ)(m:O):κ (ny a m>=0)= !kE a m:=by
 unfold ny kE;cases h:(dK m).find? λj=> !k_ a j with
 |none=>
  have:(dK m).all (λj=>k_ a j)=ε:=by rw[bT];intro j b;have:=yc.1 h j b;simpa using this
  rw[this];rfl
 |some j=>
  have c:=List.find?_some h;have d:=azk h;have:(dK m).all (λj=>k_ a j)=η:=by
   cases e:(dK m).all (λj=>k_ a j)with
   |false=>rfl
   |true=>have:=bT.1 e j d;simp[this]at c
  rw[this];simp
def afz{m i:O}(h:kE z i=ε)(b:i<m)(c:k_ z i=η):ny z m=i:=by
 have:(dK m).find? (λj=> !k_ z j)=γ i:=by rw[adU];refine⟨by simp[c],by simpa using b,λj d=>?_⟩;simp[Pt h d]
 rw[ny,this]
def afB(h:kE z i=ε):ny z i= -1:=by
 have:(dK i).find? (λj=> !k_ z j)=ζ:=by rw[yc];intro j b;simp[Pt h (by simpa using b)]
 rw[ny,this]
abbrev Hs:τ:=.func (.func 220) ⟨[]⟩ ⟨[]⟩
abbrev O5:Ex->E O:=cj [0,1,7,8] [] [4]
def Cg:E AV->E AB->χ (PV×O×dm)
 |[.sl 0 8 0 0 m ζ,.v (.func (.func f) ⟨[]⟩ ⟨[]⟩),.v (.int .i64 (.ofNat k)),.v (.int .i64 0)],[.row η n 8 g t]=>γ (⟨m,n,g,t⟩,k,f)
 |_,_=>ζ
def QV(s:PV×O×dm)(i:O):E (O×AV):=[(0,Az s.1.m),(1,.v Hs),(7,.v (ι s.1.m)),(8,.v (ι i))]
def Aj(s:PV×O×dm):E ξ:=Ψ s.2.2 220::Ψ s.2.1 s.1.m::uU s.1
def z'(s:PV×O×dm)(a:dx):am:=cond (kE (bi s.1.g) s.1.m) (a .normal (ar 0 19 []) (lO s.1)) (a .ret (ar 0 19 [(4,.v (ι (ny (bi s.1.g) s.1.m)))]) (lO s.1))
noncomputable abbrev zk:cb:=f262
def as6(s:PV×O×dm)(i:O):a0 θ sE 100 K (a5 0 zk) (ar 0 19 (QV s i)) (lO s.1) (eV O5 1)=cond (κ ((i:Z)<s.1.m)) (Ξ [κ ((i:Z)<s.1.m),κ (0+i<s.1.m)] (cond (!k_ (bi s.1.g) (0+i)) (.out .ret (ar 0 19 [(4,.v (ι i))]) (lO s.1)) (.out .normal (ar 0 19 [(0,Az s.1.m),(1,.v Hs),(7,.v (ι s.1.m)),(8,.v (ι (W (i+1))))]) (lO s.1)))) (.out (.exit 0) (ar 0 19 []) (lO s.1)):=by kernel_rfl
def avj:ck θ 1 (.block 0 (.loop (a5 0 zk))) (sP 19 [0,1,7,8] Cg Aj z'):=by
 refine Y' CY (n:=100) (m:=1) (lv:=O5) (Λ:=K) QV (λs _=>lO s.1) (λs i=>kE (bi s.1.g) i=ε) (λs=>s.1.m) rfl (cN _ _ _) (aQ _) ?_ ?_
 ·intro q H s l e
  unfold Cg at l;split at l
  ·rename_i m f k n g t
   cases l;simp only[Aj,Ω (b:=Ψ _ _)]at e;obtain⟨o,c,e⟩:=e;have o:=cA o;have c:=cA c;obtain⟨d,h,r⟩:=I6 (s:=⟨m,n,g,t⟩) (by simpa only[uU,Ω]using e);simp only at d h r;subst d o c;exact⟨[.row η _ 8 g t],by kernel_rfl,.cons (ab.row h) .nil,rfl⟩
  ·cases l
 ·intro s a Q e c i p u
  simp only[Aj,Ω (b:=Ψ _ _)]at e;obtain⟨_,_,y⟩:=I6 (s:=s.1) (by simpa only[uU,Ω]using e.2.2);show aE (a0 θ sE 100 K (a5 0 zk) (ar 0 19 (QV s i)) (lO s.1) (eV O5 1)) _
  rw[as6,bH];refine aD (λd=>?_) λd=>?_
  ·have d:=aV d
   have j:i<s.1.m:=by omega
   refine c_ (aD (λh=>?_) λh=>?_)
   ·refine F ⟨_,Φ.refl _,?_⟩
    rw[z',Zw j (by simpa using h),afz p j (by simpa using h)]at c;exact c
   ·refine F ⟨j,?_,Φ.refl _,Zx p (by simpa using h)⟩
    rw[fj (x:=(i:Z)+1) (by omega) (by omega)];rfl
  ·have d:=cu d
   have:i=s.1.m:=by omega
   subst this;refine F ⟨_,Φ.refl _,?_⟩;rw[aU rfl];rw[z',p]at c;exact c
def KM:E SA->χ FR
 |[.row m g,.v (.func (.func f) ⟨[]⟩ ⟨[]⟩)]=>γ {val:=.v (ι (ny (bi g) m)),aw:=[Ψ f 220,ip m g,κ (m<=2^38)]}
 |_=>ζ
def Iz:E Md:=[.rd 8 88,.val]
def apJ:ak θ 262 (ai Iz KM):=by
 refine Pb (n:=100) (Λ:=bX 0 (sP 19 [0,1,7,8] Cg Aj z')) CY (fn:=zk) func262 rfl λl q c i=>?_
 unfold KM at c;split at c
 ·rename_i m g f
  cases c;simp only[Ω]at i;obtain⟨d,h,o,_⟩:=i;have d:=cA d;subst d;refine⟨[.row η m 8 (gd (bi g)) 88],.cons (ab.row λj b=>kR h j b) .nil,da avj,?_⟩;have e:ad θ sE (bX 0 (sP 19 [0,1,7,8] Cg Aj z')) 100 zk (ir 0 Iz [.row m g,.v Hs]) [.row η m 8 (gd (bi g)) 88] (ag 1)
   =Ξ [Ψ m m,Ψ m m,ip m (gd (bi g)),κ (m<=2^38)] (cond (kE (bi g) m) (.out .ret [.v (ι (-1))] [.row η m 8 (gd (bi g)) 88]) (.out .ret [.v (ι (ny (bi g) m))] [.row η m 8 (gd (bi g)) 88])):=by kernel_rfl
  rw[show([AB.row η m 8 (gd (bi g)) 88]).length=1 from rfl];show aE (ad θ sE (bX 0 (sP 19 [0,1,7,8] Cg Aj z')) 100 zk (ir 0 Iz [.row m g,.v Hs]) [.row η m 8 (gd (bi g)) 88] (ag 1)) _
  rw[e];refine aq (by simp only[Ω,ax,ue (m:=m) (a:=bi g) λj _=>rfl,o,kr,and_self]) (aD (λk=>?_) λk=>?_)
  ·refine F ⟨_,rfl,?_,.cons (ab.row λj b=>(kR h j b).symm) .nil⟩
   rw[afB k]
  ·exact F ⟨_,rfl,rfl,.cons (ab.row λj b=>(kR h j b).symm) .nil⟩
 ·cases c
def Xm:aG:=ext sE 262 (ai Iz KM)
def als:aK θ Xm:=az CY apJ
def aqP:ak θ 140 (ai nR FW):=by
 refine Pb (n:=100) (Λ:=K) als func140 rfl λi p c h=>?_
 unfold FW at c;split at c
 ·rename_i m g
  cases c;simp only[Ω]at h;obtain⟨d,k,_⟩:=h;refine⟨[.row η m 8 (gd (bi g)) 88],.cons (ab.row λj b=>kR d j b) .nil,de _,?_⟩;have e:ad θ Xm K 100 f140 (ir 0 nR [.row m g]) [.row η m 8 (gd (bi g)) 88] (ag 1)
   =cond (aH m 1 48) (Ξ [Δ (0+m) m,ip m (λq=>gd (bi g) (0+q)),κ (m<=2^38)] (.out .ret [.v (.bool (bif κ (ny (bi λq=>gd (bi g) (0+q)) m>=0)then η else ε))] [.row η m 8 (gd (bi g)) 88])) (.out .ret [.v (.bool η)] [.row η m 8 (gd (bi g)) 88]):=by kernel_rfl
  rw[show([AB.row η m 8 (gd (bi g)) 88]).length=1 from rfl,e];have l:ny (bi λq=>gd (bi g) (0+q)) m=ny (bi g) m:=by
   have:(λj=> !k_ (bi λq=>gd (bi g) (0+q)) j)=λj=> !k_ (bi g) j:=by
    funext j
    show(!k_ (bi g) (0+j))=_
    rw[bH]
   unfold ny;rw[this]
  rw[l,afA];refine aD (λf=>?_) λf=>?_
  ·refine aq ?_ (F ⟨_,rfl,?_,.cons (ab.row λj b=>(kR d j b).symm) .nil⟩)
   ·simp only[Ω,ax,bH,aj]
    exact⟨by simp,ue (a:=bi g) λj _=>rfl,k⟩
   ·rw[gG,f]
    cases kE (bi g) m<;>rfl
  ·refine F ⟨_,rfl,?_,.cons (ab.row λj b=>(kR d j b).symm) .nil⟩
   rw[gG,f,g7]
 ·cases c
def aof{i m:O}(a:i<m)(b:m<=2^38):(aY.wrap ((i:Z)+1)).tmod m=(((i+1)%m:O):Z):=by
 have:aY.wrap ((i:Z)+1)=((i+1:O):Z):=by rw[show aY.wrap ((i:Z)+1)=W ((i:Z)+1)from rfl,fj];omega
 rw[this];exact(Int.ofNat_tmod _ _).symm
abbrev w4(s:ao):O->Z:=v4 (s 0) (s 1) (s 2) (s 3)
structure PB where
 m:O
 m':O
 k:O
 gb:O->E τ
 n:O
 g:O->E τ
 t:ae
def G1(a:Z->Z->Z->ξ):E τ->χ (τ×E ξ)
 |[.int .i64 n,.int .i64 l,.int .i64 h]=>γ (.bool (a n l h),[])
 |_=>ζ
def CV(a:Z->Z->Z->ξ):aG:=ext (ext g0 123 (aW (G1 a))) 170 (aW (G1 a))
def axG(a:Z->Z->Z->ξ)(s:ao):let b:=(-10000000:Z);let c:=(10000000:Z);let d:=[vB η];ad θ (CV a) K 100 f223 ([ig s].map .v) [] dR
 =bif a (s 0) b c then bif a (s 1) b c then bif a (s 2) b c then rO [AV.v (.bool (a (s 3) b c))] []else rO d []else rO d []else rO d []:=by intros;kernel_rfl
def axH(a:Z->Z->Z->ξ)(s:ao):let b:=(-10000000:Z);let c:=(10000000:Z);let d:=[vB η];ad θ (CV a) K 100 f243 ([ig s].map .v) [] dR
 =bif a (s 0) b c then bif a (s 1) b c then bif a (s 2) b c then rO [AV.v (.bool (a (s 3) b c))] []else rO d []else rO d []else rO d []:=by intros;kernel_rfl
def zm(e:(O->Z)->ξ):E τ->χ (τ×E ξ)
 |[.agg ⟨[.int .i64 a,.int .i64 b,.int .i64 c,.int .i64 d]⟩]=>γ (.bool (e (v4 a b c d)),[])
 |_=>ζ
def CR(a:(O->Z)->ξ)(_:(O->Z)->Z)(_:Z->ξ):aG:=ext (ext g0 223 (aW (zm a))) 243 (aW (zm a))
def aw7(a:(O->Z)->ξ)(sg:(O->Z)->Z)(ob:Z->ξ)(s:ao):ad θ (CR a sg ob) K 100 f144 [.v (ig s)] [] (ag 0)=bif !a (w4 s)then rO [AV.af [AV.agg [vI 0,vI 0,vI 0,vI 0],vB η]] []else rO [AV.af [AV.agg [vI (s 0),vI (s 1),vI (s 2),vI (s 3)],vB ε]] []:=by kernel_rfl
def aw8(a:(O->Z)->ξ)(sg:(O->Z)->Z)(ob:Z->ξ)(s:ao):ad θ (CR a sg ob) K 100 f176 [.v (ig s)] [] (ag 0)=bif !a (w4 s)then rO [AV.af [AV.agg [vI 0,vI 0,vI 0,vI 0],vB η]] []else rO [AV.af [AV.agg [vI (s 0),vI (s 1),vI (s 2),vI (s 3)],vB ε]] []:=by kernel_rfl
def gY(s:ao):ξ:=bif aH (s 0) (-10000000) 10000000 then bif aH (s 1) (-10000000) 10000000 then bif aH (s 2) (-10000000) 10000000 then aH (s 3) (-10000000) 10000000 else η else η else η
variable {h:O->Z}
def avn:gY h=ε↔L1 10000000 h:=by
 unfold gY L1;constructor
 ·intro a k f
  cases b:aH (h 0) (-10000000) 10000000 with
  |false=>rw[b]at a;cases a
  |true=>
   cases c:aH (h 1) (-10000000) 10000000 with
   |false=>rw[b,c]at a;cases a
   |true=>
    cases d:aH (h 2) (-10000000) 10000000 with
    |false=>rw[b,c,d]at a;cases a
    |true=>
     rw[b,c,d]at a;have b:=cd.1 b;have c:=cd.1 c;have d:=cd.1 d;have e:=cd.1 (show aH (h 3) (-10000000) 10000000=ε from a);rcases(by omega:k=0\/k=1\/k=2\/k=3)with rfl|rfl|rfl|rfl
     ·exact b
     ·exact c
     ·exact d
     ·exact e
 ·intro a
  rw[cd.2 (a 0 (by omega)),cd.2 (a 1 (by omega)),cd.2 (a 2 (by omega)),cd.2 (a 3 (by omega))];rfl
def jn(s:ao):O->Z:=λk=>bif gY s then s k else 0
def sA(s:ao):E AV:=[.v (ι (s 0)),.v (ι (s 1)),.v (ι (s 2)),.v (ι (s 3))]
def yC(md:(O->Z)->O->Z)(e:(O->Z)->ξ):E SA->χ FR
 |[.v (.agg ⟨[.int .i64 a,.int .i64 b,.int .i64 c,.int .i64 d]⟩)]=>γ {val:=.af [.agg (sA (md (v4 a b c d))),.v (.bool (e (v4 a b c d)))]}
 |_=>ζ
def VU:G1 aH=uu:=by funext l;unfold G1 uu;rfl
def W7:aK θ (CV aH):=az (az ba (VU▸PN)) (VU▸ZW)
def abV(s:ao):Good (bif aH (s 0) (-10000000) 10000000 then bif aH (s 1) (-10000000) 10000000 then bif aH (s 2) (-10000000) 10000000 then rv (.bool (aH (s 3) (-10000000) 10000000))else rv (.bool η)else rv (.bool η)else rv (.bool η)) (.bool (gY s)):=by unfold gY;cases aH (s 0) (-10000000) 10000000<;>cases aH (s 1) (-10000000) 10000000<;>cases aH (s 2) (-10000000) 10000000<;>exact one rfl
def aqB:ak θ 223 (aW (zm gY)):=by
 refine et (n:=100) W7 func223 rfl λf v g e h=>?_
 unfold zm at e;split at e
 ·rename_i a b c d
  cases e;show Good (ad θ (CV aH) K 100 f223 ([ig (v4 a b c d)].map .v) [] dR) _
  rw[axG];exact abV _
 ·cases e
def aqC:ak θ 243 (aW (zm gY)):=by
 refine et (n:=100) W7 func243 rfl λf v g e h=>?_
 unfold zm at e;split at e
 ·rename_i a b c d
  cases e;show Good (ad θ (CV aH) K 100 f243 ([ig (v4 a b c d)].map .v) [] dR) _
  rw[axH];exact abV _
 ·cases e
def WN:aK θ (CR gY QD NY):=az (az ba aqB) aqC
def ap2:ak θ 144 (ai [.val] (yC jn gY)):=by
 refine ca WN func144 rfl λf i e j=>?_
 unfold yC at e;split at e
 ·rename_i a b c d
  cases e;refine⟨[],K,100,.nil,de _,?_⟩;show aE (ad θ (CR gY QD NY) K 100 f144 [.v (ig (v4 a b c d))] [] (ag 0)) _
  rw[aw7];generalize g:v4 a b c d=s;have h:w4 s=s:=by rw[<-g];rfl
  rw[h];refine aD (λq=>F ⟨_,rfl,?_,.nil⟩) λq=>F ⟨_,rfl,?_,.nil⟩
  ·rw[g8]at q
   show _=[AV.af [.agg (sA (jn s)),.v (.bool (gY s))]]
   unfold jn;rw[q];rfl
  ·rw[og]at q
   show _=[AV.af [.agg (sA (jn s)),.v (.bool (gY s))]]
   unfold jn;rw[q];rfl
 ·cases e
def ap3:ak θ 176 (ai [.val] (yC jn gY)):=by
 refine ca WN func176 rfl λf i e j=>?_
 unfold yC at e;split at e
 ·rename_i a b c d
  cases e;refine⟨[],K,100,.nil,de _,?_⟩;show aE (ad θ (CR gY QD NY) K 100 f176 [.v (ig (v4 a b c d))] [] (ag 0)) _
  rw[aw8];generalize g:v4 a b c d=s;have h:w4 s=s:=by rw[<-g];rfl
  rw[h];refine aD (λq=>F ⟨_,rfl,?_,.nil⟩) λq=>F ⟨_,rfl,?_,.nil⟩
  ·rw[g8]at q
   show _=[AV.af [.agg (sA (jn s)),.v (.bool (gY s))]]
   unfold jn;rw[q];rfl
  ·rw[og]at q
   show _=[AV.af [.agg (sA (jn s)),.v (.bool (gY s))]]
   unfold jn;rw[q];rfl
 ·cases e
def zf(al:(O->Z)->(O->Z)->O->Z):E τ->χ (τ×E ξ)
 |[.agg ⟨[.int .i64 a,.int .i64 b,.int .i64 c,.int .i64 d,.int .i64 e,.int .i64 f,.int .i64 g,.int .i64 h]⟩,.agg ⟨[.int .i64 i,.int .i64 j,.int .i64 k,.int .i64 l,.int .i64 m,.int .i64 n,.int .i64 o,.int .i64 p]⟩]=>γ (ig (al (v8 a b c d e f g h) (v8 i j k l m n o p)),[])
 |_=>ζ
section
section
variable (up:(O->Z)->ξ) (al cr:(O->Z)->(O->Z)->O->Z) (sg:(O->Z)->Z) (b:Θ) (bf:ao) (m:O)
end
end
def aum:∀(n:O)(x y:Z),x.natAbs<=n->x*x=2*(y*y)->x=0/\y=0:=by
 have zero:∀y:Z,0=2*(y*y)->y=0:=λy h=>by
  have:y*y=0:=by omega
  rcases R2.1 this with h|h<;>exact h
 intro n;induction n with
 |zero=>
  intro x y e h;have:x=0:=by omega
  subst this;exact⟨rfl,zero y (by simpa using h)⟩
 |succ n f=>
  intro x y e h;rcases(by omega:x%2=0\/x%2=1)with g|g
  ·have a:x=2*(x/2):=by omega
   generalize x/2=k at a;subst a;have m:y*y=2*(k*k):=by grind
   rcases(by omega:y%2=0\/y%2=1)with i|i
   ·have b:y=2*(y/2):=by omega
    generalize y/2=l at b;subst b;have c:k*k=2*(l*l):=by grind
    by_cases j:k=0
    ·subst j
     have:=zero l (by simpa using c);subst this;exact⟨rfl,rfl⟩
    ·have:=f k l (by omega) c
     omega
   ·exfalso
    have d:y=2*(y/2)+1:=by omega
    generalize y/2=l at d;subst d;have:(2*l+1)*(2*l+1)=2*(2*(l*l)+2*l)+1:=by grind
    omega
  ·exfalso
   have a:x=2*(x/2)+1:=by omega
   generalize x/2=k at a;subst a;have:(2*k+1)*(2*k+1)=2*(2*(k*k)+2*k)+1:=by grind
   omega
def atf{x y:Z}(h:x*x=2*(y*y)):x=0/\y=0:=aum _ x y (aQ _) h
def Yw{x y u v:Z}(b:x*u+2*(y*v)=0)(c:x*v+y*u=0):(x=0/\y=0)\/(u=0/\v=0):=by
 have e:(x*x-2*(y*y))*u=0:=by
  have:(x*x-2*(y*y))*u=x*(x*u+2*(y*v)) -2*y*(x*v+y*u):=by grind
  rw[this,b,c];simp
 have f:(x*x-2*(y*y))*v=0:=by
  have:(x*x-2*(y*y))*v=x*(x*v+y*u) -y*(x*u+2*(y*v)):=by grind
  rw[this,b,c];simp
 by_cases d:x*x-2*(y*y)=0
 ·exact .inl (atf (by omega))
 ·rcases R2.1 e with h|h
  ·exact(d h).elim
  ·rcases R2.1 f with a|a
   ·exact(d a).elim
   ·exact .inr ⟨h,a⟩
def Zb(x:Z):x%3=0/\(x*x)%3=0\/x%3≠0/\(x*x)%3=1:=by
 rcases(by omega:x%3=0\/x%3=1\/x%3=2)with h|h|h
 ·left
  have e:x=3*(x/3):=by omega
  generalize x/3=k at e;subst e;refine⟨h,?_⟩;have:3*k*(3*k)=3*(3*(k*k)):=by grind
  omega
 ·right
  have e:x=3*(x/3)+1:=by omega
  generalize x/3=k at e;subst e;refine⟨by omega,?_⟩;have:(3*k+1)*(3*k+1)=3*(3*(k*k)+2*k)+1:=by grind
  omega
 ·right
  have e:x=3*(x/3)+2:=by omega
  generalize x/3=k at e;subst e;refine⟨by omega,?_⟩;have:(3*k+2)*(3*k+2)=3*(3*(k*k)+4*k+1)+1:=by grind
  omega
def arx{x y z:Z}(h:x*y=3*z):x%3=0\/y%3=0:=by
 rcases(by omega:x%3=0\/x%3=1\/x%3=2)with b|b|b
 ·exact .inl b
 all_goals rcases(by omega:y%3=0\/y%3=1\/y%3=2)with a|a|a
 ·exact .inr a
 ·exfalso
  have e:x=3*(x/3)+1:=by omega
  have f:y=3*(y/3)+1:=by omega
  generalize x/3=k at e;generalize y/3=l at f;subst e f;have:(3*k+1)*(3*l+1)=3*(3*(k*l)+k+l)+1:=by grind
  omega
 ·exfalso
  have e:x=3*(x/3)+1:=by omega
  have f:y=3*(y/3)+2:=by omega
  generalize x/3=k at e;generalize y/3=l at f;subst e f;have:(3*k+1)*(3*l+2)=3*(3*(k*l)+2*k+l)+2:=by grind
  omega
 ·exact .inr a
 ·exfalso
  have e:x=3*(x/3)+2:=by omega
  have f:y=3*(y/3)+1:=by omega
  generalize x/3=k at e;generalize y/3=l at f;subst e f;have:(3*k+2)*(3*l+1)=3*(3*(k*l)+k+2*l)+2:=by grind
  omega
 ·exfalso
  have e:x=3*(x/3)+2:=by omega
  have f:y=3*(y/3)+2:=by omega
  generalize x/3=k at e;generalize y/3=l at f;subst e f;have:(3*k+2)*(3*l+2)=3*(3*(k*l)+2*k+2*l+1)+1:=by grind
  omega
def Ys{a b c d:Z}(f:a*a+2*(b*b)=3*(c*c+2*(d*d)))(e:a*b=3*(c*d)):a%3=0/\b%3=0:=by have g:=Zb a;have h:=Zb b;have i:=arx e;omega
def abJ(x:Z):0<=x*x:=by
 rcases adx 0 x with h|h
 ·exact Fg h h
 ·have:=Fg (a:= -x) (b:= -x) (by omega) (by omega)
  grind
def abK(h:A*A=0):A=0:=by rcases R2.1 h with h|h<;>exact h
def amj:∀(n:O)(a b c d:Z),a.natAbs+b.natAbs<=n->a*a+2*(b*b)=3*(c*c+2*(d*d))->a*b=3*(c*d)->a=0/\b=0/\c=0/\d=0:=by
 intro n;have e:∀c d:Z,(0:Z)=3*(c*c+2*(d*d))->c=0/\d=0:=λc d h=>by have f:=abJ c;have j:=abJ d;exact⟨abK (by omega),abK (by omega)⟩
 induction n with
 |zero=>
  intro a b c d p f j;have:a=0:=by omega
  have:b=0:=by omega
  subst a b;have:=e c d (by simpa using f);exact⟨rfl,rfl,this.1,this.2⟩
 |succ n q=>
  intro a b c d p f j;by_cases r:a=0/\b=0
  ·obtain⟨rfl,rfl⟩:=r
   have:=e c d (by simpa using f);exact⟨rfl,rfl,this.1,this.2⟩
  ·obtain⟨w,x⟩:=Ys f j
   have k:a=3*(a/3):=by omega
   have l:b=3*(b/3):=by omega
   generalize a/3=g at k;generalize b/3=i at l;subst k l;have s:c*c+2*(d*d)=3*(g*g+2*(i*i)):=by grind
   have t:c*d=3*(g*i):=by grind
   obtain⟨y,z⟩:=Ys s t;have m:c=3*(c/3):=by omega
   have o:d=3*(d/3):=by omega
   generalize c/3=u at m;generalize d/3=v at o;subst m o;have:=q g i u v (by omega) (by grind) (by grind);omega
def aa2{a b c d:Z}(e:a*a+2*(b*b) -3*(c*c) -6*(d*d)=0)(f:2*(a*b) -6*(c*d)=0):a=0/\b=0/\c=0/\d=0:=
 amj _ a b c d (aQ _) (by omega) (by omega)
structure Sd where
 a:Z
 b:Z
 c:Z
 d:Z
namespace Sd
def ext{x y:Sd}(a:x.a=y.a)(b:x.b=y.b)(c:x.c=y.c)(d:x.d=y.d):x=y:=by cases x;cases y;simp_all
instance:Add Sd:=⟨λs t=>⟨s.a+t.a,s.b+t.b,s.c+t.c,s.d+t.d⟩⟩
instance:Sub Sd:=⟨λs t=>⟨s.a-t.a,s.b-t.b,s.c-t.c,s.d-t.d⟩⟩
instance:Neg Sd:=⟨λs=>⟨-s.a,-s.b,-s.c,-s.d⟩⟩
instance:Mul Sd:=⟨λs t=>⟨s.a*t.a+2*(s.b*t.b)+3*(s.c*t.c)+6*(s.d*t.d),s.a*t.b+s.b*t.a+3*(s.c*t.d+s.d*t.c),s.a*t.c+s.c*t.a+2*(s.b*t.d+s.d*t.b),s.a*t.d+s.d*t.a+s.b*t.c+s.c*t.b⟩⟩
instance al0:NatCast Sd:=⟨λn=>⟨n,0,0,0⟩⟩
instance al2 (n:O):OfNat Sd n:=⟨⟨n,0,0,0⟩⟩
instance:IntCast Sd:=⟨λn=>⟨n,0,0,0⟩⟩
def pw(s:Sd):O->Sd
 |0=>1
 |n+1=>pw s n*s
instance:HPow Sd O Sd:=⟨pw⟩
instance al1:SMul O Sd:=⟨λn s=>(n:Sd)*s⟩
instance al3:SMul Z Sd:=⟨λn s=>(n:Sd)*s⟩
@[simp] theorem azG(s t:Sd):(s+t).a=s.a+t.a:=rfl
@[simp] theorem azH(s t:Sd):(s+t).b=s.b+t.b:=rfl
@[simp] theorem azI(s t:Sd):(s+t).c=s.c+t.c:=rfl
@[simp] theorem azJ(s t:Sd):(s+t).d=s.d+t.d:=rfl
@[simp] theorem aAb(s t:Sd):(s-t).a=s.a-t.a:=rfl
@[simp] theorem aAc(s t:Sd):(s-t).b=s.b-t.b:=rfl
@[simp] theorem aAd(s t:Sd):(s-t).c=s.c-t.c:=rfl
@[simp] theorem aAe(s t:Sd):(s-t).d=s.d-t.d:=rfl
@[simp] theorem az1(s:Sd):(-s).a= -s.a:=rfl
@[simp] theorem az2(s:Sd):(-s).b= -s.b:=rfl
@[simp] theorem az3(s:Sd):(-s).c= -s.c:=rfl
@[simp] theorem az4(s:Sd):(-s).d= -s.d:=rfl
@[simp] theorem azT(s t:Sd):(s*t).a=s.a*t.a+2*(s.b*t.b)+3*(s.c*t.c)+6*(s.d*t.d):=rfl
@[simp] theorem azU(s t:Sd):(s*t).b=s.a*t.b+s.b*t.a+3*(s.c*t.d+s.d*t.c):=rfl
@[simp] theorem azV(s t:Sd):(s*t).c=s.a*t.c+s.c*t.a+2*(s.b*t.d+s.d*t.b):=rfl
@[simp] theorem azW(s t:Sd):(s*t).d=s.a*t.d+s.d*t.a+s.b*t.c+s.c*t.b:=rfl
@[simp] theorem az9(n:O):(Su n:Sd).a=n:=rfl
@[simp] theorem az_(n:O):(Su n:Sd).b=0:=rfl
@[simp] theorem az'(n:O):(Su n:Sd).c=0:=rfl
@[simp] theorem aAa(n:O):(Su n:Sd).d=0:=rfl
@[simp] theorem z_a:(0:Sd).a=0:=rfl
@[simp] theorem z_b:(0:Sd).b=0:=rfl
@[simp] theorem z_c:(0:Sd).c=0:=rfl
@[simp] theorem z_d:(0:Sd).d=0:=rfl
@[simp] theorem o_a:(1:Sd).a=1:=rfl
@[simp] theorem o_b:(1:Sd).b=0:=rfl
@[simp] theorem o_c:(1:Sd).c=0:=rfl
@[simp] theorem o_d:(1:Sd).d=0:=rfl
@[simp] theorem f_a:(4:Sd).a=4:=rfl
@[simp] theorem f_b:(4:Sd).b=0:=rfl
@[simp] theorem f_c:(4:Sd).c=0:=rfl
@[simp] theorem f_d:(4:Sd).d=0:=rfl
@[simp] theorem azX(n:O):(n:Sd).a=n:=rfl
@[simp] theorem azY(n:O):(n:Sd).b=0:=rfl
@[simp] theorem azZ(n:O):(n:Sd).c=0:=rfl
@[simp] theorem az0(n:O):(n:Sd).d=0:=rfl
@[simp] theorem azO(n:Z):(n:Sd).a=n:=rfl
@[simp] theorem azP(n:Z):(n:Sd).b=0:=rfl
@[simp] theorem azQ(n:Z):(n:Sd).c=0:=rfl
@[simp] theorem azR(n:Z):(n:Sd).d=0:=rfl
def zs(i:Z)(s:Sd):i • s=(i:Sd)*s:=rfl
abbrev ar1{c:Type->Type}(_:c Dyadic)(α:Type):Type:=c α
instance:ar1 Dyadic.instCommRing Sd where
 natCast:=al0
 ofNat:=al2
 nsmul:=al1
 zsmul:=al3
 npow:=inferInstance
 add_zero s:=by apply ext<;>simp
 add_comm s t:=by apply ext<;>simp<;>grind
 add_assoc s t u:=by apply ext<;>simp<;>grind
 mul_assoc s t u:=by apply ext<;>simp<;>grind
 mul_one s:=by apply ext<;>simp
 one_mul s:=by apply ext<;>simp
 left_distrib s t u:=by apply ext<;>simp<;>grind
 right_distrib s t u:=by apply ext<;>simp<;>grind
 zero_mul s:=by apply ext<;>simp
 mul_zero s:=by apply ext<;>simp
 pow_zero s:=rfl
 pow_succ s n:=rfl
 ofNat_succ n:=by apply ext<;>simp
 neg_add_cancel s:=by apply ext<;>simp<;>grind
 sub_eq_add_neg s t:=by apply ext<;>simp<;>grind
 neg_zsmul i s:=by simp only[zs];apply ext<;>simp<;>grind
 zsmul_natCast_eq_nsmul n s:=by apply ext<;>rfl
 intCast_neg i:=by apply ext<;>simp
 mul_comm s t:=by apply ext<;>simp<;>grind
def cg{s t:Sd}(h:s*t=0):s=0\/t=0:=by
 have e:(s*t).a=0:=by rw[h];rfl
 have f:(s*t).b=0:=by rw[h];rfl
 have g:(s*t).c=0:=by rw[h];rfl
 have i:(s*t).d=0:=by rw[h];rfl
 obtain⟨A,B,C,D⟩:=s;obtain⟨a,b,G,H⟩:=t;simp at e f g i;have j:(A*A+2*(B*B) -3*(C*C) -6*(D*D))*a+2*((2*(A*B) -6*(C*D))*b)=0:=by grind
 have k:(A*A+2*(B*B) -3*(C*C) -6*(D*D))*b+(2*(A*B) -6*(C*D))*a=0:=by grind
 have l:(A*A+2*(B*B) -3*(C*C) -6*(D*D))*G+2*((2*(A*B) -6*(C*D))*H)=0:=by grind
 have m:(A*A+2*(B*B) -3*(C*C) -6*(D*D))*H+(2*(A*B) -6*(C*D))*G=0:=by grind
 rcases Yw j k with⟨c,d⟩|⟨rfl,rfl⟩
 ·obtain⟨rfl,rfl,rfl,rfl⟩:=aa2 c d
  exact .inl rfl
 ·rcases Yw l m with⟨c,d⟩|⟨rfl,rfl⟩
  ·obtain⟨rfl,rfl,rfl,rfl⟩:=aa2 c d
   exact .inl rfl
  ·exact .inr rfl
end Sd
def ajU:zf (λp q=>qZ (ez (jo p) q))=CC:=by funext a;unfold zf CC;rfl
abbrev lD(p q:ao):O->Z:=qZ (ez (jo p) q)
def LF(a:(O->O->Z)->O->ξ):E SA->χ FR
 |[.row m g]=>γ {val:=.v (.bool (a (bi g) m)),aw:=[ip m g,κ (m<=2^38)]}
 |_=>ζ
def aqW:ak θ 140 (ai nR (LF gG)):=aqP
def ayc(h:gG z i=ε):0<i/\i<=48:=by simp only[gG,aP]at h;have:=cd.1 h.2;omega
noncomputable def v5:bc:=(yl).body.getD .skip
noncomputable def LS:bc:=gX v5
noncomputable def LU:bc:=gX (db v5)
noncomputable def LV:bc:=gX (db (db v5))
noncomputable def LR:bc:=gX (gX (db (db (db v5))))
noncomputable def LW:bc:=db (db (db (db v5)))
noncomputable def LP:bc:=rfA (v6 (db (gX (db (db (db v5))))))
noncomputable def LQ:bc:=rfB (v6 (db (gX (db (db (db v5))))))
def afx:(yl).body=γ (k7 [LS,LU,LV] (.seq (.seq LR (.block 0 (.rangeFunc (.tmp 11) #[12] LP LQ))) LW)):=by kernel_rfl
def ML(pl:(O->Z)->(O->Z)->O->Z):E τ->χ (τ×E ξ)
 |[.agg ⟨[.int .i64 a,.int .i64 b,.int .i64 c,.int .i64 d]⟩,.agg ⟨[.int .i64 e,.int .i64 f,.int .i64 g,.int .i64 h]⟩]=>γ (ig (pl (v4 a b c d) (v4 e f g h)),[])
 |_=>ζ
def pY(a:(O->O->Z)->O->ξ)(cr:(O->Z)->(O->Z)->O->Z)(pl:(O->Z)->(O->Z)->O->Z)(md:(O->Z)->O->Z)(b:(O->Z)->ξ):aG:=
 ext (ext (ext (ext g0 140 (ai nR (LF a))) 143 (aW (zf cr))) 142 (aW (ML pl))) 144 (ai [.val] (yC md b))
abbrev ul(s:ao):AB:=.cells [.v (ι (s 0)),.v (ι (s 1)),.v (ι (s 2)),.v (ι (s 3))] 102
abbrev qU(a:Θ)(m:O)(t:ae)(s:ao):E AB:=[.row η m 8 (cO a) t,ul λ_=>0,ul s]
abbrev ax3:E AV:=ar 0 24 [(2,.ptr 1 0 0 0),(4,.ptr 2 0 0 0),(11,.fn 221 [.ptr 3 0 0 0])]
def arw(c:(O->O->Z)->O->ξ)(cr:(O->Z)->(O->Z)->O->Z)(pl:(O->Z)->(O->Z)->O->Z)(md:(O->Z)->O->Z)(e:(O->Z)->ξ)(a:Θ)(m:O):let b:=AV.dead;let d:=AB.cells [vI 0,vI 0,vI 0,vI 0] 102;fq θ (pY c cr pl md e) 100 ([LS,LU,LV]++[LR]) ([.sl 0 8 0 0 m ζ]++eH ((yl).ntmps-1) (.v aZ)) [.row η m 8 (cO a) 88] (eV (cj [2,4,11] [] []) 1)
 =Ξ [Δ (0+m) m,ip m λq=>cO a (0+q),κ (m<=274877906944)] (bif !c (bi λq=>cO a (0+q)) m then am.err else am.out .normal [b,b,AV.ptr 1 0 0 0,b,AV.ptr 2 0 0 0,b,b,b,b,b,b,AV.fn 221 [AV.ptr 3 0 0 0],b,b,b,b,b,b,b,b,b,b,b,b] [AB.row η m 8 (cO a) 88,d,d,AB.cells [AV.sl 0 8 0 0 m ζ] 98]):=by intros;kernel_rfl
abbrev E0:E AV:=ar 0 24 [(2,.ptr 1 0 0 0),(4,.ptr 2 0 0 0)]
abbrev p6(a:Θ)(m:O)(t:ae)(s:ao):E AB:=qU a m t s++[.gone]
def ar_(d:(O->O->Z)->O->ξ)(cr:(O->Z)->(O->Z)->O->Z)(pl:(O->Z)->(O->Z)->O->Z)(md:(O->Z)->O->Z)(e:(O->Z)->ξ)(a:Θ)(m:O)(t:ae)(s:ao)(j:O):let c:=(w4 (cr (w8 (a j)) (w8 (a ((j+1)%m)))));let b:=AV.dead;a0 θ (pY d cr pl md e) 100 K LP (j3 [12] [m8 (a j) (a ((j+1)%m))] E0) (p6 a m t s) (mP θ (pY d cr pl md e) 100 LQ 4)
 =am.out .normal [b,b,b,b,b,b,b,b,b,b,b,b,b,b,b,b,b,b,b,b,b,b,b,b] [AB.row η m 8 (cO a) t,AB.cells [vI 0,vI 0,vI 0,vI 0] 102,AB.cells [vI (pl (w4 s) c 0),vI (pl (w4 s) c 1),vI (pl (w4 s) c 2),vI (pl (w4 s) c 3)] 102,AB.gone]:=by intros;kernel_rfl
def aiK(c:(O->O->Z)->O->ξ)(cr:(O->Z)->(O->Z)->O->Z)(pl:(O->Z)->(O->Z)->O->Z)(md:(O->Z)->O->Z)(b:(O->Z)->ξ)(a:Θ)(m:O)(t:ae)(s:ao):behind θ (pY c cr pl md b) 100 yl 0 LW (ag 1) .normal E0 (p6 a m t s)=rO [AV.af [AV.agg [vI (md (w4 s) 0),vI (md (w4 s) 1),vI (md (w4 s) 2),vI (md (w4 s) 3)],AV.v (.bool (b (w4 s)))]] [AB.row η m 8 (cO a) t]:=by kernel_rfl
def awg(b:(O->O->Z)->O->ξ)(cr:(O->Z)->(O->Z)->O->Z)(pl:(O->Z)->(O->Z)->O->Z)(md:(O->Z)->O->Z)(c:(O->Z)->ξ)(a:Θ)(m:O):ad θ (pY b cr pl md c) K 100 yl [.sl 0 8 0 0 m ζ] [.row η m 8 (cO a) 88] (ag 1)=Ξ [Δ (0+m) m,ip m λq=>cO a (0+q),κ (m<=274877906944),!b (bi λq=>cO a (0+q)) m] (rO [AV.af [AV.agg [vI 0,vI 0,vI 0,vI 0],vB η]] [AB.row η m 8 (cO a) 88]):=by kernel_rfl
noncomputable abbrev Cw:cb:=f100
def MO(a:(O->Z)->Z->(O->Z)->O->Z):E τ->χ (τ×E ξ)
 |[.agg ⟨[.int .i64 b,.int .i64 c,.int .i64 d,.int .i64 e]⟩,.int .i64 n,.agg ⟨[.int .i64 f,.int .i64 g,.int .i64 h,.int .i64 i]⟩]=>γ (ig (a (v4 b c d e) n (v4 f g h i)),[])
 |_=>ζ
def Wy(cr:(O->Z)->(O->Z)->O->Z)(a:(O->Z)->Z->(O->Z)->O->Z):aG:=ext (ext g0 175 (aW (zf cr))) 174 (aW (MO a))
abbrev Dg:Ex->E O:=cj [0,2,4,5] [2,4] [2,3]
abbrev EB(m i:O):E AV:=[.sl 0 8 0 0 m ζ,.ptr 1 0 0 0,.ptr 2 0 0 0,.v (ι i)]
def ar'(cr:(O->Z)->(O->Z)->O->Z)(c:(O->Z)->Z->(O->Z)->O->Z)(a:Θ)(m:O)(t:ae)(s:ao)(i:O):let b:=(m:Z);let d:=(↑i:Z);let h:=AB.cells [vI 0,vI 0,vI 0,vI 0] 102;let e:=(1:Z);let j:=AB.row η m 8 (cO a) t;let f:=(aa .i64 (d+e));let g:=(w4 (cr (w8 (a (0+aT d))) (w8 (a (0+aT (fk f b))))));a0 θ (Wy cr c) 100 K (a5 0 Cw) (ar 0 36 ((Dg .normal).zip (EB m i))) (qU a m t s) (cw 36 Dg 1)
 =bif κ (d<b)then Ξ [κ (d<b),κ (0+aT d<m),!κ (b=(0:Z)),κ ((0:Z)<=fk f b),κ (fk f b<b),κ (0+aT (fk f b)<m)] (am.out .normal [AV.sl 0 8 0 0 m ζ,AV.ptr 1 0 0 0,AV.ptr 2 0 0 0,vI f] [j,h,AB.cells [vI (c (w4 s) e g 0),vI (c (w4 s) e g 1),vI (c (w4 s) e g 2),vI (c (w4 s) e g 3)] 102])else am.out (Ex.exit 0) [AV.ptr 1 0 0 0,AV.ptr 2 0 0 0] [j,h,AB.cells [vI (s 0),vI (s 1),vI (s 2),vI (s 3)] 102]:=by intros;kernel_rfl
noncomputable abbrev Oi(a:Θ)(m:O)(t:ae)(s:ao):O->χ Sum:=bX 0 (bm 36 (Dg .normal) 1 (EB m 0) (qU a m t λ_=>0) (λb=>b .normal (ar 0 36 [(2,.ptr 1 0 0 0),(4,.ptr 2 0 0 0)]) (qU a m t s)))
def Nk(a:(O->O->Z)->O->ξ)(md:(O->Z)->O->Z)(b:(O->Z)->ξ):aG:=ext (ext g0 173 (ai nR (LF a))) 176 (ai [.val] (yC md b))
def awl(d:(O->O->Z)->O->ξ)(md:(O->Z)->O->Z)(e:(O->Z)->ξ)(a:Θ)(m:O)(s:ao):let b:=AB.row η m 8 (cO a) 88;let c:=[vI 0,vI 0,vI 0,vI 0];ad θ (Nk d md e) (Oi a m 88 s) 100 Cw [.sl 0 8 0 0 m ζ] [.row η m 8 (cO a) 88] (ag 1)
 =Ξ [Δ (0+m) m,ip m λq=>cO a (0+q),κ (m<=274877906944)] (bif !d (bi λq=>cO a (0+q)) m then rO [AV.af [AV.agg c,vB η]] [b]else Ξ [cy ([AV.sl 0 8 0 0 m ζ,AV.ptr 1 0 0 0,AV.ptr 2 0 0 0,vI 0]=EB m 0/\Φ [b,AB.cells c 102,AB.cells c 102] (qU a m 88 λ_=>(0:Z)))] (rO [AV.af [AV.agg [vI (md (w4 s) 0),vI (md (w4 s) 1),vI (md (w4 s) 2),vI (md (w4 s) 3)],AV.v (.bool (e (w4 s)))]] [b])):=by intros;kernel_rfl
def s9(p q:ao):O->Z:=λk=>W (p k+q k)
def Q2(p:ao)(n:Z)(q:ao):O->Z:=λk=>W (p k+W (n*q k))
def ajX:ML s9=CD:=by funext l;unfold ML CD;rfl
def ajY:MO Q2=CB:=by funext l;unfold MO CB;rfl
def ajT:zf lD=Cx:=by funext a;unfold zf Cx;rfl
def uf(a:Θ)(m:O)(s:ao)(j:O):O->Z:=s9 (w4 s) (w4 (lD (w8 (a j)) (w8 (a ((j+1)%m)))))
def ly(a:Θ)(m i:O):O->Z:=(dK i).foldl (uf a m) (λ_=>0)
def afm(a:Θ)(m i:O):ly a m (i+1)=uf a m (ly a m i) i:=by unfold ly;rw[J9,Bl];rfl
def afl(a:Θ)(m:O):ly a m 0=λ_=>0:=by simp only[ly,List.range_zero,List.foldl_nil]
def i4(a:Θ)(m:O):ξ:=gG a m&&gY (w4 (ly a m m))
def iq(a:Θ)(m:O):O->Z:=λk=>bif gG a m then jn (w4 (ly a m m)) k else 0
def yw(a:(O->O->Z)->O->O->Z)(b:(O->O->Z)->O->ξ):E SA->χ FR
 |[.row m g]=>γ {val:=.af [.agg (sA (a (bi g) m)),.v (.bool (b (bi g) m))],aw:=[ip m g,κ (m<=2^38)]}
 |_=>ζ
def FX(r:ξ):E SA->χ FR
 |[.row m g]=>γ {val:=.af [.agg (sA (iq (bi g) m)),.v (.bool (i4 (bi g) m))],aw:=[ip m g,κ (m<=2^38),gG (bi g) m==r]}
 |_=>ζ
def Ws:aK θ (pY gG lD s9 jn gY):=az (az (az (az ba aqW) (ajT▸ZF)) (ajX▸Z6)) ap2
def anO(m:O):(px m).map Fc=dK m:=by
 apply R'
 ·simp
 ·intro i a b
  simp
def aoP:ak θ 78 (ai nR (FX ε)):=by
 refine nc enters aex rfl λy G d p=>?_
 unfold FX at d;split at d
 ·rename_i m g
  cases d;simp only[Ω]at p;obtain⟨r,s,z,_⟩:=p;have H:=aV s;have c:=fm.1 z;obtain⟨f,_⟩:=ayc c;have A:ip m (cO (bi g))=ε:=ue (a:=bi g) λ_ _=>rfl
  refine⟨[.row η m 8 (cO (bi g)) 88],.cons (ab.row λj k=>kR r j k) .nil,?_⟩;refine agJ (α:=Fin m) (n:=100) (nn:=0) Ws mixed enters aex afx (by kernel_rfl) (by kernel_rfl) (by kernel_rfl) (by kernel_rfl) (by kernel_rfl) (lvp:=cj [2,4,11] [] []) (TT:=ax3) (HH:=qU (bi g) m 88 (λ_=>0)++[.cells [.sl 0 8 0 0 m ζ] 98])
   (encs:=λx=>[m8 (bi g x) (bi g ((x+1)%m))]) (S:=λu=>u=px m) (Sp:=λ_=>True) (N:=m) ?_ (gf:=221) (cs:=[.ptr 3 0 0 0]) (by kernel_rfl) E0 (by kernel_rfl) (Y8 (live:=[2,4]) (by kernel_rfl)) (λ_=>η) (λb=>p6 (bi g) m 88 ((b.map Fc).foldl (uf (bi g) m) (λ_=>0))) (λ_ _=>[]) rfl (λi=>?_)
   (aiP func221 rfl) (λW C U X D c=>?_) (λ_=>rfl) (by decide) (λb x w=>?_) (λu l=>?_) (λe b _ h=>by cases h)
  ·show(fq θ (pY gG lD s9 jn gY) 100 ([LS,LU,LV]++[LR]) ([.sl 0 8 0 0 m ζ]++eH ((yl).ntmps-1) (.v aZ)) [.row η m 8 (cO (bi g)) 88] (eV (cj [2,4,11] [] []) 1)).ok _
   rw[arw];simp only[bH];refine(aq ?_ (bA ?_ (F ⟨rfl,rfl,rfl⟩))).out
   ·simp only[Ω,ax,aj]
    exact⟨by simp,A,s⟩
   ·rw[show gG (bi λq=>cO (bi g) q) m=ε from c]
    rfl
  ·rcases(by omega:i=0\/i=1\/i=2\/i=3\/4<=i)with rfl|rfl|rfl|rfl|h
   iterate 3 exact .inl rfl
   ·exact .inr rfl
   ·right
    simp[p6,cX,h]
  ·refine at2 D c (ib:=3) (il:=0) rfl rfl (by decide) f (by omega) λi o=>?_
   rcases(by omega:i=0\/i=1\/i=2\/i=3\/4<=i)with rfl|rfl|rfl|rfl|h
   ·simp[p6,AB.wr]at o
   ·exact⟨rfl,by decide⟩
   ·exact⟨rfl,by decide⟩
   ·simp[p6,AB.wr]at o
   ·simp[p6,cX,h,AB.wr]at o
  ·suffices h:aE (a0 θ (pY gG lD s9 jn gY) 100 K LP (j3 [12] [m8 (bi g x) (bi g ((x+1)%m))] E0) (p6 (bi g) m 88 ((b.map Fc).foldl (uf (bi g) m) (λ_=>0))) (mP θ (pY gG lD s9 jn gY) 100 LQ 4)) (LJ (λ_=>η) (λb:E (Fin m)=>p6 (bi g) m 88 ((b.map Fc).foldl (uf (bi g) m) (λ_=>0))) (λ_ _=>[]) (b++[x]))from h.out
   rw[ar_ gG lD s9 jn gY (bi g) m 88 _ x];refine F ?_;show Φ _ (p6 (bi g) m 88 (((b++[x]).map Fc).foldl (uf (bi g) m) (λ_=>0)))
   rw[kP,Bl];exact Φ.refl _
  ·subst l
   show(behind θ (pY gG lD s9 jn gY) 100 yl 0 LW (ag 1) .normal E0 (p6 (bi g) m 88 (((px m).map Fc).foldl (uf (bi g) m) (λ_=>0)))).ok _
   rw[aiK,anO];refine⟨_,rfl,?_,.cons (ab.row λj k=>(kR r j k).symm) .nil⟩;show _=[AV.af [.agg (sA (iq (bi g) m)),.v (.bool (i4 (bi g) m))]]
   unfold iq i4;rw[c];rfl
 ·cases d
def aoN:ak θ 78 (ai nR (FX η)):=by
 refine ca Ws aex rfl λh n b d=>?_
 unfold FX at b;split at b
 ·rename_i m g
  cases b;simp only[Ω]at d;obtain⟨e,i,k,_⟩:=d;have f:=fm.1 k;have l:ip m (cO (bi g))=ε:=ue (a:=bi g) λ_ _=>rfl
  refine⟨[.row η m 8 (cO (bi g)) 88],K,100,.cons (ab.row λj c=>kR e j c) .nil,de _,?_⟩;show aE (ad θ (pY gG lD s9 jn gY) K 100 yl [.sl 0 8 0 0 m ζ] [.row η m 8 (cO (bi g)) 88] (ag 1)) _
  rw[awg];simp only[bH];refine aq ?_ (F ⟨_,rfl,?_,.cons (ab.row λj c=>(kR e j c).symm) .nil⟩)
  ·simp only[Ω,ax,aj]
   exact⟨by simp,l,i,by rw[show gG (bi λq=>cO (bi g) q) m=η from f];rfl⟩
  ·show _=[AV.af [.agg (sA (iq (bi g) m)),.v (.bool (i4 (bi g) m))]]
   unfold iq i4;rw[f];rfl
 ·cases b
def aoM:ak θ 78 (ai nR (yw iq i4)):=by
 refine aui aoP aoN λf h a b=>?_
 unfold yw at a;split at a
 ·rename_i m g
  cases a;simp only[Ω]at b;obtain⟨c,d,_⟩:=b;cases e:gG (bi g) m with
  |true=>exact .inl ⟨[ip m g,κ (m<=2^38),gG (bi g) m==ε],rfl,by simp only[Ω,ax,aj];exact⟨c,d,by rw[e];rfl⟩⟩
  |false=>exact .inr ⟨[ip m g,κ (m<=2^38),gG (bi g) m==η],rfl,by simp only[Ω,ax,aj];exact⟨c,d,by rw[e];rfl⟩⟩
 ·cases a
def Uv(a:Θ)(m:O)(s:ao)(j:O):O->Z:=Q2 (w4 s) 1 (w4 (lD (w8 (a j)) (w8 (a ((j+1)%m)))))
def ayh(f:ao):∀k,k<4->w4 f k=f k:=λk a=>by rcases(by omega:k=0\/k=1\/k=2\/k=3)with rfl|rfl|rfl|rfl<;>rfl
def afp(a:Θ)(m:O)(s:ao)(j:O):∀k,k<4->Uv a m s j k=uf a m s j k:=λk b=>by
 show W (w4 s k+W (1*w4 (lD (w8 (a j)) (w8 (a ((j+1)%m)))) k))=W (w4 s k+w4 (lD (w8 (a j)) (w8 (a ((j+1)%m)))) k)
 rw[xW,ayh (lD (w8 (a j)) (w8 (a ((j+1)%m)))) k b];have:=n6 (Ih (ez (jo (w8 (a j))) (w8 (a ((j+1)%m)))) k);rw[show W (lD (w8 (a j)) (w8 (a ((j+1)%m))) k)=lD (w8 (a j)) (w8 (a ((j+1)%m))) k from fj this.1 this.2]
def akJ:aK θ (Wy lD Q2):=az (az ba (ajU▸ZX)) (ajY▸ZV)
def ag0{f g:O->Z}(h:∀k,k<4->f k=g k):ul f=ul g:=by
 show AB.cells _ _=AB.cells _ _
 rw[h 0 (by omega),h 1 (by omega),h 2 (by omega),h 3 (by omega)]
def auC(a:Θ)(m:O)(t:ae)(f:m<=2^38):ck θ 1 (.block 0 (.loop (a5 0 Cw))) (bm 36 (Dg .normal) 1 (EB m 0) (qU a m t λ_=>0) (λb=>b .normal (ar 0 36 [(2,.ptr 1 0 0 0),(4,.ptr 2 0 0 0)]) (qU a m t (ly a m m)))):=by
 have h:=dQ (m0:=1) (N:=36) (id:=0) (c:=a5 0 Cw) (out:=λb=>b .normal (ar 0 36 [(2,.ptr 1 0 0 0),(4,.ptr 2 0 0 0)]) (qU a m t (ly a m m))) akJ (n:=100) (m:=1) (lv:=Dg) (λi=>EB m i) (λi=>qU a m t (ly a m i)) (λ_=>True) m (λ_=>K) (du rfl rfl rfl) (aQ _) trivial λb Q j i _ k=>⟨cN _ _ _,?_⟩
 ·rw[afl]at h
  exact h
 rw[ar'];refine aD (λd=>?_) λd=>?_
 ·have d:=aV d
  have e:i<m:=by omega
  have l:=tD (i+1) (show 0<m by omega);rw[aof e f];simp only[cV,bH];rw[bz (x:=(i:Z)+1)];refine aq ?_ (F ⟨i+1,⟨rfl,e,trivial⟩,rfl,?_⟩)
  ·simp only[Ω,ax,aj,aL,g8,qy]
   omega
  ·show Φ [AB.row η m 8 (cO a) t,ul λ_=>0,ul (Uv a m (ly a m i) i)] [AB.row η m 8 (cO a) t,ul λ_=>0,ul (ly a m (i+1))]
   rw[afm,ag0 (afp a m (ly a m i) i)];exact Φ.refl _
 ·have d:=cu d
  have:i=m:=by omega
  subst this;refine F ⟨_,Φ.refl _,?_⟩;rw[aU rfl];exact j
def akI:aK θ (Nk gG jn gY):=az (az ba aqQ) ap3
def aoO:ak θ 100 (ai nR (yw iq i4)):=by
 refine ca akI func100 rfl λh k c e=>?_
 unfold yw at c;split at c
 ·rename_i m g
  cases c;simp only[Ω]at e;obtain⟨d,f,_⟩:=e;have i:ip m (cO (bi g))=ε:=ue (a:=bi g) λ_ _=>rfl
  refine⟨[.row η m 8 (cO (bi g)) 88],Oi (bi g) m 88 (ly (bi g) m m),100,.cons (ab.row λj b=>kR d j b) .nil,da (auC (bi g) m 88 (aV f)),?_⟩;show aE (ad θ (Nk gG jn gY) (Oi (bi g) m 88 (ly (bi g) m m)) 100 Cw [.sl 0 8 0 0 m ζ] [.row η m 8 (cO (bi g)) 88] (ag 1)) _
  rw[awl];simp only[bH];refine aq (by simp only[Ω,ax,aj];exact⟨by simp,i,f⟩) (aD (λq=>F ⟨_,rfl,?_,.cons (ab.row λj b=>(kR d j b).symm) .nil⟩) λq=>aq ?_ (F ⟨_,rfl,?_,.cons (ab.row λj b=>(kR d j b).symm) .nil⟩))
  ·rw[g8]at q
   have q:gG (bi g) m=η:=q;show _=[AV.af [.agg (sA (iq (bi g) m)),.v (.bool (i4 (bi g) m))]]
   unfold iq i4;rw[q];rfl
  ·rw[Ω]
   exact⟨cG ⟨rfl,Φ.refl _⟩,rfl⟩
  ·rw[og]at q
   have q:gG (bi g) m=ε:=q;show _=[AV.af [.agg (sA (iq (bi g) m)),.v (.bool (i4 (bi g) m))]]
   unfold iq i4;rw[q];rfl
 ·cases c
abbrev jg(L:E Wh)(x:Z):O->Z:=d_ (Y L) x L.length
abbrev uo(L:E Wh)(x:Z):ξ:=dB (Y L) x L.length
def qG(a:ao):E Z:=[a 0,a 1,a 2,a 3,a 4,a 5,a 6,a 7]
def m9(L:E Wh)(r:E υ):χ (E Wh×E υ):=bif cS 1 r&&uo L (aN r 0)then γ (L,fV (qG (jg L (aN r 0))))else ζ
abbrev Ib(L:E Wh)(x g:Z):Z:=jU (gw (w8 (jg L x))) (gv (w8 (jg L x))) g
abbrev Ic(L:E Wh)(x g:Z):Z:=jV (gw (w8 (jg L x))) (gv (w8 (jg L x))) g
abbrev C0(L:E Wh)(x g:Z):ξ:=kv (gw (w8 (jg L x))) (gv (w8 (jg L x))) g
def mZ(L:E Wh)(r:E υ):χ (E Wh×E υ):=bif cS 2 r&&(uo L (aN r 0)&&C0 L (aN r 0) (aN r 1))then γ (L,fV [Ib L (aN r 0) (aN r 1),Ic L (aN r 0) (aN r 1)])else ζ
abbrev ic(L:E Wh)(x:Z):E Cy:=fH (ο (J (Y L))) L.length x
abbrev Eo(L:E Wh)(x:Z):ξ:=eA (ο (J (Y L))) L.length x
abbrev nx(T:E Cy):O->Z:=iq (bi (cO (ks T))) T.length
abbrev BZ(T:E Cy):ξ:=i4 (bi (cO (ks T))) T.length
def mR(L:E Wh)(r:E υ):χ (E Wh×E υ):=bif cS 1 r&&(Eo L (aN r 0)&&BZ (ic L (aN r 0)))then γ (L,fV [nx (ic L (aN r 0)) 0,nx (ic L (aN r 0)) 1,nx (ic L (aN r 0)) 2,nx (ic L (aN r 0)) 3])else ζ
def sc(L:E Wh)(_:E υ):χ (E Wh×E υ):=bif fM L then γ (L,bg (fd L))else ζ
abbrev lZ(n:Z):Prop:= -1000000000000<=n/\n<=1000000000000
def Mp{f:O->O->Z}{n:Z}{m:O}(h:dB f n m=ε)(a:i<8):lZ (d_ f n m i):=by
 have e:d_ f n m=eI f n m:=by unfold d_;rw[h];rfl
 rw[e];unfold dB at h;rw[aP]at h;have:=xy.1 h.2 i a;rw[Cc _ i a]at this;omega
def yU(h:i4 z i=ε){k:O}(b:k<4):lZ (iq z i k):=by
 have c:=h;unfold i4 at h;rw[aP]at h;have e:iq z i k=w4 (ly z i i) k:=by unfold iq jn;rw[h.1,h.2];rfl
 rw[e];have:=avn.1 h.2 k b;omega
def Ia(a b:O)(g:Z):lZ (jU a b g)/\lZ (jV a b g):=by have:=alB a b g;omega
def jm(h:lZ A):κ (-9223372036854775807<=A/\A<=9223372036854775807)=ε:=dc
def gP{n:Z}(h:lZ n):(bg n).length<=20:=C7 n (by omega) (by omega)
def avW(x y:Z):fV [x,y]=bg x++([32]++bg y):=by simp[fV,iW]
def avU(x y z t:Z):fV [x,y,z,t]=bg x++([32]++(bg y++([32]++(bg z++([32]++bg t))))):=by simp[fV,iW]
def avT(a:ao):fV (qG a)=bg (a 0)++([32]++(bg (a 1)++([32]++(bg (a 2)++([32]++(bg (a 3)++([32]++(bg (a 4)++([32]++(bg (a 5)++([32]++(bg (a 6)++([32]++bg (a 7)))))))))))))):=by simp[fV,qG,iW]
def ani:nj:=⟨λ|284=>150|129=>229|317=>228|318=>230|n=>n,λ|53=>109|3=>3|212=>227|0=>0|4=>4|46=>191|5=>5|9=>9|n=>n,λ|17=>2|n=>n⟩
def anh:Go.Proofs.LaysM.n284 θ ani:=by repeat' (first|kernel_rfl|(intros;kernel_rfl)|decide|constructor)
def am6:nj:=⟨λ|285=>151|n=>n,λ|37=>22|53=>109|3=>3|4=>4|51=>105|9=>9|5=>5|0=>0|n=>n,λ|n=>n⟩
def am5:Go.Proofs.Lays.n285 θ am6:=by repeat' (first|kernel_rfl|(intros;kernel_rfl)|decide|constructor)
def anl:nj:=⟨λ|283=>149|n=>n,λ|3=>3|9=>9|4=>4|n=>n,λ|n=>n⟩
def ank:Go.Proofs.Lays.n283 θ anl:=by repeat' (first|kernel_rfl|(intros;kernel_rfl)|decide|constructor)
def alE(w:ψ)(T:ae)(a:O)(hs:a<=24):Holds (λ(b:υ)=>jc .u8 (b.toNat:Z)) (w.alloc (.cells Fk T)) w.heap.size 0 (tx a (0:υ)):=λj c=>by
 have d:j<a:=by simpa using c
 refine⟨?_,World.frozen?_alloc_new _ _ _ _⟩;rw[World.cell?_alloc_new,Lib.zeros24_at _ (by omega),yn _ j c];simp
def aj7(w:ψ)(o:Obj)(c:aX υ)(k:O):∃os,(putRow (λ(b:υ)=>jc .u8 (b.toNat:Z)) (w.alloc o) w.heap.size 0 c).drewN k=Kj (w.drewN k) os:=by rw[alloc_eq_grow];obtain⟨a,_,e⟩:=putRow_grow_new (λ(b:υ)=>jc .u8 (b.toNat:Z)) w #[o] w.heap.size 0 c (aQ _);exact⟨a,by rw[e];rfl⟩
def agu(u:O)(y:u<4294967296)(w:ψ)(f:Lib.TabIs θ w "internal/strconv.uint64pow10" .u64 Lib.pow10Tab):aM θ 146 #[.int .u64 u,.int .i64 10] w λe w'=>e=.returned (.string ⟨(gL u).toArray⟩)/\∃k os,w'=Kj (w.drewN k) os:=by
 have mixed:=mixed;by_cases t:u<100
 ·have m:=Any.internal_strconv_small ank u t
  go_enter func146,ntmps146
  go_wp2_with (go_at_call 149;refine(m _).mono ?_;rintro e w' ⟨rfl,rfl⟩)
  go_ret
  exact⟨rfl,0,#[],by simp[World.drewN_zero]⟩
 ·have g:1<=u:=by omega
  have a:u<18446744073709551616:=by omega
  have n:x_ u<=20:=by have:=Lib.numDigits_eq u g a;split at this<;>omega
  have i:θ.arrayLen 162=24:=by kernel_rfl
  have s:∀W,(Instr.sliceAt 162 (.pointer (γ ⟨w.heap.size,0,ζ⟩)) ζ (γ (ι (x_ u:Z))) ζ).run θ W=.ok (.slice (γ ⟨w.heap.size,0,ζ⟩) (x_ u) 24) W:=λW=>by rw[run_sliceAt_array_h W 162 ⟨w.heap.size,0,ζ⟩ (by kernel_rfl) .i64 (x_ u:Z) (by omega) (by rw[i];omega)];go_simp
  have d:=alE w 162 (x_ u) (by omega);have c:=Any.internal_strconv_formatBase10 am5 w.heap.size 0 24 u (tx (x_ u) 0) (w.alloc (.cells Fk 162)) d (by rw[RN];exact Lib.lt_pow_nDigits u) a (by rw[RN];omega);rw[RN]at c;have o:=λW h=>Any.internal_strconv_numDigits anh u g a W h
  have p:=Lib.hid d;clear d i
  go_enter func146,ntmps146
  go_wp2_with (go_at_call 150;refine(o _ (Lib.tabIs_alloc f _)).mono ?_;rintro e w' ⟨rfl,rfl⟩)
  go_at_call 151
  refine c.mono ?_;rintro e w' ⟨rfl,k,z,l,rfl,q⟩;have v:(convert 22 9 (.slice (γ ⟨w.heap.size,0,ζ⟩) (x_ u) 24)).run θ ((putRow (λ(b:υ)=>jc .u8 (b.toNat:Z)) (w.alloc (.cells Fk 162)) w.heap.size 0 l).drewN k)=.ok (.string ⟨(gL u).toArray⟩) ((putRow (λ(b:υ)=>jc .u8 (b.toNat:Z)) (w.alloc (.cells Fk 162)) w.heap.size 0 l).drewN k):=by
   have h:=run_convert_bytes_back (P:=θ) ((putRow (λ(b:υ)=>jc .u8 (b.toNat:Z)) (w.alloc (.cells Fk 162)) w.heap.size 0 l).drewN k) 22 9 5 ⟨w.heap.size,0,ζ⟩ 24 (gL u) (by kernel_rfl) (by kernel_rfl) (by kernel_rfl) (λj r=>by rw[Lib.row_is_numeral q j r,Lib.add_plain,World.cell?_drewN];exact cell?_putRow (λ(b:υ)=>jc .u8 (b.toNat:Z)) _ w.heap.size 0 _ l p.out (by rw[q.size,RN]) j (by rw[q.size];rw[JY]at r;exact r))
   rw[JY]at h;exact h
  go_wp2
  go_ret
  obtain⟨os,x⟩:=aj7 w (.cells Fk 162) l k;exact⟨rfl,k,os,x⟩
def agr(u:O)(a:u<4294967296)(w:ψ)(b:a4 (au w) w):aM θ 80 #[.int .u64 u,.int .i64 10] w λe w'=>e=.returned (.string ⟨(gL u).toArray⟩)/\Fr (λ_=>False) w w':=by
 have mixed:=mixed;have h:=agu u a w (ab5 b)
 go_enter func80,ntmps80
 go_wp2_with (go_at_call 146;refine h.mono ?_;rintro e w' ⟨rfl,k,c,rfl⟩)
 go_ret
 exact⟨rfl,Wi w k c⟩
def Gy:E AV->χ (E Z)
 |[]=>γ []
 | .v (.int .i64 n)::l=>(Gy l).map (n::·)
 |_=>ζ
def QR(b:E Z->ρ)(c:E Z->ξ):Spec:=λa H _=>match a with
 |[.sl i 1 0 0 n _]=>(match H.getD i .gone with
  | .cells d _=>(match Gy d with
   |some l=>cond (Ψ n l.length) (γ {val:=.v (.string (b l)),rd:=[i],aw:=[c l,Δ n 16,ω 0 n]}) ζ
   |none=>ζ)
  |_=>ζ)
 |_=>ζ
def uC(l:E Z):ξ:=l.all λn=>κ (-9223372036854775808<=n)&&κ (n<=9223372036854775807)
def U3{ν:Nu}:∀{cs:E AV}{l:E Z}{vs:E τ},Gy cs=γ l->aB ν cs vs->vs=l.map ι
 |[],l,vs,h,a=>by
  cases h;cases vs with
  |nil=>rfl
  |cons=>exact a.elim
 |c::cs,l,vs,h,a=>by
  unfold Gy at h;split at h
  ·rename_i b
   cases b
  ·rename_i n d b
   cases b;obtain⟨i,e,rfl⟩:=dL.1 h;cases vs with
   |nil=>exact a.elim
   |cons v vs=>obtain⟨f,g⟩:=a;rw[U3 e g,xO f];rfl
  ·cases h
def aqL:ak θ 71 (QR ij uC):=by
 refine⟨λargs w=>enters 71 f71 Tryz.func71 rfl args w,λS H g δ M m w a N s y T A P o=>?_⟩;unfold QR at a;split at a
 case h_2=>cases a
 rename_i i n c;split at a
 case h_2=>cases a
 rename_i cs t U;split at a
 case h_2=>cases a
 rename_i l W;cases B:Ψ n l.length with
 |false=>rw[B]at a;cases a
 |true=>
 rw[B,a6]at a;cases a;have X:=cA B;simp only[Ω,ax,aj,bl,bM]at N;obtain⟨h1,h2,h0⟩:=N
 match m,s with
 |[x],s=>
  simp only[aB,VR,aj]at s;obtain⟨p,c',rfl,_,h4,h5⟩:=s;have d:=y i (nq.2 rfl);rw[U]at d;obtain⟨b,vs,g1,g2,Q,g4⟩:=d;have C:=U3 W g4;have D:∀q,Fr (au w) w q->∃v G,Ending.returned (.string (ij l))=.returned v/\ey M G g {val:=.v (.string (ij l)),rd:=[i],put:=[],new:=[],aw:=[uC l,Δ n 16,ω 0 n]} w q v:=λq f=>⟨_,M,rfl,Le.refl _,λi h h'=>aR h h',by simp only[VR],by intro i b d;simp[eW]at d,by intro j b d;simp at d,f.os,f.tape,f.output,f.size,λk u _=>f.block k u (gi.2 u),by intro j b r;simp at r,by intro j j' b b' _ r;simp at r⟩
  have I:a4 (au w) w:=o.mono λk _ u=>.inl u
  have L:∀z∈l,-9223372036854775808<=z/\z<=9223372036854775807:=λz hz=>by have:=bT.1 h1 z hz;rw[aP,aL,aL]at this;exact this
  obtain⟨b',R,rfl⟩:=h5 (by omega);rw[g1]at R;cases R;have:=Gv l b.n (b.o+(0*1+0)) c' w I (by omega) (by omega) (cC.1 Q).1 L λj r=>by rw[oL Q,C,g2];simp[r]
  rw[<-X]at this;refine this.mono ?_;rintro e q ⟨rfl,hf⟩;exact D q hf
noncomputable def q9:O->bc->bc
 |0,c=>c
 |n+1,c=>q9 n (sN c)
noncomputable def i_:O->bc->E bc
 |0,_=>[]
 |n+1,c=>p9 c::i_ n (sN c)
noncomputable def eu(n:O)(c:bc):aX a_:=Yq (p9 (q9 n c))
noncomputable def iz(n k:O)(c:bc):a_:=(eu n c).toList.getD k default
def CN(a:Z->ρ->ξ)(b:ρ->O->Z):aG:=ext (ext g0 64 (ai [.val,.val] (BN a b))) 70 (aW Lg)
def wB(a:Z->ρ->ξ)(b:ρ->O->Z)(c:(O->O->Z)->Z->O->O->Z)(d:(O->O->Z)->Z->O->ξ)(e:E Z->ρ)(f:E Z->ξ):aG:=ext (ext (CN a b) 74 (ai dl (qB c d))) 71 (QR e f)
def mh(a:Z->ρ->ξ)(b:ρ->O->Z)(c:(O->O->Z)->Z->O->O->Z)(d:(O->O->Z)->Z->O->ξ)(e:E Z->ρ)(R M:(O->Z)->O)(f:(O->Z)->ξ)(g h:O->O->Z->Z)(gk:O->O->Z->ξ):aG:=ext (ext (ext (ext (CN a b) 74 (ai dl (qB c d))) 75 (ai [.val] (vS R M f))) 76 (aW (yA g h gk))) 71 (ai [.rd 1 3] (F9 e))
def mY(a:Z->ρ->ξ)(b:ρ->O->Z)(c:E Z->ρ)(d:(O->O->Z)->O->Z->ξ)(rt:(O->O->Z)->O->Z->E Cy)(e:(O->O->Z)->O->O->Z)(f:(O->O->Z)->O->ξ):aG:=ext (ext (ext (CN a b) 77 (Jo dl (LO d rt))) 78 (ai nR (yw e f))) 71 (ai [.rd 1 3] (F9 c))
def K8(a:Z->ρ):E τ->χ (τ×E ξ)
 |[.int .u64 n,.int .i64 b]=>γ (.string (a n),[κ (0<=n),κ (n<4294967296),κ (b=10)])
 |_=>ζ
def wD(a:Z->ρ->ξ)(b:ρ->O->Z)(c:E Wh->Z)(d:E Wh->ξ)(e:Z->ρ):aG:=ext (ext (CN a b) 79 (ai bF (yy c d))) 80 (aW (K8 e))
noncomputable abbrev G3:cb:=f40
noncomputable def oY:bc:=G3.body.getD .skip
def av7(d:Z->ρ->ξ)(e:ρ->O->Z)(a:(O->O->Z)->Z->O->O->Z)(g:(O->O->Z)->Z->O->ξ)(h:E Z->ρ)(i:E Z->ξ)(s:ρ)(n j:O)(f:Θ):let b:=(ο λq=>J f (0+q));let c:=(e s 0);let k:=[a b c n 0,a b c n 1,a b c n 2,a b c n 3,a b c n 4,a b c n 5,a b c n 6,a b c n 7];ad θ (wB d e a g h i) K 100 G3 [.ptr 0 1 0 0,.v (.string s)] (dS n j f) (ag 2)
 =Ξ [d (1:Z) s,ω (ay s) 4294967281,Δ (0+n) n,aF n λq=>J f (0+q),κ (n<=274877906944),g b c n,i k] (rO [AV.v (.string (h k))] [AB.cells [AV.sl 1 9 0 0 n (γ j)] 34,AB.row η n 9 (J f) 123]):=by intros;kernel_rfl
def av8(a:Z->ρ->ξ)(b:ρ->O->Z)(d:(O->O->Z)->Z->O->O->Z)(c:(O->O->Z)->Z->O->ξ)(e:E Z->ρ)(g:E Z->ξ)(s:ρ)(n h:O)(f:Θ):fq θ (wB a b d c e g) 100 (i_ 2 oY) ([.ptr 0 1 0 0,.v (.string s)]++eH 22 (.v aZ)) (dS n h f) (λ_ T H=>fE θ (wB a b d c e g) (λ_ _ _ _=>.err) (eu 2 oY).toList ((eu 2 oY).toList.take 1) T H λT' H'=>.out .normal ((#[.tmp 19]:aX cP).toList.map (bP T')) (H'.take 2))=Ξ [a (1:Z) s,ω (ay s) 4294967281,Δ (0+n) n,aF n λq=>J f (0+q),κ (n<=274877906944)] (am.out .normal [AV.v (.bool (c (ο λq=>J f (0+q)) (b s 0) n))] [AB.cells [AV.sl 1 9 0 0 n (γ h)] 34,AB.row η n 9 (J f) 123]):=by kernel_rfl
noncomputable abbrev zj:cb:=f41
noncomputable def eU:bc:=zj.body.getD .skip
def av3(g:Z->ρ->ξ)(c:ρ->O->Z)(h:(O->O->Z)->Z->O->O->Z)(i:(O->O->Z)->Z->O->ξ)(k:E Z->ρ)(R M:(O->Z)->O)(l:(O->Z)->ξ)(d e:O->O->Z->Z)(gk:O->O->Z->ξ)(s:ρ)(n m:O)(f:Θ):let o:=(ο λq=>J f (0+q));let b:=(c s 1);let a:=(w8 (h o (c s 0) n));ad θ (mh g c h i k R M l d e gk) K 100 zj [.ptr 0 1 0 0,.v (.string s)] (dS n m f) (ag 2)
 =Ξ [g (2:Z) s,ω (ay s) 4294967281,Δ (0+n) n,aF n λq=>J f (0+q),κ (n<=274877906944),i o (c s 0) n,l a,gk (R a) (M a) b,List.all (dK 2) λj=>zG [ι (bif Ψ j 0 then d (R a) (M a) b else e (R a) (M a) b)]] (rO [AV.v (.string (k (sJ (λx=>[ι (bif Ψ x 0 then d (R a) (M a) b else e (R a) (M a) b)]) 2)))] [AB.cells [AV.sl 1 9 0 0 n (γ m)] 34,AB.row η n 9 (J f) 123]):=by intros;kernel_rfl
def av4(a:Z->ρ->ξ)(b:ρ->O->Z)(c:(O->O->Z)->Z->O->O->Z)(d:(O->O->Z)->Z->O->ξ)(e:E Z->ρ)(R M:(O->Z)->O)(g:(O->Z)->ξ)(h i:O->O->Z->Z)(gk:O->O->Z->ξ)(s:ρ)(n j:O)(f:Θ):fq θ (mh a b c d e R M g h i gk) 100 (i_ 1 eU) ([.ptr 0 1 0 0,.v (.string s)]++eH 48 (.v aZ)) (dS n j f) (λ_ T H=>fE θ (mh a b c d e R M g h i gk) (λ_ _ _ _=>.err) (eu 1 eU).toList ((eu 1 eU).toList.take 1) T H λT' H'=>.out .normal ((#[.tmp 12,.const (ι 2)]:aX cP).toList.map (bP T')) (H'.take 2))=am.out .normal [AV.v (.string s),vI 2] [AB.cells [AV.sl 1 9 0 0 n (γ j)] 34,AB.row η n 9 (J f) 123]:=by kernel_rfl
def av5(a:Z->ρ->ξ)(b:ρ->O->Z)(d:(O->O->Z)->Z->O->O->Z)(c:(O->O->Z)->Z->O->ξ)(e:E Z->ρ)(R M:(O->Z)->O)(g:(O->Z)->ξ)(h i:O->O->Z->Z)(gk:O->O->Z->ξ)(s:ρ)(n j:O)(f:Θ):fq θ (mh a b d c e R M g h i gk) 100 (i_ 3 eU) ([.ptr 0 1 0 0,.v (.string s)]++eH 48 (.v aZ)) (dS n j f) (λ_ T H=>fE θ (mh a b d c e R M g h i gk) (λ_ _ _ _=>.err) (eu 3 eU).toList ((eu 3 eU).toList.take 1) T H λT' H'=>.out .normal ((#[.tmp 25]:aX cP).toList.map (bP T')) (H'.take 2))=Ξ [a (2:Z) s,ω (ay s) 4294967281,Δ (0+n) n,aF n λq=>J f (0+q),κ (n<=274877906944)] (am.out .normal [AV.v (.bool (c (ο λq=>J f (0+q)) (b s 0) n))] [AB.cells [AV.sl 1 9 0 0 n (γ j)] 34,AB.row η n 9 (J f) 123]):=by kernel_rfl
def av6(b:Z->ρ->ξ)(a:ρ->O->Z)(c:(O->O->Z)->Z->O->O->Z)(d:(O->O->Z)->Z->O->ξ)(h:E Z->ρ)(R M:(O->Z)->O)(e:(O->Z)->ξ)(i j:O->O->Z->Z)(gk:O->O->Z->ξ)(s:ρ)(n k:O)(f:Θ):let l:=(ο λq=>J f (0+q));let g:=(w8 (c l (a s 0) n));fq θ (mh b a c d h R M e i j gk) 100 (i_ 7 eU) ([.ptr 0 1 0 0,.v (.string s)]++eH 48 (.v aZ)) (dS n k f) (λ_ T H=>fE θ (mh b a c d h R M e i j gk) (λ_ _ _ _=>.err) (eu 7 eU).toList ((eu 7 eU).toList.take 1) T H λm o=>.out .normal ((#[.tmp 42]:aX cP).toList.map (bP m)) (o.take 2))
 =Ξ [b (2:Z) s,ω (ay s) 4294967281,Δ (0+n) n,aF n λq=>J f (0+q),κ (n<=274877906944),d l (a s 0) n,e g] (am.out .normal [AV.v (.bool (gk (R g) (M g) (a s 1)))] [AB.cells [AV.sl 1 9 0 0 n (γ k)] 34,AB.row η n 9 (J f) 123]):=by intros;kernel_rfl
noncomputable abbrev ze:cb:=f42
noncomputable def eS:bc:=ze.body.getD .skip
def avX(g:Z->ρ->ξ)(e:ρ->O->Z)(h:E Z->ρ)(i:(O->O->Z)->O->Z->ξ)(rt:(O->O->Z)->O->Z->E Cy)(b:(O->O->Z)->O->O->Z)(k:(O->O->Z)->O->ξ)(s:ρ)(n l:O)(f:Θ):let m:=(ο λq=>J f (0+q));let d:=(rt m n (e s 0));let c:=(bi λq=>cO (ks d) (0+q));let a:=(ce d);ad θ (mY g e h i rt b k) K 100 ze [.ptr 0 1 0 0,.v (.string s)] (dS n l f) (ag 2)
 =Ξ [g (1:Z) s,ω (ay s) 4294967281,Δ (0+n) n,aF n λq=>J f (0+q),κ (n<=274877906944),i m n (e s 0),Δ (0+ce d) a,ip a λq=>cO (ks d) (0+q),κ (ce d<=274877906944),k c a,List.all (dK 4) λj=>zG [ι (bif Ψ j 0 then b c a 0 else bif Ψ j 1 then b c a 1 else bif Ψ j 2 then b c a 2 else b c a 3)]] (rO [AV.v (.string (h (sJ (λx=>[ι (bif Ψ x 0 then b c a 0 else bif Ψ x 1 then b c a 1 else bif Ψ x 2 then b c a 2 else b c a 3)]) 4)))] [AB.cells [AV.sl 1 9 0 0 n (γ l)] 34,AB.row η n 9 (J f) 123]):=by intros;kernel_rfl
def abX(s:ρ):E AV:=(([.ptr 0 1 0 0,.v (.string s)]:E AV)++eH 38 (AV.v aZ)).set 4 Cp
def avY(c:Z->ρ->ξ)(d:ρ->O->Z)(e:E Z->ρ)(g:(O->O->Z)->O->Z->ξ)(rt:(O->O->Z)->O->Z->E Cy)(h:(O->O->Z)->O->O->Z)(i:(O->O->Z)->O->ξ)(s:ρ)(n b:O)(f:Θ):let a:=AV.v aZ;a0 θ (mY c d e g rt h i) 100 K (p9 eS) ([.ptr 0 1 0 0,.v (.string s)]++eH 38 (.v aZ)) (dS n b f) p_
 =am.out .normal [AV.ptr 0 1 0 0,AV.v (.string s),a,a,AV.v (.string (ah (ap []))),a,a,a,a,a,a,a,a,a,a,a,a,a,a,a,a,a,a,a,a,a,a,a,a,a,a,a,a,a,a,a,a,a,a,a] (dS n b f):=by intros;kernel_rfl
def avZ(b:Z->ρ->ξ)(c:ρ->O->Z)(d:E Z->ρ)(e:(O->O->Z)->O->Z->ξ)(rt:(O->O->Z)->O->Z->E Cy)(g:(O->O->Z)->O->O->Z)(h:(O->O->Z)->O->ξ)(s:ρ)(n a:O)(f:Θ):(ku θ (mY b c d e rt g h) (eu 1 eS).toList ((eu 1 eS).toList.take 5) (abX s) (dS n a f) [] λT' H' tr=>cond (jS (eu 1 eS).toList tr.reverse&&(wg 5 (eu 1 eS).toList&&I7 [0,1] tr.reverse)) (.out .normal T' H') .err)=am.out .normal [AV.ptr 0 1 0 0,AV.v (.string s),AV.v aZ,AV.v aZ,Cp,AV.v aZ,AV.v aZ,AV.v aZ,AV.v aZ,AV.v aZ,AV.ptr 0 1 0 0,AV.ptr 0 1 0 0,AV.ptr 0 1 0 0,AV.sl 1 9 0 0 n (γ a),AV.v (.string s),AV.v aZ,AV.v aZ,AV.v aZ,AV.v aZ,AV.v aZ,AV.v aZ,AV.v aZ,AV.v aZ,AV.v aZ,AV.v aZ,AV.v aZ,AV.v aZ,AV.v aZ,AV.v aZ,AV.v aZ,AV.v aZ,AV.v aZ,AV.v aZ,AV.v aZ,AV.v aZ,AV.v aZ,AV.v aZ,AV.v aZ,AV.v aZ,AV.v aZ] (dS n a f):=by kernel_rfl
def av0(a:Z->ρ->ξ)(b:ρ->O->Z)(d:E Z->ρ)(c:(O->O->Z)->O->Z->ξ)(rt:(O->O->Z)->O->Z->E Cy)(e:(O->O->Z)->O->O->Z)(g:(O->O->Z)->O->ξ)(s:ρ)(n h:O)(f:Θ):fq θ (mY a b d c rt e g) 100 (i_ 2 eS) ([.ptr 0 1 0 0,.v (.string s)]++eH 38 (.v aZ)) (dS n h f) (λ_ T H=>fE θ (mY a b d c rt e g) (λ_ _ _ _=>.err) (eu 2 eS).toList ((eu 2 eS).toList.take 1) T H λT' H'=>.out .normal ((#[.tmp 21]:aX cP).toList.map (bP T')) (H'.take 2))=Ξ [a (1:Z) s,ω (ay s) 4294967281,Δ (0+n) n,aF n λq=>J f (0+q),κ (n<=274877906944)] (am.out .normal [AV.v (.bool (c (ο λq=>J f (0+q)) n (b s 0)))] [AB.cells [AV.sl 1 9 0 0 n (γ h)] 34,AB.row η n 9 (J f) 123]):=by kernel_rfl
def av1(c:Z->ρ->ξ)(b:ρ->O->Z)(h:E Z->ρ)(d:(O->O->Z)->O->Z->ξ)(rt:(O->O->Z)->O->Z->E Cy)(i:(O->O->Z)->O->O->Z)(e:(O->O->Z)->O->ξ)(s:ρ)(n j:O)(f:Θ):let k:=(ο λq=>J f (0+q));let a:=(rt k n (b s 0));let g:=(ce a);fq θ (mY c b h d rt i e) 100 (i_ 4 eS) ([.ptr 0 1 0 0,.v (.string s)]++eH 38 (.v aZ)) (dS n j f) (λ_ T H=>fE θ (mY c b h d rt i e) (λ_ _ _ _=>.err) (eu 4 eS).toList ((eu 4 eS).toList.take 1) T H λl m=>.out .normal ((#[.tmp 28]:aX cP).toList.map (bP l)) (m.take 2))
 =Ξ [c (1:Z) s,ω (ay s) 4294967281,Δ (0+n) n,aF n λq=>J f (0+q),κ (n<=274877906944),d k n (b s 0),Δ (0+ce a) g,ip g λq=>cO (ks a) (0+q),κ (ce a<=274877906944)] (am.out .normal [AV.v (.bool (e (bi λq=>cO (ks a) (0+q)) g))] [AB.cells [AV.sl 1 9 0 0 n (γ j)] 34,AB.row η n 9 (J f) 123]):=by intros;kernel_rfl
noncomputable abbrev G7:cb:=f43
noncomputable def oZ:bc:=G7.body.getD .skip
def awc(g:Z->ρ->ξ)(h:ρ->O->Z)(a:E Wh->Z)(c:E Wh->ξ)(d:Z->ρ)(s:ρ)(n e:O)(f:Θ):let b:=(V (ο λq=>J f (0+q)) n);ad θ (wD g h a c d) K 100 G7 [.ptr 0 1 0 0,.v (.string s)] (dS n e f) (ag 2)
 =Ξ [Δ (0+n) n,aF n λq=>J f (0+q),κ (n<=274877906944),c b,κ ((0:Z)<=aa .u64 (a b)),κ (aa .u64 (a b)<(4294967296:Z))] (rO [AV.v (.string (d (aa .u64 (a b))))] [AB.cells [AV.sl 1 9 0 0 n (γ e)] 34,AB.row η n 9 (J f) 123]):=by intros;kernel_rfl
def awd(b:Z->ρ->ξ)(c:ρ->O->Z)(d:E Wh->Z)(a:E Wh->ξ)(e:Z->ρ)(s:ρ)(n g:O)(f:Θ):fq θ (wD b c d a e) 100 (i_ 2 oZ) ([.ptr 0 1 0 0,.v (.string s)]++eH 18 (.v aZ)) (dS n g f) (λ_ T H=>fE θ (wD b c d a e) (λ_ _ _ _=>.err) (eu 2 oZ).toList ((eu 2 oZ).toList.take 1) T H λT' H'=>.out .normal ((#[.tmp 15]:aX cP).toList.map (bP T')) (H'.take 2))=Ξ [Δ (0+n) n,aF n λq=>J f (0+q),κ (n<=274877906944)] (am.out .normal [AV.v (.bool (a (V (ο λq=>J f (0+q)) n)))] [AB.cells [AV.sl 1 9 0 0 n (γ g)] 34,AB.row η n 9 (J f) 123]):=by kernel_rfl
section
section
variable {P:Program} {ops:aX a_} {Q:Exit->a8->ψ->Prop} {md:FE} {S:ψ->Prop}
def ll(P:Program)(md:FE)(ops:aX a_)(Q:Exit->a8->ψ->Prop)(d:E O)(S:ψ->Prop):O->aX ξ->a8->ψ->Prop
 |0,c,a,w=>mI md ops c=[]/\Q .normal a w
 |f+1,c,a,w=>(mI md ops c=[]->Q .normal a w)/\∀i∈mI md ops c,wpOp P ops Q i (λg e=>(d.elem i=ε->S e)/\ll P md ops Q d S f (c.setIfInBounds i ε) g e) a w
def ac1{d:E O}:∀(f:O)(c:aX ξ)(a:a8)(w:ψ),ll P md ops Q d S f c a w->wpAny P md ops Q f c a w
 |0,_,_,_,h=>h
 |f+1,_,_,_,h=>⟨h.1,λi e=>wpOp_mono (λg j k=>ac1 f _ g j k.2) (h.2 i e)⟩
def acO(md:FE)(ops:aX a_)(i:O)(B:E O):ξ:=B.all λj=>match ops[j]?with
 |some o=>o.after.toList.any λe=>mH md e&&(Ψ e.on i||B.elem e.on)
 |none=>η
def acZ{n B:E O}{S2:ψ->Prop}{i:O}{A:a_}{v:τ}(hi:ops[i]?=γ A)(s:∀(j:O)(o:a_) cs b,ops[j]?=γ o->o.op≠ .select cs b)(hQ:∀c a w,Q (.panic c) (a.put A.dst v) w->Q (.panic c) a w)(D:n.elem i=η)(hB:acO md ops i B=ε):∀(fuel:O)(d:aX ξ)(a:a8)(w:ψ),(∀j x,ops[j]?=γ x->j≠i->d.getD j ε=η->(∀e∈x.after,mH md e=ε->e.on≠i)->A.apart ops x=ε)->(∀j∈B,d.getD j η=η)->(∀w' j,j∉B->j≠i->d.getD j ε=η->(n.elem j=ε->S w')->S2 w')->i∈mI md ops d->YieldsIf P ops S2 A v a->S2 w->ll P md ops Q n S fuel (d.setIfInBounds i ε) (a.put A.dst v) w->ll P md ops Q n S (fuel+1) d a w:=by
 intro fuel;induction fuel with
 |zero=>
  intro d a w _ _ _ y U hS H;refine⟨λh=>(by rw[h]at y;cases y),λj X=>?_⟩;by_cases f:j=i
  ·subst f
   exact U.wpOp hi hS ⟨λh=>(by rw[D]at h;cases h),H⟩
  ·have:=ready_mono X f
   rw[H.1]at this;cases this
 |succ fuel ih=>
  intro d a w q G L y U hS H;refine⟨λh=>(by rw[h]at y;cases y),λj X=>?_⟩;by_cases f:j=i
  ·subst f
   exact U.wpOp hi hS ⟨λh=>(by rw[D]at h;cases h),H⟩
  ·have h1:=H.2 j (ready_mono X f)
   obtain⟨p,x,r,t⟩:=vG.1 X;have M:d.getD i η=η:=by
    have h0:=(vG.1 y).1;rcases om i d.size with h'|h'
    ·simp[h']at h0⊢;exact h0
    ·simp[JL h']at h0⊢
   have N:∀e∈x.after,mH md e=ε->e.on≠i:=λe he hb heq=>by have h1:=t e he hb;rw[heq,M]at h1;cases h1
   have R:j∉B:=λhm=>by
    have h2:=bT.1 hB j hm;rw[r]at h2;obtain⟨e,he,u⟩:=List.any_eq_true.1 h2;rw[aP,po]at u;have h4:=t e (by simpa using he) u.1;rcases u.2 with h5|h5
    ·rw[cA h5,M]at h4
     cases h4
    ·rw[G e.on (by simpa using h5)]at h4
     cases h4
   have h2:=wpOp_putIf r (q j x r f p N) (λcs b=>s i A cs b hi) (λcs b=>s j x cs b r) hQ U h1;refine wpOp_mono (λa' w' u=>⟨u.2.1,ih (d.setIfInBounds j ε) a' w' (λk ok C z g T=>q k ok C z ?_ T) (λk C=>?_) (λw'' k C z g hh=>L w'' k C z ?_ hh) (ready_mono y (Ne.symm f)) u.1 (L w' j R f p u.2.1) ?_⟩) h2
   ·by_cases l:j=k
    ·subst l;exact p
    ·rw[ym ε l]at g;exact g
   ·by_cases l:j=k
    ·subst l;exact aR C R
    ·rw[ym η l];exact G k C
   ·by_cases l:j=k
    ·subst l;exact p
    ·rw[ym ε l]at g;exact g
   ·rw[Array.setIfInBounds_comm _ _ f]
    exact u.2.2
def ayK{e:E O}{i:O}{f:a_}{v:τ}{fuel:O}{d:aX ξ}{a:a8}{w:ψ}(k:ops[i]?=γ f)(hs:ael ops=ε)(g:(aek md ops d i&&(mI md ops d).contains i&& !e.elem i)=ε)(l:∀c a w,Q (.panic c) (a.put f.dst v) w->Q (.panic c) a w)(n:Yields P ops f v a)(h:ll P md ops Q e S fuel (d.setIfInBounds i ε) (a.put f.dst v) w):ll P md ops Q e S (fuel+1) d a w:=by simp only[aP,g8]at g;exact acZ (B:=[]) (S2:=λ_=>True) k (azu hs) l g.2 rfl fuel d a w (azt k g.1.1) (λj o=>by cases o) (λ_ _ _ _ _ _=>trivial) (by simpa using g.1.2) n.yieldsIf trivial h
def cp{e:E O}(i:O)(v:τ){f:a_}{fuel:O}{d:aX ξ}{a:a8}{w:ψ}(h:ll P md ops Q e S fuel (d.setIfInBounds i ε) (a.put f.dst v) w)(g:ops[i]?=γ f:=by rfl)(hs:ael ops=ε:=by kernel_rfl)(j:(aek md ops d i&&(mI md ops d).contains i&& !e.elem i)=ε:=by kernel_rfl)(k:∀c a w,Q (.panic c) (a.put f.dst v) w->Q (.panic c) a w:=by exact λ_ _ _ h=>h)(l:Yields P ops f v a:=by first|exact .inl ⟨by rfl,λ_=>rfl⟩|exact .inl ⟨by rfl,λ_=>by simp[go_sem,dw]⟩):ll P md ops Q e S (fuel+1) d a w:=
 ayK g hs j k l h
def arQ(ops:aX a_)(c B:E O)(i:O)(a:aX ξ):ξ:=(dK ops.size).all λj=>B.elem j||(Ψ j i||(a.getD j ε||c.elem j))
def qm{e:E O}(B:E O){i:O}{k:a_}{v:τ}{fuel:O}{d:aX ξ}{a:a8}{w:ψ}(r:ops[i]?=γ k)(z:d.size=ops.size)(hs:ael ops=ε)(l:(aek md ops d i&&(mI md ops d).contains i&& !e.elem i)=ε)(n:(acO md ops i B&&arQ ops e B i d&&B.all λj=> !d.getD j η)=ε)(t:∀c a w,Q (.panic c) (a.put k.dst v) w->Q (.panic c) a w)(u:YieldsIf P ops S k v a)(x:S w)(h:ll P md ops Q e S fuel (d.setIfInBounds i ε) (a.put k.dst v) w):ll P md ops Q e S (fuel+1) d a w:=by
 simp only[aP,g8]at l n;refine acZ (B:=B) (S2:=S) r (azu hs) t l.2 n.1.1 fuel d a w (azt r l.1.1) (λj o=>?_) (λC j p q g y=>?_) (by simpa using l.1.2) u x h
 ·have:=bT.1 n.2 j o
  simpa using this
 ·have o:j<ops.size:=by
   rcases om j d.size with s|s
   ·omega
   ·simp[JL s]at g
  have:=bT.1 n.1.2 j (np.2 o);simp only[po]at this;rcases this with f|f|f|f
  ·exact aR (by simpa using f) p
  ·exact aR (cA f) q
  ·rw[g]at f;cases f
  ·exact y f
def gD{d:E O}{f k:O}{o:a_}{c:aX ξ}{a:a8}{w:ψ}(n:mI md ops c=[k])(q:ops[k]?=γ o)(r:Region.wanted o (yielded ops a.tmps)=ε)(h:∀e:a8->ψ->Prop,Shut (∀g w',(d.elem k=ε->S w')->ll P md ops Q d S f (c.setIfInBounds k ε) g w'->e g w')->Oper.wp P o a w e Q):ll P md ops Q d S (f+1) c a w:=by
 refine⟨λj=>(by rw[n]at j;cases j),λi p=>?_⟩;rw[n]at p;have l:i=k:=by simpa using p
 subst l;refine wpOp_step q λe s=>?_
 rw[aU r];exact h e λg w' j t=>s g w' ⟨j,t⟩
def BX{d:E O}{f:O}{c:aX ξ}{a:a8}{w:ψ}(e:mI md ops c=[])(h:Q .normal a w):ll P md ops Q d S f c a w:=by
 cases f with
 |zero=>exact⟨e,h⟩
 |succ f=>exact⟨λ_=>h,λi g=>by rw[e]at g;cases g⟩
def qn{id:O}(c:E O)(S:ψ->Prop){a:a8}{w:ψ}(d:P.follows .mixedOrders=ε)(h:ll P .any ops Q c S ops.size (tx ops.size η) a w.drew):(Code.region id ops ε).wp P Q a w:=
 TM d (ac1 _ _ _ _ h)
end
end
def HW(a:(O->Z)->ξ)(R M:(O->Z)->O)(b:(O->Z)->ξ):aG:=ext (ext g0 134 (aW (nF a))) 135 (aW (Hh R M b))
def axB(b:(O->Z)->ξ)(R M:(O->Z)->O)(c:(O->Z)->ξ)(a:ao):ad θ (HW b R M c) K 100 f75 [.v (dA a)] [] (ag 0)=bif !b (w8 a)then rO [AV.af [AV.v (Value.complex bR 0 0),vB η]] []else Ξ [c (w8 a)] (rO [AV.af [AV.v (Value.complex bR (R (w8 a)) (M (w8 a))),vB ε]] []):=by kernel_rfl
def alh:aK θ (HW (λv=>bt (bq v)) gw gv ge):=by unfold HW;rw[qP];exact az (az ba D6) Z3
def aqu:ak θ 75 (ai [.val] (vS gw gv ge)):=by
 refine ca alh func75 rfl λk l i m=>?_
 unfold vS at i;split at i
 ·rename_i a b c d e f g h
  cases i;refine⟨[],K,100,.nil,de _,?_⟩;show aE (ad θ (HW (λv=>bt (bq v)) gw gv ge) K 100 f75 [.v (dA (v8 a b c d e f g h))] [] (ag 0)) _
  rw[axB];refine aD (λq=>?_) λq=>?_
  ·have q:ge (v8 a b c d e f g h)=η:=by have j:(!ge (v8 a b c d e f g h))=ε:=q;simpa using j
   refine F ⟨_,rfl,?_,.nil⟩;rw[gw,gv,q];rfl
  ·have q:ge (v8 a b c d e f g h)=ε:=by have j:(!ge (v8 a b c d e f g h))=η:=q;simpa using j
   refine aq (by rw[Ω];exact⟨q,rfl⟩) (F ⟨_,rfl,?_,.nil⟩);rw[q];rfl
 ·cases i
abbrev rl(x:Z):Cy:=⟨x,0,0,0,0,0,0,0⟩
def ar3:∀k,k<8->(rl A).f k=if k=0 then A else 0:=lM rfl rfl rfl rfl rfl rfl rfl rfl
def aaT(h: -1000<=A/\A<=1000):fo 2000000000000 (rl A).f:=λk a=>by rw[ar3 k a];split<;>omega
def jC(f:dm)(S:E Wh->E υ->χ (E Wh×E υ)):Prop:=
 ∀{D:O}{L:E Wh}(s:ρ){w:ψ},dW D L w->a4 (cn w D) w->bK L->s.size<=1000->aM θ f #[.pointer (γ ⟨D,0,ζ⟩),.string s] w (dj D L (S L s.data.toList) w)
def Qg{a b d:Z}(h:fy a b q d=ε):bK (fG a b q d):=by
 have g:j_ a b q d=ε:=by unfold fy at h;rw[aP]at h;exact h.1
 obtain⟨j,k⟩:=xk g;rw[k]at h;rw[j];unfold j_ aH at g;simp only[aP,aL]at g;obtain⟨⟨m,n⟩,⟨o,p⟩,_,r,u⟩:=g;have f:∀x y s t:Z,(-1000<=x/\x<=1000)->(-1000<=y/\y<=1000)->mT 2000000000000 [⟨s,rl x⟩,⟨t,rl y⟩]:=λx y s t i l w e=>by
  rcases dE.1 e with rfl|e
  ·exact aaT i
  ·rcases dE.1 e with rfl|e
   ·exact aaT l
   ·cases e
 have e:∀x:Z,-1000<=x/\x<=1000->aa aY x=x:=λx i=>fj
 refine(AT ?_ h).1;unfold o_;cases q with
 |true=>rw[a6,e (a-b) (by omega)];exact f _ _ _ _ (by omega) (by omega)
 |false=>rw[be,e (a+b) (by omega),e (0-d) (by omega)];exact f _ _ _ _ (by omega) (by omega)
def ahe:jC 30 (na ε):=λ{D L} s {w} d f _ g=>by
 have mixed:=mixed;have a:=UY ε s d f (by omega) λ_ _ _ h=>Qg h
 clear d f g;cases h:na ε L s.data.toList with
 |none=>
  rw[h]at a;clear h
  go_enter func30,ntmps30
  go_wp2_with (go_at_call 62;refine a.mono ?_;rintro e i b;obtain⟨rfl,c⟩:=b.rp)
  exact⟨rfl,c⟩
 |some x=>
  rw[h]at a;clear h
  go_enter func30,ntmps30
  go_wp2_with (go_at_call 62;refine a.mono ?_;rintro e i b;obtain⟨rfl,c⟩:=b.qj)
  go_ret
  exact c
def ahh:jC 31 (na η):=λ{D L} s {w} d f _ g=>by
 have mixed:=mixed;have a:=UY η s d f (by omega) λ_ _ _ h=>Qg h
 clear d f g;cases h:na η L s.data.toList with
 |none=>
  rw[h]at a;clear h
  go_enter func31,ntmps31
  go_wp2_with (go_at_call 62;refine a.mono ?_;rintro e i b;obtain⟨rfl,c⟩:=b.rp)
  exact⟨rfl,c⟩
 |some x=>
  rw[h]at a;clear h
  go_enter func31,ntmps31
  go_wp2_with (go_at_call 62;refine a.mono ?_;rintro e i b;obtain⟨rfl,c⟩:=b.qj)
  go_ret
  exact c
def xu(L:E Wh)(_:E υ):χ (E Wh×E υ):=γ (L,(ef L).data.toList)
def dI(h:bK L):L.length<=12:=by have:=rH h;unfold aO at this;rw[aP,aL]at this;exact this.1
def agQ{v:τ}(b:bj X v L)(a:bK L)(c:a4 (au X) X):aM θ 69 #[v] X (gm X (.tuple #[.string (ef L),.bool ε])):=by have e:ai bF (tZ ef yI) [.sl 0 9 0 0 L.length ζ] [.row η L.length 9 (J (Y L)) 123] 1=γ {val:=.af [.v (.string (ef (eE L))),.v (.bool (yI (eE L)))],rd:=[0],aw:=Δ (0+L.length) L.length::(ml L++[])}:=rfl;rw[iy,vm a]at e;exact v_w apu [] b e rfl (m7 (dI a) _) rfl rfl c
def ahm:jC 37 xu:=λ{D L} s {w} b h d _=>by
 have mixed:=mixed;obtain⟨p,n,c,i,j⟩:=id b;have k:=agQ j d h.nw;have m:w.cell? ⟨D,0,ζ⟩=γ (.slice p n c):=by rw[hO w D 0 #[.slice p n c] _ (0,0) i];rfl
 have e:(⟨(ef L).data.toList.toArray⟩:ρ)=ef L:=qI rfl;have g:∀a,Fr (au w) w a->dj D L (xu L s.data.toList) w (.returned (.string (ef L))) a:=λa f=>e▸dj.Ay b d f
 clear h i j e d b
 go_enter func37,ntmps37
 go_wp2_with (first|(go_at_call 69;refine k.mono ?_;rintro e a ⟨rfl,l⟩)|(go_at_call 70;refine(uN _).mono ?_;rintro e o ⟨rfl,rfl⟩))
 go_ret
 exact g _ l
def xr(_:E Wh)(r:E υ):χ (E Wh×E υ):=bif dJ ⟨r.toArray⟩then γ (b6 ⟨r.toArray⟩,[111,107])else ζ
def ww(L:E Wh)(_:E υ):χ (E Wh×E υ):=γ (L,bg (jT L))
def xf(L:E Wh)(_:E υ):χ (E Wh×E υ):=γ (L,bg (j4 L))
def AR(s:ρ):bK (b6 s):=by
 unfold b6;cases dJ s with
 |true=>exact ve _
 |false=>exact zJ
def aat(b:∀a,a<i-> -2000<=h a/\h a<=2000):0<=iS h i/\iS h i<=2000:=Ai b i (aQ _)
def M8(h:bK L):0<=jT L/\jT L<=2000:=by rw[jT,vm h,a6,AQ h];exact aat λi a=>Ci h a
def PR(h:bK L):0<=j4 L/\j4 L<=2000:=by
 rw[j4,vm h,a6,AQ h];exact aat λi a=>by
  have:=xK h a;show-2000<=Y L i 0/\Y L i 0<=2000
  omega
def UW{v:E Wh->Z}(h:ak θ I (ai bF (oG v))){x:τ}(a:bj X x L)(b:bK L)(c:a4 (au X) X):aM θ I #[x] X (gm X (ι (v L))):=by have e:ai bF (oG v) [.sl 0 9 0 0 L.length ζ] [.row η L.length 9 (J (Y L)) 123] 1=γ {val:=.v (ι (v (eE L))),rd:=[0],aw:=Δ (0+L.length) L.length::(ml L++[])}:=rfl;rw[iy]at e;exact v_w h [] a e rfl (m7 (dI b) _) rfl rfl c
def acm(n:Z):fV [n]=bg n:=by simp[fV,iW,Lib.joinTail]
def UX(n:Z)(w:ψ)(b:a4 (au w) w)(h: -9223372036854775808<=n/\n<=9223372036854775807):aM θ 71 #[.slice (γ ⟨w.heap.size,0,ζ⟩) 1 1] (w.alloc (.cells #[ι n] 3)) (gm (w.alloc (.cells #[ι n] 3)) (.string ⟨(bg n).toArray⟩)):=by
 have f:Fr (au w) w (w.alloc (.cells #[ι n] 3)):=eZ (fJ w _ ζ) λk e=>by cases e
 have:=Gv [n] w.heap.size 0 1 _ (b.fw f) (by simp) (aQ _) (by simp) (λx c=>by rw[nq.1 c];exact h) (λj a=>by
  have a:j=0:=by simp at a;exact a
  subst a;unfold oA;simp only;rw[oz];rfl)
 rw[acm]at this;exact this
def ahl:jC 27 xr:=λ{D L} s {w} g i _ m=>by
 have mixed:=mixed;have c:=L7 s i.nw;have j:∀(a:ψ)(v:τ),Fr (au w) w a->bj a v (b6 s)->aM θ 58 #[.pointer (γ ⟨D,0,ζ⟩),v,.bool ε] a (dj D L (γ (b6 s,[111,107])) w):=λa v f h=>(uk (g.fr f) (T:=b6 s) (b:=ε) (λ_=>h) λ_=>AR s).mono λe p h=>h.after f
 have k:=λa (f:Fr (au w) w a)=>dj.die (L:=L) g f
 unfold xr;rw[show(ah s.data.toList.toArray)=s from qI rfl];clear g i m;cases d:dJ s with
 |false=>
  rw[d]at c;clear d j
  go_enter func27,ntmps27
  go_wp2_with (go_at_call 59;refine c.mono ?_;rintro e a ⟨rfl,l⟩)
  exact⟨rfl,k _ l⟩
 |true=>
  rw[d]at c;clear d k
  go_enter func27,ntmps27
  go_wp2_with (first|(go_at_call 59;refine c.mono ?_;rintro e a ⟨⟨v,rfl,q⟩,l⟩)|(go_at_call 58;refine(j _ _ ‹_› ‹_›).mono ?_;rintro e r n;obtain⟨rfl,o⟩:=n.qj))
  go_ret
  exact o
def ahb:jC 38 ww:=λ{D L} s {w} g h b _=>by
 have mixed:=mixed;obtain⟨p,n,c,j,l⟩:=id g;have m:=UW apz l b h.nw;have v:w.cell? ⟨D,0,ζ⟩=γ (.slice p n c):=by rw[hO w D 0 #[.slice p n c] _ (0,0) j];rfl
 have o:=M8 b;have q:=λ(a:ψ)(f:Fr (au w) w a)=>UX (jT L) a (h.nw.fw f) (by omega)
 have i:∀a d,Fr (au w) w a->Fr (au (a.alloc (.cells #[ι (jT L)] 3))) (a.alloc (.cells #[ι (jT L)] 3)) d->dj D L (ww L s.data.toList) w (.returned (.string ⟨(bg (jT L)).toArray⟩)) d:=λa d f r=>dj.Ay g b (dr (dr f (eZ (fJ a _ ζ) λk e=>by cases e)) r)
 clear h j l b g o;generalize jT L=x at*
 go_enter func38,ntmps38
 go_wp2_with (first|(go_at_call 72;refine m.mono ?_;rintro e a ⟨rfl,t⟩)|(go_at_call 71;refine(q _ ‹_›).mono ?_;rintro e d ⟨rfl,u⟩))
 go_ret
 exact i _ _ t u
def ahi:jC 39 xf:=λ{D L} s {w} g h b _=>by
 have mixed:=mixed;obtain⟨p,n,c,j,l⟩:=id g;have m:=UW ap' l b h.nw;have v:w.cell? ⟨D,0,ζ⟩=γ (.slice p n c):=by rw[hO w D 0 #[.slice p n c] _ (0,0) j];rfl
 have o:=PR b;have q:=λ(a:ψ)(f:Fr (au w) w a)=>UX (j4 L) a (h.nw.fw f) (by omega)
 have i:∀a d,Fr (au w) w a->Fr (au (a.alloc (.cells #[ι (j4 L)] 3))) (a.alloc (.cells #[ι (j4 L)] 3)) d->dj D L (xf L s.data.toList) w (.returned (.string ⟨(bg (j4 L)).toArray⟩)) d:=λa d f r=>dj.Ay g b (dr (dr f (eZ (fJ a _ ζ) λk e=>by cases e)) r)
 clear h j l b g o;generalize j4 L=x at*
 go_enter func39,ntmps39
 go_wp2_with (first|(go_at_call 73;refine m.mono ?_;rintro e a ⟨rfl,t⟩)|(go_at_call 71;refine(q _ ‹_›).mono ?_;rintro e d ⟨rfl,u⟩))
 go_ret
 exact i _ _ t u
def ags(a:TypeInfo)(z:τ)(b:θ.info? 123=γ a)(h:a.zero=γ z)(i:0<a.size)(j:a.bytes<=256)(n:O)(w:ψ)(p:0<n)(c:n<=549755813888):aM θ 202 #[.slice ζ 0 0,.int .i64 n] w λe w'=>e=.returned (.slice (γ ⟨w.heap.size,0,ζ⟩) 0 (l9 w n 0 123))/\w'=w.drew.alloc (.cells (qo z.cells n++qo z.cells (l9 w n 0 123-n)) 123):=by
 have d:θ.underlying 32=γ (.slice 123):=by kernel_rfl
 have m:θ.underlying 3=γ (.int .i64):=by kernel_rfl
 have q:θ.underlying 4=γ .bool:=by kernel_rfl
 have r:=fL d;have u:=fL m;have v:=fL q;have mixed:=mixed;have x:¬((n:Z)<0):=by omega
 have y:tV ((0:Z) -0)=0:=by unfold tV;omega
 have s:tV (((0:O):Z) -((0:O):Z))=0:=by unfold tV;omega
 have A:tV ((n:Z) -0)=n:=by unfold tV;omega
 have B:(n:Z)>0:=by omega
 have t:∀w,(Go.sizeOf 123).run θ w=.ok a.size w:=λw=>by simp[Go.sizeOf,typeInfo,b]
 have f:n*a.bytes<=281474976710656:=by have:n*a.bytes<=549755813888*256:=qu c j;omega
 have g:∀k,(Builtin.append_ #[32,3] k #[.slice ζ 0 0,.int .i64 (n:Z)]).run θ w=_:=λk=>Lib.run_append_nil_zeros (P:=θ) w 32 3 k 123 a z .i64 .i64 d m b h n p i (by omega) f
 have l:n<=l9 w n 0 123:=TF w _ _ _;obtain⟨G,o⟩:∃G,G=l9 w n 0 123:=⟨_,rfl⟩;rw[<-o]at g l⊢;clear o f
 go_enter Th,ntmps202
 go_wp2_with (at_builtin;refine Lib.wpList_append_run _ rfl _ _ _ _ rfl _ _ rfl rfl _ _ (g _) ?_)
 all_goals (go_ret;exact⟨rfl,rfl⟩)
def agt(w:ψ):aM θ 202 #[.slice ζ 0 0,.int .i64 0] w λe w'=>e=.returned (.slice ζ 0 0)/\w'=w:=by
 have a:θ.underlying 32=γ (.slice 123):=by kernel_rfl
 have b:θ.underlying 3=γ (.int .i64):=by kernel_rfl
 have c:θ.underlying 4=γ .bool:=by kernel_rfl
 have d:=fL a;have g:=fL b;have h:=fL c;have mixed:=mixed;have i:tV ((0:Z) -0)=0:=by unfold tV;omega
 have f:tV (((0:O):Z) -((0:O):Z))=0:=by unfold tV;omega
 go_enter Th,ntmps202
 go_wp2
 go_ret
 exact⟨rfl,rfl⟩
noncomputable def acU:ξ:=match θ.info? 123 with
 |some i=>(match i.zero with
  |some z=>Ψ i.size 9&&Δ i.bytes 256&&Ψ z.cells.size 9
  |none=>η)
 |none=>η
def ayH:acU=ε:=by kernel_rfl
def ayF:∃i z,θ.info? 123=γ i/\i.zero=γ z/\i.size=9/\i.bytes<=256/\z.cells.size=9:=by
 have h:=ayH;unfold acU at h;split at h
 ·rename_i i a
  split at h
  ·rename_i z b
   simp only[aP]at h;exact⟨i,z,a,b,cA h.1.1,qt h.1.2,cA h.2⟩
  ·cases h
 ·cases h
def NV:Spec:=λb _ a=>match b with
 |[.v (.slice ζ 0 0),.v (.int .i64 n)]=>γ {val:=.own a 0,new:=[.row ε 0 9 (λ_=>[]) 123],aw:=[κ (0<n),κ (n<=549755813888)]}
 |_=>ζ
def NU:Spec:=λa _ _=>match a with
 |[.v (.slice ζ 0 0),.v (.int .i64 n)]=>γ {val:=.v (.slice ζ 0 0),aw:=[κ (n=0)]}
 |_=>ζ
def apH:ak θ 202 NV:=by
 refine⟨λargs w=>enters 202 f202 Th rfl args w,λr H b I s d w h p g L t a q _=>?_⟩;unfold NV at h;split at h
 ·rename_i n
  simp only[aC]at h;subst h;simp only[aJ,gA,kh,jb,id,aP,aL]at p;obtain⟨u,v⟩:=p
  match d,g with
  |[x,y],g=>
   simp only[aB,VR]at g;obtain⟨rfl,rfl,_⟩:=g;obtain⟨m,rfl⟩:∃m:O,n=m:=⟨n.toNat,by omega⟩;obtain⟨i,z,A,B,M,C,D⟩:=ayF;have k:=TF w m 0 123;have f:l9 w m 0 123<=maxLen:=aeE w m 0 123 (by simp only[maxLen];omega);refine(ags i z A B (by omega) C m w (by omega) (by omega)).mono λe N l=>?_
   obtain⟨l,rfl⟩:=l;refine⟨_,kd s b ⟨w.heap.size,0,l9 w m 0 123⟩,l,?_⟩;refine ey.zZ (c:=l9 w m 0 123) (o:=.cells _ 123) (by simpa using a 0 (by simp)) rfl rfl rfl rfl rfl rfl ?_ ?_
   ·simp only[VR]
    exact⟨_,jL _ _ _,rfl⟩
   ·refine .inr ⟨_,(qo z.cells m++qo z.cells (l9 w m 0 123-m)).toList,123,(0,0),jL _ _ _,?_,λ_=>⟨rfl,rfl,rfl,?_,f⟩,ej _,λj P=>by omega⟩
    ·show(w.heap.push _)[w.heap.size]?=_
     rw[arA,RO]
    ·generalize l9 w m 0 123=G at k
     simp only[lm,Array.size_append,aeG,D];clear u v f;omega
 ·cases h
def apI:ak θ 202 NU:=by
 refine⟨λargs w=>enters 202 f202 Th rfl args w,λj H f m k a w h g b o l c i _=>?_⟩;unfold NU at h;split at h
 ·rename_i n
  simp only[aC]at h;subst h;simp only[aJ,gA,kh,jb,id,aL]at g;subst g
  match a,b with
  |[x,y],b=>
   simp only[aB,VR]at b;obtain⟨rfl,rfl,_⟩:=b;refine(agt w).mono λe p d=>?_
   obtain⟨d,rfl⟩:=d;refine⟨_,k,d,?_⟩;exact ey.same (by simp only[VR]) rfl rfl
 ·cases h
noncomputable abbrev GX:cb:=f114
abbrev NX(m n:O)(f h:Θ):E AB:=[.cells [.sl 1 9 0 0 m ζ,.sl 2 9 0 0 n ζ] 32,.row η m 9 (J f) 123,.row η n 9 (J h) 123]
noncomputable abbrev WK:aG:=ext g0 202 NV
def aww(m n:O)(f h:Θ):let a:=(0+m);let b:=(0:Z);let c:=(0+m+n);let d:=(aa .i64 (b+(m:Z))+(↑n:Z));ad θ WK K 100 GX [.sl 0 1 0 0 2 (γ 2)] (NX m n f h) (ag 3)
 =bif κ (aa .i64 (b+(m:Z))<b)then am.err else bif κ (aa .i64 d<b)then am.err else Ξ [κ (b<aa .i64 d),κ (aa .i64 d<=(549755813888:Z)),Δ a 549755813888,Δ a m,Δ a a,Δ c 549755813888,Δ (0+n) n] (rO [AV.own 3 c] [AB.cells [AV.sl 1 9 0 0 m ζ,AV.sl 2 9 0 0 n ζ] 32,AB.row η m 9 (J f) 123,AB.row η n 9 (J h) 123,AB.row ε c 9 (λq=>[ι (bif ω q a then f (0+(q-0)) 0 else h (0+(q-a)) 0),ι (bif ω q a then f (0+(q-0)) 1 else h (0+(q-a)) 1),ι (bif ω q a then f (0+(q-0)) 2 else h (0+(q-a)) 2),ι (bif ω q a then f (0+(q-0)) 3 else h (0+(q-a)) 3),ι (bif ω q a then f (0+(q-0)) 4 else h (0+(q-a)) 4),ι (bif ω q a then f (0+(q-0)) 5 else h (0+(q-a)) 5),ι (bif ω q a then f (0+(q-0)) 6 else h (0+(q-a)) 6),ι (bif ω q a then f (0+(q-0)) 7 else h (0+(q-a)) 7),ι (bif ω q a then f (0+(q-0)) 8 else h (0+(q-a)) 8)]) 123]):=by intros;kernel_rfl
abbrev zE(f h:O->E τ):E AB:=[.cells [.sl 1 0 0 0 0 ζ,.sl 2 0 0 0 0 ζ] 32,.row η 0 9 f 123,.row η 0 9 h 123]
noncomputable abbrev WH:aG:=ext g0 202 NU
def awr(f h:O->E τ):ad θ WH K 100 GX [.sl 0 1 0 0 2 (γ 2)] (zE f h) (ag 3)=rO [AV.v (gj ζ 0 0)] [AB.cells [AV.sl 1 0 0 0 0 ζ,AV.sl 2 0 0 0 0 ζ] 32,AB.row η 0 9 f 123,AB.row η 0 9 h 123]:=by kernel_rfl
def rY.gone{b:AB}{H H':E AB}(h:Φ H H'):rY (b::H) (.gone::H')where
 len:=by rw[bZ,bZ,h.length]
 rh:=λ{M o w} k=>by
  refine⟨λi=>?_,λi j c l d a f e m=>?_,λi c a e=>?_,k.lt,k.eL⟩
  ·cases i with
   |zero=>trivial
   |succ i=>exact(h.get i).br (k.br (i+1))
  ·cases i with
   |zero=>cases a
   |succ i=>
    cases j with
    |zero=>cases f
    |succ j=>exact k.sep (i+1) (j+1) c l d (by show(H.getD i .gone).wr=ε;rw[<-(h.get i).marks.1];exact a) (by show(H.getD j .gone).live=ε;rw[<-(h.get j).marks.2];exact f) e m
  ·cases i with
   |zero=>cases a
   |succ i=>exact k.own (i+1) c (by show(H.getD i .gone).wr=ε;rw[<-(h.get i).marks.1];exact a) e
def jf(m:O)(f h:Θ):O->O->Z:=λq k=>bif ω q m then f q k else h (q-m) k
def KZ:E AV->E AB->χ HR
 |[.sl 0 1 0 0 2 (γ 2)],[.cells [.sl 1 9 0 0 m ζ,.sl 2 9 0 0 n ζ] 32,.row η a 9 g 123,.row η b 9 h 123]=>
  γ {val:=.own 3 (m+n),out:=[.gone,.row η a 9 g 123,.row η b 9 h 123],new:=[.row ε (m+n) 9 (J (jf m (ο g) (ο h))) 123],
      aw:=[Ψ a m,Ψ b n,aF m g,aF n h,κ (m<=2^38),κ (n<=2^38),κ (0<m+n)]}
 |_,_=>ζ
def ZE:ak θ 114 (ea [η,ε,ε] KZ):=by
 refine QN (az ba apH) func114 rfl λt H w d k=>?_
 unfold KZ at d;split at d
 ·rename_i m n b g e h
  cases d;simp only[Ω]at k;obtain⟨f,i,l,o,p,q,r,_⟩:=k;have f:=cA f;have i:=cA i;subst f;subst i;have p:=aV p;have q:=aV q;have r:=aV r;refine⟨NX b e (ο g) (ο h),K,100,Φ.imp (.cons (ab.refl _) (.cons (ab.row λj a=>a7 l j a) (.cons (ab.row λj a=>a7 o j a) .nil))),λc _=>cN _ _ _,?_⟩;show aE (ad θ WK K 100 GX [.sl 0 1 0 0 2 (γ 2)] (NX b e (ο g) (ο h)) (ag 3)) _
  rw[aww];have u:aa .i64 ((0:Z)+(b:Z))=b:=by rw[R6];omega
  have v:aa .i64 ((b:Z)+(e:Z))=(b:Z)+(e:Z):=by rw[R6];omega
  rw[u,v];refine bA (by simp) (bA (by simp only[qy];omega) (aq ?_ (F ⟨_,rfl,λ_ _ _ _ _ s=>by rw[bH]at s;exact s,?_⟩)))
  ·simp only[Ω,ax,aj,aL,bl]
   omega
  ·rw[bH]
   refine rY.gone (.cons (ab.row λj a=>(a7 l j a).symm) (.cons (ab.row λj a=>(a7 o j a).symm) (.cons (ab.row λj a=>?_) .nil)));simp only[J,jf,bH,Bu]
 ·cases d
def KY:E AV->E AB->χ HR
 |[.sl 0 1 0 0 2 (γ 2)],[.cells [.sl 1 9 0 0 m ζ,.sl 2 9 0 0 n ζ] 32,.row η a 9 g 123,.row η b 9 h 123]=>
  γ {val:=.v (.slice ζ 0 0),out:=[.gone,.row η a 9 g 123,.row η b 9 h 123],
      aw:=[Ψ a m,Ψ b n,Ψ m 0,Ψ n 0]}
 |_,_=>ζ
def Ui{y:τ}(h:VR R (.sl i 9 0 0 0 ζ) y):VR R (.sl i 0 0 0 0 ζ) y:=by simp only[VR,Bv]at h⊢;exact h
def alI(g h:O->E τ):rY [.cells [.sl 1 9 0 0 0 ζ,.sl 2 9 0 0 0 ζ] 32,.row η 0 9 g 123,.row η 0 9 h 123] (zE g h)where
 len:=rfl
 rh:=λ{M v w} k=>by
  have d:∀i,((zE g h).getD i .gone).wr=(([.cells [.sl 1 9 0 0 0 ζ,.sl 2 9 0 0 0 ζ] 32,.row η 0 9 g 123,.row η 0 9 h 123]:E AB).getD i .gone).wr:=λi=>by cases i<;>rfl
  have f:∀i,((zE g h).getD i .gone).live=(([.cells [.sl 1 9 0 0 0 ζ,.sl 2 9 0 0 0 ζ] 32,.row η 0 9 g 123,.row η 0 9 h 123]:E AB).getD i .gone).live:=λi=>by cases i<;>rfl
  refine⟨λi=>?_,λi j b m a c n=>k.sep i j b m a (by rw[<-d];exact c) (by rw[<-f];exact n),λi b c=>k.own i b (by rw[<-d];exact c),k.lt,k.eL⟩;cases i with
  |zero=>
   obtain⟨b,l,o,p,q,r⟩:=k.br 0;refine⟨b,l,o,p,q,?_⟩
   match l,r with
   |[x,y],⟨s,t,_⟩=>exact⟨Ui s,Ui t,trivial⟩
  |succ i=>exact k.br (i+1)
def aoU:ak θ 114 (ea [η,ε,ε] KY):=by
 refine QN (az ba apI) func114 rfl λj H l a i=>?_
 unfold KY at a;split at a
 ·rename_i m n o g p h
  cases a;simp only[Ω]at i;obtain⟨b,d,e,f,_⟩:=i;have b:=cA b;have d:=cA d;have e:=cA e;have f:=cA f;subst b;subst d;subst e;subst f;refine⟨zE g h,K,100,alI g h,λc _=>cN _ _ _,?_⟩;show aE (ad θ WH K 100 GX [.sl 0 1 0 0 2 (γ 2)] (zE g h) (ag 3)) _
  rw[awr];exact F ⟨_,rfl,λ_ _ _ _ _ k=>k,rY.gone (Φ.refl _)⟩
 ·cases a
def Gx(d:O->(O->O->Z)->(O->O->Z)->O->O->Z):Spec:=λc H a=>
 match Rn [η,ε,ε] c H with
 |some ([b,e,f],[.sl 0 1 0 0 2 (γ 2)],[.cells [.sl 1 9 0 0 m ζ,.sl 2 9 0 0 n ζ] 32,.row η i 9 g 123,.row η j 9 h 123])=>γ {val:=.sl a 9 0 0 (m+n) ζ,rd:=[b,e,f],put:=[(b,.gone)],new:=[.row η (m+n) 9 (J (d m (ο g) (ο h))) 123],aw:=[Ψ i m,Ψ j n,aF m g,aF n h,κ (m<=2^38),κ (n<=2^38)]}
 |_=>ζ
def ZD:ak θ 114 (Gx jf):=by
 refine⟨ZE.1,λq H a δ P r w B W X hr C o s t=>?_⟩;unfold Gx at B;split at B
 case h_2=>cases B
 rename_i b i1 i2 m n m1 g n1 h u;simp only[aC]at B;subst B;simp only[Ω]at W;obtain⟨L,M,h3,h4,h5,h6,_⟩:=W;rcases qs (m+n)with N|N
 ·have hm:m=0:=by omega
  have hn:n=0:=by omega
  subst hm;subst hn;have y:ea [η,ε,ε] KY q H a=γ {val:=.v (.slice ζ 0 0),rd:=[b,i1,i2],put:=[(b,.gone)],new:=[],aw:=[Ψ m1 0,Ψ n1 0,Ψ 0 0,Ψ 0 0]}:=by unfold ea AD;rw[u];rfl
  refine(aoU.2 q H a _ P r w y (by simp only[Ω,ax,aj];exact⟨L,M,rfl,rfl⟩) X hr C (λj c=>aR c (dh _)) s (t.call λx D=>by first|exact D|cases D)).mono ?_;rintro e w' ⟨v,f,rfl,d⟩;have p:f a=ζ:=by
   have N:P a=ζ:=o 0 (oq);cases u:f a with
   |none=>rfl
   |some b=>have:=d.cg a N (by rw[u];simp);simp at this
  have U:VR f (.sl a 9 0 0 (0+0) ζ) v:=by have:=d.val;simp only[VR]at this⊢;exact⟨ζ,0,this,λc' z=>(by cases z),aQ _,λhc=>aR hc (ol 0)⟩
  refine⟨v,f,rfl,d.le,λi L M=>?_,U,d.put,λj b c=>?_,d.os,d.tape,d.output,d.size,d.block,λj b c u=>?_,λj j' b b' hne c G=>?_⟩
  ·have:=d.cg i L M
   simp at this;omega
  ·match j with
   |0=>simp only[kO,aC]at c;subst c;exact .inl ⟨rfl,rfl,p⟩
   |j+1=>simp at c
  ·have c:j<1:=c
   have:j=0:=by omega
   subst this;rw[im,p]at u;cases u
  ·have c:j<1:=c
   have G:j'<1:=G;omega
 ·have y:ea [η,ε,ε] KZ q H a=γ {val:=.own a (m+n),rd:=[b,i1,i2],put:=[(b,.gone)],new:=[.row ε (m+n) 9 (J (jf m (ο g) (ο h))) 123],aw:=[Ψ m1 m,Ψ n1 n,aF m g,aF n h,κ (m<=2^38),κ (n<=2^38),κ (0<m+n)]}:=by unfold ea AD;rw[u];rfl
  refine(ZE.2 q H a _ P r w y (by simp only[Ω,ax,aj];exact⟨L,M,h3,h4,h5,h6,di N⟩) X hr C o s (t.call λx D=>by first|exact D|cases D)).mono ?_;rintro e w' ⟨v,f,rfl,d⟩;have I:=d.new 0 _ rfl;rcases I with⟨A,_,_⟩|⟨k,l,t',fz,A,e2,_,e4,e5⟩
  ·cases A
  refine⟨v,f,rfl,d.le,d.cg,?_,d.put,λj b c=>?_,d.os,d.tape,d.output,d.size,d.block,d.fresh,d.apart⟩
  ·have:=d.val
   simp only[VR]at this⊢;obtain⟨bb,g1,rfl⟩:=this;rw[im]at A;rw[g1]at A;cases A;exact⟨_,_,rfl,λc' z=>(by cases z),e4,λ_=>⟨k,g1,by simp⟩⟩
  ·match j with
   |0=>simp only[kO,aC]at c;subst c;exact .inr ⟨k,l,t',fz,A,e2,λh=>(by cases h),e4,e5⟩
   |j+1=>simp at c
def NF(a:E Wh->ξ)(d:E Wh->E Wh)(b c:E Wh->ξ)(e:O->(O->O->Z)->(O->O->Z)->O->O->Z):aG:=ext (sx a d b c) 114 (Gx e)
def NE(a:E Wh->ξ)(b c:E Wh->ξ)(d:O->(O->O->Z)->(O->O->Z)->O->O->Z):aG:=ext (mg a b c) 114 (Gx d)
abbrev p7(m:O)(f:Θ)(n:O)(h:Θ):E AB:=[.row η m 9 (J f) 123,.row η n 9 (J h) 123]
def axF(a:E Wh->ξ)(e:E Wh->E Wh)(b c:E Wh->ξ)(i:O->(O->O->Z)->(O->O->Z)->O->O->Z)(m:O)(f:Θ)(n:O)(h:Θ):let j:=[AV.af [AV.v (gj ζ 0 0),vB η]];let k:=(i m (ο (J f)) (ο (J h)));let l:=AB.row η m 9 (J f) 123;let o:=AB.row η n 9 (J h) 123;let d:=(V (ο λq=>J k (0+q)) (m+n));let p:=[l,o];let g:=(ce (e d));ad θ (NF a e b c i) K 100 S6 [.sl 0 9 0 0 m ζ,.sl 1 9 0 0 n ζ] (p7 m f n h) (ag 2)
 =Ξ [Δ (0+m) m,aF m λq=>J f (0+q),κ (m<=549755813888)] (bif !a (V (ο λq=>J f (0+q)) m)then rO j p else Ξ [Δ (0+n) n,aF n λq=>J h (0+q),κ (n<=549755813888)] (bif !a (V (ο λq=>J h (0+q)) n)then rO j p else Ξ [Ψ m m,Ψ n n,aF m (J f),aF n (J h),κ (m<=274877906944),κ (n<=274877906944),Δ (0+(m+n)) (m+n),aF (m+n) λq=>J k (0+q),κ (m+n<=274877906944),c d,b d] (rO [AV.af [AV.sl 2 9 0 0 g (γ g),vB ε]] [l,o,AB.row ε g 9 (J (Y (e d))) 123]))):=by intros;kernel_rfl
def axC(a:E Wh->ξ)(b c:E Wh->ξ)(g:O->(O->O->Z)->(O->O->Z)->O->O->Z)(m:O)(f:Θ)(n:O)(h:Θ):let d:=[AB.row η m 9 (J f) 123,AB.row η n 9 (J h) 123];let e:=[AV.af [AV.v (gj ζ 0 0),vB η]];let i:=(g m (ο (J f)) (ο (J h)));let j:=(V (ο λq=>J i (0+q)) (m+n));ad θ (NE a b c g) K 100 S6 [.sl 0 9 0 0 m ζ,.sl 1 9 0 0 n ζ] (p7 m f n h) (ag 2)
 =Ξ [Δ (0+m) m,aF m λq=>J f (0+q),κ (m<=549755813888)] (bif !a (V (ο λq=>J f (0+q)) m)then rO e d else Ξ [Δ (0+n) n,aF n λq=>J h (0+q),κ (n<=549755813888)] (bif !a (V (ο λq=>J h (0+q)) n)then rO e d else Ξ [Ψ m m,Ψ n n,aF m (J f),aF n (J h),κ (m<=274877906944),κ (n<=274877906944),Δ (0+(m+n)) (m+n),aF (m+n) λq=>J i (0+q),κ (m+n<=274877906944),c j,!b j] (rO e d))):=by intros;kernel_rfl
def OW(m n:O)(f h:Θ):V (jf m f h) (m+n)=V f m++V h n:=by
 simp only[V,List.range_add,kP,rR]
 congr 1
 ·refine ye λj a=>?_
  have:ω j m=ε:=by simpa[bM]using a
  have e:jf m f h j=f j:=by
   funext k
   simp only[jf,this,a6]
  rw[e]
 ·refine ye λj _=>?_
  have:ω (m+j) m=η:=by
   cases b:ω (m+j) m with
   |false=>rfl
   |true=>rw[bM]at b;omega
  have e:jf m f h (m+j)=h j:=by
   funext k
   simp only[jf,this,be,Fu]
  simp only[Function.comp_apply];rw[e]
def rG(A B:E Wh):ξ:=aO A&&aO B
def rL(A B:E Wh):ξ:=rG A B&&bC (A++B)
def AP(A B:E Wh):E Wh:=bo (A++B)
def EU(A B:E Wh):E Wh:=bif rG A B then bo (A++B)else[]
def alj:aK θ (NF aO bo bC fP jf):=az HG ZD
def ali:aK θ (NE aO bC fP jf):=az HF ZD
def XX{A B:E Wh}(a:aO A=ε)(b:aO B=ε):nN (A++B):=λw c=>by
 rcases nm.1 c with h|h
 ·exact vk a h
 ·exact vk b h
def aqA:ak θ 60 (ai k0 (yJ rL AP)):=by
 refine ca alj func60 rfl λo u b h=>?_
 unfold yJ at b;split at b
 ·rename_i m c n d
  cases b;simp only[Ω]at h;obtain⟨i,k,p,q,l,_⟩:=h;have v:=aV p;have w:=aV q;rw[rL,rG,aP,aP]at l;obtain⟨⟨f,g⟩,r⟩:=l;have s:=kF f;have t:=kF g;rw[cR]at s t;refine⟨p7 m (ο c) n (ο d),K,100,.cons (ab.row λj a=>a7 i j a) (.cons (ab.row λj a=>a7 k j a) .nil),de _,?_⟩;show aE (ad θ (NF aO bo bC fP jf) K 100 S6 [.sl 0 9 0 0 m ζ,.sl 1 9 0 0 n ζ] (p7 m (ο c) n (ο d)) (ag 2)) _
  rw[axF,cz,cz,cz,cZ,cZ,cZ];have e:V (jf m (ο (J (ο c))) (ο (J (ο d)))) (m+n)=V (ο c) m++V (ο d) n:=OW m n _ _;rw[e];refine fu (bA (by rw[f];rfl) (fu (bA (by rw[g];rfl) (aq ?_ (F ⟨_,rfl,rfl,.cons (ab.row λj a=>(a7 i j a).symm) (.cons (ab.row λj a=>(a7 k j a).symm) (Φ.refl _))⟩)))));simp only[Ω,ax,aj,dn];exact⟨kr m,kr n,trivial,trivial,dc,dc,by simp,trivial,dc,cG (XX f g),r⟩
 ·cases b
def aqy:ak θ 60 (ai k0 (yG rL)):=by
 refine ca ali func60 rfl λr z f k=>?_
 unfold yG at f;split at f
 ·rename_i m a n b
  cases f;simp only[Ω]at k;obtain⟨l,o,s,t,p,_⟩:=k;have A:=aV s;have B:=aV t;have c:aE (.out .ret [eP] (p7 m (ο a) n (ο b))) (dX (bJ k0 [.row m a,.row n b] []) {val:=eP,aw:=[aF m a,aF n b,κ (m<=2^38),κ (n<=2^38),!rL (V (ο a) m) (V (ο b) n)]}):=
   F ⟨_,rfl,rfl,.cons (ab.row λj d=>(a7 l j d).symm) (.cons (ab.row λj d=>(a7 o j d).symm) .nil)⟩
  refine⟨p7 m (ο a) n (ο b),K,100,.cons (ab.row λj d=>a7 l j d) (.cons (ab.row λj d=>a7 o j d) .nil),de _,?_⟩;show aE (ad θ (NE aO bC fP jf) K 100 S6 [.sl 0 9 0 0 m ζ,.sl 1 9 0 0 n ζ] (p7 m (ο a) n (ο b)) (ag 2)) _
  rw[axC,cz,cz,cz,cZ,cZ,cZ];have e:V (jf m (ο (J (ο a))) (ο (J (ο b)))) (m+n)=V (ο a) m++V (ο b) n:=OW m n _ _;rw[e];refine fu (aD (λ_=>c) λq=>fu (aD (λ_=>c) λw=>aq ?_ c));have g:aO (V (ο a) m)=ε:=by have h:(!aO (V (ο a) m))=η:=q;simpa using h
  have i:aO (V (ο b) n)=ε:=by have h:(!aO (V (ο b) n))=η:=w;simpa using h
  have x:=kF g;have y:=kF i;rw[cR]at x y;rw[rL,rG,g,i]at p;simp only[Ω,ax,aj,dn];exact⟨kr m,kr n,trivial,trivial,dc,dc,by simp,trivial,dc,cG (XX g i),p⟩
 ·cases f
abbrev gZ:E Wh->E Wh->ξ:=rL
abbrev iT:E Wh->E Wh->E Wh:=EU
def abN{A B:E Wh}(h:gZ A B=ε):EU A B=AP A B:=by rw[gZ,rL,aP]at h;rw[EU,h.1];rfl
abbrev wu:AV:=.fn 124 [.ptr 1 0 0 0]
abbrev sF(m:O)(f:Θ)(t:ae)(x:Z)(n:O)(h:Θ):E AB:=[.row η m 9 (J f) t,.cells [.v (ι x)] 3,.row ε n 9 (J h) 123]
abbrev AE(m n i:O):E AV:=[wu,.own 2 n,.sl 0 9 0 0 m ζ,.v (ι m),.v (ι i)]
def asb(d:(O->Z)->O->Z)(e:(O->Z)->Z->O->Z)(m:O)(f:Θ)(t:ae)(x:Z)(n:O)(h:Θ)(i:O):let b:=(↑i:Z);let c:=AB.row η m 9 (J f) t;let a:=(0+aT b);a0 θ (HB d e) 100 K (a5 0 ls) (ar 0 32 ((rc .normal).zip (AE m n i))) (sF m f t x n h) (cw 32 rc 2)
 =bif κ (b<(m:Z))then Ξ [κ (b<(m:Z)),κ (0+aT b<m),Δ n n,Δ (n+1) 549755813888] (am.out .normal [AV.fn (124:dm) [AV.ptr 1 0 0 0],AV.own 2 (n+1),AV.sl 0 9 0 0 m ζ,vI (m:Z),vI (aa .i64 (b+(1:Z)))] [c,AB.cells [vI x] 3,AB.row ε (n+1) 9 (λq=>[ι (bif ω q n then h q 0 else aa .i64 (x*f a 0)),ι (bif ω q n then h q 1 else f a 1),ι (bif ω q n then h q 2 else f a 2),ι (bif ω q n then h q 3 else f a 3),ι (bif ω q n then h q 4 else f a 4),ι (bif ω q n then h q 5 else f a 5),ι (bif ω q n then h q 6 else f a 6),ι (bif ω q n then h q 7 else f a 7),ι (bif ω q n then h q 8 else f a 8)]) 123])else am.out (Ex.exit 0) [AV.own 2 n] [c,AB.cells [vI x] 3,AB.row ε n 9 (J h) 123]:=by intros;kernel_rfl
noncomputable abbrev zK(m:O)(f:Θ)(t:ae)(x:Z)(n:O)(h:Θ):O->χ Sum:=bX 0 (bm 32 (rc .normal) 2 (AE m 0 0) (sF m f t x 0 (Y [])) (λa=>a .normal (ar 0 32 [(6,.own 2 n)]) (sF m f t x n h)))
def ax1(a:E Wh->ξ)(e:E Wh->E Wh)(b c:E Wh->ξ)(m:O)(f:Θ)(t:ae)(x:Z)(n:O)(h:Θ):let d:=(V (ο (J h)) n);let g:=AB.row η m 9 (J f) t;let i:=(ce (e d));let j:=AB.cells [vI x] 3;ad θ (sx a e b c) (zK m f t x n h) 100 ls [.sl 0 9 0 0 m ζ,wu] [.row η m 9 (J f) t,.cells [.v (ι x)] 3] (ag 2)
 =Ξ [Δ (0+m) m,aF m λq=>J f (0+q),κ (m<=549755813888)] (bif !a (V (ο λq=>J f (0+q)) m)then rO [AV.af [AV.v (gj ζ 0 0),vB η]] [g,j]else Ξ [κ ((m:Z)<=(1099511627776:Z)),cy ([AV.fn (124:dm) [AV.ptr 1 0 0 0],AV.own 2 0,AV.sl 0 9 0 0 m ζ,vI (m:Z),vI 0]=AE m 0 0/\Φ [g,j,AB.row ε 0 9 (λ_=>[ι 0,ι 0,ι 0,ι 0,ι 0,ι 0,ι 0,ι 0,ι 0]) 123] (sF m f t x 0 (Y []))),Δ n n,aF n (J h),κ (n<=274877906944),c d,b d] (rO [AV.af [AV.sl 2 9 0 0 i (γ i),vB ε]] [g,j,AB.row ε i 9 (J (Y (e d))) 123])):=by intros;kernel_rfl
def axa(a:E Wh->ξ)(b c:E Wh->ξ)(m:O)(f:Θ)(t:ae)(x:Z)(n:O)(h:Θ):let g:=[AV.af [AV.v (gj ζ 0 0),vB η]];let d:=AB.row η m 9 (J f) t;let e:=AB.cells [vI x] 3;let i:=(V (ο (J h)) n);ad θ (mg a b c) (zK m f t x n h) 100 ls [.sl 0 9 0 0 m ζ,wu] [.row η m 9 (J f) t,.cells [.v (ι x)] 3] (ag 2)
 =Ξ [Δ (0+m) m,aF m λq=>J f (0+q),κ (m<=549755813888)] (bif !a (V (ο λq=>J f (0+q)) m)then rO g [d,e]else Ξ [κ ((m:Z)<=(1099511627776:Z)),cy ([AV.fn (124:dm) [AV.ptr 1 0 0 0],AV.own 2 0,AV.sl 0 9 0 0 m ζ,vI (m:Z),vI 0]=AE m 0 0/\Φ [d,e,AB.row ε 0 9 (λ_=>[ι 0,ι 0,ι 0,ι 0,ι 0,ι 0,ι 0,ι 0,ι 0]) 123] (sF m f t x 0 (Y []))),Δ n n,aF n (J h),κ (n<=274877906944),c i,!b i] (rO g [d,e])):=by intros;kernel_rfl
def awO(a:E Wh->ξ)(b c:E Wh->ξ)(m:O)(f:Θ)(t:ae)(x:Z):ad θ (mg a b c) (bX 0 iv) 100 ls [.sl 0 9 0 0 m ζ,wu] [.row η m 9 (J f) t,.cells [.v (ι x)] 3] (ag 2)=Ξ [Δ (0+m) m,aF m λq=>J f (0+q),κ (m<=549755813888)] (bif !a (V (ο λq=>J f (0+q)) m)then rO [AV.af [AV.v (gj ζ 0 0),vB η]] [AB.row η m 9 (J f) t,AB.cells [vI x] 3]else Ξ [κ ((m:Z)<=(1099511627776:Z))] am.err):=by kernel_rfl
def lB(x:Z)(w:Wh):Wh:=⟨aa aY (x*w.s),w.r⟩
abbrev rj:Z->E Wh->E Wh:=λx L=>L.map (lB x)
def Yc(x:Z)(h:aO L=ε):nN (L.map (lB x)):=by intro c a;obtain⟨w,b,rfl⟩:=gh.1 a;exact(vk h b:nC w.r)
def abQ(m:O)(f:Θ)(t:ae)(x:Z)(j:m<=2^38)(d:∀w∈V f m,sH w.r.f=ε):ck θ 2 (.block 0 (.loop (a5 0 ls))) (bm 32 (rc .normal) 2 (AE m 0 0) (sF m f t x 0 (Y [])) (λa=>a .normal (ar 0 32 [(6,.own 2 m)]) (sF m f t x m (Y ((V f m).map (lB x)))))):=by
 refine dQ WA (n:=100) (m:=2) (lv:=rc) (λi=>AE m i i) (λi=>sF m f t x i (Y ((V f i).map (lB x)))) (λ_=>True) m (λ_=>K) (du rfl rfl rfl) (aQ _) trivial λa Q e i l g=>⟨cN _ _ _,?_⟩
 rw[asb];refine aD (λb=>?_) λb=>?_
 ·have b:=aV b
  have c:i<m:=by omega
  rw[cV,bH,bz (x:=(i:Z)+1)];refine c_ (F ⟨i+1,⟨rfl,c,trivial⟩,rfl,?_⟩);show Φ _ (sF m f t x (i+1) (Y ((V f (i+1)).map (lB x))))
  rw[iQ,kP];refine(.cons (ab.refl _) (.cons (ab.refl _) (.cons (ab.row λq h=>?_) .nil)));exact pQ _ ((lB x) (bh (f i))) i (by rw[dv,cR]) q h
 ·have b:=cu b
  have:i=m:=by omega
  subst this;refine F ⟨_,Φ.refl _,?_⟩;rw[aU rfl];exact e
def F0(b:E Wh->ξ)(c:E Wh->E Wh)(d:E Wh->ξ)(a:Z->E Wh->E Wh):E AV->E AB->χ HR
 |[.sl 0 9 0 0 m ζ,.fn 124 [.ptr 1 0 0 0]],[.row η n 9 g t,.cells [.v (.int .i64 x)] 3]=>γ {val:=.af [.sl 2 9 0 0 (c (a x (V (ο g) m))).length (γ (c (a x (V (ο g) m))).length),.v (.bool ε)],out:=[.row η n 9 g t,.cells [.v (.int .i64 x)] 3],new:=h_ (c (a x (V (ο g) m))),aw:=[Ψ n m,aF m g,κ (m<=2^38),b (V (ο g) m)&&d (a x (V (ο g) m))]}
 |_,_=>ζ
def FZ(a:E Wh->ξ)(b:E Wh->ξ)(c:Z->E Wh->E Wh):E AV->E AB->χ HR
 |[.sl 0 9 0 0 m ζ,.fn 124 [.ptr 1 0 0 0]],[.row η n 9 g t,.cells [.v (.int .i64 x)] 3]=>γ {val:=eP,out:=[.row η n 9 g t,.cells [.v (.int .i64 x)] 3],aw:=[Ψ n m,aF m g,κ (m<=2^38),!(a (V (ο g) m)&&b (c x (V (ο g) m)))]}
 |_,_=>ζ
def ao2:ak θ 118 (ea [ε] (F0 aO bo bC rj)):=by
 refine xz HG Tc rfl λk H s b f=>?_
 unfold F0 at b;split at b
 ·rename_i m n g t x
  cases b;simp only[Ω]at f;obtain⟨c,h,l,i,_⟩:=f;have c:=cA c;subst c;have o:=aV l;rw[aP]at i;obtain⟨d,p⟩:=i;have e:=Yc x d;have q:=abQ n (ο g) t x o (λw r=>E5 d r);refine⟨[.row η n 9 (J (ο g)) t,.cells [.v (ι x)] 3],zK n (ο g) t x n (Y ((V (ο g) n).map (lB x))),100,.cons (ab.row λj a=>a7 h j a) (.cons rfl .nil),da q,?_⟩;show aE (ad θ (sx aO bo bC fP) (zK n (ο g) t x n (Y ((V (ο g) n).map (lB x)))) 100 ls [.sl 0 9 0 0 n ζ,wu] [.row η n 9 (J (ο g)) t,.cells [.v (ι x)] 3] (ag 2)) _
  rw[ax1,cz,cZ,hZ ((V (ο g) n).map (lB x)) n (by rw[dv,cR])];refine fu (bA (by rw[d];rfl) (aq ?_ (F ⟨rfl,.cons (ab.row λj a=>(a7 h j a).symm) (.cons rfl (Φ.refl _))⟩)));simp only[Ω,ax,aj,dn];exact⟨dc,cG ⟨rfl,(.cons (ab.refl _) (.cons (ab.refl _) (.cons (ab.row λj a=>aR a (dh _)) .nil)))⟩,by simp,trivial,dc,cG e,p⟩
 ·cases b
def aoW:ak θ 118 (ea [ε] (FZ aO bC rj)):=by
 refine xz HF Tc rfl λk H u c h=>?_
 unfold FZ at c;split at c
 ·rename_i m n g t x
  cases c;simp only[Ω]at h;obtain⟨e,d,l,i,_⟩:=h;have e:=cA e;subst e;have o:=aV l;cases b:aO (V (ο g) n)with
  |false=>
   have p:ck θ 2 (.block 0 (.loop (a5 0 ls))) iv:=ur;refine⟨[.row η n 9 (J (ο g)) t,.cells [.v (ι x)] 3],bX 0 iv,100,.cons (ab.row λj a=>a7 d j a) (.cons rfl .nil),da p,?_⟩;show aE (ad θ (mg aO bC fP) (bX 0 iv) 100 ls [.sl 0 9 0 0 n ζ,wu] [.row η n 9 (J (ο g)) t,.cells [.v (ι x)] 3] (ag 2)) _
   rw[awO,cz,cZ];exact fu (cv (by rw[b];rfl) (F ⟨rfl,.cons (ab.row λj a=>(a7 d j a).symm) (.cons rfl .nil)⟩))
  |true=>
  rw[b,ex]at i;have q:bC ((V (ο g) n).map (lB x))=η:=by simpa using i
  have f:=Yc x b;have r:=abQ n (ο g) t x o (λw s=>E5 b s);refine⟨[.row η n 9 (J (ο g)) t,.cells [.v (ι x)] 3],zK n (ο g) t x n (Y ((V (ο g) n).map (lB x))),100,.cons (ab.row λj a=>a7 d j a) (.cons rfl .nil),da r,?_⟩;show aE (ad θ (mg aO bC fP) (zK n (ο g) t x n (Y ((V (ο g) n).map (lB x)))) 100 ls [.sl 0 9 0 0 n ζ,wu] [.row η n 9 (J (ο g)) t,.cells [.v (ι x)] 3] (ag 2)) _
  rw[axa,cz,cZ,hZ ((V (ο g) n).map (lB x)) n (by rw[dv,cR])];refine fu (bA (by rw[b];rfl) (aq ?_ (F ⟨rfl,.cons (ab.row λj a=>(a7 d j a).symm) (.cons rfl .nil)⟩)));simp only[Ω,ax,aj,dn];exact⟨dc,cG ⟨rfl,(.cons (ab.refl _) (.cons (ab.refl _) (.cons (ab.row λj a=>aR a (dh _)) .nil)))⟩,by simp,trivial,dc,cG f,by rw[q];rfl⟩
 ·cases c
def oa(x:Z)(L:E Wh):ξ:=aH x (-20) 20&&(aO L&&bC (L.map (lB x)))
def K3(a:Z->E Wh->ξ)(b:E Wh->E Wh)(c:Z->E Wh->E Wh):E SA->χ FR
 |[.row m g,.v (.int .i64 x)]=>γ {val:=li (b (c x (V (ο g) m))),new:=h_ (b (c x (V (ο g) m))),aw:=[aF m g,κ (m<=2^38),a x (V (ο g) m)]}
 |_=>ζ
def K2(a:Z->E Wh->ξ):E SA->χ FR
 |[.row m g,.v (.int .i64 x)]=>γ {val:=eP,aw:=[aF m g,κ (m<=2^38),!a x (V (ο g) m)]}
 |_=>ζ
def awI(a:E Wh->ξ)(c:E Wh->E Wh)(b:E Wh->ξ)(g:Z->E Wh->E Wh)(m:O)(f:Θ)(x:Z):let h:=AB.row η m 9 (J f) 123;let i:=(V (ο (J f)) m);let d:=(g x i);let e:=(ce (c d));ad θ (ext lN 118 (ea [ε] (F0 a c b g))) K 100 S7 [.sl 0 9 0 0 m ζ,.v (ι x)] [.row η m 9 (J f) 123] (ag 1)
 =bif !aH x (-20:Z) (20:Z)then rO [AV.af [AV.v (gj ζ 0 0),vB η]] [h]else Ξ [Ψ m m,aF m (J f),κ (m<=274877906944),a i&&b d] (rO [AV.af [AV.sl 1 9 0 0 e (γ e),vB ε]] [h,AB.row ε e 9 (J (Y (c d))) 123]):=by intros;kernel_rfl
def awF(a:E Wh->ξ)(b:E Wh->ξ)(c:Z->E Wh->E Wh)(m:O)(f:Θ)(x:Z):let d:=[AV.af [AV.v (gj ζ 0 0),vB η]];let e:=[AB.row η m 9 (J f) 123];let g:=(V (ο (J f)) m);ad θ (ext lN 118 (ea [ε] (FZ a b c))) K 100 S7 [.sl 0 9 0 0 m ζ,.v (ι x)] [.row η m 9 (J f) 123] (ag 1)
 =bif !aH x (-20:Z) (20:Z)then rO d e else Ξ [Ψ m m,aF m (J f),κ (m<=274877906944),!(a g&&b (c x g))] (rO d e):=by intros;kernel_rfl
def apk:ak θ 66 (ai dl (K3 oa bo rj)):=by
 refine ca (az nI ao2) func66 rfl λh n a d=>?_
 unfold K3 at a;split at a
 ·rename_i m g x
  cases a;simp only[Ω]at d;obtain⟨e,i,b,_⟩:=d;have k:=aV i;refine⟨[.row η m 9 (J (ο g)) 123],K,100,.cons (ab.row λj c=>a7 e j c) .nil,de _,?_⟩;show aE (ad θ (ext lN 118 (ea [ε] (F0 aO bo bC rj))) K 100 S7 [.sl 0 9 0 0 m ζ,.v (ι x)] [.row η m 9 (J (ο g)) 123] (ag 1)) _
  rw[awI];rw[oa,aP]at b;obtain⟨f,b⟩:=b;have l:=cd.1 f;exact bA (by rw[f];rfl) (aq (by simp only[Ω,ax,aj,kr,dn,cZ,bv];exact⟨di k,b⟩) (F ⟨_,rfl,rfl,.cons (ab.row λj c=>(a7 e j c).symm) (Φ.refl _)⟩))
 ·cases a
def apf:ak θ 66 (ai dl (K2 oa)):=by
 refine ca (az nI aoW) func66 rfl λh n b d=>?_
 unfold K2 at b;split at b
 ·rename_i m g x
  cases b;simp only[Ω]at d;obtain⟨c,i,e,_⟩:=d;have k:=aV i;refine⟨[.row η m 9 (J (ο g)) 123],K,100,.cons (ab.row λj a=>a7 c j a) .nil,de _,?_⟩;show aE (ad θ (ext lN 118 (ea [ε] (FZ aO bC rj))) K 100 S7 [.sl 0 9 0 0 m ζ,.v (ι x)] [.row η m 9 (J (ο g)) 123] (ag 1)) _
  rw[awF];cases f:aH x (-20) 20 with
  |false=>exact cv rfl (F ⟨_,rfl,rfl,.cons (ab.row λj a=>(a7 c j a).symm) .nil⟩)
  |true=>rw[oa,f,ex]at e;have l:=cd.1 f;exact bA rfl (aq (by simp only[Ω,ax,aj,kr,dn,cZ,bv];exact⟨di k,e⟩) (F ⟨_,rfl,rfl,.cons (ab.row λj a=>(a7 c j a).symm) .nil⟩))
 ·cases b
def U5{w:Wh}:lB A w=ep A 0 0 η w:=by
 have a:(aa aY ((0:Z)+aa aY (0*w.s))%24).toNat=0:=by rw[R4];rfl
 rw[lB,ep,a];rfl
def yF(x:Z)(L:E Wh):ξ:=aH x (-20) 20&&hP x 0 0 η L
def tF(x:Z)(L:E Wh):E Wh:=bif aH x (-20) 20 then ga x 0 0 η L else[]
def dY(base:O)(rd:E O)(T:E Wh)(ob:E ξ):Delta:={val:=.af [.sl base 9 0 0 T.length (γ T.length),.v (.bool ε)],rd:=rd,put:=[],new:=h_ T,aw:=ob}
def dN(rd:E O)(ob:E ξ):Delta:={val:=.af [.v (.slice ζ 0 0),.v (.bool η)],rd:=rd,put:=[],new:=[],aw:=ob}
def ayR(a:n_ L=ε):yB L=ε/\tB L=bo (sT L):=by
 have hM:L.map (ep (-1) 0 0 η)=sT L:=re λw _=>U4.symm
 rw[n_,aP]at a;obtain⟨b,c⟩:=Co (sp:=(-1)) (tn:=0) (la:=0) (mir:=η) (by rw[i5,a.1];rfl) hM a.2;exact⟨c,b⟩
def aoo(a:n_ L=η):yB L=η:=by
 have hM:L.map (ep (-1) 0 0 η)=sT L:=re λw _=>U4.symm
 obtain⟨e,c⟩:=Cn (sp:=(-1)) (tn:=0) (la:=0) (mir:=η) (L:=L) λb=>by rw[i5,aP]at b;rw[hM];rw[n_,b.1,ex]at a;exact a
 exact c
def afT{v:τ}(g:bj X v L)(h:bK L)(i:a4 (au X) X):aM θ 67 #[v] X (fc X (yB L) (tB L)):=by
 cases a:n_ L with
 |true=>obtain⟨l,m⟩:=ayR a;rw[l,m];have e:ai bF (TW n_ bo sT) [.sl 0 9 0 0 L.length ζ] [.row η L.length 9 (J (Y L)) 123] 1=γ (dY 1 [0] (bo (sT (eE L))) (Δ (0+L.length) L.length::(ml L++[n_ (eE L)]))):=rfl;rw[iy]at e;refine(nE apj [] g e ((m7 (dI h) _).trans (by rw[a];rfl)) rfl rfl i).mono ?_;rintro e n ⟨x,c,rfl,d,j,k,f⟩;exact vi d (j 0 _ rfl) (λb o=>k 0 b (fA 0) o) f
 |false=>rw[aoo a];have e:ai bF (TS n_) [.sl 0 9 0 0 L.length ζ] [.row η L.length 9 (J (Y L)) 123] 1=γ (dN [0] (Δ (0+L.length) L.length::(ml L++[!n_ (eE L)]))):=rfl;rw[iy]at e;refine(nE ape [] g e ((m7 (dI h) _).trans (by rw[a];rfl)) rfl rfl i).mono ?_;rintro e n ⟨x,c,rfl,d,j,k,f⟩;exact vj d f
def ayU(a:od L=ε):yM L=ε/\tM L=bo (sV L):=by
 have hM:L.map (ep (-1) 0 0 ε)=sV L:=re λw _=>(U7 w).symm
 rw[od,aP]at a;obtain⟨b,c⟩:=Co (sp:=(-1)) (tn:=0) (la:=0) (mir:=ε) (by rw[i5,a.1];rfl) hM a.2;exact⟨c,b⟩
def aos(a:od L=η):yM L=η:=by
 have hM:L.map (ep (-1) 0 0 ε)=sV L:=re λw _=>(U7 w).symm
 obtain⟨e,c⟩:=Cn (sp:=(-1)) (tn:=0) (la:=0) (mir:=ε) (L:=L) λb=>by rw[i5,aP]at b;rw[hM];rw[od,b.1,ex]at a;exact a
 exact c
def afW{v:τ}(g:bj X v L)(h:bK L)(i:a4 (au X) X):aM θ 68 #[v] X (fc X (yM L) (tM L)):=by
 cases a:od L with
 |true=>obtain⟨l,m⟩:=ayU a;rw[l,m];have e:ai bF (TY od bo sV) [.sl 0 9 0 0 L.length ζ] [.row η L.length 9 (J (Y L)) 123] 1=γ (dY 1 [0] (bo (sV (eE L))) (Δ (0+L.length) L.length::(ml L++[od (eE L)]))):=rfl;rw[iy]at e;refine(nE apm [] g e ((m7 (dI h) _).trans (by rw[a];rfl)) rfl rfl i).mono ?_;rintro e n ⟨x,c,rfl,d,j,k,f⟩;exact vi d (j 0 _ rfl) (λb o=>k 0 b (fA 0) o) f
 |false=>rw[aos a];have e:ai bF (TV od) [.sl 0 9 0 0 L.length ζ] [.row η L.length 9 (J (Y L)) 123] 1=γ (dN [0] (Δ (0+L.length) L.length::(ml L++[!od (eE L)]))):=rfl;rw[iy]at e;refine(nE aph [] g e ((m7 (dI h) _).trans (by rw[a];rfl)) rfl rfl i).mono ?_;rintro e n ⟨x,c,rfl,d,j,k,f⟩;exact vj d f
def ayV(c:oe A L=ε):yT A L=ε/\tT A L=bo (sW A L):=by
 have hM:aH A 0 23=ε->aO L=ε->L.map (ep 1 A 0 η)=sW A L:=λa b=>(re λw d=>(U9 a (z7 b d).1).symm)
 rw[oe,aP,aP]at c;obtain⟨a,b,e⟩:=c;obtain⟨f,g⟩:=Co (sp:=1) (tn:=A) (la:=0) (mir:=η) (by rw[i5,b,a];rfl) (hM a b) e;exact⟨g,f⟩
def aot(b:oe A L=η):yT A L=η:=by
 have hM:aH A 0 23=ε->aO L=ε->L.map (ep 1 A 0 η)=sW A L:=λc d=>(re λw e=>(U9 c (z7 d e).1).symm)
 obtain⟨h,f⟩:=Cn (sp:=1) (tn:=A) (la:=0) (mir:=η) (L:=L) λa=>by rw[i5,aP,aP]at a;rw[hM (a.2.1) a.1];rw[oe,a.2.1,a.1,ex,ex]at b;exact b
 exact f
def ayT(c:oc A L=ε):yL A L=ε/\tL A L=bo (sU A L):=by
 have hM:aH A 0 23=ε->aO L=ε->L.map (ep 1 0 A η)=sU A L:=λa b=>(re λw d=>(U6 a (z7 b d).1).symm)
 rw[oc,aP,aP]at c;obtain⟨a,b,e⟩:=c;obtain⟨f,g⟩:=Co (sp:=1) (tn:=0) (la:=A) (mir:=η) (by rw[i5,b,a];rfl) (hM a b) e;exact⟨g,f⟩
def aor(b:oc A L=η):yL A L=η:=by
 have hM:aH A 0 23=ε->aO L=ε->L.map (ep 1 0 A η)=sU A L:=λc d=>(re λw e=>(U6 c (z7 d e).1).symm)
 obtain⟨h,f⟩:=Cn (sp:=1) (tn:=0) (la:=A) (mir:=η) (L:=L) λa=>by rw[i5,aP,aP]at a;rw[hM (a.2.2) a.1];rw[oc,a.2.2,a.1,ex,ex]at b;exact b
 exact f
def ayS(a:oa A L=ε):yF A L=ε/\tF A L=bo (rj A L):=by
 have hM:L.map (ep A 0 0 η)=rj A L:=re λw _=>U5.symm
 rw[oa,aP,aP]at a;obtain⟨b,c,d⟩:=a;obtain⟨e,f⟩:=Co (sp:=A) (tn:=0) (la:=0) (mir:=η) (by rw[i5,c];rfl) hM d;exact⟨by rw[yF,b,f];rfl,by rw[tF,b];exact e⟩
def aoq(b:oa A L=η):yF A L=η:=by
 have hM:L.map (ep A 0 0 η)=rj A L:=re λw _=>U5.symm
 cases a:aH A (-20) 20 with
 |false=>rw[yF,a];rfl
 |true=>
  obtain⟨f,d⟩:=Cn (sp:=A) (tn:=0) (la:=0) (mir:=η) (L:=L) λc=>by rw[i5,aP]at c;rw[hM];rw[oa,a,c.1,ex,ex]at b;exact b
  rw[yF,a,d];rfl
def afZ{v:τ}(x:Z)(g:bj X v L)(h:bK L)(i:a4 (au X) X):aM θ 63 #[v,ι x] X (fc X (yT x L) (tT x L)):=by
 cases a:oe x L with
 |true=>obtain⟨l,m⟩:=ayV a;rw[l,m];have e:ai dl (vP oe bo sW) [.sl 0 9 0 0 L.length ζ,.v (ι x)] [.row η L.length 9 (J (Y L)) 123] 1=γ (dY 1 [0] (bo (sW x (eE L))) (Δ (0+L.length) L.length::(ml L++[oe x (eE L)]))):=rfl;rw[iy]at e;refine(nE apn [ι x] g e ((m7 (dI h) _).trans (by rw[a];rfl)) rfl rfl i).mono ?_;rintro e n ⟨x,c,rfl,d,j,k,f⟩;exact vi d (j 0 _ rfl) (λb o=>k 0 b (fA 0) o) f
 |false=>rw[aot a];have e:ai dl (vO oe) [.sl 0 9 0 0 L.length ζ,.v (ι x)] [.row η L.length 9 (J (Y L)) 123] 1=γ (dN [0] (Δ (0+L.length) L.length::(ml L++[!oe x (eE L)]))):=rfl;rw[iy]at e;refine(nE api [ι x] g e ((m7 (dI h) _).trans (by rw[a];rfl)) rfl rfl i).mono ?_;rintro e n ⟨x,c,rfl,d,j,k,f⟩;exact vj d f
def afV{v:τ}(x:Z)(g:bj X v L)(h:bK L)(i:a4 (au X) X):aM θ 65 #[v,ι x] X (fc X (yL x L) (tL x L)):=by
 cases a:oc x L with
 |true=>obtain⟨l,m⟩:=ayT a;rw[l,m];have e:ai dl (TX oc bo sU) [.sl 0 9 0 0 L.length ζ,.v (ι x)] [.row η L.length 9 (J (Y L)) 123] 1=γ (dY 1 [0] (bo (sU x (eE L))) (Δ (0+L.length) L.length::(ml L++[oc x (eE L)]))):=rfl;rw[iy]at e;refine(nE apl [ι x] g e ((m7 (dI h) _).trans (by rw[a];rfl)) rfl rfl i).mono ?_;rintro e n ⟨x,c,rfl,d,j,k,f⟩;exact vi d (j 0 _ rfl) (λb o=>k 0 b (fA 0) o) f
 |false=>rw[aor a];have e:ai dl (TU oc) [.sl 0 9 0 0 L.length ζ,.v (ι x)] [.row η L.length 9 (J (Y L)) 123] 1=γ (dN [0] (Δ (0+L.length) L.length::(ml L++[!oc x (eE L)]))):=rfl;rw[iy]at e;refine(nE apg [ι x] g e ((m7 (dI h) _).trans (by rw[a];rfl)) rfl rfl i).mono ?_;rintro e n ⟨x,c,rfl,d,j,k,f⟩;exact vj d f
def afU{v:τ}(x:Z)(g:bj X v L)(h:bK L)(i:a4 (au X) X):aM θ 66 #[v,ι x] X (fc X (yF x L) (tF x L)):=by
 cases a:oa x L with
 |true=>obtain⟨l,m⟩:=ayS a;rw[l,m];have e:ai dl (K3 oa bo rj) [.sl 0 9 0 0 L.length ζ,.v (ι x)] [.row η L.length 9 (J (Y L)) 123] 1=γ (dY 1 [0] (bo (rj x (eE L))) (Δ (0+L.length) L.length::(ml L++[oa x (eE L)]))):=rfl;rw[iy]at e;refine(nE apk [ι x] g e ((m7 (dI h) _).trans (by rw[a];rfl)) rfl rfl i).mono ?_;rintro e n ⟨x,c,rfl,d,j,k,f⟩;exact vi d (j 0 _ rfl) (λb o=>k 0 b (fA 0) o) f
 |false=>rw[aoq a];have e:ai dl (K2 oa) [.sl 0 9 0 0 L.length ζ,.v (ι x)] [.row η L.length 9 (J (Y L)) 123] 1=γ (dN [0] (Δ (0+L.length) L.length::(ml L++[!oa x (eE L)]))):=rfl;rw[iy]at e;refine(nE apf [ι x] g e ((m7 (dI h) _).trans (by rw[a];rfl)) rfl rfl i).mono ?_;rintro e n ⟨x,c,rfl,d,j,k,f⟩;exact vj d f
variable {j:Delta}
def Ck{S:Spec}(h:ak θ I S){v m:τ}{L d:E Wh}(A:bj X v L)(n:bj X m d)(B:S [.sl 0 9 0 0 L.length ζ,.sl 1 9 0 0 d.length ζ] [.row η L.length 9 (J (Y L)) 123,.row η d.length 9 (J (Y d)) 123] 2=γ j)(C:aJ j.aw=ε)(D:j.put=[])(G:j.rd=[0,1])(H:a4 (au X) X):aM θ I #[v,m] X λe w'=>∃x c,e=.returned x/\VR c j.val x/\(∀(a:O) b,j.new[a]?=γ b->BR c (2+a) b w')/\(∀(a:O) b,a<j.new.length->c (2+a)=γ b->X.heap.size<=b.n/\b.n<w'.heap.size)/\Fr (au X) X w':=by
 obtain⟨g,M,q,r⟩:=A.lt;obtain⟨l,N,s,t⟩:=n.lt;have u:(λi:O=>if i=0 then g 0 else if i=1 then l 0 else ζ:Nu) 0=g 0:=rfl;have y:(λi:O=>if i=0 then g 0 else if i=1 then l 0 else ζ:Nu) 1=l 0:=rfl;have P:∀i b,(λi:O=>if i=0 then g 0 else if i=1 then l 0 else ζ:Nu) i=γ b->i<2/\b.n<X.heap.size:=λi b k=>by
  simp only at k;split at k
  ·exact⟨by omega,(M _ _ k).2⟩
  ·split at k
   ·exact⟨by omega,(N _ _ k).2⟩
   ·cases k
 generalize(λi:O=>if i=0 then g 0 else if i=1 then l 0 else ζ:Nu)=o at*;refine h.down (ν:=o) B C D (vals:=[v,m]) ⟨?_,?_,trivial⟩ (λi p=>?_) P H
 ·simp only[VR]at q⊢
  rw[u];exact q
 ·simp only[VR]at s⊢
  rw[y];exact s
 ·rw[G]at p
  simp only[dE,iX,oC]at p;rcases p with rfl|rfl
  ·show BR o 0 (.row η L.length 9 (J (Y L)) 123) X
   unfold BR at r⊢;rw[u];exact r
  ·show BR o 1 (.row η d.length 9 (J (Y d)) 123) X
   unfold BR at t⊢;rw[y];exact t
def D0{A B:E Wh}(g:A.length<=12)(h:B.length<=12)(ob:E ξ):aJ (Δ (0+A.length) A.length::(Δ (0+B.length) B.length::([aF A.length (λq=>J (Y A) (0+q)),aF B.length (λq=>J (Y B) (0+q)),κ (A.length<=2^38),κ (B.length<=2^38)]++ob)))=aJ ob:=by
 have a:Δ (0+A.length) A.length=ε:=by rw[bl];omega
 have b:Δ (0+B.length) B.length=ε:=by rw[bl];omega
 have c:aF A.length (λq=>J (Y A) (0+q))=ε:=by rw[cz];exact dn _ _
 have d:aF B.length (λq=>J (Y B) (0+q))=ε:=by rw[cz];exact dn _ _
 have e:κ (A.length<=2^38)=ε:=dc;have f:κ (B.length<=2^38)=ε:=dc;rw[a,b,c,d,e,f];rfl
def afX{v i:τ}{A B:E Wh}(j:bj X v A)(a:bj X i B)(k:bK A)(c:bK B)(l:a4 (au X) X):aM θ 60 #[v,i] X (fc X (gZ A B) (iT A B)):=by
 cases d:gZ A B with
 |true=>rw[show iT A B=AP A B from abN d];have e:ai k0 (yJ gZ AP) [.sl 0 9 0 0 A.length ζ,.sl 1 9 0 0 B.length ζ] [.row η A.length 9 (J (Y A)) 123,.row η B.length 9 (J (Y B)) 123] 2=γ (dY 2 [0,1] (AP (eE A) (eE B)) (Δ (0+A.length) A.length::(Δ (0+B.length) B.length::([aF A.length (λq=>J (Y A) (0+q)),aF B.length (λq=>J (Y B) (0+q)),κ (A.length<=2^38),κ (B.length<=2^38)]++[gZ (eE A) (eE B)])))):=rfl;rw[iy,iy]at e;refine(Ck aqA j a e ((D0 (dI k) (dI c) _).trans (by rw[d];rfl)) rfl rfl l).mono ?_;rintro e o ⟨x,f,rfl,g,m,n,h⟩;exact vi g (m 0 _ rfl) (λb p=>n 0 b (fA 0) p) h
 |false=>have e:ai k0 (yG gZ) [.sl 0 9 0 0 A.length ζ,.sl 1 9 0 0 B.length ζ] [.row η A.length 9 (J (Y A)) 123,.row η B.length 9 (J (Y B)) 123] 2=γ (dN [0,1] (Δ (0+A.length) A.length::(Δ (0+B.length) B.length::([aF A.length (λq=>J (Y A) (0+q)),aF B.length (λq=>J (Y B) (0+q)),κ (A.length<=2^38),κ (B.length<=2^38)]++[!gZ (eE A) (eE B)])))):=rfl;rw[iy,iy]at e;refine(Ck aqy j a e ((D0 (dI k) (dI c) _).trans (by rw[d];rfl)) rfl rfl l).mono ?_;rintro e o ⟨x,f,rfl,g,m,n,h⟩;exact vj g h
def afY{v i:τ}{A B:E Wh}(j:bj X v A)(a:bj X i B)(k:bK A)(c:bK B)(l:a4 (au X) X):aM θ 61 #[v,i] X (fc X (fC A B) (iU A B)):=by
 cases d:fC A B with
 |true=>rw[show iU A B=xL A B from ach d];have e:ai k0 (yJ fC xL) [.sl 0 9 0 0 A.length ζ,.sl 1 9 0 0 B.length ζ] [.row η A.length 9 (J (Y A)) 123,.row η B.length 9 (J (Y B)) 123] 2=γ (dY 2 [0,1] (xL (eE A) (eE B)) (Δ (0+A.length) A.length::(Δ (0+B.length) B.length::([aF A.length (λq=>J (Y A) (0+q)),aF B.length (λq=>J (Y B) (0+q)),κ (A.length<=2^38),κ (B.length<=2^38)]++[fC (eE A) (eE B)])))):=rfl;rw[iy,iy]at e;refine(Ck aqK j a e ((D0 (dI k) (dI c) _).trans (by rw[d];rfl)) rfl rfl l).mono ?_;rintro e o ⟨x,f,rfl,g,m,n,h⟩;exact vi g (m 0 _ rfl) (λb p=>n 0 b (fA 0) p) h
 |false=>have e:ai k0 (yG fC) [.sl 0 9 0 0 A.length ζ,.sl 1 9 0 0 B.length ζ] [.row η A.length 9 (J (Y A)) 123,.row η B.length 9 (J (Y B)) 123] 2=γ (dN [0,1] (Δ (0+A.length) A.length::(Δ (0+B.length) B.length::([aF A.length (λq=>J (Y A) (0+q)),aF B.length (λq=>J (Y B) (0+q)),κ (A.length<=2^38),κ (B.length<=2^38)]++[!fC (eE A) (eE B)])))):=rfl;rw[iy,iy]at e;refine(Ck aqI j a e ((D0 (dI k) (dI c) _).trans (by rw[d];rfl)) rfl rfl l).mono ?_;rintro e o ⟨x,f,rfl,g,m,n,h⟩;exact vj g h
def sj{sp tn la:Z}(a: -20<=sp/\sp<=20)(h:hP sp tn la q L=ε):bK (ga sp tn la q L):=(aiA a h).2.2.2.1
def fs(w:ψ):Fr (au w) w w.drew:=⟨rfl,rfl,rfl,aQ _,λ_ _ _=>rfl⟩
def y6{w d:ψ}{D j:O}{x:τ}(h:w.cell? ⟨D,j,ζ⟩=γ x)(f:Fr (au w) w d):d.cell? ⟨D,j,ζ⟩=γ x:=by
 have b:D<w.heap.size:=by
  rcases om D w.heap.size with c|c
  ·exact c
  ·unfold oA at h
   simp only at h;rw[JL c]at h;cases h
 exact(oB (a:=⟨D,j,ζ⟩) (f.block D b (gi.2 b))).trans h
def abZ(h:yF A L=ε):bK (tF A L):=by unfold yF at h;rw[aP]at h;have a:=cd.1 h.1;unfold tF;rw[h.1];exact sj (by omega) h.2
def E2(L:E Wh)(r:E υ):χ (E Wh×E υ):=bif cS 1 r&&yT (aN r 0) L then γ (tT (aN r 0) L,[111,107])else ζ
def ahq:jC 32 E2:=λ{D L} s {w} m C G S=>by
 have mixed:=mixed;obtain⟨p,n,c,H,I⟩:=id m;have M:w.drew.cell? ⟨D,0,ζ⟩=γ (.slice p n c):=by rw[hO w.drew D 0 #[.slice p n c] _ (0,0) H];rfl
 have d:=y4 s 1 (by omega) w.drew (C.nw.fw (fs w)) (by omega);have U:=λj (f:Fr (au w.drew) w.drew j)=>dj.die (L:=L) m ((fs w).trans f)
 have o:=λ(x:Z) j (f:Fr (au w.drew) w.drew j)=>afZ x (I.below ((fs w).trans f)) G ((C.nw.fw ((fs w).trans f)))
 have r:∀(x:Z)(j u:ψ)(v:τ),Fr (au w.drew) w.drew j->Fr (au j) j u->(yT x L=ε->bj u v (tT x L))->aM θ 58 #[.pointer (γ ⟨D,0,ζ⟩),v,.bool (yT x L)] u (dj D L (bif yT x L then γ (tT x L,[111,107])else ζ) w):=λx j u v f g h=>(uk (m.fr (dr ((fs w).trans f) g)) h (λh=>sj (by omega) h)).mono λe l h=>h.after (dr ((fs w).trans f) g)
 unfold E2;cases y:cS 1 s.data.toList with
 |false=>
  rw[y]at d;rw[l5,be];clear o r m I G S H y C
  go_enter func32,ntmps32
  go_wp2
  rename_i K0 z;refine qn [6,7,8] (λl=>l.cell? ⟨D,0,ζ⟩=γ (.slice p n c)) (by kernel_rfl) ?_;refine cp 0 (.pointer (γ ⟨D,0,ζ⟩)) ?_;refine cp 5 (.string s) ?_;refine cp 1 (.pointer (γ ⟨D,0,ζ⟩)) ?_;refine cp 2 (.pointer (γ ⟨D,0,ζ⟩)) ?_;refine cp 3 (.pointer (γ ⟨D,0,ζ⟩)) ?_;refine qm [9,10,11,12,13] (i:=4) (v:=.slice p n c) rfl rfl (by kernel_rfl) (by kernel_rfl) (by kernel_rfl) (λ_ _ _ h=>h) (lr ⟨by rfl,λW N=>by simp[go_sem,dw,N]⟩) M ?_;simp only[jx,mF];refine gD (k:=6) (by kernel_rfl) rfl rfl (λa b=>?_);go_simp;refine d.mono ?_;rintro e j ⟨P,A⟩;obtain rfl:=P;exact⟨rfl,U _ A⟩
 |true=>
  have X:=λ(l:ψ)(g:O) h=>Pp (w:=l) (g:=g) (t:=3) y h 0 (by omega)
  rw[y]at d;rw[ex];generalize aN s.data.toList 0=x at*
  replace o:=o x
  replace r:=r x
  generalize yT x L=q at*;generalize tT x L=T at*;clear m I G S H y C U
  go_enter func32,ntmps32
  go_wp2
  rename_i K0 z;refine qn [6,7,8] (λl=>l.cell? ⟨D,0,ζ⟩=γ (.slice p n c)) (by kernel_rfl) ?_;refine cp 0 (.pointer (γ ⟨D,0,ζ⟩)) ?_;refine cp 5 (.string s) ?_;refine cp 1 (.pointer (γ ⟨D,0,ζ⟩)) ?_;refine cp 2 (.pointer (γ ⟨D,0,ζ⟩)) ?_;refine cp 3 (.pointer (γ ⟨D,0,ζ⟩)) ?_;refine qm [9,10,11,12,13] (i:=4) (v:=.slice p n c) rfl rfl (by kernel_rfl) (by kernel_rfl) (by kernel_rfl) (λ_ _ _ h=>h) (lr ⟨by rfl,λW N=>by simp[go_sem,dw,N]⟩) M ?_;simp only[jx,mF];refine gD (k:=6) (by kernel_rfl) rfl rfl (λa b=>?_);go_simp;refine d.mono ?_;rintro e j ⟨⟨g,hg1,P,B⟩,A⟩;obtain rfl:=P;have c1:=X _ _ B;have Q:=y6 M A;clear X B d;refine b.out _ _ (λ_=>Q) ?_;clear b a;refine gD (k:=7) (by kernel_rfl) rfl rfl (λa b=>?_);go_simp;refine b.out _ _ (λ_=>Q) ?_;clear b a;refine gD (k:=8) (by kernel_rfl) rfl rfl (λa b=>?_);go_simp;refine b.out _ _ (λ_=>Q) ?_;clear b a;refine gD (k:=9) (by kernel_rfl) rfl rfl (λa b=>?_);go_simp;refine(o _ A).mono ?_;rintro e u ⟨v,rfl,h2,f2⟩;refine b.out _ _ (λh=>aR h (by decide)) ?_;clear b a o;refine cp 10 v ?_;refine cp 11 (.bool q) ?_;simp only[jx,mF];refine gD (k:=12) (by kernel_rfl) rfl rfl (λa b=>?_);go_simp;refine(r _ _ v A f2 h2).mono ?_;rintro e w3 h3;cases q with
  |false=>obtain⟨rfl,R⟩:=h3.rp;exact⟨rfl,R⟩
  |true=>
   obtain⟨rfl,R⟩:=h3.qj;refine b.out _ _ (λh=>aR h (by decide)) ?_;clear b a r;refine cp 13 (.string uP) ?_;refine BX (by kernel_rfl) ?_;go_simp;apply z
   go_wp2
   go_ret
   exact R
def C9(L:E Wh)(r:E υ):χ (E Wh×E υ):=bif cS 1 r&&yL (aN r 0) L then γ (tL (aN r 0) L,[111,107])else ζ
def ahf:jC 33 C9:=λ{D L} s {w} m C G S=>by
 have mixed:=mixed;obtain⟨p,n,c,H,I⟩:=id m;have M:w.drew.cell? ⟨D,0,ζ⟩=γ (.slice p n c):=by rw[hO w.drew D 0 #[.slice p n c] _ (0,0) H];rfl
 have d:=y4 s 1 (by omega) w.drew (C.nw.fw (fs w)) (by omega);have U:=λj (f:Fr (au w.drew) w.drew j)=>dj.die (L:=L) m ((fs w).trans f)
 have o:=λ(x:Z) j (f:Fr (au w.drew) w.drew j)=>afV x (I.below ((fs w).trans f)) G ((C.nw.fw ((fs w).trans f)))
 have r:∀(x:Z)(j u:ψ)(v:τ),Fr (au w.drew) w.drew j->Fr (au j) j u->(yL x L=ε->bj u v (tL x L))->aM θ 58 #[.pointer (γ ⟨D,0,ζ⟩),v,.bool (yL x L)] u (dj D L (bif yL x L then γ (tL x L,[111,107])else ζ) w):=λx j u v f g h=>(uk (m.fr (dr ((fs w).trans f) g)) h (λh=>sj (by omega) h)).mono λe l h=>h.after (dr ((fs w).trans f) g)
 unfold C9;cases y:cS 1 s.data.toList with
 |false=>
  rw[y]at d;rw[l5,be];clear o r m I G S H y C
  go_enter func33,ntmps33
  go_wp2
  rename_i K0 z;refine qn [6,7,8] (λl=>l.cell? ⟨D,0,ζ⟩=γ (.slice p n c)) (by kernel_rfl) ?_;refine cp 0 (.pointer (γ ⟨D,0,ζ⟩)) ?_;refine cp 5 (.string s) ?_;refine cp 1 (.pointer (γ ⟨D,0,ζ⟩)) ?_;refine cp 2 (.pointer (γ ⟨D,0,ζ⟩)) ?_;refine cp 3 (.pointer (γ ⟨D,0,ζ⟩)) ?_;refine qm [9,10,11,12,13] (i:=4) (v:=.slice p n c) rfl rfl (by kernel_rfl) (by kernel_rfl) (by kernel_rfl) (λ_ _ _ h=>h) (lr ⟨by rfl,λW N=>by simp[go_sem,dw,N]⟩) M ?_;simp only[jx,mF];refine gD (k:=6) (by kernel_rfl) rfl rfl (λa b=>?_);go_simp;refine d.mono ?_;rintro e j ⟨P,A⟩;obtain rfl:=P;exact⟨rfl,U _ A⟩
 |true=>
  have X:=λ(l:ψ)(g:O) h=>Pp (w:=l) (g:=g) (t:=3) y h 0 (by omega)
  rw[y]at d;rw[ex];generalize aN s.data.toList 0=x at*
  replace o:=o x
  replace r:=r x
  generalize yL x L=q at*;generalize tL x L=T at*;clear m I G S H y C U
  go_enter func33,ntmps33
  go_wp2
  rename_i K0 z;refine qn [6,7,8] (λl=>l.cell? ⟨D,0,ζ⟩=γ (.slice p n c)) (by kernel_rfl) ?_;refine cp 0 (.pointer (γ ⟨D,0,ζ⟩)) ?_;refine cp 5 (.string s) ?_;refine cp 1 (.pointer (γ ⟨D,0,ζ⟩)) ?_;refine cp 2 (.pointer (γ ⟨D,0,ζ⟩)) ?_;refine cp 3 (.pointer (γ ⟨D,0,ζ⟩)) ?_;refine qm [9,10,11,12,13] (i:=4) (v:=.slice p n c) rfl rfl (by kernel_rfl) (by kernel_rfl) (by kernel_rfl) (λ_ _ _ h=>h) (lr ⟨by rfl,λW N=>by simp[go_sem,dw,N]⟩) M ?_;simp only[jx,mF];refine gD (k:=6) (by kernel_rfl) rfl rfl (λa b=>?_);go_simp;refine d.mono ?_;rintro e j ⟨⟨g,hg1,P,B⟩,A⟩;obtain rfl:=P;have c1:=X _ _ B;have Q:=y6 M A;clear X B d;refine b.out _ _ (λ_=>Q) ?_;clear b a;refine gD (k:=7) (by kernel_rfl) rfl rfl (λa b=>?_);go_simp;refine b.out _ _ (λ_=>Q) ?_;clear b a;refine gD (k:=8) (by kernel_rfl) rfl rfl (λa b=>?_);go_simp;refine b.out _ _ (λ_=>Q) ?_;clear b a;refine gD (k:=9) (by kernel_rfl) rfl rfl (λa b=>?_);go_simp;refine(o _ A).mono ?_;rintro e u ⟨v,rfl,h2,f2⟩;refine b.out _ _ (λh=>aR h (by decide)) ?_;clear b a o;refine cp 10 v ?_;refine cp 11 (.bool q) ?_;simp only[jx,mF];refine gD (k:=12) (by kernel_rfl) rfl rfl (λa b=>?_);go_simp;refine(r _ _ v A f2 h2).mono ?_;rintro e w3 h3;cases q with
  |false=>obtain⟨rfl,R⟩:=h3.rp;exact⟨rfl,R⟩
  |true=>
   obtain⟨rfl,R⟩:=h3.qj;refine b.out _ _ (λh=>aR h (by decide)) ?_;clear b a r;refine cp 13 (.string uP) ?_;refine BX (by kernel_rfl) ?_;go_simp;apply z
   go_wp2
   go_ret
   exact R
def CF(L:E Wh)(r:E υ):χ (E Wh×E υ):=bif cS 1 r&&yF (aN r 0) L then γ (tF (aN r 0) L,[111,107])else ζ
def aha:jC 34 CF:=λ{D L} s {w} m C G S=>by
 have mixed:=mixed;obtain⟨p,n,c,H,I⟩:=id m;have M:w.drew.cell? ⟨D,0,ζ⟩=γ (.slice p n c):=by rw[hO w.drew D 0 #[.slice p n c] _ (0,0) H];rfl
 have d:=y4 s 1 (by omega) w.drew (C.nw.fw (fs w)) (by omega);have U:=λj (f:Fr (au w.drew) w.drew j)=>dj.die (L:=L) m ((fs w).trans f)
 have o:=λ(x:Z) j (f:Fr (au w.drew) w.drew j)=>afU x (I.below ((fs w).trans f)) G ((C.nw.fw ((fs w).trans f)))
 have r:∀(x:Z)(j u:ψ)(v:τ),Fr (au w.drew) w.drew j->Fr (au j) j u->(yF x L=ε->bj u v (tF x L))->aM θ 58 #[.pointer (γ ⟨D,0,ζ⟩),v,.bool (yF x L)] u (dj D L (bif yF x L then γ (tF x L,[111,107])else ζ) w):=λx j u v f g h=>(uk (m.fr (dr ((fs w).trans f) g)) h (λh=>abZ h)).mono λe l h=>h.after (dr ((fs w).trans f) g)
 unfold CF;cases y:cS 1 s.data.toList with
 |false=>
  rw[y]at d;rw[l5,be];clear o r m I G S H y C
  go_enter func34,ntmps34
  go_wp2
  rename_i K0 z;refine qn [6,7,8] (λl=>l.cell? ⟨D,0,ζ⟩=γ (.slice p n c)) (by kernel_rfl) ?_;refine cp 0 (.pointer (γ ⟨D,0,ζ⟩)) ?_;refine cp 5 (.string s) ?_;refine cp 1 (.pointer (γ ⟨D,0,ζ⟩)) ?_;refine cp 2 (.pointer (γ ⟨D,0,ζ⟩)) ?_;refine cp 3 (.pointer (γ ⟨D,0,ζ⟩)) ?_;refine qm [9,10,11,12,13] (i:=4) (v:=.slice p n c) rfl rfl (by kernel_rfl) (by kernel_rfl) (by kernel_rfl) (λ_ _ _ h=>h) (lr ⟨by rfl,λW N=>by simp[go_sem,dw,N]⟩) M ?_;simp only[jx,mF];refine gD (k:=6) (by kernel_rfl) rfl rfl (λa b=>?_);go_simp;refine d.mono ?_;rintro e j ⟨P,A⟩;obtain rfl:=P;exact⟨rfl,U _ A⟩
 |true=>
  have X:=λ(l:ψ)(g:O) h=>Pp (w:=l) (g:=g) (t:=3) y h 0 (by omega)
  rw[y]at d;rw[ex];generalize aN s.data.toList 0=x at*
  replace o:=o x
  replace r:=r x
  generalize yF x L=q at*;generalize tF x L=T at*;clear m I G S H y C U
  go_enter func34,ntmps34
  go_wp2
  rename_i K0 z;refine qn [6,7,8] (λl=>l.cell? ⟨D,0,ζ⟩=γ (.slice p n c)) (by kernel_rfl) ?_;refine cp 0 (.pointer (γ ⟨D,0,ζ⟩)) ?_;refine cp 5 (.string s) ?_;refine cp 1 (.pointer (γ ⟨D,0,ζ⟩)) ?_;refine cp 2 (.pointer (γ ⟨D,0,ζ⟩)) ?_;refine cp 3 (.pointer (γ ⟨D,0,ζ⟩)) ?_;refine qm [9,10,11,12,13] (i:=4) (v:=.slice p n c) rfl rfl (by kernel_rfl) (by kernel_rfl) (by kernel_rfl) (λ_ _ _ h=>h) (lr ⟨by rfl,λW N=>by simp[go_sem,dw,N]⟩) M ?_;simp only[jx,mF];refine gD (k:=6) (by kernel_rfl) rfl rfl (λa b=>?_);go_simp;refine d.mono ?_;rintro e j ⟨⟨g,hg1,P,B⟩,A⟩;obtain rfl:=P;have c1:=X _ _ B;have Q:=y6 M A;clear X B d;refine b.out _ _ (λ_=>Q) ?_;clear b a;refine gD (k:=7) (by kernel_rfl) rfl rfl (λa b=>?_);go_simp;refine b.out _ _ (λ_=>Q) ?_;clear b a;refine gD (k:=8) (by kernel_rfl) rfl rfl (λa b=>?_);go_simp;refine b.out _ _ (λ_=>Q) ?_;clear b a;refine gD (k:=9) (by kernel_rfl) rfl rfl (λa b=>?_);go_simp;refine(o _ A).mono ?_;rintro e u ⟨v,rfl,h2,f2⟩;refine b.out _ _ (λh=>aR h (by decide)) ?_;clear b a o;refine cp 10 v ?_;refine cp 11 (.bool q) ?_;simp only[jx,mF];refine gD (k:=12) (by kernel_rfl) rfl rfl (λa b=>?_);go_simp;refine(r _ _ v A f2 h2).mono ?_;rintro e w3 h3;cases q with
  |false=>obtain⟨rfl,R⟩:=h3.rp;exact⟨rfl,R⟩
  |true=>
   obtain⟨rfl,R⟩:=h3.qj;refine b.out _ _ (λh=>aR h (by decide)) ?_;clear b a r;refine cp 13 (.string uP) ?_;refine BX (by kernel_rfl) ?_;go_simp;apply z
   go_wp2
   go_ret
   exact R
end
end Go.Proofs.YtdadmpgfcfkidaaGreatDoor
