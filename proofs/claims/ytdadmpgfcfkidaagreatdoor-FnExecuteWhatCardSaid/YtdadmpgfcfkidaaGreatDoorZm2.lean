/- Part 2 of the proof of FnExecuteNoneCard, FnExecuteTwiceCard, FnExecuteWhatCard. -/
import Derived.Test.YtdadmpgfcfkidaaGreatDoorZm1
import Derived.RangeFuncNested
import Derived.RangeFuncBound
import Derived.RangeFuncCalls
import Derived.RangeFuncLeaves
import Derived.LoopNIn
import Derived.OrdersIn
import Derived.TacticsIn
set_option maxRecDepth 100000
set_option maxHeartbeats 8000000
set_option linter.defProp false
set_option linter.unusedVariables false
set_option linter.unusedSimpArgs false
open Go renaming Act→a8,Code→bc,Deferred→Bc,Exit→e9,Func→cb,Oper→a_,Operand→cP,Program→bS,SeqStopsK→yj,TypeId→ae,Value→τ,World→ψ,callFunc→g_,execOp→dw
open _root_ renaming Array→aX,Bool→ξ,ByteArray→ρ,Int→Z,List→E,Nat→O,Option→χ,UInt8→υ,absurd→aR
open Array renaming getD→rM,mk→ap,replicate→tx
open BitVec renaming ofInt→mB,toNat→JO
open ByteArray renaming empty→oh,extract→qp,mk→ah,size→ay
open Classical renaming choose→mC
open Go.Code renaming rangeFunc→adj
open Go.Deferred renaming ofValue→Fb
open Go.Exit renaming inBlock→pr,noGoto→adm
open Go.FloatKind renaming f32→bR
open Ieee.Format renaming mul→aza,nearest→adq,read→RW,word→adr
open Ieee.Toward renaming cut→RX,even→JW
open Ieee renaming signed→iV
open Int renaming tdiv→eh,toNat→aT
open Go.IntKind renaming i64→aY,u32→R5,wrap→aa
open Go.Lib renaming joinTail→mD
open List.Pairwise renaming filter→adM,nil→yb
open List renaming length→ce,range→dK,zipWith→ad3
open Nat renaming beq→Ψ,ble→Δ,blt→ω,gcd→Bq,reduceAdd→Bt,strongRecOn→Fy
open Go.Oper renaming wp→ot
open Go.Region renaming binds→mH,ready→mI
open Go.Proofs.Tryz renaming f10→SE,f103→SF,f12→SH,f13→SJ,f132→SL,f14→SM,f154→SO,f23→S0,f53→BC,f6→BD,f61→nr,f9→S8,f92→pD,prog→θ
open Go.Value renaming slice→gj,string→b9
open Go.World renaming putObj_heap_other→Kt,putObj_heap_same→azF
open Decidable renaming decide→κ
open Bool renaming false→η,true→ε
open Option renaming none→ζ,some→γ
open Go.Proofs.Tryz
namespace Go.Proofs.YtdadmpgfcfkidaaGreatDoor
noncomputable section
open Go.RowKit
def JL:=@Array.getElem?_eq_none
def RO:=@Array.toArray_toList
def gJ:=@Go.RowKit.Below.heap_alloc
def JP:=@Bool.false_or
def og:=@Bool.not_eq_false'
def Bb:=@Bool.not_true
def tA:=@ByteArray.size_extract
def rQ:=@Int.eq_ofNat_of_zero_le
def R1:=@Int.le_refl
def Fg:=@Int.mul_nonneg
def adA:=@Int.natAbs_tmod
def adX:=@List.mem_filter
def Sr:=@Nat.beq_eq
def ad7:=@Nat.gcd_zero_left
def ad_:=@Nat.min_eq_right
def Fx:=@Nat.mul_lt_mul_of_pos_right
def km:=@Nat.pow_add
def pB:=@Nat.pow_le_pow_right
def Bs:=@Nat.pow_zero
def vx:=@Nat.shiftLeft_eq
def Ss:=@Nat.succ_mul
def oo:=@Nat.two_pow_pos
def oz:=@Go.World.alloc_heap_new
def fJ:=@Go.World.grownBy_alloc
def TE:=@Go.callsIn_wide
def Kx:=@Go.grownBy_putObj'
def BG:=@Go.wpIn_block
def TK:=@Go.wpIn_exit
def mM:=@Go.wpIn_mono
def jQ:=@Go.wpIn_seq
def KD:=@Go.wpIn_skip
def vK:=@Go.wpOpsIn_cons
def p8(n:Z):ξ:=κ (-9223372036854775807<=n/\n<=9223372036854775807)
def akX:aK θ (CM bE p8):=az ba z8
def avo(c d e f g h i j k:Z):aI (aI (aI (aI (aI (aI (aI (aI (aI (aI (aI (aI (aI (aI (aI (aI (bE c) (ah (ap [58]))) (bE d)) (ah (ap [44]))) (bE e)) (ah (ap [44]))) (bE f)) (ah (ap [44]))) (bE g)) (ah (ap [44]))) (bE h)) (ah (ap [44]))) (bE i)) (ah (ap [44]))) (bE j)) (ah (ap [44]))) (bE k)=cU ⟨c,⟨d,e,f,g,h,i,j,k⟩⟩:=by have a:(ah (ap [58]))=⟨[(58:υ)].toArray⟩:=rfl;have b:(ah (ap [44]))=⟨[(44:υ)].toArray⟩:=rfl;simp only[bE,a,b,wa,cU,ng,tC];simp[mD]
def aqD:ak θ 179 (aW (MQ cU e7)):=by
 refine et (n:=200) akX func179 rfl λr x s a p=>?_
 unfold MQ at a;split at a
 ·rename_i b c d e f g i j k
  simp only[aC,cI]at a;obtain⟨rfl,rfl⟩:=a;have q:e7 ⟨b,⟨c,d,e,f,g,i,j,k⟩⟩=ε:=by simpa[aJ]using p
  have o:=D8 q;simp only[J2,iX,Kv,Ky,aj]at o;obtain⟨⟨t,u⟩,⟨v,w⟩,⟨y,z⟩,⟨A,B⟩,⟨C,D⟩,⟨G,H⟩,⟨I,L⟩,⟨M,N⟩,⟨P,Q⟩⟩:=o;have R:=nD (n:=b) (by omega) (by omega);have S:=nD (n:=c) (by omega) (by omega);have T:=nD (n:=d) (by omega) (by omega);have U:=nD (n:=e) (by omega) (by omega);have W:=nD (n:=f) (by omega) (by omega);have X:=nD (n:=g) (by omega) (by omega);have q6:=nD (n:=i) (by omega) (by omega);have q7:=nD (n:=j) (by omega) (by omega);have q8:=nD (n:=k) (by omega) (by omega);have l:(ah (ap [58])).size=1:=rfl;have m:(ah (ap [44])).size=1:=rfl
  suffices h:aE _ (oI (.string (cU ⟨b,⟨c,d,e,f,g,i,j,k⟩⟩)))from⟨h.out⟩
  show aE (ad θ (CM bE p8) K 200 f179 [.v (.agg ⟨[ι b,ι c,ι d,ι e,ι f,ι g,ι i,ι j,ι k]⟩)] [] dR) _
  rw[axI];refine aq ?_ (F ⟨_,rfl,?_⟩)
  ·simp only[Ω,ax,aj,bl,gO,l,m,p8,aL]
   omega
  ·rw[avo]
   rfl
 ·cases a
def W9:aK θ (HX cU e7):=az ba aqD
def lw(f:Θ)(i:O):ρ:=⟨(l4 (V f i)).toArray⟩
def avI(L:E Wh)(w:Wh)(h:L≠ []):l4 (L++[w])=l4 L++[32]++ng w:=by
 cases L with
 |nil=>exact aR rfl h
 |cons x L=>simp only[l4,lq,eG,kP,kQ,tC];simp[mD]
def ae_(f:Θ)(i:O)(h:0<i):aI (aI (lw f i) (ah (ap [32]))) (cU (bh (f i)))=lw f (i+1):=by have a:(ah (ap [32]))=⟨[(32:υ)].toArray⟩:=rfl;rw[lw,lw,a,cU,wa,wa,iQ,avI _ _ (λe=>by have:=tN ce e;rw[cR]at this;simp at this;omega)]
def ae8(f:Θ):aI (lw f 0) (cU (bh (f 0)))=lw f 1:=by rw[lw,lw,cU,wa,iQ];have a:l4 (V f 0)=[]:=rfl;rw[a];simp[l4,V,Lib.join_one]
variable {z:O->O->Z}
def ae9{m i:O}(a:∀w∈V z m,e7 w=ε)(d:i<=m):(lw z i).size<=i*201:=by
 rw[lw,sS];have:=Jw (L:=V z i) λw b=>by obtain⟨j,c,rfl⟩:=gh.1 b;exact a _ (gh.2 ⟨j,np.2 (by have:=np.1 c;omega),rfl⟩)
 rwa [cR]at this
def avc(m:O)(f:Θ)(t:ae)(l:m<=12)(c:∀w∈V f m,e7 w=ε):ck θ 1 (.block 0 (.loop (a5 0 SF))) (bm 26 (DI .normal) 1 (EP m ⟨#[]⟩ 0) (wG m f t) (λa=>a .normal (ar 0 26 [(3,.v (.string (lw f m)))]) (wG m f t))):=by
 refine dQ W9 (n:=100) (m:=1) (lv:=DI) (λi=>EP m (lw f i) i) (λ_=>wG m f t) (λ_=>True) m (λ_=>K) (du rfl rfl rfl) (aQ _) trivial λa Q j i p k=>⟨cN _ _ _,?_⟩
 rw[asX];refine aD (λd=>?_) λd=>?_
 ·have d:=aV d
  have b:i<m:=by omega
  have g:e7 (bh (f i))=ε:=c _ (kj (o4 f b));have q:=JK g;have r:=ae9 c (i:=i) (by omega);have h:(ah (ap [32])).size=1:=rfl;rw[cV,bH,bz (x:=(i:Z)+1)];show aE (cond _ (Ξ [_,_,_,e7 (bh (f i)),_] _) (Ξ [_,_,e7 (bh (f i)),_] _)) _
  refine aD (λe=>?_) λe=>?_
  ·have e:=aV e
   refine aq ?_ (F ⟨i+1,⟨rfl,b,trivial⟩,?_,Φ.refl _⟩)
   ·show aJ [_,_,_,_,Δ (_+(cU (bh (f i))).size) _]=ε
    simp only[Ω,ax,aj,aL,bl,gO,h,g,bv];omega
   ·show[_,AV.v (.string (aI (aI (lw f i) _) (cU (bh (f i))))),_]=_
    rw[ae_ f i (by omega)];rfl
  ·have e:=cu e
   have:i=0:=by omega
   subst this;refine aq ?_ (F ⟨0+1,⟨rfl,b,trivial⟩,?_,Φ.refl _⟩)
   ·show aJ [_,_,_,Δ (_+(cU (bh (f 0))).size) _]=ε
    simp only[Ω,ax,aj,aL,bl,g,bv];omega
   ·show[_,AV.v (.string (aI (lw f 0) (cU (bh (f 0))))),_]=_
    rw[ae8 f];rfl
 ·have d:=cu d
  have:i=m:=by omega
  subst this;refine F ⟨_,Φ.refl _,?_⟩;rw[aU rfl];exact j
def aqE:ak θ 103 (ai bF (vU dF aO)):=by
 refine ca W9 func103 rfl λl o c f=>?_
 unfold vU at c;split at c
 ·rename_i m g
  cases c;simp only[Ω]at f;obtain⟨d,h,_⟩:=f;have e:=Pv h;have i:=kF h;rw[cR]at i;have k:(V (ο g) m).length=m:=cR _ _;refine⟨[.row η m 9 (J (ο g)) 123],OJ m (ο g) 123 (lw (ο g) m),100,.cons (ab.row λj b=>a7 d j b) .nil,da (avc m (ο g) 123 i e),?_⟩;show aE (ad θ (HX cU e7) (OJ m (ο g) 123 (lw (ο g) m)) 100 SF [.sl 0 9 0 0 m ζ] [.row η m 9 (J (ο g)) 123] (ag 1)) _
  rw[axJ];refine aD (λa=>?_) λa=>aq ?_ ?_
  ·have a:m=0:=by simpa using a
   subst a;exact F ⟨_,rfl,rfl,.cons (ab.row λj b=>(a7 d j b).symm) .nil⟩
  ·rw[Ω]
   exact⟨cG ⟨rfl,Φ.refl _⟩,rfl⟩
  ·have a:m≠0:=by simpa using a
   refine F ⟨_,rfl,?_,.cons (ab.row λj b=>(a7 d j b).symm) .nil⟩;have:(V (ο g) m).isEmpty=η:=by
    cases n:V (ο g) m with
    |nil=>rw[n]at k;exact aR k.symm a
    |cons=>rfl
   rw[dF,this];rfl
 ·cases c
def akU:aK θ (HK eI uq (λv=>bt (bq v))):=by unfold HK;rw[aeY];exact az (az (az (az ba z9) IQ) apW) apS
def ay1(f:Θ):(λq=>J f (0+q))=J f:=by
 funext q
 rw[bH]
def dB(f:Θ)(n:Z)(m:O):ξ:=aO (V f m)&&aH n 0 23&&bt (bq (eI f n m))
def d_(f:Θ)(n:Z)(m:O):O->Z:=bif dB f n m then eI f n m else λ_=>0
def KJ:E SA->χ FR
 |[.row m g,.v (.int .i64 n)]=>γ {val:=.af [.agg (fe (d_ (ο g) n m)),.v (.bool (dB (ο g) n m))],aw:=[aF m g,κ (m<=2^38)]}
 |_=>ζ
def Px:ak θ 96 (ai dl KJ):=by
 refine ca akU func96 rfl λp x f i=>?_
 unfold KJ at f;split at f
 ·rename_i m g n
  cases f;simp only[Ω]at i;obtain⟨l,r,_⟩:=i;have y:=aV r;refine⟨[.row η m 9 (J (ο g)) 123],K,100,.cons (ab.row λj h=>a7 l j h) .nil,de _,?_⟩;show aE (ad θ (HK eI uq (λv=>bt (bq v))) K 100 f96 [.sl 0 9 0 0 m ζ,.v (ι n)] [.row η m 9 (J (ο g)) 123] (ag 1)) _
  rw[awD,ay1,cZ,Gn];have a:∀(c:ξ)(b:ao),dB (ο g) n m=c->fe b=fe (bif c then eI (ο g) n m else λ_=>0)->aE (.out .ret [.af [.agg (fe b),.v (.bool c)]] [.row η m 9 (J (ο g)) 123])
    (dX (bJ dl [.row m g,.v (ι n)] []) {val:=.af [.agg (fe (d_ (ο g) n m)),.v (.bool (dB (ο g) n m))],aw:=[aF m g,κ (m<=2^38)]}):=by
   rintro c b rfl u;refine F ⟨_,rfl,?_,.cons (ab.row λj h=>(a7 l j h).symm) .nil⟩;rw[u];rfl
  have o:∀k:O,m<=k->aJ [Δ (0+m) m,aF m (J (ο g)),κ (m<=k)]=ε:=λk w=>by simp only[Ω,ax,aj,aL,bl,dn,bv,bH,aQ];exact w
  refine aq (o _ (by omega)) (aD (λq=>?_) λq=>?_)
  ·have q:aO (V (ο g) m)=η:=by simpa using q
   exact a η (λ_=>0) (by unfold dB;rw[q];rfl) rfl
  ·have q:aO (V (ο g) m)=ε:=by simpa using q
   refine aD (λd=>?_) λd=>?_
   ·have d:aH n 0 23=η:=by simpa using d
    exact a η (λ_=>0) (by unfold dB;rw[q,d];rfl) rfl
   ·have d:aH n 0 23=ε:=by simpa using d
    refine aq (o _ (by omega)) ?_;refine a (bt (bq (eI (ο g) n m))) (uq (w8 (eI (ο g) n m))) (by unfold dB;rw[q,d];rfl) ?_;have e:bq (w8 (eI (ο g) n m))=bq (eI (ο g) n m):=rfl;unfold uq;rw[e];cases bt (bq (eI (ο g) n m))<;>rfl
 ·cases f
def Nh(a:(O->Z)->Z->O->Z)(b:(O->Z)->(O->Z)->O->Z):aG:=ext (ext g0 120 (ai [.val,.val] (F_ a))) 195 (aW (ss b))
abbrev De:Ex->E O:=cj [1,4,5,8,9,10] [4,5] [4]
abbrev Ey(m:O)(n:Z)(i:O):E AV:=[.v (ι n),.ptr 1 0 0 0,.ptr 2 0 0 0,.sl 0 9 0 0 m ζ,.v (ι m),.v (ι i)]
def ar8(g:(O->Z)->Z->O->Z)(b:(O->Z)->(O->Z)->O->Z)(m:O)(f:Θ)(t:ae)(n:Z)(a:ao)(i:O):let h:=AB.cells [vI 0,vI 0,vI 0,vI 0,vI 0,vI 0,vI 0,vI 0] 88;let e:=(↑i:Z);let j:=AB.row η m 9 (J f) t;let c:=(0+aT e);let k:=(v8 (f c 1) (f c 2) (f c 3) (f c 4) (f c 5) (f c 6) (f c 7) (f c 8));let l:=(aa .i64 (n*f c 0));let d:=(w8 (g k l));a0 θ (Nh g b) 100 K (a5 0 SL) (ar 0 25 ((De .normal).zip (Ey m n i))) (mi m f t a) (cw 25 De 1)
 =bif κ (e<(m:Z))then Ξ [κ (e<(m:Z)),κ (0+aT e<m),sH k,aH l (-9223372036854775808:Z) (9223372036854775807:Z)] (am.out .normal [vI n,AV.ptr 1 0 0 0,AV.ptr 2 0 0 0,AV.sl 0 9 0 0 m ζ,vI (m:Z),vI (aa .i64 (e+(1:Z)))] [j,h,AB.cells [vI (b (w8 a) d 0),vI (b (w8 a) d 1),vI (b (w8 a) d 2),vI (b (w8 a) d 3),vI (b (w8 a) d 4),vI (b (w8 a) d 5),vI (b (w8 a) d 6),vI (b (w8 a) d 7)] 88])else am.out (Ex.exit 0) [AV.ptr 1 0 0 0,AV.ptr 2 0 0 0] [j,h,AB.cells [vI (a 0),vI (a 1),vI (a 2),vI (a 3),vI (a 4),vI (a 5),vI (a 6),vI (a 7)] 88]:=by intros;kernel_rfl
noncomputable abbrev Og(m:O)(f:Θ)(t:ae)(n:Z)(b:ao):O->χ Sum:=bX 0 (bm 25 (De .normal) 1 (Ey m n 0) (mi m f t λ_=>0) (λa=>a .normal (ar 0 25 [(4,.ptr 1 0 0 0),(5,.ptr 2 0 0 0)]) (mi m f t b)))
def awe(m:O)(f:Θ)(t:ae)(n:Z)(b:ao):let a:=AB.cells [vI 0,vI 0,vI 0,vI 0,vI 0,vI 0,vI 0,vI 0] 88;let c:=AB.row η m 9 (J f) t;ad θ g0 (Og m f t n b) 100 SL [.sl 0 9 0 0 m ζ,.v (ι n)] [.row η m 9 (J f) t] (ag 1)
 =Ξ [cy ([vI n,AV.ptr 1 0 0 0,AV.ptr 2 0 0 0,AV.sl 0 9 0 0 m ζ,vI (m:Z),vI 0]=Ey m n 0/\Φ [c,a,a] (mi m f t λ_=>(0:Z)))] (rO [AV.agg [vI (b 0),vI (b 1),vI (b 2),vI (b 3),vI (b 4),vI (b 5),vI (b 6),vI (b 7)]] [c]):=by intros;kernel_rfl
def KW(a:(O->O->Z)->Z->O->O->Z)(b:E Wh->ξ):E SA->χ FR
 |[.row m g,.v (.int .i64 n)]=>γ {val:=.agg (fe (a (ο g) n m)),aw:=[aF m g,κ (m<=2^38),b (V (ο g) m)]}
 |_=>ζ
def HL(b:(O->O->Z)->Z->O->O->Z)(a:E Wh->ξ)(c:(O->Z)->ξ):aG:=ext (ext (ext lN 132 (ai dl (KW b a))) 112 (ai bF (qD a))) 134 (aW (nF c))
def awE(a:(O->O->Z)->Z->O->O->Z)(c:E Wh->ξ)(g:(O->Z)->ξ)(m:O)(f:Θ)(t:ae)(n:Z):let b:=(ο λq=>J f (0+q));let e:=[AV.af [AV.agg [vI 0,vI 0,vI 0,vI 0,vI 0,vI 0,vI 0,vI 0],vB η]];let d:=[AB.row η m 9 (J f) t];let h:=aF m λq=>J f (0+q);ad θ (HL a c g) K 100 f74 [.sl 0 9 0 0 m ζ,.v (ι n)] [.row η m 9 (J f) t] (ag 1)
 =Ξ [Δ (0+m) m,h,κ (m<=549755813888)] (bif !c (V b m)then rO e d else bif !aH n (0:Z) (23:Z)then rO e d else Ξ [Δ (0+m) m,h,κ (m<=274877906944),c (V b m)] (bif !g (w8 (a b n m))then rO e d else rO [AV.af [AV.agg [vI (a b n m 0),vI (a b n m 1),vI (a b n m 2),vI (a b n m 3),vI (a b n m 4),vI (a b n m 5),vI (a b n m 6),vI (a b n m 7)],vB ε]] d)):=by intros;kernel_rfl
def qB(a:(O->O->Z)->Z->O->O->Z)(b:(O->O->Z)->Z->O->ξ):E SA->χ FR
 |[.row m g,.v (.int .i64 n)]=>γ {val:=.af [.agg (fe (a (ο g) n m)),.v (.bool (b (ο g) n m))],aw:=[aF m g,κ (m<=2^38)]}
 |_=>ζ
def akD:aK θ (Nh xM rx):=by unfold Nh;rw[VQ];exact az (az ba Z') PJ
def aft(f:Θ)(n:Z)(i:O):eI f n (i+1)=rx (eI f n i) (xM (v8 (f i 1) (f i 2) (f i 3) (f i 4) (f i 5) (f i 6) (f i 7) (f i 8)) (aa aY (n*f i 0))):=by
 funext k
 show W (eI f n i k+1*_)=W (eI f n i k+_)
 rw[xW]
def auA(m:O)(f:Θ)(t:ae)(n:Z)(h:m<=2^40)(d:∀w∈V f m,sH w.r.f=ε):ck θ 1 (.block 0 (.loop (a5 0 SL))) (bm 25 (De .normal) 1 (Ey m n 0) (mi m f t λ_=>0) (λa=>a .normal (ar 0 25 [(4,.ptr 1 0 0 0),(5,.ptr 2 0 0 0)]) (mi m f t (eI f n m)))):=by
 refine dQ akD (n:=100) (m:=1) (lv:=De) (λi=>Ey m n i) (λi=>mi m f t (eI f n i)) (λ_=>True) m (λ_=>K) (du rfl rfl rfl) (aQ _) trivial λa Q e i k g=>⟨cN _ _ _,?_⟩
 rw[ar8];refine aD (λb=>?_) λb=>?_
 ·have b:=aV b
  have c:i<m:=by omega
  rw[cV,bH,bz (x:=(i:Z)+1)];refine aq ?_ (F ⟨i+1,⟨rfl,c,trivial⟩,rfl,?_⟩)
  ·simp only[Ω,ax,aj,aL]
   exact⟨by omega,by omega,d _ (kj (o4 f c)),cd.2 (n6 _)⟩
  ·show Φ _ (mi m f t (eI f n (i+1)))
   rw[aft];exact Φ.refl _
 ·have b:=cu b
  have:i=m:=by omega
  subst this;refine F ⟨_,Φ.refl _,?_⟩;rw[aU rfl];exact e
def aoQ:ak θ 132 (ai dl (KW eI aO)):=by
 refine ca ba func132 rfl λe k a c=>?_
 unfold KW at a;split at a
 ·rename_i m g n
  cases a;simp only[Ω]at c;obtain⟨d,f,h,_⟩:=c;have l:=aV f;refine⟨[.row η m 9 (J (ο g)) 123],Og m (ο g) 123 n (eI (ο g) n m),100,.cons (ab.row λj b=>a7 d j b) .nil,da (auA m (ο g) 123 n (by omega) λw i=>E5 h i),?_⟩;show aE (ad θ g0 (Og m (ο g) 123 n (eI (ο g) n m)) 100 SL [.sl 0 9 0 0 m ζ,.v (ι n)] [.row η m 9 (J (ο g)) 123] (ag 1)) _
  rw[awe];exact aq (by rw[Ω];exact⟨cG ⟨rfl,Φ.refl _⟩,rfl⟩) (F ⟨_,rfl,rfl,.cons (ab.row λj b=>(a7 d j b).symm) .nil⟩)
 ·cases a
def akW:aK θ (HL eI aO (λv=>bt (bq v))):=by unfold HL;rw[qP,t_];exact az (az (az nI aoQ) D7) D6
def KI:qB d_ dB=KJ:=by
 funext l
 rfl
def IP:ak θ 74 (ai dl (qB d_ dB)):=by
 refine ca akW func74 rfl λs z f p=>?_
 unfold qB at f;split at f
 ·rename_i m g n
  cases f;simp only[Ω]at p;obtain⟨r,t,_⟩:=p;have u:=aV t;refine⟨[.row η m 9 (J (ο g)) 123],K,100,.cons (ab.row λj i=>a7 r j i) .nil,de _,?_⟩;show aE (ad θ (HL eI aO (λv=>bt (bq v))) K 100 f74 [.sl 0 9 0 0 m ζ,.v (ι n)] [.row η m 9 (J (ο g)) 123] (ag 1)) _
  rw[awE,cz,cZ,Gn];have d:∀(c:ξ)(b:ao),dB (ο g) n m=c->fe b=fe (bif c then eI (ο g) n m else λ_=>0)->aE (.out .ret [.af [.agg (fe b),.v (.bool c)]] [.row η m 9 (J (ο g)) 123])
    (dX (bJ dl [.row m g,.v (ι n)] []) {val:=.af [.agg (fe (d_ (ο g) n m)),.v (.bool (dB (ο g) n m))],aw:=[aF m g,κ (m<=2^38)]}):=by
   rintro c b rfl y;refine F ⟨_,rfl,?_,.cons (ab.row λj i=>(a7 r j i).symm) .nil⟩;rw[y];rfl
  refine fu (aD (λq=>?_) λq=>?_)
  ·have k:(!aO (V (ο g) m))=ε:=q
   have a:aO (V (ο g) m)=η:=by simpa using k
   exact d η (λ_=>0) (by unfold dB;rw[a];rfl) rfl
  ·have k:(!aO (V (ο g) m))=η:=q
   have h:aO (V (ο g) m)=ε:=by simpa using k
   refine aD (λa=>?_) λa=>?_
   ·have a:aH n 0 23=η:=by simpa using a
    exact d η (λ_=>0) (by unfold dB;rw[h,a];rfl) rfl
   ·have a:aH n 0 23=ε:=by simpa using a
    refine aq (by simp only[Ω,ax,aj,aL,bl,dn,bv];exact⟨by omega,u,h⟩) (aD (λl=>?_) λl=>?_)
    ·have e:(!bt (bq (eI (ο g) n m)))=ε:=l
     have o:bt (bq (eI (ο g) n m))=η:=by simpa using e
     exact d η (λ_=>0) (by unfold dB;rw[h,a,o];rfl) rfl
    ·have e:(!bt (bq (eI (ο g) n m)))=η:=l
     have o:bt (bq (eI (ο g) n m))=ε:=by simpa using e
     exact d ε (eI (ο g) n m) (by unfold dB;rw[h,a,o];rfl) rfl
 ·cases f
def oN(f:Θ)(n:Z)(m:O):dB (ο (J f)) n m=dB f n m:=by unfold dB;rw[cZ,Gn]
def sh(f:Θ)(n:Z)(m:O):d_ (ο (J f)) n m=d_ f n m:=by unfold d_;rw[oN,Gn]
def Qp:O->O
 |0=>1065353216
 |1=>1064781546
 |2=>1063105495
 |3=>1060439283
 |4=>1056964608
 |5=>1048871918
 |6=>0
 |_=>3196355566
def Qo:O->O
 |0=>0
 |1=>1048871918
 |2=>1056964608
 |3=>1060439283
 |4=>1063105495
 |5=>1064781546
 |6=>1065353216
 |_=>1064781546
def Ec(a:ao)(k:O):χ O:=bR.format.mul (bR.nearest (a k)) (Qp k)
def Eb(a:ao)(k:O):χ O:=bR.format.mul (bR.nearest (a k)) (Qo k)
def xx(a:ao):O->O
 |0=>0
 |k+1=>(bR.format.add (xx a k) ((Ec a k).getD 0)).getD 0
def xw(a:ao):O->O
 |0=>0
 |k+1=>(bR.format.add (xw a k) ((Eb a k).getD 0)).getD 0
def D1(a:ao):E ξ:=(dK 8).flatMap λk=>[(Ec a k).isSome,(Eb a k).isSome,(bR.format.add (xx a k) ((Ec a k).getD 0)).isSome,(bR.format.add (xw a k) ((Eb a k).getD 0)).isSome]
def aiX(a:ao):ad θ g0 K 100 f135 [.v (dA a)] [] dR=Ξ (D1 a) (.out .ret [.v (.complex .f32 (xx a 8) (xw a 8))] []):=by kernel_rfl
def HI(a:(O->Z)->ξ):aG:=ext g0 167 (aW (nF a))
def aiY(b:(O->Z)->ξ)(a:ao):ad θ (HI b) K 100 f97 [.v (dA a)] [] (ag 0)=cond (!b (w8 a)) (.out .ret [.af [.v (.complex .f32 0 0),.v (.bool η)]] []) (Ξ (D1 a) (.out .ret [.af [.v (.complex .f32 (xx a 8) (xw a 8)),.v (.bool ε)]] [])):=by kernel_rfl
def io(x:O)(e:Z):Prop:=∃s m i,bR.format.read x=.number s m i/\i+(m.log2:Z)<=e
variable {i:O}
def io.mono{e d:Z}(h:io i e)(c:e<=d):io i d:=by obtain⟨s,m,a,b,f⟩:=h;exact⟨s,m,a,b,by omega⟩
def wq(x:O)(e:Z):ξ:=match bR.format.read x with
 | .number _ m i=>κ (i+(m.log2:Z)<=e)
 |_=>η
variable {A:Z}
def CJ(h:wq i A=ε):io i A:=by
 unfold wq at h;split at h
 ·rename_i s m a b
  exact⟨s,m,a,b,aV h⟩
 ·cases h
def log2_lt(n:O):n<2^(n.log2+1):=Nat.lt_log2_self
def sO{n k:O}(h:n<2^(k+1)):n.log2<=k:=by
 rcases qs n with rfl|a
 ·rw[show Nat.log2 0=0 by decide]
  omega
 ·have:=(Nat.log2_lt (by omega)).2 h
  omega
def GU:bR.format.binade=8388608:=by decide
def GV:bR.format.infRung=2139095040:=by decide
def GW:bR.format.signWeight=2147483648:=by decide
def Cv:bR.format.leastPlace= -149:=by decide
def ajO:bR.format.fractionBits=23:=rfl
def ahE(s:ξ)(n a:O):JW.cut s n a<=n/2^min a (n.log2+2)+1:=by
 unfold RX;simp only[vx,kk];have:∀b:ξ,b.toNat<=1:=λb=>by cases b<;>decide
 exact Nat.add_le_add_left (this _) _
variable {q:ξ}
def amE{a b:Z}(f:a+(i.log2:Z) -23<=b):JW.cut q (i<<< (a-b).toNat) (b-a).toNat<=16777216:=by
 refine cF (ahE _ _ _) ?_
 suffices h:i<<< (a-b).toNat/2^min (b-a).toNat ((i<<< (a-b).toNat).log2+2)<16777216 by omega
 rw[vx];have c:=log2_lt i;by_cases g:b<=a
 ·have d:(b-a).toNat=0:=by omega
  rw[d,Nat.zero_min,Bs,Nat.div_one]
  calc i*2^(a-b).toNat<2^(i.log2+1)*2^(a-b).toNat:=Fx c (oo _)
   _=2^(i.log2+1+(a-b).toNat):=(km ..).symm
   _<=2^24:=pB (by omega) (by omega)
 ·have d:(a-b).toNat=0:=by omega
  rw[d,Bs,rS];rw[ad5 (oo _)];by_cases e:(b-a).toNat<=i.log2+2
  ·rw[Fv e]
   calc i<2^(i.log2+1):=c
    _<=2^(24+(b-a).toNat):=pB (by omega) (by omega)
    _=16777216*2^(b-a).toNat:=by rw[km]
  ·rw[ad_ (by omega)]
   calc i<2^(i.log2+1):=c
    _<=2^(24+(i.log2+2)):=pB (by omega) (by omega)
    _=16777216*2^(i.log2+2):=by rw[km]
def aaL(s:ξ){R:O}(b:R<2139095040):∃m i,bR.format.read (bR.format.word s R)=.number s m i/\i+(m.log2:Z)<=max ((R/8388608:O):Z) 1-127:=by
 have c:bR.format.word s R%2147483648=R:=by
  unfold adr;rw[GW];cases s
  ·simp only[tz,tQ];omega
  ·simp only[qA];omega
 have d:(bR.format.word s R/2147483648%2==1)=s:=by
  unfold adr;rw[GW];cases s
  ·simp only[tz,tQ]
   rw[show R/2147483648=0 by omega];rfl
  ·simp only[qA]
   rw[show(2147483648+R)/2147483648=1 by omega];rfl
 unfold RW;simp only[GW,GU,GV,Cv,c,d];by_cases a:R<8388608
 ·rw[aU a]
  refine⟨_,_,rfl,?_⟩;have:R.log2<=22:=sO (by omega);omega
 ·rw[bI a,aU b]
  refine⟨_,_,rfl,?_⟩;have:(8388608+R%8388608).log2<=23:=sO (by omega);omega
def ID(s:ξ)(m:O)(i:Z){e:Z}(h:i+(m.log2:Z)<=e)(o: -120<=e)(p:e<=100):io (bR.format.nearest s m i) (e+1):=by
 unfold adq;by_cases k:m=0
 ·rw[aU k]
  obtain⟨d,f,g,n⟩:=aaL s (R:=0) (by omega);exact⟨s,d,f,g,by omega⟩
 ·rw[bI k]
  simp only[ajO,Cv,GU,GV];have l:JW.cut s (m<<< (i-max (i+(m.log2:Z) -((23:O):Z)) (-149)).toNat) (max (i+(m.log2:Z) -((23:O):Z)) (-149) -i).toNat<=16777216:=amE (by omega);generalize q:max (i+(m.log2:Z) -((23:O):Z)) (-149)=a at l⊢;generalize JW.cut s (m<<< (i-a).toNat) (a-i).toNat=b at l⊢;have j: -149<=a/\a<=77/\a<=max (e-23) (-149):=by omega
  have c:min ((a- -149).toNat*8388608+b) 2139095040=(a- -149).toNat*8388608+b:=by omega
  rw[c];obtain⟨d,f,g,n⟩:=aaL s (R:=(a- -149).toNat*8388608+b) (by omega);refine⟨s,d,f,g,?_⟩;have:((a- -149).toNat*8388608+b)/8388608<=(a- -149).toNat+2:=by omega
  omega
def IB{x y:O}{e d:Z}(a:io x e)(b:io y d)(c: -120<=e+d+1)(f:e+d+1<=100):(bR.format.mul x y).isSome=ε/\io ((bR.format.mul x y).getD 0) (e+d+2):=by
 obtain⟨s,m,i,g,l⟩:=a;obtain⟨t,n,j,h,o⟩:=b;have k:bR.format.mul x y=γ (bR.format.nearest (s^^t) (m*n) (i+j)):=by unfold aza;rw[g,h];rfl
 rw[k];refine⟨rfl,?_⟩;have p:(m*n).log2<=m.log2+n.log2+1:=sO (by
  calc m*n<2^(m.log2+1)*2^(n.log2+1):=Nat.mul_lt_mul'' (log2_lt m) (log2_lt n)
   _=2^(m.log2+n.log2+1+1):=by rw[<-km];congr 1;omega)
 have:=ID (s^^t) (m*n) (i+j) (e:=e+d+1) (by omega) c f
 rwa [show e+d+1+1=e+d+2 by omega]at this
def QF(s:ξ)(m u:O):(iV s m u).natAbs=m*2^u:=by
 unfold iV;rw[vx];cases s
 ·exact Int.natAbs_natCast _
 ·exact(Int.natAbs_neg _).trans (Int.natAbs_natCast _)
def aaq{a base e:Z}(h:a+(i.log2:Z)<=e)(b:base<=a):i*2^(a-base).toNat<2^((e-base).toNat+1):=by
 calc i*2^(a-base).toNat<2^(i.log2+1)*2^(a-base).toNat:=Fx (log2_lt i) (oo _)
  _=2^(i.log2+1+(a-base).toNat):=(km ..).symm
  _<=2^((e-base).toNat+1):=pB (by omega) (by omega)
def BV{x y:O}{e:Z}(c:io x e)(d:io y e)(f: -120<=e+1)(g:e+1<=100):(bR.format.add x y).isSome=ε/\io ((bR.format.add x y).getD 0) (e+2):=by
 obtain⟨s,m,i,h,k⟩:=c;obtain⟨t,n,j,l,o⟩:=d;have b:∃u,bR.format.add x y=γ (bR.format.nearest u (iV s m (i-min i j).toNat+iV t n (j-min i j).toNat).natAbs (min i j)):=by unfold Ieee.Format.add;rw[h,l];exact⟨_,rfl⟩
 obtain⟨u,b⟩:=b;rw[b];refine⟨rfl,?_⟩;have q:(iV s m (i-min i j).toNat+iV t n (j-min i j).toNat).natAbs.log2<=(e-min i j).toNat+1:=sO (by
  have p:=Int.natAbs_add_le (iV s m (i-min i j).toNat) (iV t n (j-min i j).toNat);rw[QF,QF]at p;have r:=aaq k (base:=min i j) (by omega);have v:=aaq o (base:=min i j) (by omega);have w:2^((e-min i j).toNat+1+1)=2^((e-min i j).toNat+1)+2^((e-min i j).toNat+1):=by rw[Ke];omega
  omega)
 have:=ID u (iV s m (i-min i j).toNat+iV t n (j-min i j).toNat).natAbs (min i j) (e:=e+1) (by omega) f g
 rwa [show e+1+1=e+2 by omega]at this
def Ij(h: -1000000<=A/\A<=1000000):io (bR.nearest A) 21:=by have:A.natAbs.log2<=19:=sO (by omega);exact ID _ _ 0 (e:=20) (by omega) (by omega) (by omega)
def abh:∀k,k<8->io (Qp k) 1:=λk a=>CJ ((by decide+kernel:∀k,k<8->wq (Qp k) 1=ε) k a)
def abg:∀k,k<8->io (Qo k) 1:=λk a=>CJ ((by decide+kernel:∀k,k<8->wq (Qo k) 1=ε) k a)
def abz{a:O->Z}(h:∀k,k<8-> -1000000<=a k/\a k<=1000000):∀k:O,k<=8->io (xx a k) (24+2*(k:Z))/\io (xw a k) (24+2*(k:Z))
 |0,_=>⟨CJ (show wq 0 (24+2*((0:O):Z))=ε by decide+kernel),CJ (show wq 0 (24+2*((0:O):Z))=ε by decide+kernel)⟩
 |k+1,i=>by obtain⟨b,c⟩:=abz h k (by omega);have d:=IB (Ij (h k (by omega))) (abh k (by omega)) (by omega) (by omega);have e:=IB (Ij (h k (by omega))) (abg k (by omega)) (by omega) (by omega);have f:=(BV b (d.2.mono (by omega)) (by omega) (by omega)).2;have g:=(BV c (e.2.mono (by omega)) (by omega) (by omega)).2;exact⟨f.mono (by omega),g.mono (by omega)⟩
variable {h:O->Z}
def aoz(b:∀k,k<8-> -1000000<=h k/\h k<=1000000):aJ (D1 h)=ε:=by
 unfold aJ D1;rw[List.all_flatMap];refine bT.2 λk c=>?_
 have c:=np.1 c;obtain⟨f,g⟩:=abz b k (by omega);have d:=IB (Ij (b k c)) (abh k c) (by omega) (by omega);have e:=IB (Ij (b k c)) (abg k c) (by omega) (by omega);have i:=BV f (d.2.mono (by omega)) (by omega) (by omega);have j:=BV g (e.2.mono (by omega)) (by omega) (by omega);simp only[gA,kh,jb,id];rw[show(Ec h k).isSome=ε from d.1,show(Eb h k).isSome=ε from e.1,show(bR.format.add (xx h k) ((Ec h k).getD 0)).isSome=ε from i.1,show(bR.format.add (xw h k) ((Eb h k).getD 0)).isSome=ε from j.1];rfl
def yT(x:Z)(L:E Wh):ξ:=hP 1 x 0 η L
def tT(x:Z)(L:E Wh):E Wh:=ga 1 x 0 η L
def yL(x:Z)(L:E Wh):ξ:=hP 1 0 x η L
def tL(x:Z)(L:E Wh):E Wh:=ga 1 0 x η L
def Gc(a:E Wh->ξ)(tl:E Wh->E Wh):E SA->χ UR
 |[.row m g]=>γ ⟨a (V (ο g) m),tl (V (ο g) m),[aF m g,κ (m<=2^38)]⟩
 |_=>ζ
def IA(L:E Wh):zU L=L:=by
 show L.map pN=L
 rw[show pN=id from rfl,List.map_id]
def yI(L:E Wh):ξ:=aO L&&bC L
def tI(L:E Wh):E Wh:=bif yI L then bo L else[]
def Py:ak θ 128 (tj bF (Gc yI tI)):=by
 refine QS rfl ZP ZM λh u a c=>?_
 unfold Gc at a;split at a
 ·rename_i m g
  cases a;simp only[Ω]at c;obtain⟨d,e,_⟩:=c;refine⟨rfl,?_⟩;have f:nh (V (ο g) m)=yI (V (ο g) m):=by unfold nh yI;rw[show(V (ο g) m).map pN=V (ο g) m from IA _]
  cases b:yI (V (ο g) m)with
  |true=>
   left;refine⟨rfl,[aF m g,κ (m<=2^38),nh (V (ο g) m)],?_,?_⟩
   ·show rX nh bo zU [.row m g]=γ {val:=li (tI (V (ο g) m)),new:=h_ (tI (V (ο g) m)),aw:=[aF m g,κ (m<=2^38),nh (V (ο g) m)]}
    rw[tI,b,a6];show γ _=γ _
    rw[IA]
   ·simp only[Ω,ax,aj]
    exact⟨d,e,f.trans b⟩
  |false=>right;refine⟨rfl,by show tI (V (ο g) m)=[];rw[tI,b];rfl,[aF m g,κ (m<=2^38),!nh (V (ο g) m)],rfl,?_⟩;simp only[Ω,ax,aj];exact⟨d,e,by rw[f,b];rfl⟩
 ·cases a
def U4{w:Wh}:r8 w=ep (-1) 0 0 η w:=by
 have a:(-1:Z)*w.s=0-w.s:=by omega
 have b:(aa aY ((0:Z)+aa aY (0*w.s))%24).toNat=0:=by rw[R4];rfl
 rw[r8,ep,a,b];rfl
def yB(L:E Wh):ξ:=hP (-1) 0 0 η L
def tB(L:E Wh):E Wh:=ga (-1) 0 0 η L
def yM(L:E Wh):ξ:=hP (-1) 0 0 ε L
def tM(L:E Wh):E Wh:=ga (-1) 0 0 ε L
def H9(a:E Wh->ξ)(c:E Wh->E Wh)(b:E Wh->ξ):aG:=ext (ext g0 157 (ai bF (qD a))) 158 (ai bF (F7 c b))
def alq:aK θ (H9 aO bo bC):=by unfold H9;rw[F8,t_];exact az (az ba z9) IS
def axM(a:E Wh->ξ)(d:E Wh->E Wh)(b:E Wh->ξ)(m:O)(f:Θ):let c:=(V (ο λq=>J f (0+q)) m);let e:=aF m λq=>J f (0+q);let g:=AB.row η m 9 (J f) 123;let h:=(ce (d c));ad θ (H9 a d b) K 100 f102 [.sl 0 9 0 0 m ζ] [.row η m 9 (J f) 123] (ag 1)
 =Ξ [Δ (0+m) m,e,κ (m<=549755813888)] (bif !a c then rO [AV.af [AV.own 1 0,vB η]] [g,AB.row ε 0 9 (λ_=>[]) 123]else Ξ [Δ (0+m) m,e,κ (m<=274877906944)] (rO [AV.af [AV.own 1 h,AV.v (.bool (b c))]] [g,AB.row ε h 9 (J (Y (d c))) 123])):=by intros;kernel_rfl
def qC(a:E Wh->ξ)(tl:E Wh->E Wh):E SA->χ FR
 |[.row m g]=>γ {val:=.af [.own 0 (tl (V (ο g) m)).length,.v (.bool (a (V (ο g) m)))],new:=[.row ε (tl (V (ο g) m)).length 9 (J (Y (tl (V (ο g) m)))) 123],aw:=[aF m g,κ (m<=2^38)]}
 |_=>ζ
variable {L:E Wh}
def Jt(h:yI L=η):tI L=[]:=by rw[tI,h];rfl
def PK:ak θ 102 (ai bF (qC yI tI)):=by
 refine ca alq func102 rfl λi o b f=>?_
 unfold qC at b;split at b
 ·rename_i m g
  cases b;simp only[Ω]at f;obtain⟨d,k,_⟩:=f;have p:=aV k;refine⟨[.row η m 9 (J (ο g)) 123],K,100,.cons (ab.row λj a=>a7 d j a) .nil,de _,?_⟩;show aE (ad θ (H9 aO bo bC) K 100 f102 [.sl 0 9 0 0 m ζ] [.row η m 9 (J (ο g)) 123] (ag 1)) _
  rw[axM];simp only[cz,cZ];refine fu (aD (λq=>?_) λq=>?_)
  ·have c:aO (V (ο g) m)=η:=by simpa using q
   have e:yI (V (ο g) m)=η:=by rw[yI,c];rfl
   refine F ⟨_,rfl,?_,.cons (ab.row λj a=>(a7 d j a).symm) ?_⟩
   ·rw[Jt e,e]
    rfl
   ·show Φ _ [.row ε (tI (V (ο g) m)).length 9 (J (Y (tI (V (ο g) m)))) 123]
    rw[Jt e];exact .cons (ab.row λj a=>aR a (dh _)) .nil
  ·have c:aO (V (ο g) m)=ε:=by simpa using q
   refine fu (F ?_);have h:tI (V (ο g) m)=bo (V (ο g) m):=by
    rw[tI,yI,c,ex];cases l:bC (V (ο g) m)with
    |true=>rfl
    |false=>exact(Jy l).symm
   have n:yI (V (ο g) m)=bC (V (ο g) m):=by rw[yI,c,ex]
   refine⟨_,rfl,?_,.cons (ab.row λj a=>(a7 d j a).symm) ?_⟩
   ·rw[h,n]
    rfl
   ·show Φ _ [.row ε (tI (V (ο g) m)).length 9 (J (Y (tI (V (ο g) m)))) 123]
    rw[h];exact Φ.refl _
 ·cases b
def Hh(R M:(O->Z)->O)(i:(O->Z)->ξ):E τ->χ (τ×E ξ)
 |[.agg ⟨[.int .i64 a,.int .i64 b,.int .i64 c,.int .i64 d,.int .i64 e,.int .i64 f,.int .i64 g,.int .i64 h]⟩]=>γ (.complex .f32 (R (v8 a b c d e f g h)) (M (v8 a b c d e f g h)),[i (v8 a b c d e f g h)])
 |_=>ζ
def vS(R M:(O->Z)->O)(i:(O->Z)->ξ):E SA->χ FR
 |[.v (.agg ⟨[.int .i64 a,.int .i64 b,.int .i64 c,.int .i64 d,.int .i64 e,.int .i64 f,.int .i64 g,.int .i64 h]⟩)]=>γ {val:=.af [.v (.complex .f32 (R (v8 a b c d e f g h)) (M (v8 a b c d e f g h))),.v (.bool (i (v8 a b c d e f g h)))]}
 |_=>ζ
def WB(a:(O->O->Z)->Z->O->O->Z)(b:(O->O->Z)->Z->O->ξ)(R M:(O->Z)->O)(c:(O->Z)->ξ):aG:=ext (ext g0 74 (ai dl (qB a b))) 135 (aW (Hh R M c))
noncomputable abbrev GY:cb:=f79
abbrev Di:Ex->E O:=cj [4,6,20] [6] [2,3]
abbrev EC(q:O)(h:Z)(i:O):E AV:=[.sl 1 9 0 0 q (γ q),.v (.int .u32 h),.v (ι i)]
abbrev C2(m:O)(f:Θ)(q:O)(g:Θ):E AB:=[.row η m 9 (J f) 123,.row η q 9 (J g) 123]
def asc(b:(O->O->Z)->Z->O->O->Z)(e:(O->O->Z)->Z->O->ξ)(R M:(O->Z)->O)(j:(O->Z)->ξ)(m:O)(f:Θ)(q:O)(g:Θ)(h:Z)(i:O):let c:=(ο λq=>J g (0+q));let d:=AB.row η m 9 (J f) 123;let a:=(↑i:Z);a0 θ (WB b e R M j) 100 K (a5 0 GY) (ar 0 49 ((Di .normal).zip (EC q h i))) (C2 m f q g) (cw 49 Di 1)
 =bif κ (a<(24:Z))then Ξ [Δ (0+q) q,aF q λq=>J g (0+q),κ (q<=274877906944)] (bif !e c a q then rO [AV.v (.int .u32 0),vB η] [d]else Ξ [j (w8 (b c a q))] (am.out .normal [AV.sl 1 9 0 0 q (γ q),AV.v (.int .u32 (aa .u32 (aa .u32 (↑(JO (mB 32 (aa .u32 (aa .u32 (↑(JO (mB 32 h^^^mB 32 (↑(R (w8 (b c a q))):Z))):Z)*(16777619:Z)))^^^mB 32 (↑(M (w8 (b c a q))):Z))):Z)*(16777619:Z)))),vI (aa .i64 (a+(1:Z)))] [d,AB.row η q 9 (J g) 123]))else am.out (Ex.exit 0) [AV.v (.int .u32 h)] [d]:=by intros;kernel_rfl
def WC(a:(O->O->Z)->Z->O->O->Z)(b:(O->O->Z)->Z->O->ξ)(R M:(O->Z)->O)(c:(O->Z)->ξ):aG:=ext (ext g0 96 (ai dl (qB a b))) 97 (ai [.val] (vS R M c))
noncomputable abbrev GZ:cb:=f89
abbrev Dj:Ex->E O:=cj [4,6,7] [6] [2,3]
abbrev ED(q:O)(h:Z)(i:O):E AV:=[.own 1 q,.v (.int .u32 h),.v (ι i)]
abbrev C3(m:O)(f:Θ)(q:O)(g:Θ):E AB:=[.row η m 9 (J f) 123,.row ε q 9 (J g) 123]
def asd(e:(O->O->Z)->Z->O->O->Z)(j:(O->O->Z)->Z->O->ξ)(R M:(O->Z)->O)(k:(O->Z)->ξ)(m:O)(f:Θ)(q:O)(g:Θ)(h:Z)(i:O):let a:=AB.row η m 9 (J f) 123;let l:=[AV.v (.int .u32 0),vB η];let b:=(↑i:Z);let c:=(J g);let d:=(w8 (e (ο c) b q));a0 θ (WC e j R M k) 100 K (a5 0 GZ) (ar 0 53 ((Dj .normal).zip (ED q h i))) (C3 m f q g) (cw 53 Dj 1)
 =bif κ (b<(24:Z))then Ξ [Δ q q,aF q c,κ (q<=274877906944)] (bif !j (ο c) b q then rO l [a]else bif !k d then rO l [a]else am.out .normal [AV.own 1 q,AV.v (.int .u32 (aa .u32 (aa .u32 (↑(JO (mB 32 (aa .u32 (aa .u32 (↑(JO (mB 32 h^^^mB 32 (↑(R d):Z))):Z)*(16777619:Z)))^^^mB 32 (↑(M d):Z))):Z)*(16777619:Z)))),vI (aa .i64 (b+(1:Z)))] [a,AB.row ε q 9 c 123])else am.out (Ex.exit 0) [AV.v (.int .u32 h)] [a]:=by intros;kernel_rfl
abbrev gU(m:O)(f:Θ):E AB:=[.row η m 9 (J f) 123]
def alA{bs:E ξ}{r:am}{x:τ}(h:aJ bs=ε)(k:Good r x):Good (Ξ bs r) x:=by
 induction bs with
 |nil=>exact k
 |cons b bs a=>
  have:b=ε/\aJ bs=ε:=by simpa[aJ]using h
  rw[this.1];exact⟨(a this.2).out⟩
def ge(a:ao):ξ:=bt (bq a)
def gw(a:ao):O:=bif ge a then xx a 8 else 0
def gv(a:ao):O:=bif ge a then xw a 8 else 0
def Zs(b:ge h=ε):aJ (D1 h)=ε:=aoz λk c=>by
 have d:=xy.1 b k c;have e:(bq h).f k=h k:=by
  match k,c with
  |0,_=>rfl
  |1,_=>rfl
  |2,_=>rfl
  |3,_=>rfl
  |4,_=>rfl
  |5,_=>rfl
  |6,_=>rfl
  |7,_=>rfl
 omega
def Z3:ak θ 135 (aW (Hh gw gv ge)):=by
 refine et (n:=100) ba func135 rfl λk v l b a=>?_
 unfold Hh at b;split at b
 ·rename_i c d e f g h i j
  cases b;rw[Ω]at a;have a:=a.1;show Good (ad θ g0 K 100 f135 [.v (dA (v8 c d e f g h i j))] [] dR) _
  rw[aiX];refine alA (Zs a) (one ?_);rw[gw,gv,a];rfl
 ·cases b
def Z4:ak θ 97 (ai [.val] (vS gw gv ge)):=by
 have k:aK θ (HI λv=>bt (bq v)):=by unfold HI;rw[qP];exact az ba D5
 refine ca k func97 rfl λl m i n=>?_
 unfold vS at i;split at i
 ·rename_i a b c d e f g h
  cases i;refine⟨[],K,100,.nil,de _,?_⟩;show aE (ad θ (HI λv=>bt (bq v)) K 100 f97 [.v (dA (v8 a b c d e f g h))] [] (ag 0)) _
  rw[aiY];refine aD (λq=>?_) λq=>?_
  ·have q:ge (v8 a b c d e f g h)=η:=by have j:(!ge (v8 a b c d e f g h))=ε:=q;simpa using j
   refine F ⟨_,rfl,?_,.nil⟩;rw[gw,gv,q];rfl
  ·have q:ge (v8 a b c d e f g h)=ε:=by have j:(!ge (v8 a b c d e f g h))=η:=q;simpa using j
   refine aq (Zs q) (F ⟨_,rfl,?_,.nil⟩);rw[gw,gv,q];rfl
 ·cases i
def iP(h:Z)(R M:O):Z:=aa R5 (aa R5 (((mB 32 (aa R5 (aa R5 (((mB 32 h^^^mB 32 (R:Z)).toNat:O):Z)*16777619))^^^mB 32 (M:Z)).toNat:O):Z)*16777619)
def qJ(f:Θ)(q:O):O->Z
 |0=>2166136261
 |i+1=>iP (qJ f q i) (gw (w8 (d_ f i q))) (gv (w8 (d_ f i q)))
def me(f:Θ)(q:O)(i:O):ξ:= !dB f i q
def ahL(a:ao):bq (w8 a)=bq a:=rfl
def GG(h:dB z A i=ε):ge (w8 (d_ z A i))=ε:=by have a:=h;unfold dB at a;rw[aP]at a;rw[ge,ahL,d_,h,a6];exact a.2
def akO:aK θ (WB d_ dB gw gv ge):=az (az ba IP) Z3
def akP:aK θ (WC d_ dB gw gv ge):=by refine az (az ba ?_) Z4;rw[KI];exact Px
def auE(m:O)(f:Θ)(q:O)(g:Θ)(l:q<=12):ck θ 1 (.block 0 (.loop (a5 0 GY))) (bm 49 (Di .normal) 1 (EC q 2166136261 0) (C2 m f q g) (λa=>cond (bV (me g q) 24) (a .normal (ar 0 49 [(6,.v (.int .u32 (qJ g q 24)))]) (gU m f)) (a .ret (ar 0 49 [(2,.v (.int .u32 0)),(3,.v (.bool η))]) (gU m f)))):=by
 refine dQ akO (n:=100) (m:=1) (lv:=Di) (λi=>EC q (qJ g q i) i) (λ_=>C2 m f q g) (λi=>bV (me g q) i=ε) 24 (λ_=>K) (du rfl rfl rfl) (aQ _) rfl λa Q d i h j=>⟨cN _ _ _,?_⟩
 rw[asc];refine aD (λb=>?_) λb=>?_
 ·have b:=aV b
  have c:i<24:=by omega
  simp only[cz,oN,sh];rw[bz (x:=(i:Z)+1)];refine fu (aD (λp=>?_) λp=>?_)
  ·refine F ⟨_,Φ.refl _,?_⟩
   have e:me g q i=ε:=p;rw[o5 c e]at d;exact d
  ·have e:me g q i=η:=p
   have k:dB g i q=ε:=by simpa[me]using e
   exact aq (by rw[Ω];exact⟨GG k,rfl⟩) (F ⟨i+1,⟨rfl,c,ro h e⟩,rfl,Φ.refl _⟩)
 ·have b:=cu b
  have:i=24:=by omega
  subst this;refine F ⟨_,Φ.refl _,?_⟩;rw[aU rfl];rw[h]at d;exact d
def auF(m:O)(f:Θ)(q:O)(g:Θ)(l:q<=12):ck θ 1 (.block 0 (.loop (a5 0 GZ))) (bm 53 (Dj .normal) 1 (ED q 2166136261 0) (C3 m f q g) (λa=>cond (bV (me g q) 24) (a .normal (ar 0 53 [(6,.v (.int .u32 (qJ g q 24)))]) (gU m f)) (a .ret (ar 0 53 [(2,.v (.int .u32 0)),(3,.v (.bool η))]) (gU m f)))):=by
 refine dQ akP (n:=100) (m:=1) (lv:=Dj) (λi=>ED q (qJ g q i) i) (λ_=>C3 m f q g) (λi=>bV (me g q) i=ε) 24 (λ_=>K) (du rfl rfl rfl) (aQ _) rfl λa Q d i h j=>⟨cN _ _ _,?_⟩
 rw[asd];refine aD (λb=>?_) λb=>?_
 ·have b:=aV b
  have c:i<24:=by omega
  simp only[oN,sh];rw[bz (x:=(i:Z)+1)];refine fu (aD (λp=>?_) λp=>?_)
  ·refine F ⟨_,Φ.refl _,?_⟩
   have e:me g q i=ε:=p;rw[o5 c e]at d;exact d
  ·have e:me g q i=η:=p
   have k:dB g i q=ε:=by simpa[me]using e
   rw[GG k];exact bA rfl (F ⟨i+1,⟨rfl,c,ro h e⟩,rfl,Φ.refl _⟩)
 ·have b:=cu b
  have:i=24:=by omega
  subst this;refine F ⟨_,Φ.refl _,?_⟩;rw[aU rfl];rw[h]at d;exact d
noncomputable abbrev Ok(m:O)(f:Θ)(q:O)(g:Θ)(c:ξ)(x:Z):O->χ Sum:=bX 0 (bm 49 (Di .normal) 1 (EC q 2166136261 0) (C2 m f q g) (λa=>cond c (a .normal (ar 0 49 [(6,.v (.int .u32 x))]) (gU m f)) (a .ret (ar 0 49 [(2,.v (.int .u32 0)),(3,.v (.bool η))]) (gU m f))))
noncomputable abbrev Ol(m:O)(f:Θ)(q:O)(g:Θ)(c:ξ)(x:Z):O->χ Sum:=bX 0 (bm 53 (Dj .normal) 1 (ED q 2166136261 0) (C3 m f q g) (λa=>cond c (a .normal (ar 0 53 [(6,.v (.int .u32 x))]) (gU m f)) (a .ret (ar 0 53 [(2,.v (.int .u32 0)),(3,.v (.bool η))]) (gU m f))))
def H4(yI:E Wh->ξ)(tI:E Wh->E Wh):aG:=ext g0 128 (tj bF (Gc yI tI))
def H5(yI:E Wh->ξ)(tI:E Wh->E Wh):aG:=ext g0 102 (ai bF (qC yI tI))
def awx(yI:E Wh->ξ)(tI:E Wh->E Wh)(m:O)(f:Θ)(q:O)(g:Θ)(c:ξ)(x:Z):let b:=(V (ο λq=>J f (0+q)) m);let a:=AB.row η m 9 (J f) 123;let e:=[AV.af [AV.v (.int .u32 0),vB η]];let d:=(ce (tI b));ad θ (H4 yI tI) (Ok m f q g c x) 100 GY [.sl 0 9 0 0 m ζ] (gU m f) (ag 1)
 =Ξ [Δ (0+m) m,aF m λq=>J f (0+q),κ (m<=274877906944)] (bif !yI b then rO e [a]else Ξ [cy ([AV.sl 1 9 0 0 d (γ d),AV.v (.int .u32 2166136261),vI 0]=EC q (2166136261:Z) 0/\Φ [a,AB.row η d 9 (J (Y (tI b))) 123] (C2 m f q g))] (bif c then rO [AV.af [AV.v (.int .u32 x),vB ε]] [a]else rO e [a])):=by intros;kernel_rfl
def awy(yI:E Wh->ξ)(tI:E Wh->E Wh)(m:O)(f:Θ)(q:O)(g:Θ)(c:ξ)(x:Z):let b:=(V (ο λq=>J f (0+q)) m);let a:=AB.row η m 9 (J f) 123;let d:=[AV.af [AV.v (.int .u32 0),vB η]];let e:=(ce (tI b));ad θ (H5 yI tI) (Ol m f q g c x) 100 GZ [.sl 0 9 0 0 m ζ] (gU m f) (ag 1)
 =Ξ [Δ (0+m) m,aF m λq=>J f (0+q),κ (m<=274877906944)] (bif !yI b then rO d [a]else Ξ [cy ([AV.own 1 e,AV.v (.int .u32 2166136261),vI 0]=ED q (2166136261:Z) 0/\Φ [a,AB.row ε e 9 (J (Y (tI b))) 123] (C3 m f q g))] (bif c then rO [AV.af [AV.v (.int .u32 x),vB ε]] [a]else rO d [a])):=by intros;kernel_rfl
def fM(L:E Wh):ξ:=yI L&&bV (me (Y (tI L)) (tI L).length) 24
def fd(L:E Wh):Z:=bif fM L then qJ (Y (tI L)) (tI L).length 24 else 0
def yy(v:E Wh->Z)(y:E Wh->ξ):E SA->χ FR
 |[.row m g]=>γ {val:=.af [.v (.int .u32 (v (V (ο g) m))),.v (.bool (y (V (ο g) m)))],aw:=[aF m g,κ (m<=2^38)]}
 |_=>ζ
def ab0(L:E Wh):(tI L).length<=12:=by
 cases h:yI L with
 |true=>rw[tI,h,a6];rw[yI,aP]at h;exact ace h.2
 |false=>rw[Jt h];exact ej _
def ao7:ak θ 79 (ai bF (yy fd fM)):=by
 refine ca (Γ:=H4 yI tI) (az ba Py) func79 rfl λo u c l=>?_
 unfold yy at c;split at c
 ·rename_i m g
  cases c;simp only[Ω]at l;obtain⟨n,p,_⟩:=l;have w:=aV p;have a:∀v b,fd (V (ο g) m)=v->fM (V (ο g) m)=b->aE (.out .ret [.af [.v (.int .u32 v),.v (.bool b)]] (gU m (ο g))) (dX (bJ bF [.row m g] []) {val:=.af [.v (.int .u32 (fd (V (ο g) m))),.v (.bool (fM (V (ο g) m)))],aw:=[aF m g,κ (m<=2^38)]}):=λv b r s=>F ⟨_,rfl,by rw[r,s],.cons (ab.row λj f=>(a7 n j f).symm) .nil⟩
  have i:fM (V (ο g) m)=η->aE (.out .ret [.af [.v (.int .u32 0),.v (.bool η)]] (gU m (ο g))) (dX (bJ bF [.row m g] []) {val:=.af [.v (.int .u32 (fd (V (ο g) m))),.v (.bool (fM (V (ο g) m)))],aw:=[aF m g,κ (m<=2^38)]}):=λh=>a 0 η (by rw[fd,h];rfl) h
  refine⟨gU m (ο g),Ok m (ο g) (tI (V (ο g) m)).length (Y (tI (V (ο g) m))) (bV (me (Y (tI (V (ο g) m))) (tI (V (ο g) m)).length) 24) (qJ (Y (tI (V (ο g) m))) (tI (V (ο g) m)).length 24),100,.cons (ab.row λj f=>a7 n j f) .nil,da (auE m (ο g) _ _ (ab0 _)),?_⟩;show aE (ad θ (H4 yI tI) (Ok m (ο g) (tI (V (ο g) m)).length (Y (tI (V (ο g) m))) (bV (me (Y (tI (V (ο g) m))) (tI (V (ο g) m)).length) 24) (qJ (Y (tI (V (ο g) m))) (tI (V (ο g) m)).length 24)) 100 GY [.sl 0 9 0 0 m ζ] (gU m (ο g)) (ag 1)) _
  rw[awx];simp only[cz,cZ];generalize V (ο g) m=L at a i⊢;refine fu (aD (λq=>?_) λq=>aq (by rw[Ω];exact⟨cG ⟨rfl,Φ.refl _⟩,rfl⟩) (aD (λk=>?_) λk=>?_))
  ·rw[g8]at q
   exact i (by rw[fM,q];rfl)
  ·rw[og]at q
   have h:fM L=ε:=by rw[fM,q,k];rfl
   exact a _ ε (by rw[fd,h];rfl) h
  ·rw[og]at q
   exact i (by rw[fM,q,k];rfl)
 ·cases c
def ao8:ak θ 89 (ai bF (yy fd fM)):=by
 refine ca (Γ:=H5 yI tI) (az ba PK) func89 rfl λo u c l=>?_
 unfold yy at c;split at c
 ·rename_i m g
  cases c;simp only[Ω]at l;obtain⟨n,p,_⟩:=l;have w:=aV p;have a:∀v b,fd (V (ο g) m)=v->fM (V (ο g) m)=b->aE (.out .ret [.af [.v (.int .u32 v),.v (.bool b)]] (gU m (ο g))) (dX (bJ bF [.row m g] []) {val:=.af [.v (.int .u32 (fd (V (ο g) m))),.v (.bool (fM (V (ο g) m)))],aw:=[aF m g,κ (m<=2^38)]}):=λv b r s=>F ⟨_,rfl,by rw[r,s],.cons (ab.row λj f=>(a7 n j f).symm) .nil⟩
  have i:fM (V (ο g) m)=η->aE (.out .ret [.af [.v (.int .u32 0),.v (.bool η)]] (gU m (ο g))) (dX (bJ bF [.row m g] []) {val:=.af [.v (.int .u32 (fd (V (ο g) m))),.v (.bool (fM (V (ο g) m)))],aw:=[aF m g,κ (m<=2^38)]}):=λh=>a 0 η (by rw[fd,h];rfl) h
  refine⟨gU m (ο g),Ol m (ο g) (tI (V (ο g) m)).length (Y (tI (V (ο g) m))) (bV (me (Y (tI (V (ο g) m))) (tI (V (ο g) m)).length) 24) (qJ (Y (tI (V (ο g) m))) (tI (V (ο g) m)).length 24),100,.cons (ab.row λj f=>a7 n j f) .nil,da (auF m (ο g) _ _ (ab0 _)),?_⟩;show aE (ad θ (H5 yI tI) (Ol m (ο g) (tI (V (ο g) m)).length (Y (tI (V (ο g) m))) (bV (me (Y (tI (V (ο g) m))) (tI (V (ο g) m)).length) 24) (qJ (Y (tI (V (ο g) m))) (tI (V (ο g) m)).length 24)) 100 GZ [.sl 0 9 0 0 m ζ] (gU m (ο g)) (ag 1)) _
  rw[awy];simp only[cz,cZ];generalize V (ο g) m=L at a i⊢;refine fu (aD (λq=>?_) λq=>aq (by rw[Ω];exact⟨cG ⟨rfl,Φ.refl _⟩,rfl⟩) (aD (λk=>?_) λk=>?_))
  ·rw[g8]at q
   exact i (by rw[fM,q];rfl)
  ·rw[og]at q
   have h:fM L=ε:=by rw[fM,q,k];rfl
   exact a _ ε (by rw[fd,h];rfl) h
  ·rw[og]at q
   exact i (by rw[fM,q,k];rfl)
 ·cases c
def No(yI:E Wh->ξ)(tI:E Wh->E Wh)(b:E Wh->ρ)(a:E Wh->ξ):aG:=ext (H4 yI tI) 129 (ai bF (vU b a))
def Np(yI:E Wh->ξ)(tI:E Wh->E Wh)(b:E Wh->ρ)(a:E Wh->ξ):aG:=ext (H5 yI tI) 103 (ai bF (vU b a))
def awM(yI:E Wh->ξ)(tI:E Wh->E Wh)(d:E Wh->ρ)(a:E Wh->ξ)(m:O)(f:Θ):let b:=(V (ο λq=>J f (0+q)) m);let c:=(ce (tI b));let e:=[AB.row η m 9 (J f) 123];let g:=(V (ο λq=>J (Y (tI b)) (0+q)) c);ad θ (No yI tI d a) K 100 f69 [.sl 0 9 0 0 m ζ] (gU m f) (ag 1)
 =Ξ [Δ (0+m) m,aF m λq=>J f (0+q),κ (m<=274877906944)] (bif !yI b then rO [AV.af [AV.v (.string (ah (ap []))),vB η]] e else Ξ [Δ (0+ce (tI b)) c,aF c λq=>J (Y (tI b)) (0+q),a g] (rO [AV.af [AV.v (.string (d g)),vB ε]] e)):=by intros;kernel_rfl
def awN(yI:E Wh->ξ)(tI:E Wh->E Wh)(d:E Wh->ρ)(a:E Wh->ξ)(m:O)(f:Θ):let c:=(V (ο λq=>J f (0+q)) m);let b:=(ce (tI c));let e:=(J (Y (tI c)));let g:=[AB.row η m 9 (J f) 123];let h:=(V (ο e) b);ad θ (Np yI tI d a) K 100 f51 [.sl 0 9 0 0 m ζ] (gU m f) (ag 1)
 =Ξ [Δ (0+m) m,aF m λq=>J f (0+q),κ (m<=274877906944)] (bif !yI c then rO [AV.af [AV.v (.string (ah (ap []))),vB η]] g else Ξ [Δ b b,aF b e,a h] (rO [AV.af [AV.v (.string (d h)),vB ε]] g)):=by intros;kernel_rfl
def tZ(a:E Wh->ρ)(b:E Wh->ξ):E SA->χ FR
 |[.row m g]=>γ {val:=.af [.v (.string (a (V (ο g) m))),.v (.bool (b (V (ο g) m)))],aw:=[aF m g,κ (m<=2^38)]}
 |_=>ζ
def zW{x y A B:Z}(a: -A<=x)(b:x<=A)(c: -B<=y)(d:y<=B): -(A*B)<=x*y/\x*y<=A*B:=by
 have e:0<=A:=by omega
 have f:0<=B:=by omega
 have g:0<=(A-x)*(B-y):=Fg (by omega) (by omega);have h:0<=(A+x)*(B+y):=Fg (by omega) (by omega);have i:0<=(A-x)*(B+y):=Fg (by omega) (by omega);have j:0<=(A+x)*(B-y):=Fg (by omega) (by omega);have k:(A-x)*(B-y)=A*B-A*y-x*B+x*y:=by grind
 have l:(A+x)*(B+y)=A*B+A*y+x*B+x*y:=by grind
 have m:(A-x)*(B+y)=A*B+A*y-x*B-x*y:=by grind
 have n:(A+x)*(B-y)=A*B-A*y+x*B-x*y:=by grind
 omega
def fo(B:Z)(f:ao):Prop:=∀k,k<8-> -B<=f k/\f k<=B
def L1(B:Z)(f:ao):Prop:=∀k,k<4-> -B<=f k/\f k<=B
variable {B:O->Prop}
def at8(h:∀k,k<8->B k):B 0/\B 1/\B 2/\B 3/\B 4/\B 5/\B 6/\B 7:=
 ⟨h 0 (by omega),h 1 (by omega),h 2 (by omega),h 3 (by omega),h 4 (by omega),h 5 (by omega),h 6 (by omega),h 7 (by omega)⟩
def Ps(h:B 0/\B 1/\B 2/\B 3/\B 4/\B 5/\B 6/\B 7):∀k,k<8->B k:=λk a=>by rcases(by omega:k=0\/k=1\/k=2\/k=3\/k=4\/k=5\/k=6\/k=7)with rfl|rfl|rfl|rfl|rfl|rfl|rfl|rfl<;>simp only[h]
def ahu{a b:O->Z}{A B:Z}(c:fo A a)(d:fo B b)(k:O): -(8*(A*B))<=dy a b k/\dy a b k<=8*(A*B):=by
 have p:=at8 λi e=>at8 λj f=>zW (c i e).1 (c i e).2 (d j f).1 (d j f).2
 unfold dy;split<;>omega
def an6{a b:O->Z}{A B:Z}(f:fo A a)(g:fo B b):fo (24*(A*B)) (bw a b):=by
 have c:=ahu f g;have d:=at8 λk _=>c k
 have e:=at8 λk _=>c (k+7)
 simp only[Bt]at e;refine Ps ?_;simp only[bw];omega
def Y9(c:fo A h):fo (2*A) (wV h):=by have b:=at8 c;refine Ps ?_;simp only[wV];omega
def W8(a:fo A h)(c:A<=9223372036854775807):∀k,k<8->W (h k)=h k:=λk b=>by have:=a k b;exact fj
def W4(a:L1 A h)(c:A<=9223372036854775807):∀k,k<4->W (h k)=h k:=λk b=>by have:=a k b;exact fj
def ayl(f:ao):∀k,k<8->w8 f k=f k:=Ps ⟨rfl,rfl,rfl,rfl,rfl,rfl,rfl,rfl⟩
def dd(φ:Z->(O->Z)->Z):E Wh->Z
 |[]=>0
 |w::l=>φ w.s w.r.f+dd φ l
def pH(φ:Z->(O->Z)->Z):Prop:=∀s f g,φ s (λk=>f k+g k)=φ s f+φ s g
def pH.zero{φ:Z->(O->Z)->Z}(h:pH φ)(s:Z):φ s (λ_=>0)=0:=by
 have:=h s (λ_=>0) (λ_=>0);have e:(λk:O=>(λ_:O=>(0:Z)) k+(λ_:O=>(0:Z)) k)=λ_=>0:=by
  funext k
  rfl
 rw[e]at this;omega
def OS(φ:Z->(O->Z)->Z):∀A B:E Wh,dd φ (A++B)=dd φ A+dd φ B
 |[],B=>by show dd φ B=0+dd φ B;omega
 |w::l,B=>by
  show φ w.s w.r.f+dd φ (l++B)=φ w.s w.r.f+dd φ l+dd φ B
  rw[OS φ l B];omega
def YL{φ a:Z->(O->Z)->Z}{c:Wh->Wh}:∀{L:E Wh},(∀w∈L,φ (c w).s (c w).r.f=a w.s w.r.f)->dd φ (L.map c)=dd a L
 |[],_=>rfl
 |w::l,h=>by
  show φ (c w).s (c w).r.f+dd φ (l.map c)=a w.s w.r.f+dd a l
  rw[h w (by simp),YL λx b=>h x (by simp[b])]
def mT(B:Z)(L:E Wh):Prop:=∀w∈L,fo B w.r.f
def Cy.Hf(a:Cy){k:O}(h:8<=k):a.f k=0:=by
 unfold Cy.f
 match k,h with
 |k+8,_=>rfl
def ahI{a b:Cy}(d:fo 2000000000000 a.f)(f:fo 2000000000000 b.f):(gn a b).f=λk=>a.f k+b.f k:=by
 funext k
 by_cases c:k<8
 ·have e:(gn a b).f k=W (a.f k+b.f k):=by rcases(by omega:k=0\/k=1\/k=2\/k=3\/k=4\/k=5\/k=6\/k=7)with rfl|rfl|rfl|rfl|rfl|rfl|rfl|rfl<;>rfl
  have g:=d k c;have h:=f k c;rw[e,fj]
 ·rw[Cy.Hf _ (by omega),Cy.Hf _ (by omega),Cy.Hf _ (by omega)]
  rfl
def Mn{a:Cy}(h:bt a=ε):fo 1000000 a.f:=λk b=>by have:=xy.1 h k b;omega
def fo.mono{A B:Z}(a:fo A h)(b:A<=B):fo B h:=λk c=>by have:=a k c;omega
def mT.mono{A B:Z}(h:mT A L)(a:A<=B):mT B L:=λw b=>(h w b).mono a
def YK{φ:Z->(O->Z)->Z}(a:pH φ){w:Wh}(b:fo 2000000000000 w.r.f):∀{l:E Wh},mT 2000000000000 l->dd φ (cL l w)=dd φ l+φ w.s w.r.f
 |[],_=>by
  show φ w.s w.r.f+0=0+φ w.s w.r.f
  omega
 |x::l,h=>by
  unfold cL;split
  ·show φ x.s x.r.f+dd φ (cL l w)=φ x.s x.r.f+dd φ l+φ w.s w.r.f
   rw[YK a b λy c=>h y (by simp[c])];omega
  ·split
   ·rename_i e
    show φ x.s (gn x.r w.r).f+dd φ l=φ x.s x.r.f+dd φ l+φ w.s w.r.f
    rw[ahI (h x (by simp)) b,a,e];omega
   ·show φ w.s w.r.f+(φ x.s x.r.f+dd φ l)=φ x.s x.r.f+dd φ l+φ w.s w.r.f
    omega
def okW(L:E Wh):Prop:=∀w∈L,bt w.r=ε
def okW.bd(h:okW L):mT 1000000 L:=λw a=>Mn (h w a)
def alX{w:Wh}(b:rising L)(h:okW L)(c:bt (ed L w)=ε):okW (cL L w):=λx a=>by
 have:=(Yb b).subset a;rcases dE.1 this with rfl|a
 ·exact c
 ·exact h x (adX.1 a).1
def OT{φ:Z->(O->Z)->Z}(a:pH φ):∀{ws acc B:E Wh},mT 2000000000000 ws->rising acc->okW acc->runT cL acc ws=γ B->dd φ B=dd φ acc+dd φ ws/\rising B/\okW B
 |[],acc,B,_,b,c,h=>by simp only[runT,aC]at h;subst h;exact⟨by show dd φ acc=dd φ acc+0;omega,b,c⟩
 |w::ws,acc,B,d,b,c,h=>by
  unfold runT at h;split at h
  ·rename_i f
   obtain⟨e,g,i⟩:=OT a (ws:=ws) (λx j=>d x (by simp[j])) (N2 w b) (alX b c f) h;refine⟨?_,g,i⟩;rw[e,YK a (d w (by simp)) (c.bd.mono (by omega))];show _=dd φ acc+(φ w.s w.r.f+dd φ ws)
   omega
  ·cases h
def YN{φ:Z->(O->Z)->Z}(a:pH φ):∀L:E Wh,dd φ (bQ L)=dd φ L
 |[]=>rfl
 |w::l=>by
  have b:=YN a l;unfold bQ at b⊢;by_cases h:w.r=iN
  ·rw[Sb (by simp[h]),b]
   show dd φ l=φ w.s w.r.f+dd φ l
   rw[h,show iN.f=λ_=>0 from funext λk=>by
    by_cases c:k<8
    ·rcases(by omega:k=0\/k=1\/k=2\/k=3\/k=4\/k=5\/k=6\/k=7)with rfl|rfl|rfl|rfl|rfl|rfl|rfl|rfl<;>rfl
    ·exact Cy.Hf _ (by omega),a.zero]
   omega
  ·rw[Sc (by simp[h])]
   show φ w.s w.r.f+dd φ _=φ w.s w.r.f+dd φ l
   rw[b]
def bK(T:E Wh):Prop:=rising T/\(∀w∈T,w.r≠iN)/\gp T=ε
def avK{ws T:E Wh}(c:mT 2000000000000 ws)(h:iF ws=γ T):bK T/\∀φ,pH φ->dd φ T=dd φ ws:=by
 unfold iF at h;split at h
 ·rename_i l d
  split at h
  ·rename_i f
   cases h;obtain⟨_,g,_⟩:=OT (φ:=λ_ _=>0) (λ_ _ _=>rfl) c yb (λw a=>by simp at a) d;refine⟨⟨adM _ g,λw a=>by simpa using(adX.1 a).2,f⟩,λφ b=>?_⟩;obtain⟨e,_⟩:=OT b c yb (λw a=>by simp at a) d;rw[YN b,e];show 0+_=_
   omega
  ·cases h
 ·cases h
def aoH(h:bC L=ε):iF L=γ (bo L):=by
 unfold bC at h;unfold bo;cases e:iF L with
 |none=>rw[e]at h;cases h
 |some T=>rfl
def AT(a:mT 2000000000000 L)(h:bC L=ε):bK (bo L)/\∀φ,pH φ->dd φ (bo L)=dd φ L:=avK a (aoH h)
def Ya:∀{l:E Wh}{w:Wh},(∀x∈l,x.s<w.s)->cL l w=l++[w]
 |[],_,_=>rfl
 |x::l,w,h=>by unfold cL;rw[aU (h x (by simp)),Ya λy a=>h y (by simp[a])];rfl
def au8{w:Wh}(h:∀x∈L,x.s<w.s):ed L w=w.r:=by
 have:(L.find? λx=>κ (x.s=w.s))=ζ:=yc.2 λx a=>by have:=h x a;simp only[aL];omega
 simp[ed,j8,this]
def abo:∀{ws acc:E Wh},rising (acc++ws)->okW ws->runT cL acc ws=γ (acc++ws)
 |[],acc,_,_=>by simp[runT]
 |w::ws,acc,b,c=>by
  have d:∀x∈acc,x.s<w.s:=λx a=>(List.pairwise_append.1 b).2.2 x a w (by simp)
  unfold runT;rw[au8 d,aU (c w (by simp)),Ya d,abo (by simpa using b) λx a=>c x (by simp[a])];simp
def ahN(h:gp L=ε):okW L:=λw a=>by rw[gp,aP,bT]at h;have:=h.2 w a;rw[aP]at this;exact this.2
def acf(h:bK L):iF L=γ L:=by
 have a:bQ L=L:=Se.2 λw b=>by simpa using h.2.1 w b
 unfold iF;rw[abo (acc:=[]) (by simpa using h.1) (ahN h.2.2)];simp only[jO];rw[a,aU h.2.2]
def aoG(h:bK L):bC L=ε:=by rw[bC,acf h];rfl
def avJ(h:bK L):bo L=L:=by rw[bo,acf h];rfl
def fI(a:ao):O->Z
 |0=> -a 7
 |4=>a 3+a 7
 |k+1=>a k
def cE(a:ao):O->O->Z
 |0=>a
 |n+1=>fI (cE a n)
def aun(f g:ao):fI (λk=>f k+g k)=λk=>fI f k+fI g k:=by
 funext k
 unfold fI;split
 ·show-(f 7+g 7)= -f 7+ -g 7
  omega
 ·show f 3+g 3+(f 7+g 7)=f 3+f 7+(g 3+g 7)
  omega
 ·rfl
def ack(f g:ao):∀n,cE (λk=>f k+g k) n=λk=>cE f n k+cE g n k
 |0=>rfl
 |n+1=>by
  show fI (cE (λk=>f k+g k) n)=_
  rw[ack f g n,aun];rfl
def Rg(f:ao)(m:O):∀n,cE (cE f m) n=cE f (m+n)
 |0=>rfl
 |n+1=>by
  show fI (cE (cE f m) n)=fI (cE f (m+n))
  rw[Rg f m n]
def abL{f g:O->Z}(h:∀k,k<8->f k=g k):∀k,k<8->fI f k=fI g k:=by
 refine lM ?_ ?_ ?_ ?_ ?_ ?_ ?_ ?_
 ·show-f 7= -g 7;rw[h 7 (by omega)]
 ·exact h 0 (by omega)
 ·exact h 1 (by omega)
 ·exact h 2 (by omega)
 ·show f 3+f 7=g 3+g 7;rw[h 3 (by omega),h 7 (by omega)]
 ·exact h 4 (by omega)
 ·exact h 5 (by omega)
 ·exact h 6 (by omega)
def AU{f g:O->Z}(h:∀k,k<8->f k=g k):∀(n k:O),k<8->cE f n k=cE g n k
 |0=>h
 |n+1=>abL (AU h n)
def avR(f:ao):∀k,k<8->cE f 24 k=f k:=by refine lM ?_ ?_ ?_ ?_ ?_ ?_ ?_ ?_<;>(simp only[cE,fI];omega)
def Rf(f:ao)(m:O):∀(q k:O),k<8->cE f (m+24*q) k=cE f m k
 |0,_,_=>rfl
 |q+1,k,a=>by rw[show m+24*(q+1)=24+(m+24*q) by omega,<-Rg,AU (avR f) _ k a,Rf f m q k a]
def avS(f:ao){m n:O}(h:m%24=n%24)(k:O)(a:k<8):cE f m k=cE f n k:=by
 have b:m=m%24+24*(m/24):=by omega
 have c:n=n%24+24*(n/24):=by omega
 rw[b,c,Rf f _ _ k a,Rf f _ _ k a,h]
def iG(f:ao)(n:Z):O->Z:=cE f (n%24).toNat
def avP(f g:ao)(n:Z):iG (λk=>f k+g k) n=λk=>iG f n k+iG g n k:=ack f g _
def avQ{f g:O->Z}(h:∀k,k<8->f k=g k)(n:Z):∀k,k<8->iG f n k=iG g n k:=AU h _
def Re{B:Z}{f:O->Z}(h:fo B f):∀n,(∀k,k<4->(-(2*B)<=cE f n k/\cE f n k<=2*B)/\(-(2*B)<=cE f n (k+4)/\cE f n (k+4)<=2*B)/\(-(2*B)<=cE f n k+cE f n (k+4)/\cE f n k+cE f n (k+4)<=2*B))
 |0=>λk e=>by
  have s:=h k (by omega);have t:=h (k+4) (by omega);show(-(2*B)<=f k/\f k<=2*B)/\(-(2*B)<=f (k+4)/\f (k+4)<=2*B)/\(-(2*B)<=f k+f (k+4)/\f k+f (k+4)<=2*B)
  omega
 |n+1=>λk e=>by
  have a:=Re h n;have b:=a 0 (by omega);have c:=a 1 (by omega);have d:=a 2 (by omega);have g:=a 3 (by omega);have i:cE f (n+1) 0= -cE f n 7:=rfl;have j:cE f (n+1) 1=cE f n 0:=rfl;have l:cE f (n+1) 2=cE f n 1:=rfl;have m:cE f (n+1) 3=cE f n 2:=rfl;have o:cE f (n+1) 4=cE f n 3+cE f n 7:=rfl;have p:cE f (n+1) 5=cE f n 4:=rfl;have q:cE f (n+1) 6=cE f n 5:=rfl;have r:cE f (n+1) 7=cE f n 6:=rfl;simp only[bH,Bt]at b c d g;rcases(by omega:k=0\/k=1\/k=2\/k=3)with rfl|rfl|rfl|rfl
  ·simp only[bH]
   rw[i,o];omega
  ·simp only[Bt]
   rw[j,p];exact b
  ·simp only[Bt]
   rw[l,q];exact c
  ·simp only[Bt]
   rw[m,r];exact d
def acl(a:fo A h)(n:O):fo (2*A) (cE h n):=λk c=>by
 by_cases b:k<4
 ·exact(Re a n k b).1
 ·have:=(Re a n (k-4) (by omega)).2.1
  rwa [show k-4+4=k by omega]at this
def Rj{B:Z}{f:O->Z}(h:fo B f)(c:2*B<=9000000000000000000):∀(n k:O),k<8->fX f n k=cE f n k
 |0,_,_=>rfl
 |n+1,k,d=>by
  have a:=Rj h c n;have b:=acl h (n+1);have e:=b 0 (by omega);have g:=b 4 (by omega);have i:cE f (n+1) 0= -cE f n 7:=rfl;have j:cE f (n+1) 4=cE f n 3+cE f n 7:=rfl
  revert k d
  refine lM ?_ ?_ ?_ ?_ ?_ ?_ ?_ ?_
  ·show W (0-fX f n 7)= -cE f n 7
   rw[a 7 (by omega),fj];omega
  ·exact a 0 (by omega)
  ·exact a 1 (by omega)
  ·exact a 2 (by omega)
  ·show W (fX f n 3+fX f n 7)=cE f n 3+cE f n 7
   rw[a 3 (by omega),a 7 (by omega),fj]
  ·exact a 4 (by omega)
  ·exact a 5 (by omega)
  ·exact a 6 (by omega)
def Q6(h:yI L=ε):aO (tI L)=ε:=by
 have a:=h;rw[yI,aP]at a;have e:tI L=bo L:=by rw[tI,h];rfl
 rw[e];exact(AT ((show mT 1000000 L from λw b=>(z7 a.1 b).2).mono (by omega)) a.2).1.2.2
def ef(L:E Wh):ρ:=bif yI L then dF (tI L)else⟨#[]⟩
def ak1:aK θ (No yI tI dF aO):=az (az ba Py) aab
def ak2:aK θ (Np yI tI dF aO):=az (az ba PK) aqE
def apu:ak θ 69 (ai bF (tZ ef yI)):=by
 refine ca ak1 func69 rfl λh p c e=>?_
 unfold tZ at c;split at c
 ·rename_i m g
  cases c;simp only[Ω]at e;obtain⟨f,i,_⟩:=e;have r:=aV i;have a:∀v b,ef (V (ο g) m)=v->yI (V (ο g) m)=b->aE (.out .ret [.af [.v (.string v),.v (.bool b)]] (gU m (ο g))) (dX (bJ bF [.row m g] []) {val:=.af [.v (.string (ef (V (ο g) m))),.v (.bool (yI (V (ο g) m)))],aw:=[aF m g,κ (m<=2^38)]}):=λv b n o=>F ⟨_,rfl,by rw[n,o],.cons (ab.row λj d=>(a7 f j d).symm) .nil⟩
  refine⟨gU m (ο g),K,100,.cons (ab.row λj d=>a7 f j d) .nil,λ_ _=>cN _ _ _,?_⟩;show aE (ad θ (No yI tI dF aO) K 100 f69 [.sl 0 9 0 0 m ζ] (gU m (ο g)) (ag 1)) _
  rw[awM];simp only[cz,cZ];generalize V (ο g) m=L at a⊢;refine fu (aD (λq=>?_) λq=>?_)
  ·rw[g8]at q
   exact a _ _ (by rw[ef,q];rfl) q
  ·rw[og]at q
   rw[uH];refine aq (by simp only[Ω,ax,aj,bl,dn,bv];exact⟨by omega,Q6 q⟩) (a _ _ (by rw[ef,q];rfl) q)
 ·cases c
def PC:ak θ 51 (ai bF (tZ ef yI)):=by
 refine ca ak2 func51 rfl λh p c e=>?_
 unfold tZ at c;split at c
 ·rename_i m g
  cases c;simp only[Ω]at e;obtain⟨f,i,_⟩:=e;have r:=aV i;have a:∀v b,ef (V (ο g) m)=v->yI (V (ο g) m)=b->aE (.out .ret [.af [.v (.string v),.v (.bool b)]] (gU m (ο g))) (dX (bJ bF [.row m g] []) {val:=.af [.v (.string (ef (V (ο g) m))),.v (.bool (yI (V (ο g) m)))],aw:=[aF m g,κ (m<=2^38)]}):=λv b n o=>F ⟨_,rfl,by rw[n,o],.cons (ab.row λj d=>(a7 f j d).symm) .nil⟩
  refine⟨gU m (ο g),K,100,.cons (ab.row λj d=>a7 f j d) .nil,λ_ _=>cN _ _ _,?_⟩;show aE (ad θ (Np yI tI dF aO) K 100 f51 [.sl 0 9 0 0 m ζ] (gU m (ο g)) (ag 1)) _
  rw[awN];simp only[cz,cZ];generalize V (ο g) m=L at a⊢;refine fu (aD (λq=>?_) λq=>?_)
  ·rw[g8]at q
   exact a _ _ (by rw[ef,q];rfl) q
  ·rw[og]at q
   rw[uH];refine aq (by simp only[Ω,ax,aj,bl,dn,bv];exact⟨by omega,Q6 q⟩) (a _ _ (by rw[ef,q];rfl) q)
 ·cases c
noncomputable abbrev zg:cb:=f106
def WP(a:O->(O->Z)->Z->Z->Z)(N q:Z):aG:=ext g0 12 (ev [] (Ln a N q))
abbrev Dn:Ex->E O:=cj [0,2,3,6,7] [0,2,3] [2]
abbrev AG(n:Z)(i:O):E AV:=[.ptr 0 0 0 0,.ptr 2 0 0 0,.ptr 3 0 0 0,.v (ι n),.v (ι i)]
abbrev nK(l:O)(c:χ O)(p:Z)(m:O)(b:ao)(tr d:ae)(a:ao):E AB:=[.cells [.sl 1 1 0 0 l c,.v (ι p)] tr,.row η m 1 (aS b) d,.cells (fe λ_=>0) 88,.cells (fe a) 88]
noncomputable abbrev so(d:O->(O->Z)->Z->Z->Z)(l:O)(c:χ O)(p:Z)(m:O)(b:ao)(tr e:ae)(a:ao)(n:Z)(i:O)(q:Z):am:=a0 θ (WP d 8 q) 100 K (a5 1 zg) (ar 0 57 ((Dn .normal).zip (AG n i))) (nK l c p m b tr e a) (cw 57 Dn 2)
def ash(d:O->(O->Z)->Z->Z->Z)(l:O)(c:χ O)(p:Z)(m:O)(b:ao)(tr e:ae)(a:ao)(n:Z)(i:O):so d l c p m b tr e a n i 0=bif κ ((↑i:Z)<n)then Ξ [okB m (aS b),κ (l<=m),κ ((0:Z)<=p),κ (p<=(1073741824:Z)),κ (d l (bD (aS b)) p (8:Z)=(0:Z)),κ (0<m),okB m (aS b),κ (l<=m),κ ((0:Z)<=p+(1:Z)),κ (p+(1:Z)<=(1073741824:Z)),κ (0<m)] (am.out .normal [AV.ptr 0 0 0 0,AV.ptr 2 0 0 0,AV.ptr 3 0 0 0,vI n,vI (aa .i64 ((↑i:Z)+(1:Z)))] [AB.cells [AV.sl 1 1 0 0 l c,vI (p+(1:Z)+(1:Z))] tr,AB.row η m 1 (aS b) e,AB.cells [vI 0,vI 0,vI 0,vI 0,vI 0,vI 0,vI 0,vI 0] 88,AB.cells [vI (aa .i64 (d l (bD (aS b)) (p+(1:Z)) (9:Z) -(4:Z))),vI (a 1),vI (a 2),vI (a 3),vI (a 4),vI (a 5),vI (a 6),vI (a 7)] 88])else am.out (Ex.exit 1) [AV.ptr 0 0 0 0,AV.ptr 2 0 0 0,AV.ptr 3 0 0 0] [AB.cells [AV.sl 1 1 0 0 l c,vI p] tr,AB.row η m 1 (aS b) e,AB.cells [vI 0,vI 0,vI 0,vI 0,vI 0,vI 0,vI 0,vI 0] 88,AB.cells [vI (a 0),vI (a 1),vI (a 2),vI (a 3),vI (a 4),vI (a 5),vI (a 6),vI (a 7)] 88]:=by kernel_rfl
def asi(d:O->(O->Z)->Z->Z->Z)(l:O)(c:χ O)(p:Z)(m:O)(b:ao)(tr e:ae)(a:ao)(n:Z)(i:O):so d l c p m b tr e a n i 1=bif κ ((↑i:Z)<n)then Ξ [okB m (aS b),κ (l<=m),κ ((0:Z)<=p),κ (p<=(1073741824:Z)),κ (d l (bD (aS b)) p (8:Z)=(1:Z)),κ (0<m),okB m (aS b),κ (l<=m),κ ((0:Z)<=p+(1:Z)),κ (p+(1:Z)<=(1073741824:Z)),κ (0<m)] (am.out .normal [AV.ptr 0 0 0 0,AV.ptr 2 0 0 0,AV.ptr 3 0 0 0,vI n,vI (aa .i64 ((↑i:Z)+(1:Z)))] [AB.cells [AV.sl 1 1 0 0 l c,vI (p+(1:Z)+(1:Z))] tr,AB.row η m 1 (aS b) e,AB.cells [vI 0,vI 0,vI 0,vI 0,vI 0,vI 0,vI 0,vI 0] 88,AB.cells [vI (a 0),vI (aa .i64 (d l (bD (aS b)) (p+(1:Z)) (9:Z) -(4:Z))),vI (a 2),vI (a 3),vI (a 4),vI (a 5),vI (a 6),vI (a 7)] 88])else am.out (Ex.exit 1) [AV.ptr 0 0 0 0,AV.ptr 2 0 0 0,AV.ptr 3 0 0 0] [AB.cells [AV.sl 1 1 0 0 l c,vI p] tr,AB.row η m 1 (aS b) e,AB.cells [vI 0,vI 0,vI 0,vI 0,vI 0,vI 0,vI 0,vI 0] 88,AB.cells [vI (a 0),vI (a 1),vI (a 2),vI (a 3),vI (a 4),vI (a 5),vI (a 6),vI (a 7)] 88]:=by kernel_rfl
def asj(d:O->(O->Z)->Z->Z->Z)(l:O)(c:χ O)(p:Z)(m:O)(b:ao)(tr e:ae)(a:ao)(n:Z)(i:O):so d l c p m b tr e a n i 2=bif κ ((↑i:Z)<n)then Ξ [okB m (aS b),κ (l<=m),κ ((0:Z)<=p),κ (p<=(1073741824:Z)),κ (d l (bD (aS b)) p (8:Z)=(2:Z)),κ (0<m),okB m (aS b),κ (l<=m),κ ((0:Z)<=p+(1:Z)),κ (p+(1:Z)<=(1073741824:Z)),κ (0<m)] (am.out .normal [AV.ptr 0 0 0 0,AV.ptr 2 0 0 0,AV.ptr 3 0 0 0,vI n,vI (aa .i64 ((↑i:Z)+(1:Z)))] [AB.cells [AV.sl 1 1 0 0 l c,vI (p+(1:Z)+(1:Z))] tr,AB.row η m 1 (aS b) e,AB.cells [vI 0,vI 0,vI 0,vI 0,vI 0,vI 0,vI 0,vI 0] 88,AB.cells [vI (a 0),vI (a 1),vI (aa .i64 (d l (bD (aS b)) (p+(1:Z)) (9:Z) -(4:Z))),vI (a 3),vI (a 4),vI (a 5),vI (a 6),vI (a 7)] 88])else am.out (Ex.exit 1) [AV.ptr 0 0 0 0,AV.ptr 2 0 0 0,AV.ptr 3 0 0 0] [AB.cells [AV.sl 1 1 0 0 l c,vI p] tr,AB.row η m 1 (aS b) e,AB.cells [vI 0,vI 0,vI 0,vI 0,vI 0,vI 0,vI 0,vI 0] 88,AB.cells [vI (a 0),vI (a 1),vI (a 2),vI (a 3),vI (a 4),vI (a 5),vI (a 6),vI (a 7)] 88]:=by kernel_rfl
def asl(d:O->(O->Z)->Z->Z->Z)(l:O)(c:χ O)(p:Z)(m:O)(b:ao)(tr e:ae)(a:ao)(n:Z)(i:O):so d l c p m b tr e a n i 3=bif κ ((↑i:Z)<n)then Ξ [okB m (aS b),κ (l<=m),κ ((0:Z)<=p),κ (p<=(1073741824:Z)),κ (d l (bD (aS b)) p (8:Z)=(3:Z)),κ (0<m),okB m (aS b),κ (l<=m),κ ((0:Z)<=p+(1:Z)),κ (p+(1:Z)<=(1073741824:Z)),κ (0<m)] (am.out .normal [AV.ptr 0 0 0 0,AV.ptr 2 0 0 0,AV.ptr 3 0 0 0,vI n,vI (aa .i64 ((↑i:Z)+(1:Z)))] [AB.cells [AV.sl 1 1 0 0 l c,vI (p+(1:Z)+(1:Z))] tr,AB.row η m 1 (aS b) e,AB.cells [vI 0,vI 0,vI 0,vI 0,vI 0,vI 0,vI 0,vI 0] 88,AB.cells [vI (a 0),vI (a 1),vI (a 2),vI (aa .i64 (d l (bD (aS b)) (p+(1:Z)) (9:Z) -(4:Z))),vI (a 4),vI (a 5),vI (a 6),vI (a 7)] 88])else am.out (Ex.exit 1) [AV.ptr 0 0 0 0,AV.ptr 2 0 0 0,AV.ptr 3 0 0 0] [AB.cells [AV.sl 1 1 0 0 l c,vI p] tr,AB.row η m 1 (aS b) e,AB.cells [vI 0,vI 0,vI 0,vI 0,vI 0,vI 0,vI 0,vI 0] 88,AB.cells [vI (a 0),vI (a 1),vI (a 2),vI (a 3),vI (a 4),vI (a 5),vI (a 6),vI (a 7)] 88]:=by kernel_rfl
def asm(d:O->(O->Z)->Z->Z->Z)(l:O)(c:χ O)(p:Z)(m:O)(b:ao)(tr e:ae)(a:ao)(n:Z)(i:O):so d l c p m b tr e a n i 4=bif κ ((↑i:Z)<n)then Ξ [okB m (aS b),κ (l<=m),κ ((0:Z)<=p),κ (p<=(1073741824:Z)),κ (d l (bD (aS b)) p (8:Z)=(4:Z)),κ (0<m),okB m (aS b),κ (l<=m),κ ((0:Z)<=p+(1:Z)),κ (p+(1:Z)<=(1073741824:Z)),κ (0<m)] (am.out .normal [AV.ptr 0 0 0 0,AV.ptr 2 0 0 0,AV.ptr 3 0 0 0,vI n,vI (aa .i64 ((↑i:Z)+(1:Z)))] [AB.cells [AV.sl 1 1 0 0 l c,vI (p+(1:Z)+(1:Z))] tr,AB.row η m 1 (aS b) e,AB.cells [vI 0,vI 0,vI 0,vI 0,vI 0,vI 0,vI 0,vI 0] 88,AB.cells [vI (a 0),vI (a 1),vI (a 2),vI (a 3),vI (aa .i64 (d l (bD (aS b)) (p+(1:Z)) (9:Z) -(4:Z))),vI (a 5),vI (a 6),vI (a 7)] 88])else am.out (Ex.exit 1) [AV.ptr 0 0 0 0,AV.ptr 2 0 0 0,AV.ptr 3 0 0 0] [AB.cells [AV.sl 1 1 0 0 l c,vI p] tr,AB.row η m 1 (aS b) e,AB.cells [vI 0,vI 0,vI 0,vI 0,vI 0,vI 0,vI 0,vI 0] 88,AB.cells [vI (a 0),vI (a 1),vI (a 2),vI (a 3),vI (a 4),vI (a 5),vI (a 6),vI (a 7)] 88]:=by kernel_rfl
def asn(d:O->(O->Z)->Z->Z->Z)(l:O)(c:χ O)(p:Z)(m:O)(b:ao)(tr e:ae)(a:ao)(n:Z)(i:O):so d l c p m b tr e a n i 5=bif κ ((↑i:Z)<n)then Ξ [okB m (aS b),κ (l<=m),κ ((0:Z)<=p),κ (p<=(1073741824:Z)),κ (d l (bD (aS b)) p (8:Z)=(5:Z)),κ (0<m),okB m (aS b),κ (l<=m),κ ((0:Z)<=p+(1:Z)),κ (p+(1:Z)<=(1073741824:Z)),κ (0<m)] (am.out .normal [AV.ptr 0 0 0 0,AV.ptr 2 0 0 0,AV.ptr 3 0 0 0,vI n,vI (aa .i64 ((↑i:Z)+(1:Z)))] [AB.cells [AV.sl 1 1 0 0 l c,vI (p+(1:Z)+(1:Z))] tr,AB.row η m 1 (aS b) e,AB.cells [vI 0,vI 0,vI 0,vI 0,vI 0,vI 0,vI 0,vI 0] 88,AB.cells [vI (a 0),vI (a 1),vI (a 2),vI (a 3),vI (a 4),vI (aa .i64 (d l (bD (aS b)) (p+(1:Z)) (9:Z) -(4:Z))),vI (a 6),vI (a 7)] 88])else am.out (Ex.exit 1) [AV.ptr 0 0 0 0,AV.ptr 2 0 0 0,AV.ptr 3 0 0 0] [AB.cells [AV.sl 1 1 0 0 l c,vI p] tr,AB.row η m 1 (aS b) e,AB.cells [vI 0,vI 0,vI 0,vI 0,vI 0,vI 0,vI 0,vI 0] 88,AB.cells [vI (a 0),vI (a 1),vI (a 2),vI (a 3),vI (a 4),vI (a 5),vI (a 6),vI (a 7)] 88]:=by kernel_rfl
def aso(d:O->(O->Z)->Z->Z->Z)(l:O)(c:χ O)(p:Z)(m:O)(b:ao)(tr e:ae)(a:ao)(n:Z)(i:O):so d l c p m b tr e a n i 6=bif κ ((↑i:Z)<n)then Ξ [okB m (aS b),κ (l<=m),κ ((0:Z)<=p),κ (p<=(1073741824:Z)),κ (d l (bD (aS b)) p (8:Z)=(6:Z)),κ (0<m),okB m (aS b),κ (l<=m),κ ((0:Z)<=p+(1:Z)),κ (p+(1:Z)<=(1073741824:Z)),κ (0<m)] (am.out .normal [AV.ptr 0 0 0 0,AV.ptr 2 0 0 0,AV.ptr 3 0 0 0,vI n,vI (aa .i64 ((↑i:Z)+(1:Z)))] [AB.cells [AV.sl 1 1 0 0 l c,vI (p+(1:Z)+(1:Z))] tr,AB.row η m 1 (aS b) e,AB.cells [vI 0,vI 0,vI 0,vI 0,vI 0,vI 0,vI 0,vI 0] 88,AB.cells [vI (a 0),vI (a 1),vI (a 2),vI (a 3),vI (a 4),vI (a 5),vI (aa .i64 (d l (bD (aS b)) (p+(1:Z)) (9:Z) -(4:Z))),vI (a 7)] 88])else am.out (Ex.exit 1) [AV.ptr 0 0 0 0,AV.ptr 2 0 0 0,AV.ptr 3 0 0 0] [AB.cells [AV.sl 1 1 0 0 l c,vI p] tr,AB.row η m 1 (aS b) e,AB.cells [vI 0,vI 0,vI 0,vI 0,vI 0,vI 0,vI 0,vI 0] 88,AB.cells [vI (a 0),vI (a 1),vI (a 2),vI (a 3),vI (a 4),vI (a 5),vI (a 6),vI (a 7)] 88]:=by kernel_rfl
def asp(d:O->(O->Z)->Z->Z->Z)(l:O)(c:χ O)(p:Z)(m:O)(b:ao)(tr e:ae)(a:ao)(n:Z)(i:O):so d l c p m b tr e a n i 7=bif κ ((↑i:Z)<n)then Ξ [okB m (aS b),κ (l<=m),κ ((0:Z)<=p),κ (p<=(1073741824:Z)),κ (d l (bD (aS b)) p (8:Z)=(7:Z)),κ (0<m),okB m (aS b),κ (l<=m),κ ((0:Z)<=p+(1:Z)),κ (p+(1:Z)<=(1073741824:Z)),κ (0<m)] (am.out .normal [AV.ptr 0 0 0 0,AV.ptr 2 0 0 0,AV.ptr 3 0 0 0,vI n,vI (aa .i64 ((↑i:Z)+(1:Z)))] [AB.cells [AV.sl 1 1 0 0 l c,vI (p+(1:Z)+(1:Z))] tr,AB.row η m 1 (aS b) e,AB.cells [vI 0,vI 0,vI 0,vI 0,vI 0,vI 0,vI 0,vI 0] 88,AB.cells [vI (a 0),vI (a 1),vI (a 2),vI (a 3),vI (a 4),vI (a 5),vI (a 6),vI (aa .i64 (d l (bD (aS b)) (p+(1:Z)) (9:Z) -(4:Z)))] 88])else am.out (Ex.exit 1) [AV.ptr 0 0 0 0,AV.ptr 2 0 0 0,AV.ptr 3 0 0 0] [AB.cells [AV.sl 1 1 0 0 l c,vI p] tr,AB.row η m 1 (aS b) e,AB.cells [vI 0,vI 0,vI 0,vI 0,vI 0,vI 0,vI 0,vI 0] 88,AB.cells [vI (a 0),vI (a 1),vI (a 2),vI (a 3),vI (a 4),vI (a 5),vI (a 6),vI (a 7)] 88]:=by kernel_rfl
noncomputable abbrev Yy(l:O)(c:χ O)(m:O)(b:ao)(tr e:ae)(n f g:Z)(a:ao):O->χ Sum:=bX 1 (bm 57 (Dn .normal) 2 (AG n 0) (nK l c f m b tr e λ_=>0) (λd=>d .normal (ar 0 57 [(0,.ptr 0 0 0 0),(2,.ptr 2 0 0 0),(3,.ptr 3 0 0 0)]) (nK l c g m b tr e a)))
def HJ(a:O->(O->Z)->Z->Z->Z)(is:Z->ξ)(b:(O->Z)->Z->O->Z):aG:=ext (ext (ext g0 12 (ev [] (yD a))) 164 (aW (MF is))) 234 (ai [.val,.val] (F' b))
def AW(i:O->(O->Z)->Z->Z->Z)(is:Z->ξ)(o:(O->Z)->Z->O->Z)(l:O)(c:χ O)(p:Z)(m:O)(b:ao)(tr x:ae)(n C v:Z)(a:ao):let d:=(1:Z);let w:=AB.row η m 1 (aS b) x;let y:=[vI 0,vI 0,vI 0,vI 0,vI 0,vI 0,vI 0,vI 0];let k:=(bD (aS b));let z:=AV.sl 1 1 0 0 l c;let e:=(0:Z);let A:=(1073741824:Z);let B:=[AB.cells [z,vI (v+d)] tr,w];let f:=κ (l<=m);let s:=AB.cells [z,vI (p+d+d)] tr;let g:=okB m (aS b);let h:=κ (0<m);let t:=κ (e<=p+d);let u:=κ (p+d<=A);let j:=(p+d);let r:=(v8 d e e e e e e e);let q:=(i l k j (24:Z));ad θ (HJ i is o) (Yy l c m b tr x n C v a) 100 zg [.ptr 0 0 0 0] (cK l c p m b tr x) (ag 2)
 =Ξ [g,f,κ (e<=p),κ (p<=A),h] (bif i l k p (8:Z)==e then Ξ [g,f,t,u,h] (bif !is q then rO [AV.agg y] [s,w]else Ξ [κ (i l k j (24:Z)<=(1099511627776:Z))] (rO [AV.agg [vI (o r q 0),vI (o r q 1),vI (o r q 2),vI (o r q 3),vI (o r q 4),vI (o r q 5),vI (o r q 6),vI (o r q 7)]] [s,w]))else bif i l k p (8:Z)==d then Ξ [g,f,t,u,h,g,f,κ (e<=p+d+d),κ (p+d+d<=A),h] (rO [AV.agg [vI (aa .i64 (i l k j (9:Z) -(4:Z))),vI 0,vI 0,vI 0,vI 0,vI 0,vI (aa .i64 (i l k (p+d+d) (9:Z) -(4:Z))),vI 0]] [AB.cells [z,vI (p+d+d+d)] tr,w])else bif i l k p (8:Z)==(2:Z)then rO [AV.agg y] [AB.cells [z,vI j] tr,w]else Ξ [g,f,t,u,h,cy ([AV.ptr 0 0 0 0,AV.ptr 2 0 0 0,AV.ptr 3 0 0 0,vI (aa .i64 (d+i l k j (3:Z))),vI 0]=AG n 0/\Φ [s,w,AB.cells y 88,AB.cells y 88] (nK l c C m b tr x λ_=>e)),g,f,κ (e<=v),κ (v<=A),h] (bif i l k v (30:Z)==e then rO [AV.agg [vI 1000001,vI (a 1),vI (a 2),vI (a 3),vI (a 4),vI (a 5),vI (a 6),vI (a 7)]] B else bif i l k v (30:Z)==d then rO [AV.agg [vI (a 0),vI (a 1),vI (a 2),vI (a 3),vI (a 4),vI (a 5),vI (a 6),vI 1000000]] B else rO [AV.agg [vI (a 0),vI (a 1),vI (a 2),vI (a 3),vI (a 4),vI (a 5),vI (a 6),vI (a 7)]] B)):=by intros;kernel_rfl
def anF{id n m m0 N:O}{c:bc}{lv:Ex->E O}{out:dx->am}{σ:Type}(Γ:σ->aG)(R:∀s,aK θ (Γ s))(G:σ->E AV)(I:σ->E AB)(Inv:σ->Prop)(L:σ->O)(s0:σ)(Λ:σ->O->χ Sum)(hr:∀e,lW (lv e)=ε)(hm:m0<=m)(h0:Inv s0)(h:∀d Q,(out d).ok Q->∀s,Inv s->dk θ m0 (Λ s) c/\aE (a0 θ (Γ s) n (Λ s) c (ar 0 N ((lv .normal).zip (G s))) (I s) (cw N lv m)) (vW N id lv G I (λP=>Inv P/\L P<L s) d Q)):ck θ m0 (.block id (.loop c)) (bm N (lv .normal) m (G s0) (I s0) out):=by
 intro M S t hM y T H d Q a w z x U W;unfold bm at x;cases A:Ψ T.length N with
 |false=>rw[A]at x;exact x.elim
 |true=>
  rw[A,a6]at x;have A:=cA A;split at x
  ·rename_i p hw
   rcases kT x with⟨hc,X⟩|⟨_,X⟩
   ·obtain⟨hv,B⟩:=IL hc
    have C:=JG hw (hr .normal);rw[A,hv]at C;have D:∀i b,t i=γ b->i<m:=λi b hb=>eN (y i b hb) hm
    have key:∀(r:O)(s:σ)(a:a8)(w:ψ)(z:Nu),Inv s->L s<r->SR M S t (ar 0 N ((lv .normal).zip (G s))) (I s) a w z->a.defers=[]->Code.rounds θ c (pr id (post M S t d Q)) r a w:=by
     intro r;induction r with
     |zero=>intro s a w z _ hlt;omega
     |succ r ih=>
      intro s a w z hi hlt U W;rw[oD];obtain⟨hL,hG⟩:=h d Q X s hi;refine oF (sq (R s) mixed enters n m0 (Λ s) c hL M S t hM y _ _ _ _ a w z hG.out U W) λe a' w' hpp=>?_
      obtain⟨e',T',H',ν',rfl,f,hS',u⟩:=hpp;unfold cw at f;cases l:Ψ T'.length N with
      |false=>rw[l]at f;exact f.elim
      |true=>
       rw[l,a6]at f;have l:=cA l;split at f
       ·rename_i q hwk
        have v:=JG hwk (hr e');rw[l]at v;have o:=n9 v hS' D;cases e' with
        |normal=>obtain⟨P,⟨i',hmu⟩,he,g⟩:=f;rw[he]at o;exact ih P a' w' _ i' (by omega) (o.iB g) u
        |exit j=>
         simp only[Ex.to,e9.then,pr];obtain⟨H'',g,k⟩:=f;split
         ·rename_i hj
          rw[aU hj]at k;exact⟨.normal,_,_,_,rfl,k,o.iB g,u⟩
         ·rename_i hj
          rw[bI hj]at k;exact⟨.exit j,_,_,_,rfl,k,o.iB g,u⟩
        |ret=>obtain⟨H'',g,k⟩:=f;exact⟨.ret,_,_,_,rfl,k,o.iB g,u⟩
       ·exact f.elim
    have hR0:=(n9 C U D).iB B;exact wp_block (oE (L s0+1) (key _ s0 a w _ h0 (fA _) hR0 W))
   ·exact X.elim
  ·exact x.elim
def akr{id n m m0 N:O}{c:bc}{lv:Ex->E O}{out:dx->am}(Γ:O->aG)(f:∀s,aK θ (Γ s))(b:O->E AV)(d:O->E AB)(mo:O->Prop)(len:O)(Λ:O->O->χ Sum)(q:∀e,lW (lv e)=ε)(r:m0<=m)(t:mo 0)(h:∀a Q,(out a).ok Q->∀i,mo i->i<=len->dk θ m0 (Λ i) c/\aE (a0 θ (Γ i) n (Λ i) c (ar 0 N ((lv .normal).zip (b i))) (d i) (cw N lv m)) (vW N id lv b d (λo=>o=i+1/\i<len/\mo (i+1)) a Q)):ck θ m0 (.block id (.loop c)) (bm N (lv .normal) m (b 0) (d 0) out):=by
 refine anF (n:=n) Γ f b d (λi=>mo i/\i<=len) (λi=>len-i) 0 Λ q r ⟨t,ej _⟩ λa Q u i p=>?_
 obtain⟨v,w⟩:=h a Q u i p.1 p.2;refine⟨v,⟨kJ (λe z A g=>?_) w.out⟩⟩;cases e with
 |normal=>obtain⟨o,⟨rfl,k,l⟩,x,y⟩:=g;exact⟨_,⟨⟨l,k⟩,by omega⟩,x,y⟩
 |exit j=>exact g
 |ret=>exact g
def it(l:O)(b:ao)(p:Z):O->O->Z
 |0=>λ_=>0
 |i+1=>λk=>if(k:Z)=a9 l b (p+2*(i:Z)) 8 then W (a9 l b (p+2*(i:Z)+1) 9-4)else it l b p i k
def afR(l:O)(b:ao)(p:Z)(i:O)(h:a9 l b (p+2*(i:Z)) 8=A)(k:O):it l b p (i+1) k=if(k:Z)=A then W (a9 l b (p+2*(i:Z)+1) 9-4)else it l b p i k:=by subst h;rfl
def auJ(l:O)(c:χ O)(p:Z)(m:O)(b:ao)(tr e:ae)(N:O)(k:okB m (aS b)=ε)(v:l<=m)(w:0<=p)(y:p+2*(N:Z)<=2^30)(z:0<m):ck θ 2 (.block 1 (.loop (a5 1 zg))) (bm 57 (Dn .normal) 2 (AG N 0) (nK l c p m b tr e λ_=>0) (λa=>a .normal (ar 0 57 [(0,.ptr 0 0 0 0),(2,.ptr 2 0 0 0),(3,.ptr 3 0 0 0)]) (nK l c (p+2*(N:Z)) m b tr e (it l b p N)))):=by
 have o:nK l c p m b tr e (λ_=>0)=nK l c (p+2*((0:O):Z)) m b tr e (it l b p 0):=by rw[show p+2*((0:O):Z)=p by omega];rfl
 rw[o];refine akr (n:=100) (m:=2) (lv:=Dn) (λi=>WP a9 8 (a9 l b (p+2*(i:Z)) 8)) (λi=>az ba (aqd _ _)) (λi=>AG N i) (λi=>nK l c (p+2*(i:Z)) m b tr e (it l b p i)) (λ_=>True) N (λ_=>K) (du rfl rfl rfl) (aQ _) trivial λa Q r i _ B=>⟨cN _ _ _,?_⟩
 show aE (so a9 l c (p+2*(i:Z)) m b tr e (it l b p i) N i (a9 l b (p+2*(i:Z)) 8)) _
 have s:=qd l b (p+2*(i:Z)) 8;have t:=mq l b (p+2*(i:Z)) (n:=8) (by omega);have g:=λ(q:Z)(h:a9 l b (p+2*(i:Z)) 8=q)=>afR l b p i h
 have u:p+2*(i:Z)+1+1=p+2*((i+1:O):Z):=by omega
 generalize j:a9 l b (p+2*(i:Z)) 8=q at s t⊢;have d:=g q j;rcases(by omega:q=0\/q=1\/q=2\/q=3\/q=4\/q=5\/q=6\/q=7)with rfl|rfl|rfl|rfl|rfl|rfl|rfl|rfl
 all_goals first|rw[ash]|rw[asi]|rw[asj]|rw[asl]|rw[asm]|rw[asn]|rw[aso]|rw[asp]
 all_goals
  refine aD (λf=>?_) λf=>?_
  ·have f:=aV f
   refine aq ?_ (F ⟨i+1,⟨rfl,by omega,trivial⟩,?_,?_⟩)
   ·simp only[Ω,ax,aj,aL,iw,k,j,bv]
    omega
   ·rw[bz (x:=(i:Z)+1)]
    rfl
   ·show Φ _ (nK l c (p+2*((i+1:O):Z)) m b tr e (it l b p (i+1)))
    rw[<-u];unfold nK fe;rw[d 0,d 1,d 2,d 3,d 4,d 5,d 6,d 7];exact Φ.refl _
  ·have f:=cu f
   have:i=N:=by omega
   subst this;refine F ⟨_,Φ.refl _,?_⟩;rw[aU rfl];exact r
def akS:aK θ (HJ a9 (λn=>aH n 0 23) (λa n=>fX a n.toNat)):=by unfold HJ;rw[VV,LD];exact az (az (az ba s5) IQ) PM
def GF(l:O)(b:ao)(p:Z):∃(a:ao)(t:Z),(p<=t/\t<=p+12)/\∀(c:χ O)(m:O)(tr e:ae),okB m (aS b)=ε->l<=m->0<=p->p<=2^29->0<m->∃Λ,(∀q,zg.body=γ q->dk θ 2 Λ q)/\aE (ad θ (HJ a9 (λn=>aH n 0 23) (λa n=>fX a n.toNat)) Λ 100 zg [.ptr 0 0 0 0] (cK l c p m b tr e) (ag 2)) (λ_ vs w=>vs=[.agg (fe a)]/\Φ w (cK l c t m b tr e)):=by
 have A:=qd l b (p+1) 3;have B:=mq l b (p+1) (n:=3) (by omega);obtain⟨N,y⟩:∃N:O,(N:Z)=1+a9 l b (p+1) 3:=⟨(1+a9 l b (p+1) 3).toNat,by omega⟩;have k:∀(c:χ O)(m:O)(tr e:ae),okB m (aS b)=ε->l<=m->0<=p->p<=2^29->0<m->(∀q,zg.body=γ q->dk θ 2 (Yy l c m b tr e N (p+1+1) (p+1+1+2*(N:Z)) (it l b (p+1+1) N)) q):=
  λc m tr e d f h i g=>da (auJ l c (p+1+1) m b tr e N d f (by omega) (by omega) g)
 have j:∀(m:O),okB m (aS b)=ε->l<=m->0<m->∀x:Z,0<=x->x<=2^30->aJ [okB m (aS b),κ (l<=m),κ (0<=x),κ (x<=1073741824),κ (0<m)]=ε:=λm d f g x C z=>by simp only[Ω,ax,aj,aL,d,bv];omega
 by_cases o:a9 l b p 8=0
 ·have D:=qd l b (p+1) 24
  have G:=mq l b (p+1) (n:=24) (by omega);have ri:aH (a9 l b (p+1) 24) 0 23=ε:=by unfold aH;simp only[aP,aL];omega
  refine⟨fX (v8 1 0 0 0 0 0 0 0) (a9 l b (p+1) 24).toNat,p+1+1,by omega,λc m tr e d f h i g=>⟨_,k c m tr e d f h i g,?_⟩⟩;rw[AW];refine aq (j m d f g _ h (by omega)) (cv (fm.2 o) (aq (j m d f g _ (by omega) (by omega)) (bA ?_ (aq ?_ (F ⟨rfl,Φ.refl _⟩)))))
  ·rw[iw,ri];rfl
  ·rw[Ω]
   exact⟨di (show a9 l b (p+1) 24<=1099511627776 by omega),rfl⟩
 ·by_cases r:a9 l b p 8=1
  ·refine⟨v8 (W (a9 l b (p+1) 9-4)) 0 0 0 0 0 (W (a9 l b (p+1+1) 9-4)) 0,p+1+1+1,by omega,λc m tr e d f h i g=>⟨_,k c m tr e d f h i g,?_⟩⟩
   rw[AW];refine aq (j m d f g _ h (by omega)) (bA (cq.2 o) (cv (fm.2 r) (aq ?_ (F ⟨rfl,Φ.refl _⟩))));simp only[Ω,ax,aj,aL,d,bv];omega
  ·by_cases s:a9 l b p 8=2
   ·refine⟨λ_=>0,p+1,by omega,λc m tr e d f h i g=>⟨_,k c m tr e d f h i g,?_⟩⟩
    rw[AW];exact aq (j m d f g _ h (by omega)) (bA (cq.2 o) (bA (cq.2 r) (cv (fm.2 s) (F ⟨rfl,Φ.refl _⟩))))
   ·have o7:∀(c:χ O)(m:O)(tr e:ae),okB m (aS b)=ε->l<=m->0<=p->p<=2^29->0<m->aJ [okB m (aS b),κ (l<=m),κ (0<=p+1),κ (p+1<=1073741824),κ (0<m),cy ([AV.ptr 0 0 0 0,AV.ptr 2 0 0 0,AV.ptr 3 0 0 0,AV.v (ι (W (1+a9 l b (p+1) 3))),AV.v (ι 0)]=AG N 0/\Φ (nK l c (p+1+1) m b tr e λ_=>0) (nK l c (p+1+1) m b tr e λ_=>0)),okB m (aS b),κ (l<=m),κ (0<=p+1+1+2*(N:Z)),κ (p+1+1+2*(N:Z)<=1073741824),κ (0<m)]=ε:=λc m tr e d f h i g=>by simp only[Ω,ax,aj,aL,d,bv];refine⟨by omega,by omega,by omega,by omega,cG ⟨?_,Φ.refl _⟩,by omega,by omega,by omega,by omega⟩;rw[fj (x:=1+a9 l b (p+1) 3) (by omega) (by omega),<-y];rfl
    by_cases u:a9 l b (p+1+1+2*(N:Z)) 30=0
    ·refine⟨v8 1000001 (it l b (p+1+1) N 1) (it l b (p+1+1) N 2) (it l b (p+1+1) N 3) (it l b (p+1+1) N 4) (it l b (p+1+1) N 5) (it l b (p+1+1) N 6) (it l b (p+1+1) N 7),p+1+1+2*(N:Z)+1,by omega,λc m tr e d f h i g=>⟨_,k c m tr e d f h i g,?_⟩⟩
     rw[AW];exact aq (j m d f g _ h (by omega)) (bA (cq.2 o) (bA (cq.2 r) (bA (cq.2 s) (aq (o7 c m tr e d f h i g) (cv (fm.2 u) (F ⟨rfl,Φ.refl _⟩))))))
    ·by_cases v:a9 l b (p+1+1+2*(N:Z)) 30=1
     ·refine⟨v8 (it l b (p+1+1) N 0) (it l b (p+1+1) N 1) (it l b (p+1+1) N 2) (it l b (p+1+1) N 3) (it l b (p+1+1) N 4) (it l b (p+1+1) N 5) (it l b (p+1+1) N 6) 1000000,p+1+1+2*(N:Z)+1,by omega,λc m tr e d f h i g=>⟨_,k c m tr e d f h i g,?_⟩⟩
      rw[AW];exact aq (j m d f g _ h (by omega)) (bA (cq.2 o) (bA (cq.2 r) (bA (cq.2 s) (aq (o7 c m tr e d f h i g) (bA (cq.2 u) (cv (fm.2 v) (F ⟨rfl,Φ.refl _⟩)))))))
     ·refine⟨it l b (p+1+1) N,p+1+1+2*(N:Z)+1,by omega,λc m tr e d f h i g=>⟨_,k c m tr e d f h i g,?_⟩⟩
      rw[AW];exact aq (j m d f g _ h (by omega)) (bA (cq.2 o) (bA (cq.2 r) (bA (cq.2 s) (aq (o7 c m tr e d f h i g) (bA (cq.2 u) (bA (cq.2 v) (F ⟨rfl,Φ.refl _⟩)))))))
noncomputable def un(l:O)(b:ao)(p:Z):O->Z:=(GF l b p).choose
noncomputable def sf(l:O)(b:ao)(p:Z):Z:=(GF l b p).choose_spec.choose
def ahM(l:O)(b:ao)(p:Z):p<=sf l b p/\sf l b p<=p+12:=(GF l b p).choose_spec.choose_spec.1
def F2(cf:O->(O->Z)->Z->O->Z)(a:O->(O->Z)->Z->Z):E AV->E AB->χ HR
 |[.ptr 0 0 0 0],[.cells [.sl 1 1 0 0 l c,.v (.int .i64 p)] b,.row η m 1 g d]=>γ {val:=.agg (fe (cf l (bD g) p)),out:=[.cells [.sl 1 1 0 0 l c,.v (.int .i64 (a l (bD g) p))] b,.row η m 1 g d],aw:=[okB m g,κ (l<=m),κ (0<=p),κ (p<=2^29),κ (0<m)]}
 |_,_=>ζ
variable {p:O->E τ}
def s4(h:okB i p=ε):okB i (aS (bD p))=ε:=bT.2 λj a=>by
 have:=bT.1 h j a
 rwa [(mn h (by simpa using a)).1]at this
def ZH:ak θ 106 (ev [] (F2 un sf)):=by
 refine nZ akS func106 rfl λj H u a d=>?_
 unfold F2 at a;split at a
 ·rename_i l c p f m g h
  cases a;simp only[Ω,aL]at d;obtain⟨b,k,n,o,q,_⟩:=d;obtain⟨r,s,t⟩:=(GF l (bD g) p).choose_spec.choose_spec.2 c m f h (s4 b) k n o q;refine⟨cK l c p m (bD g) f h,r,100,tc b,s,⟨kJ (λe v w i=>?_) t.out⟩⟩;exact⟨i.1,i.2.trans' (P4 b)⟩
 ·cases a
def wA(a:O->(O->Z)->Z->Z->Z):aG:=ext g0 12 (ev [] (yD a))
noncomputable abbrev zi:cb:=f104
def HM(a:O->(O->Z)->Z->Z->Z)(cf:O->(O->Z)->Z->O->Z)(b:O->(O->Z)->Z->Z):aG:=ext (wA a) 106 (ev [] (F2 cf b))
abbrev Ds:Ex->E O:=cj [0,3,4,5] [0,3] [2]
abbrev AI(n:O)(i:O):E AV:=[.ptr 0 0 0 0,.own 2 i,.v (ι n),.v (ι i)]
abbrev kw(l:O)(c:χ O)(p:Z)(m:O)(b:ao)(tr a:ae)(k:O)(h:Θ):E AB:=[.cells [.sl 1 1 0 0 l c,.v (ι p)] tr,.row η m 1 (aS b) a,.row ε k 9 (J h) 123]
def asu(j:O->(O->Z)->Z->Z->Z)(cf:O->(O->Z)->Z->O->Z)(k:O->(O->Z)->Z->Z)(l:O)(c:χ O)(p:Z)(m:O)(b:ao)(tr o:ae)(h:Θ)(n:O)(i:O):let g:=κ (0<m);let e:=(1:Z);let f:=(aS b);let a:=(bD f);let d:=(p+e);let r:=AB.row η m 1 f o;a0 θ (HM j cf k) 100 K (a5 0 zi) (ar 0 40 ((Ds .normal).zip (AI n i))) (kw l c p m b tr o i h) (cw 40 Ds 2)
 =bif κ ((↑i:Z)<(↑n:Z))then Ξ [okB m f,κ (l<=m),κ ((0:Z)<=p),κ (p<=(1073741824:Z)),g,okB m f,κ (l<=m),κ ((0:Z)<=p+e),κ (p+e<=(536870912:Z)),g,g,Δ i i,Δ (i+1) 549755813888] (am.out .normal [AV.ptr 0 0 0 0,AV.own 2 (i+1),vI (↑n:Z),vI (aa .i64 ((↑i:Z)+e))] [AB.cells [AV.sl 1 1 0 0 l c,vI (k l a d)] tr,r,AB.row ε (i+1) 9 (λq=>[ι (bif ω q i then h q 0 else aa .i64 (j l a p (13:Z) -(6:Z))),ι (bif ω q i then h q 1 else cf l a d 0),ι (bif ω q i then h q 2 else cf l a d 1),ι (bif ω q i then h q 3 else cf l a d 2),ι (bif ω q i then h q 4 else cf l a d 3),ι (bif ω q i then h q 5 else cf l a d 4),ι (bif ω q i then h q 6 else cf l a d 5),ι (bif ω q i then h q 7 else cf l a d 6),ι (bif ω q i then h q 8 else cf l a d 7)]) 123])else am.out (Ex.exit 0) [AV.ptr 0 0 0 0,AV.own 2 i] [AB.cells [AV.sl 1 1 0 0 l c,vI p] tr,r,AB.row ε i 9 (J h) 123]:=by intros;kernel_rfl
noncomputable abbrev YA(l:O)(c:χ O)(m:O)(b:ao)(tr d:ae)(n:O)(e f:Z)(h:Θ):O->χ Sum:=bX 0 (bm 40 (Ds .normal) 2 (AI n 0) (kw l c e m b tr d 0 (Y [])) (λa=>a .normal (ar 0 40 [(0,.ptr 0 0 0 0),(3,.own 2 n)]) (kw l c f m b tr d n h)))
def Rh(g:O->(O->Z)->Z->Z->Z)(cf:O->(O->Z)->Z->O->Z)(u:O->(O->Z)->Z->Z)(l:O)(c:χ O)(p:Z)(m:O)(b:ao)(tr i:ae)(n:O)(s e:Z)(h:Θ):let a:=(n+n);let k:=AB.cells [AV.sl 1 1 0 0 l c,vI (e+(1:Z))] tr;let d:=(0:Z);let f:=(aS b);let o:=(n+n+a);let r:=Δ n n;let t:=(1073741824:Z);let j:=AB.row η m 1 f i;ad θ (HM g cf u) (YA l c m b tr i n s e h) 100 zi [.ptr 0 0 0 0] (cK l c p m b tr i) (ag 2)
 =Ξ [okB m f,κ (l<=m),κ (d<=p),κ (p<=t),κ (0<m),cy ([AV.ptr 0 0 0 0,AV.own 2 0,vI (g l (bD f) p (4:Z)),vI 0]=AI n 0/\Φ [AB.cells [AV.sl 1 1 0 0 l c,vI (p+(1:Z))] tr,j,AB.row ε 0 9 (λ_=>[]) 123] (kw l c s m b tr i 0 (Y []))),okB m f,κ (l<=m),κ (d<=e),κ (e<=t),κ (0<m)] (bif g l (bD f) e (30:Z)==d then Ξ [r,Δ (n+1) 549755813888] (rO [AV.own 2 (n+1)] [k,j,AB.row ε (n+1) 9 (λq=>[ι (bif ω q n then h q 0 else(1001:Z)),ι (bif ω q n then h q 1 else d),ι (bif ω q n then h q 2 else d),ι (bif ω q n then h q 3 else d),ι (bif ω q n then h q 4 else d),ι (bif ω q n then h q 5 else d),ι (bif ω q n then h q 6 else d),ι (bif ω q n then h q 7 else d),ι (bif ω q n then h q 8 else d)]) 123])else bif g l (bD f) e (30:Z)==(1:Z)then Ξ [r,Δ a 549755813888,r,Δ a a,Δ o 549755813888,Δ a a] (rO [AV.own 2 o] [k,j,AB.row ε o 9 (λq=>[ι (bif ω q a then bif ω q n then h q 0 else h (q-n) 0 else bif ω (q-a) n then h (q-a) 0 else h (q-a-n) 0),ι (bif ω q a then bif ω q n then h q 1 else h (q-n) 1 else bif ω (q-a) n then h (q-a) 1 else h (q-a-n) 1),ι (bif ω q a then bif ω q n then h q 2 else h (q-n) 2 else bif ω (q-a) n then h (q-a) 2 else h (q-a-n) 2),ι (bif ω q a then bif ω q n then h q 3 else h (q-n) 3 else bif ω (q-a) n then h (q-a) 3 else h (q-a-n) 3),ι (bif ω q a then bif ω q n then h q 4 else h (q-n) 4 else bif ω (q-a) n then h (q-a) 4 else h (q-a-n) 4),ι (bif ω q a then bif ω q n then h q 5 else h (q-n) 5 else bif ω (q-a) n then h (q-a) 5 else h (q-a-n) 5),ι (bif ω q a then bif ω q n then h q 6 else h (q-n) 6 else bif ω (q-a) n then h (q-a) 6 else h (q-a-n) 6),ι (bif ω q a then bif ω q n then h q 7 else h (q-n) 7 else bif ω (q-a) n then h (q-a) 7 else h (q-a-n) 7),ι (bif ω q a then bif ω q n then h q 8 else h (q-n) 8 else bif ω (q-a) n then h (q-a) 8 else h (q-a-n) 8)]) 123])else rO [AV.own 2 n] [k,j,AB.row ε n 9 (J h) 123]):=by intros;kernel_rfl
def IK{l m:O}{x:Z}(a:okB m (aS h)=ε)(c:l<=m)(d:0<m)(e:0<=x)(f:x<=A):aJ [okB m (aS h),κ (l<=m),κ (0<=x),κ (x<=A),κ (0<m)]=ε:=by simp only[Ω,ax,aj,aL,a,bv];exact⟨c,e,f,d⟩
noncomputable def gq(l:O)(b:ao)(p:Z):O->Z
 |0=>p
 |i+1=>sf l b (gq l b p i+1)
noncomputable def oP(l:O)(b:ao)(p:Z):O->E Wh
 |0=>[]
 |i+1=>oP l b p i++[⟨W (a9 l b (gq l b p i) 13-6),bq (un l b (gq l b p i+1))⟩]
def Cl(l:O)(b:ao)(p:Z):∀i:O,p<=gq l b p i/\gq l b p i<=p+13*(i:Z)
 |0=>by show p<=p/\p<=p+13*((0:O):Z);omega
 |i+1=>by
  have a:=Cl l b p i;have:=ahM l b (gq l b p i+1);show p<=sf l b (gq l b p i+1)/\sf l b (gq l b p i+1)<=p+13*((i+1:O):Z)
  omega
def Ms(l:O)(b:ao)(p:Z):∀i:O,(oP l b p i).length=i
 |0=>rfl
 |i+1=>by
  show(oP l b p i++[_]).length=i+1
  rw[bN,Ms l b p i];rfl
def WG:aK θ (HM a9 un sf):=az (az ba s5) ZH
def auO(l:O)(c:χ O)(p:Z)(m:O)(b:ao)(tr e:ae)(N:O)(j:N<=3)(f:okB m (aS b)=ε)(k:l<=m)(o:0<=p)(r:p<=2^28)(s:0<m):ck θ 2 (.block 0 (.loop (a5 0 zi))) (bm 40 (Ds .normal) 2 (AI N 0) (kw l c p m b tr e 0 (Y [])) (λa=>a .normal (ar 0 40 [(0,.ptr 0 0 0 0),(3,.own 2 N)]) (kw l c (gq l b p N) m b tr e N (Y (oP l b p N))))):=by
 refine dQ WG (n:=100) (m:=2) (lv:=Ds) (λi=>AI N i) (λi=>kw l c (gq l b p i) m b tr e i (Y (oP l b p i))) (λ_=>True) N (λ_=>K) (du rfl rfl rfl) (aQ _) trivial λa Q g i _ u=>⟨cN _ _ _,?_⟩
 rw[asu];have v:=Cl l b p i;refine aD (λd=>?_) λd=>?_
 ·have d:=aV d
  refine aq ?_ (F ⟨i+1,⟨rfl,by omega,trivial⟩,?_,?_⟩)
  ·simp only[Ω,ax,aj,aL,bl,f,bv]
   omega
  ·rw[bz (x:=(i:Z)+1)]
   rfl
  ·refine .cons (ab.refl _) (.cons (ab.refl _) (.cons (ab.row λq h=>?_) .nil))
   exact pQ (oP l b p i) ⟨W (a9 l b (gq l b p i) 13-6),bq (un l b (gq l b p i+1))⟩ i (Ms l b p i) q h
 ·have d:=cu d
  have:i=N:=by omega
  subst this;refine F ⟨_,Φ.refl _,?_⟩;rw[aU rfl];exact g
def Rw(A B:E Wh)(q k:O):Y (A++B) q k=bif ω q A.length then Y A q k else Y B (q-A.length) k:=by
 unfold Y;by_cases h:q<A.length
 ·rw[kN h,B6 h]
  rfl
 ·have a:ω q A.length=η:=by
   cases a:ω q A.length with
   |false=>rfl
   |true=>rw[bM]at a;omega
  rw[oi (by omega),a];rfl
def Cm(l:O)(b:ao)(p:Z):∃(L:E Wh)(w:Z),(p<=w/\w<=p+64)/\L.length<=12/\∀(c:χ O)(m:O)(tr a:ae),okB m (aS b)=ε->l<=m->0<=p->p<=2^27->0<m->∃Λ,(∀u,zi.body=γ u->dk θ 2 Λ u)/\aE (ad θ (HM a9 un sf) Λ 100 zi [.ptr 0 0 0 0] (cK l c p m b tr a) (ag 2)) (λ_ vs B=>vs=[.own 2 L.length]/\Φ B (kw l c w m b tr a L.length (Y L))):=by
 have I:=qd l b p 4;have M:=mq l b p (n:=4) (by omega);obtain⟨N,C⟩:∃N:O,(N:Z)=a9 l b p 4:=⟨(a9 l b p 4).toNat,by omega⟩;have x:N<=3:=by omega
 have g:=Ms l b (p+1) N;have P:=Cl l b (p+1) N;have o:∀(c:χ O)(m:O)(tr a:ae),okB m (aS b)=ε->l<=m->0<=p->p<=2^27->0<m->(∀u,zi.body=γ u->dk θ 2 (YA l c m b tr a N (p+1) (gq l b (p+1) N) (Y (oP l b (p+1) N))) u):=
  λc m tr a d e h i f=>da (auO l c (p+1) m b tr a N x d e (by omega) (by omega) f)
 have r:∀(c:χ O)(m:O)(tr a:ae),okB m (aS b)=ε->l<=m->0<=p->p<=2^27->0<m->aJ [okB m (aS b),κ (l<=m),κ (0<=p),κ (p<=1073741824),κ (0<m),cy ([AV.ptr 0 0 0 0,AV.own 2 0,AV.v (ι (a9 l b p 4)),AV.v (ι 0)]=AI N 0/\Φ [AB.cells [AV.sl 1 1 0 0 l c,AV.v (ι (p+1))] tr,AB.row η m 1 (aS b) a,AB.row ε 0 9 (λ_=>[]) 123] (kw l c (p+1) m b tr a 0 (Y []))),okB m (aS b),κ (l<=m),κ (0<=gq l b (p+1) N),κ (gq l b (p+1) N<=1073741824),κ (0<m)]=ε:=λc m tr a d e h i f=>by simp only[Ω,ax,aj,aL,d,bv];refine⟨by omega,by omega,by omega,by omega,cG ⟨?_,.cons (ab.refl _) (.cons (ab.refl _) (.cons (ab.row λj G=>aR G (dh _)) .nil))⟩,by omega,by omega,by omega,by omega⟩;rw[<-C];rfl
 by_cases y:a9 l b (gq l b (p+1) N) 30=0
 ·refine⟨oP l b (p+1) N++[⟨1001,iN⟩],gq l b (p+1) N+1,by omega,by rw[bN,g];show N+1<=12;omega,λc m tr a d e h i f=>⟨_,o c m tr a d e h i f,?_⟩⟩
  rw[Rh];refine aq (r c m tr a d e h i f) (cv (fm.2 y) (aq ?_ (F ⟨?_,?_⟩)))
  ·simp only[Ω,ax,aj,bl]
   omega
  ·rw[bN,g];rfl
  ·rw[show(oP l b (p+1) N++[(⟨1001,iN⟩:Wh)]).length=N+1 by rw[bN,g];rfl]
   exact .cons (ab.refl _) (.cons (ab.refl _) (.cons (ab.row λq z=>pQ (oP l b (p+1) N) ⟨1001,iN⟩ N g q z) .nil))
 ·by_cases A:a9 l b (gq l b (p+1) N) 30=1
  ·generalize H:oP l b (p+1) N=D at g o r
   have v:(D++D).length=N+N:=by rw[bN,g]
   have t:((D++D)++(D++D)).length=N+N+(N+N):=by rw[bN,v]
   refine⟨(D++D)++(D++D),gq l b (p+1) N+1,by omega,by rw[t];omega,λc m tr a d e h i f=>⟨_,o c m tr a d e h i f,?_⟩⟩;rw[Rh];refine aq (r c m tr a d e h i f) (bA (cq.2 y) (cv (fm.2 A) (aq ?_ (F ⟨?_,?_⟩))))
   ·simp only[Ω,ax,aj,bl]
    omega
   ·rw[t]
   ·rw[t]
    refine .cons (ab.refl _) (.cons (ab.refl _) (.cons (ab.row λq z=>?_) .nil));have s:∀k,Y ((D++D)++(D++D)) q k=bif ω q (N+N)then bif ω q N then Y D q k else Y D (q-N) k else bif ω (q-(N+N)) N then Y D (q-(N+N)) k else Y D (q-(N+N) -N) k:=λk=>by rw[Rw,v,Rw,Rw,g]
    unfold J;rw[s 0,s 1,s 2,s 3,s 4,s 5,s 6,s 7,s 8]
  ·refine⟨oP l b (p+1) N,gq l b (p+1) N+1,by omega,by rw[g];omega,λc m tr a d e h i f=>⟨_,o c m tr a d e h i f,?_⟩⟩
   rw[Rh];refine aq (r c m tr a d e h i f) (bA (cq.2 y) (bA (cq.2 A) (F ⟨?_,?_⟩)))
   ·rw[g]
   ·rw[g]
    exact Φ.refl _
noncomputable def Cj(l:O)(b:ao)(p:Z):E Wh:=(Cm l b p).choose
noncomputable def y_(l:O)(b:ao)(p:Z):Z:=(Cm l b p).choose_spec.choose
def ah3(l:O)(b:ao)(p:Z):p<=y_ l b p/\y_ l b p<=p+64:=(Cm l b p).choose_spec.choose_spec.1
def ah1(l:O)(b:ao)(p:Z):(Cj l b p).length<=12:=(Cm l b p).choose_spec.choose_spec.2.1
def K4(a:O->(O->Z)->Z->E Wh)(b:O->(O->Z)->Z->Z):E AV->E AB->χ HR
 |[.ptr 0 0 0 0],[.cells [.sl 1 1 0 0 l c,.v (.int .i64 p)] d,.row η m 1 g e]=>γ {val:=.own 2 (a l (bD g) p).length,out:=[.cells [.sl 1 1 0 0 l c,.v (.int .i64 (b l (bD g) p))] d,.row η m 1 g e],new:=[.row ε (a l (bD g) p).length 9 (J (Y (a l (bD g) p))) 123],aw:=[okB m g,κ (l<=m),κ (0<=p),κ (p<=2^27),κ (0<m)]}
 |_,_=>ζ
def apq:ak θ 104 (ev [] (K4 Cj y_)):=by
 refine nZ WG func104 rfl λk H w a d=>?_
 unfold K4 at a;split at a
 ·rename_i l c p f m g h
  cases a;simp only[Ω,aL]at d;obtain⟨b,n,o,q,r,_⟩:=d;obtain⟨s,t,u⟩:=(Cm l (bD g) p).choose_spec.choose_spec.2.2 c m f h (s4 b) n o q r;refine⟨cK l c p m (bD g) f h,s,100,tc b,t,⟨kJ (λe x y i=>?_) u.out⟩⟩;refine⟨i.1,i.2.trans' (.cons (ab.refl _) (.cons (ab.row λj v=>(mn b v).1.symm) (Φ.refl _)))⟩
 ·cases a
def Iy:E Md:=[.rd 1 5]
def F3(R:O->(O->Z)->FR):E SA->χ FR
 |[.row m g]=>γ {val:=(R m (bD g)).val,new:=(R m (bD g)).new,aw:=[okB m g,κ (m<=2^21)]}
 |_=>ζ
def kZ(m:O):O:=if 2000<m then 2000 else m
def YT(m:O):kZ m<=m:=by unfold kZ;split<;>omega
def YV(h:(i:Z)>2000):kZ i=2000:=by unfold kZ;rw[oW]
def YU(h:¬(i:Z)>2000):kZ i=i:=by unfold kZ;rw[gc]
variable {Q:Ex->E AV->E AB->Prop}
def alz{a o7:E ξ}{b d:am}(e:kZ i=2000->(i:Z)>2000->aJ a=ε/\aE b Q)(f:kZ i=i->(i:Z)<=2000->aJ o7=ε/\aE d Q):aE (bif κ ((i:Z)>2000)then Ξ a b else Ξ o7 d) Q:=by
 refine aD (λc=>?_) λc=>?_
 ·have c:=aV c
  exact aq (e (YV c) c).1 (e (YV c) c).2
 ·have c:=cu c
  exact aq (f (YU c) (by omega)).1 (f (YU c) (by omega)).2
def KG(fn:cb)(a:E AV)(H:E AB)(r:FR):Prop:=∃b d n,aK θ b/\(∀c,fn.body=γ c->dk θ 1 d c)/\aE (ad θ b d n fn a H (ag 1)) (dX H r)
variable {I:FuncId}
def aiz{fn:cb}{R:O->(O->Z)->FR}(k:θ.funcs[I]?=γ fn)(D:fn.body.isSome=ε)(G:∀(m:O)(b:ao),0<m->m<=2^21->okB m (aS b)=ε->KG fn [.sl 0 1 0 0 m ζ] [.row η m 1 (aS b) 5] (R m b))(L:∀(q:χ Addr)(c:O)(g:O->E τ)(b:ao),KG fn [.v (.slice q 0 c)] [.row η 0 1 g 5] (R 0 b)):ak θ I (ai Iy (F3 R)):=by
 refine nc enters k D λN fr i z=>?_
 unfold F3 at i;split at i
 ·rename_i m g
  cases i;simp only[Ω,aL]at z;obtain⟨l,P,_⟩:=z;by_cases Q:m=0
  ·subst Q
   refine⟨[.row η 0 1 g 5],Φ.refl _,λM a w o hM p r d=>?_⟩;have h:aB o [.sl 0 1 0 0 0 ζ] a:=p;cases a with
   |nil=>simp only[aB]at h
   |cons v A=>
    cases A with
    |cons=>simp only[aB]at h;exact h.2.elim
    |nil=>
     simp only[aB,VR]at h;obtain⟨⟨q,c,rfl,_⟩,_⟩:=h;obtain⟨B,C,n,s,t,u⟩:=L q c g (bD g);have x:aB o [.v (.slice q 0 c)] [.slice q 0 c]:=by simp only[aB,VR];exact⟨trivial,trivial⟩
     exact nz (H:=[.row η 0 1 g 5]) s mixed enters k t hM u.out x r d
  ·obtain⟨B,C,n,s,S,t⟩:=G m (bD g) (by omega) P (s4 l)
   refine⟨[.row η m 1 (aS (bD g)) 5],.cons (ab.row λj y=>(mn l y).1) .nil,λM a w o hM p r d=>?_⟩;have u:aE (ad θ B C n fn [.sl 0 1 0 0 m ζ] [.row η m 1 (aS (bD g)) 5] (ag 1)) (dX (bJ Iy [.row m g] []) {val:=(R m (bD g)).val,new:=(R m (bD g)).new,aw:=[okB m g,κ (m<=2^21)]}):=
    ⟨kJ (λe A He ⟨X,f,q2,q3⟩=>⟨X,f,q2,q3.trans' (.cons (ab.row λj y=>(mn l y).1.symm) (Φ.refl _))⟩) t.out⟩
   exact nz (H:=[.row η m 1 (aS (bD g)) 5]) s mixed enters k S hM u.out p r d
 ·cases i
def ax6{r:am}{H:Z->E AB}{p a:Z}(h:aE r λ_ vs b=>∃(S:ρ)(P:Z),p<=P/\P<=p+a/\S.size<=i/\vs=[.v (.string S)]/\b=H P):∃(S:ρ)(P:Z),p<=P/\P<=p+a/\S.size<=i/\aE r λ_ vs b=>vs=[.v (.string S)]/\b=H P:=by
 cases r with
 |err=>exact h.out.elim
 |out e T b=>obtain⟨S,P,c,d,f,g,j⟩:=h.out;exact⟨S,P,c,d,f,F ⟨g,j⟩⟩
def B3{a b:ρ}(d:a.size<=i)(e:b.size<=i):(bif q then a else b).size<=i:=by cases q<;>assumption
def Js(s:ρ):fU [b9 s]=s:=rfl
def i7(s:ρ):O->O
 |0=>0
 |i+1=>bif bY s i==10 then i+1 else i7 s i
def lC(s:ρ):ρ:=s.extract 0 (i7 s s.size)
def q_(s:ρ):ρ:=s.extract (i7 s (s.size-1)) s.size
def yO(a:ρ->ρ):E τ->χ (τ×E ξ)
 |[.string s]=>γ (.string (a s),[])
 |_=>ζ
abbrev Dk:Ex->E O:=cj [0,3] [] [2]
abbrev pg(s:ρ)(i:Z):E AV:=[.v (.string s),.v (ι i)]
def ase(s:ρ)(i:Z):let a:=(i-(1:Z));let b:=(↑(ay s):Z);let c:=(aa .i64 a);a0 θ g0 100 K (a5 0 S8) (ar 0 18 ((Dk .normal).zip (pg s i))) [] (cw 18 Dk 0)
 =bif κ (i> (0:Z))then Ξ [κ ((0:Z)<=aa .i64 a),κ (aa .i64 a<b)] (bif bY s c==(10:Z)then Ξ [κ ((0:Z)<=i),κ (i<=b)] (rO [AV.v (.string (qp s 0 (aT i)))] [])else am.out .normal [AV.v (.string s),vI c] [])else am.out (Ex.exit 0) [] []:=by intros;kernel_rfl
noncomputable abbrev Om(s:ρ):O->χ Sum:=bX 0 (bm 18 (Dk .normal) 0 (pg s s.size) [] (λa=>cond (Ψ (i7 s s.size) 0) (a .normal (ar 0 18 []) []) (a .ret (ar 0 18 [(2,.v (.string (lC s)))]) [])))
def awA(s:ρ):let a:=(ay s);ad θ g0 (Om s) 100 S8 [.v (.string s)] [] (ag 0)
 =Ξ [cy ([AV.v (.string s),vI (↑a:Z)]=pg s (↑a:Z)/\Φ [] [])] (bif Ψ (i7 s a) 0 then rO [AV.v (.string (ah (ap [])))] []else rO [AV.v (.string (lC s))] []):=by intros;kernel_rfl
abbrev Dx:Ex->E O:=cj [0,3] [0] [2]
def asG(s:ρ)(i:Z):let a:=(↑(ay s):Z);let b:=(i+(1:Z));a0 θ g0 100 K (a5 0 SE) (ar 0 20 ((Dx .normal).zip (pg s i))) [] (cw 20 Dx 0)
 =bif κ (i>= (0:Z))then Ξ [κ ((0:Z)<=i),κ (i<a)] (bif bY s i==(10:Z)then Ξ [κ ((0:Z)<=aa .i64 b),κ (aa .i64 b<=a),κ (a<=a)] (rO [AV.v (.string (qp s (aT (aa .i64 b)) (aT a)))] [])else am.out .normal [AV.v (.string s),vI (aa .i64 (i-(1:Z)))] [])else am.out (Ex.exit 0) [AV.v (.string s)] []:=by intros;kernel_rfl
noncomputable abbrev OB(s:ρ)(i:Z):O->χ Sum:=bX 0 (bm 20 (Dx .normal) 0 (pg s i) [] (λa=>cond (Ψ (i7 s (s.size-1)) 0) (a .normal (ar 0 20 [(0,.v (.string s))]) []) (a .ret (ar 0 20 [(2,.v (.string (q_ s)))]) [])))
def aw3(s:ρ)(i:Z):ad θ g0 (OB s i) 100 SE [.v (.string s)] [] (ag 0)=Ξ [cy ([AV.v (.string s),vI (aa .i64 ((↑(ay s):Z) -(2:Z)))]=pg s i/\Φ [] [])] (bif Ψ (i7 s (ay s-1)) 0 then rO [AV.v (.string s)] []else rO [AV.v (.string (q_ s))] []):=by kernel_rfl
variable {D:ρ}
def Zn(h:(bY D i==10)=ε):i7 D (i+1)=i+1:=by rw[i7,h];rfl
def Zm(h:(bY D i==10)=η):i7 D (i+1)=i7 D i:=by rw[i7,h];rfl
def ajs(s:ρ):s.extract 0 0=ah (ap []):=by simp;rfl
def ajd(s:ρ):s.extract 0 s.size=s:=by simp
def Uz(h:i≠0):Ψ i 0=η:=by cases i with|zero=>exact aR rfl h|succ i=>rfl
def auG(s:ρ)(hs:s.size<4294967281):ck θ 0 (.block 0 (.loop (a5 0 S8))) (bm 18 (Dk .normal) 0 (pg s s.size) [] (λa=>cond (Ψ (i7 s s.size) 0) (a .normal (ar 0 18 []) []) (a .ret (ar 0 18 [(2,.v (.string (lC s)))]) []))):=by
 refine dQ ba (n:=100) (m:=0) (lv:=Dk) (λj=>pg s ((s.size-j:O):Z)) (λ_=>[]) (λj=>i7 s (s.size-j)=i7 s s.size) s.size (λ_=>K) (du rfl rfl rfl) (aQ _) rfl λa Q d j b f=>⟨cN _ _ _,?_⟩
 rw[ase];by_cases g:s.size-j=0
 ·rw[g]at b⊢
  refine bA rfl (F ⟨_,Φ.refl _,?_⟩);rw[aU rfl];rw[<-b]at d;exact d
 ·obtain⟨i,h⟩:∃i,s.size-j=i+1:=⟨s.size-j-1,by omega⟩
  rw[h]at b⊢;have k:aa aY (((i+1:O):Z) -1)=(i:Z):=by rw[bz];omega
  rw[k];refine cv (dc) (c_ (aD (λc=>?_) λc=>?_))
  ·have e:=Zn c
   rw[Uz (by omega)]at d;refine c_ (F ⟨_,Φ.refl _,?_⟩);rw[cV,<-e,b];exact d
  ·have e:=Zm c
   refine F ⟨j+1,⟨rfl,by omega,?_⟩,?_,Φ.refl _⟩
   ·rw[show s.size-(j+1)=i by omega,<-b,e]
   ·show _=pg s ((s.size-(j+1):O):Z)
    rw[show s.size-(j+1)=i by omega]
def yK(f:ρ->ρ):E SA->χ FR
 |[.v (.string s)]=>γ {val:=.v (.string (f s)),aw:=[ω s.size 4294967281]}
 |_=>ζ
def apa:ak θ 9 (ai [.val] (yK lC)):=by
 refine ca ba func9 rfl λd e a b=>?_
 unfold yK at a;split at a
 ·rename_i s
  cases a;simp only[Ω,bM]at b;refine⟨[],Om s,100,Φ.refl _,da (auG s b.1),?_⟩;show aE (ad θ g0 (Om s) 100 S8 [.v (.string s)] [] (ag 0)) _
  rw[awA];refine aq (by simp only[Ω,ax,aj];exact cG ⟨trivial,Φ.refl _⟩) (aD (λc=>F ⟨_,?_,rfl,Φ.refl _⟩) λc=>F ⟨_,rfl,rfl,Φ.refl _⟩);rw[lC,cA c,ajs];rfl
 ·cases a
def auZ(s:ρ)(hs:s.size<4294967281):ck θ 0 (.block 0 (.loop (a5 0 SE))) (bm 20 (Dx .normal) 0 (pg s ((s.size:Z) -2)) [] (λa=>cond (Ψ (i7 s (s.size-1)) 0) (a .normal (ar 0 20 [(0,.v (.string s))]) []) (a .ret (ar 0 20 [(2,.v (.string (q_ s)))]) []))):=by
 have f:(s.size:Z) -2=(s.size:Z) -2-((0:O):Z):=by omega
 rw[f];refine dQ ba (n:=100) (m:=0) (lv:=Dx) (λj=>pg s ((s.size:Z) -2-(j:O))) (λ_=>[]) (λj=>i7 s (s.size-1-j)=i7 s (s.size-1)) (s.size-1) (λ_=>K) (du rfl rfl rfl) (aQ _) rfl λa Q d j b g=>⟨cN _ _ _,?_⟩
 rw[asG];by_cases h:s.size-1-j=0
 ·rw[h]at b
  refine bA (gF) (F ⟨_,Φ.refl _,?_⟩);rw[aU rfl];rw[<-b]at d;exact d
 ·obtain⟨i,k⟩:∃i,s.size-1-j=i+1:=⟨s.size-1-j-1,by omega⟩
  rw[k]at b;have l:(s.size:Z) -2-(j:O)=(i:Z):=by omega
  have o:aa aY ((i:Z)+1)=((i+1:O):Z):=by rw[bz];omega
  have p:aa aY ((i:Z) -1)=(i:Z) -1:=bz;rw[l,o,p];refine cv (dc) (c_ (aD (λc=>?_) λc=>?_))
  ·have e:=Zn c
   rw[Uz (by omega)]at d;refine c_ (F ⟨_,Φ.refl _,?_⟩);rw[cV,cV,<-e,b];exact d
  ·have e:=Zm c
   refine F ⟨j+1,⟨rfl,by omega,?_⟩,?_,Φ.refl _⟩
   ·rw[show s.size-1-(j+1)=i by omega,<-b,e]
   ·show _=pg s ((s.size:Z) -2-((j+1:O):Z))
    rw[show(s.size:Z) -2-((j+1:O):Z)=(i:Z) -1 by omega]
def apY:ak θ 10 (ai [.val] (yK q_)):=by
 refine ca ba func10 rfl λd e a b=>?_
 unfold yK at a;split at a
 ·rename_i s
  cases a;simp only[Ω,bM]at b;refine⟨[],OB s ((s.size:Z) -2),100,Φ.refl _,da (auZ s b.1),?_⟩;show aE (ad θ g0 (OB s ((s.size:Z) -2)) 100 SE [.v (.string s)] [] (ag 0)) _
  rw[aw3,bz];refine aq (by simp only[Ω,ax,aj];exact cG ⟨trivial,Φ.refl _⟩) (aD (λc=>F ⟨_,?_,rfl,Φ.refl _⟩) λc=>F ⟨_,rfl,rfl,Φ.refl _⟩);rw[q_,cA c,ajd];rfl
 ·cases a
def HP(c:O->(O->Z)->ρ)(a d la:ρ->ρ):aG:=ext (ext (ext (ext (ext g0 6 (ai Iy (F3 λm b=>{val:=.v (.string (c m b))}))) 7 (aW (yO a))) 8 (aW (yO a))) 9 (ai [.val] (yK d))) 10 (ai [.val] (yK la))
def amV(h:O->(O->Z)->ρ)(d i la:ρ->ρ)(m:O)(b:ao):let e:=(h m (bD λq=>aS b (0+q)));let a:=[AB.row η m 1 (aS b) 5];let f:=[vB η];let j:=(ah (ap []));let g:=(111:υ);let c:=(d e);let k:=(ay e);ad θ (HP h d i la) K 100 Tryz.f3 [.sl 0 1 0 0 m ζ] [.row η m 1 (aS b) 5] (ag 1)
 =bif κ ((m:Z)> (1048576:Z))then rO [vB ε] a else Ξ [Δ (0+m) m,okB m λq=>aS b (0+q),κ (m<=2097152)] (bif !cm c c then rO f a else bif κ ((↑k:Z)> (900:Z))then rO [AV.v (.bool (cm c (ah (ap [(116:υ),g,g,(32:υ),(108:υ),g,(110:υ),(103:υ),(10:υ)]))))] a else bif !cm c j then bif cm (d j) (ah (ap [(119:υ),(104:υ),(101:υ),(101:υ),(108:υ),(115:υ),(32:υ),(48:υ),(10:υ)]))then Ξ [ω k 4294967281] (rO [AV.v (.bool (cm (d (i e)) c))] a)else rO f a else rO f a):=by intros;kernel_rfl
def amX(l:O->(O->Z)->ρ)(c d la:ρ->ρ)(m:O)(b:ao):let a:=(l m (bD λq=>aS b (0+q)));let g:=[AB.row η m 1 (aS b) 5];let e:=(c (d a));let h:=(10:υ);let i:=(122:υ);let f:=[vB ε];let j:=(ay e);let n:=ω j 4294967281;let k:=((↑j:Z) -(↑(ay (la e)):Z));let o:=(qp e 0 (aT (aa .i64 k)));let p:=(aI o (ah (ap [(119:υ),(104:υ),(97:υ),(116:υ),h,(110:υ),(111:υ),h])));ad θ (HP l c d la) K 100 Tryz.f5 [.sl 0 1 0 0 m ζ] [.row η m 1 (aS b) 5] (ag 1)
 =bif κ ((m:Z)> (1048576:Z))then rO f g else Ξ [Δ (0+m) m,okB m λq=>aS b (0+q),κ (m<=2097152)] (bif !cm (c a) (c a)then rO [vB η] g else Ξ [ω (ay a) 4294967281] (bif κ ((↑(ay (d a)):Z)> (890:Z))then rO f g else Ξ [Δ (ay (d a)+10) 9223372036854775807,n,κ ((0:Z)<=aa .i64 k),κ (aa .i64 k<=(↑j:Z)),Δ (ay o+8) 9223372036854775807,n,Δ (ay p+ay (la e)) 9223372036854775807] (rO [AV.v (.bool (cm (c (aI (d a) (ah (ap [i,i,i,h,(115:υ),(101:υ),(116:υ),(32:υ),(120:υ),h])))) (aI p (la e))))] g))):=by intros;kernel_rfl
def amW(x:O->(O->Z)->ρ)(a y la:ρ->ρ)(m:O)(b:ao):let r:=(x m (bD λq=>aS b (0+q)));let s:=[AB.row η m 1 (aS b) 5];let d:=(115:υ);let e:=(111:υ);let f:=(119:υ);let g:=(104:υ);let h:=(10:υ);let j:=[vB ε];let c:=(y r);let z:=(a (aI c (ah (ap [d,g,e,f,h]))));let u:=(ay (a c));let k:=(↑(ay z):Z);let i:=(la (a c));let l:=(↑(ay i):Z);let t:=((↑u:Z) -l);let v:=(k-l);let A:=κ ((0:Z)<=aa .i64 t);let n:=(aT (aa .i64 t));let o:=(qp z n (aT (aa .i64 v)));let w:=(qp (a c) 0 n);let p:=(aI (aI w o) o);ad θ (HP x a y la) K 100 Tryz.f4 [.sl 0 1 0 0 m ζ] [.row η m 1 (aS b) 5] (ag 1)
 =bif κ ((m:Z)> (1048576:Z))then rO j s else Ξ [Δ (0+m) m,okB m λq=>aS b (0+q),κ (m<=2097152)] (bif !cm (a r) (a r)then rO [vB η] s else Ξ [ω (ay r) 4294967281] (bif κ ((↑(ay c):Z)> (890:Z))then rO j s else Ξ [ω u 4294967281,Δ (ay c+5) 9223372036854775807,A,κ (aa .i64 t<=aa .i64 v),κ (aa .i64 v<=k),Δ (ay c+10) 9223372036854775807,A,κ (aa .i64 t<=(↑u:Z)),Δ (ay w+ay o) 9223372036854775807,Δ (ay (aI w o)+ay o) 9223372036854775807,Δ (ay p+ay i) 9223372036854775807] (rO [AV.v (.bool (cm (a (aI c (ah (ap [d,g,e,f,h,d,g,e,f,h])))) (aI p i)))] s))):=by intros;kernel_rfl
abbrev Dv:Ex->E O:=cj [0,1] [0] [4]
def asy(a b:Z):a0 θ g0 100 K (a5 0 SO) (ar 0 17 ((Dv .normal).zip [.v (ι a),.v (ι b)])) [] (cw 17 Dv 0)=bif b != (0:Z)then Ξ [!κ (b=(0:Z))] (am.out .normal [vI b,vI (Int.tmod a b)] [])else am.out (Ex.exit 0) [vI a] []:=by kernel_rfl
noncomputable abbrev Ox(a b c:Z):O->χ Sum:=bX 0 (bm 17 (Dv .normal) 0 [.v (ι a),.v (ι b)] [] (λd=>d .normal (ar 0 17 [(0,.v (ι c))]) []))
def awU(a b c:Z):ad θ g0 (Ox a b c) 100 SO [.v (ι a),.v (ι b)] [] (ag 0)=Ξ [cy ([vI a,vI b]=[vI a,vI b]/\Φ [] [])] (rO [vI (if aa .i64 ((0:Z) -c)>c then aa .i64 ((0:Z) -c)else c)] []):=by kernel_rfl
def gI:O->Z->Z->Z
 |0,a,_=>a
 |n+1,a,b=>if b=0 then a else gI n b (a.tmod b)
def auS(a b:Z):ck θ 0 (.block 0 (.loop (a5 0 SO))) (bm 17 (Dv .normal) 0 [.v (ι a),.v (ι b)] [] (λd=>d .normal (ar 0 17 [(0,.v (ι (gI (b.natAbs+1) a b)))]) [])):=by
 refine Dd ba (n:=100) (m:=0) (lv:=Dv) (σ:=O×Z×Z) (λs=>[.v (ι s.2.1),.v (ι s.2.2)]) (λ_=>[]) (λs=>s.2.2.natAbs<s.1/\gI s.1 s.2.1 s.2.2=gI (b.natAbs+1) a b) (λs=>s.1) (b.natAbs+1,a,b) (λ_=>K) (du rfl rfl rfl) (aQ _) ⟨fA _,rfl⟩ λd Q g s h=>⟨cN _ _ _,?_⟩
 obtain⟨n,x,y⟩:=s;obtain⟨f,e⟩:=h;rw[asy];cases n with
 |zero=>exact aR f (dh _)
 |succ n=>
  refine aD (λc=>?_) λc=>?_
  ·have c:y≠0:=by simpa using c
   have e:gI n y (x.tmod y)=gI (b.natAbs+1) a b:=by
    rw[<-e];show _=if y=0 then x else gI n y (x.tmod y)
    rw[bI c]
   have f:y.natAbs<n+1:=f;have k:(x.tmod y).natAbs<y.natAbs:=by rw[adA];exact tD _ (by omega)
   exact aq (by simp[aJ,c]) (F ⟨(n,y,x.tmod y),⟨⟨by show(x.tmod y).natAbs<n;omega,e⟩,fA _⟩,rfl,.nil⟩)
  ·have c:y=0:=by simpa using c
   have e:x=gI (b.natAbs+1) a b:=by
    rw[<-e];show _=if y=0 then x else gI n y (x.tmod y)
    rw[aU c]
   refine F ⟨_,.nil,?_⟩;rw[aU rfl];rw[<-e]at g;exact g
def mX(a b:Z):Z:=if aa aY (0-gI (b.natAbs+1) a b)>gI (b.natAbs+1) a b then aa aY (0-gI (b.natAbs+1) a b)else gI (b.natAbs+1) a b
def BL:E SA->χ FR
 |[.v (.int .i64 a),.v (.int .i64 b)]=>γ {val:=.v (ι (mX a b))}
 |_=>ζ
def PD:ak θ 154 (ai [.val,.val] BL):=by
 refine ca ba func154 rfl λd e c f=>?_
 unfold BL at c;split at c
 ·rename_i a b
  cases c;refine⟨[],Ox a b (gI (b.natAbs+1) a b),100,.nil,da (auS a b),?_⟩;show aE (ad θ g0 (Ox a b (gI (b.natAbs+1) a b)) 100 SO [.v (ι a),.v (ι b)] [] (ag 0)) _
  rw[awU];exact aq (by rw[Ω];exact⟨cG ⟨rfl,.nil⟩,rfl⟩) (F ⟨_,rfl,rfl,.nil⟩)
 ·cases c
def Wp:∀(n:O)(a b:Z),b.natAbs<n->(gI n a b).natAbs=Bq a.natAbs b.natAbs
 |0,_,_,h=>aR h (dh _)
 |n+1,a,b,h=>by
  unfold gI;split
  ·rename_i c
   subst c;simp
  ·rename_i c
   have e:(a.tmod b).natAbs=a.natAbs%b.natAbs:=adA _ _;have d:a.natAbs%b.natAbs<b.natAbs:=tD _ (by omega);rw[Wp n b (a.tmod b) (by omega),e,Nat.gcd_comm a.natAbs,Nat.gcd_rec b.natAbs a.natAbs,Nat.gcd_comm]
def Hu{a b:Z}(e: -1000000000000<=a/\a<=1000000000000)(f: -1000000000000<=b/\b<=1000000000000):mX a b=(Bq a.natAbs b.natAbs:Z):=by
 have h:=Wp (b.natAbs+1) a b (fA _);have c:Bq a.natAbs b.natAbs<=1000000000000:=by
  by_cases d:a.natAbs=0
  ·rw[d,ad7]
   omega
  ·exact cF (Nat.gcd_le_left _ (by omega)) (by omega)
 unfold mX;rw[bz];split<;>omega
def axe(s r:Z):ad θ g0 K 100 f181 [.v (ι s),.v (ι r)] [] (ag 0)=rO [AV.agg [vI s,vI r,vI 0,vI 0,vI 0,vI 0,vI 0,vI 0,vI 0]] []:=by kernel_rfl
def Lk:E SA->χ FR
 |[.v (.int .i64 s),.v (.int .i64 r)]=>γ {val:=.agg [.v (ι s),.v (ι r),.v (ι 0),.v (ι 0),.v (ι 0),.v (ι 0),.v (ι 0),.v (ι 0),.v (ι 0)]}
 |_=>ζ
def ap_:ak θ 181 (ai [.val,.val] Lk):=by
 refine ca ba func181 rfl λb c a d=>?_
 unfold Lk at a;split at a
 ·rename_i s r
  cases a;refine⟨[],K,100,.nil,de _,?_⟩;show aE (ad θ g0 K 100 f181 [.v (ι s),.v (ι r)] [] (ag 0)) _
  rw[axe];exact F ⟨_,rfl,rfl,.nil⟩
 ·cases a
def T5(gf:Z->Z->Z):E SA->χ FR
 |[.v (.int .i64 a),.v (.int .i64 b)]=>γ {val:=.v (ι (gf a b))}
 |_=>ζ
variable {P:bS}
def QP{mds:E Md}{a y:E SA->χ FR}(h:∀sas b,y sas=γ b->∃j,a sas=γ j/\j.val=b.val/\j.new=b.new/\j.put=b.put/\(aJ b.aw=ε->aJ j.aw=ε))(hs:ak P I (ai mds a)):ak P I (ai mds y):=by
 refine⟨hs.1,λk H g f A l w c B C D p G m n=>?_⟩;unfold ai at c;split at c
 case h_2=>cases c
 rename_i i q;split at c
 case h_2=>cases c
 rename_i b L;obtain⟨j,e,M,N,Q,R⟩:=h _ _ L;split at c
 case h_2=>cases c
 rename_i S r;cases s:((!oT mds||j0 ((er mds i).filterMap id))&&b.new.all lP&&Ψ (bJ mds (i.map (·.sa)) b.put).length (bO mds (i.map (·.sa))).length)with
 |false=>rw[s]at c;cases c
 |true=>
 rw[s]at c;simp only[a6,aC]at c;subst c;have o:aJ (i.flatMap (·.ob))=ε/\aJ b.aw=ε:=by simpa[aJ,gM]using B
 have t:ai mds a k H g=γ {val:=S,rd:=(er mds i).filterMap id,put:=fS (er mds i) (bJ mds (i.map (·.sa)) b.put),new:=b.new,aw:=i.flatMap (·.ob)++j.aw}:=by unfold ai;rw[q];simp only[e];rw[M,N,Q,r];simp only[s];rfl
 refine(hs.2 k H g _ A l w t (by simpa[aJ,gM]using And.intro o.1 (R o.2)) C D p G m (n.call λx z=>by first|exact z|cases z)).mono ?_;rintro e w' ⟨v,u,rfl,d⟩;exact⟨v,u,rfl,d.le,d.cg,d.val,d.put,d.new,d.os,d.tape,d.output,d.size,d.block,d.fresh,d.apart⟩
def LA(t:E Wh->E Wh)(u:E Wh->ξ):E SA->χ FR
 |[.row 2 g]=>match g 0,g 1 with
  |[.int .i64 a,.int .i64 b,.int .i64 c,.int .i64 d,.int .i64 e,.int .i64 f,.int .i64 h,.int .i64 i,.int .i64 j],[.int .i64 k,.int .i64 l,.int .i64 m,.int .i64 n,.int .i64 o,.int .i64 p,.int .i64 q,.int .i64 r,.int .i64 s]=>γ {val:=.af [.own 0 (t [⟨a,⟨b,c,d,e,f,h,i,j⟩⟩,⟨k,⟨l,m,n,o,p,q,r,s⟩⟩]).length,.v (.bool (u [⟨a,⟨b,c,d,e,f,h,i,j⟩⟩,⟨k,⟨l,m,n,o,p,q,r,s⟩⟩]))],new:=[.row ε (t [⟨a,⟨b,c,d,e,f,h,i,j⟩⟩,⟨k,⟨l,m,n,o,p,q,r,s⟩⟩]).length 9 (J (Y (t [⟨a,⟨b,c,d,e,f,h,i,j⟩⟩,⟨k,⟨l,m,n,o,p,q,r,s⟩⟩]))) 123]}
  |_,_=>ζ
 |_=>ζ
def aqF:ak θ 158 (ai bF (LA bo bC)):=by
 have h:=IS;rw[<-F8]at h;refine QP (λf C a=>?_) h;unfold LA at a;split at a
 ·rename_i g
  split at a
  ·rename_i i k l m n o p q r s t u v w x y z A b c
   cases a;have d:V (ο g) 2=[⟨i,⟨k,l,m,n,o,p,q,r⟩⟩,⟨s,⟨t,u,v,w,x,y,z,A⟩⟩]:=by
    show[bh (ο g 0),bh (ο g 1)]=_
    unfold bh ο;rw[b,c];rfl
   refine⟨_,rfl,by simp only[d],by simp only[d],rfl,?_⟩
   ·have B:aF 2 g=ε:=bT.2 λj e=>by
     have e:j<2:=by simpa using e
     rcases(by omega:j=0\/j=1)with rfl|rfl
     ·rw[b];rfl
     ·rw[c];rfl
    intro _;simp only[Ω,ax,aj];exact⟨B,by decide⟩
  ·cases a
 ·cases a
def Ny(gf:Z->Z->Z)(b:E Wh->E Wh)(a:E Wh->ξ):aG:=ext (ext (ext nH 154 (ai [.val,.val] (T5 gf))) 181 (ai [.val,.val] Lk)) 158 (ai bF (LA b a))
def axp(gf:Z->Z->Z)(h:E Wh->E Wh)(f:E Wh->ξ)(a b:Z)(c:ξ)(d:Z):let e:=(0:Z);let j:=[AV.af [AV.own 0 0,vB η]];let k:=[AB.row ε 0 9 (λ_=>[]) 123];let g:= !κ (gf a b=e);let n:=(aa .i64 (eh b (gf a b)));let o:=(aa .i64 (a+b));let l:=[Wh.mk n (Cy.mk o e e e e e e e),Wh.mk (aa .i64 (eh o (gf a b))) (Cy.mk (aa .i64 (e-d)) e e e e e e e)];let m:=[Wh.mk n (Cy.mk (aa .i64 (a-b)) e e e e e e e),Wh.mk (aa .i64 (eh (aa .i64 (b-a)) (gf a b))) (Cy.mk d e e e e e e e)];let p:=(ce (h m));let i:=(ce (h l));let q:=(bif !aH d (-300:Z) (300:Z)then rO j k else bif c then Ξ [g,g] (rO [AV.af [AV.own 0 p,AV.v (.bool (f m))]] [AB.row ε p 9 (J (Y (h m))) 123])else Ξ [g,g] (rO [AV.af [AV.own 0 i,AV.v (.bool (f l))]] [AB.row ε i 9 (J (Y (h l))) 123]));ad θ (Ny gf h f) K 100 f105 [.v (ι a),.v (ι b),.v (.bool c),.v (ι d)] [] (ag 0)
 =bif !aH a (6:Z) (240:Z)then rO j k else bif !aH b (6:Z) (240:Z)then rO j k else bif c then bif κ (b>=a)then rO j k else Ξ [g] q else Ξ [g] q:=by intros;kernel_rfl
def F6(rd:Z->Z->ξ->Z->E Wh)(e:Z->Z->ξ->Z->ξ):E SA->χ FR
 |[.v (.int .i64 a),.v (.int .i64 b),.v (.bool c),.v (.int .i64 d)]=>γ {val:=.af [.own 0 (rd a b c d).length,.v (.bool (e a b c d))],new:=[.row ε (rd a b c d).length 9 (J (Y (rd a b c d))) 123]}
 |_=>ζ
def j_(a b:Z)(c:ξ)(d:Z):ξ:=aH a 6 240&&(aH b 6 240&&(!(c&&κ (b>=a))&&aH d (-300) 300))
def o_(a b:Z)(c:ξ)(d:Z):E Wh:=bif c then[⟨aa aY (eh b (mX a b)),⟨aa aY (a-b),0,0,0,0,0,0,0⟩⟩,⟨aa aY (eh (aa aY (b-a)) (mX a b)),⟨d,0,0,0,0,0,0,0⟩⟩]else[⟨aa aY (eh b (mX a b)),⟨aa aY (a+b),0,0,0,0,0,0,0⟩⟩,⟨aa aY (eh (aa aY (a+b)) (mX a b)),⟨aa aY (0-d),0,0,0,0,0,0,0⟩⟩]
def fG(a b:Z)(c:ξ)(d:Z):E Wh:=bif j_ a b c d then bo (o_ a b c d)else[]
def fy(a b:Z)(c:ξ)(d:Z):ξ:=j_ a b c d&&bC (o_ a b c d)
def alb:aK θ (Ny mX bo bC):=by
 refine az (az (az qT ?_) ap_) aqF;have e:T5 mX=BL:=by funext l;rfl
 rw[e];exact PD
def Wq{a b:Z}(c:aH a 6 240=ε)(d:aH b 6 240=ε):mX a b≠0:=by have c:=cd.1 c;have d:=cd.1 d;rw[Hu (by omega) (by omega)];have:0<Bq a.natAbs b.natAbs:=Nat.gcd_pos_of_pos_left _ (by omega);omega
def I'{a b:Z}(h:j_ a b q A=η):fG a b q A=[]/\fy a b q A=η:=⟨by rw[fG,h];rfl,by rw[fy,h];rfl⟩
def xk{a b:Z}(h:j_ a b q A=ε):fG a b q A=bo (o_ a b q A)/\fy a b q A=bC (o_ a b q A):=⟨by rw[fG,h];rfl,by rw[fy,h,ex]⟩
def ar5(a b:Z)(c:ξ)(d:Z):(fG a b c d).length<=12:=by
 cases h:j_ a b c d with
 |false=>rw[(I' h).1];exact ej _
 |true=>
  rw[(xk h).1];cases e:bC (o_ a b c d)with
  |true=>exact ace e
  |false=>rw[Jy e];exact ej _
def Z0:ak θ 105 (ai [.val,.val,.val,.val] (F6 fG fy)):=by
 refine ca alb func105 rfl λp s l t=>?_
 unfold F6 at l;split at l
 ·rename_i a b c d
  cases l;refine⟨[],K,100,.nil,de _,?_⟩;show aE (ad θ (Ny mX bo bC) K 100 f105 [.v (ι a),.v (ι b),.v (.bool c),.v (ι d)] [] (ag 0)) _
  rw[axp];have e:j_ a b c d=η->aE (.out .ret [.af [.own 0 0,.v (.bool η)]] [.row ε 0 9 (λ_=>[]) 123]) (dX (bJ [.val,.val,.val,.val] [.v (ι a),.v (ι b),.v (.bool c),.v (ι d)] []) {val:=.af [.own 0 (fG a b c d).length,.v (.bool (fy a b c d))],new:=[.row ε (fG a b c d).length 9 (J (Y (fG a b c d))) 123]}):=by intro h;rw[(I' h).1,(I' h).2];exact F ⟨_,rfl,rfl,.cons (ab.row λj q=>aR q (dh _)) .nil⟩
  have i:∀M:E Wh,j_ a b c d=ε->o_ a b c d=M->aE (.out .ret [.af [.own 0 (bo M).length,.v (.bool (bC M))]] [.row ε (bo M).length 9 (J (Y (bo M))) 123]) (dX (bJ [.val,.val,.val,.val] [.v (ι a),.v (ι b),.v (.bool c),.v (ι d)] []) {val:=.af [.own 0 (fG a b c d).length,.v (.bool (fy a b c d))],new:=[.row ε (fG a b c d).length 9 (J (Y (fG a b c d))) 123]}):=by rintro M h rfl;rw[(xk h).1,(xk h).2];exact F ⟨_,rfl,rfl,Φ.refl _⟩
  cases f:aH a 6 240 with
  |false=>exact cv rfl (e (by rw[j_,f];rfl))
  |true=>
  refine bA rfl ?_;cases g:aH b 6 240 with
  |false=>exact cv rfl (e (by rw[j_,f,g];rfl))
  |true=>
  refine bA rfl ?_;have r:κ (mX a b=0)=η:=gN (Wq f g);rw[r];cases c with
  |true=>
   refine cv rfl ?_;cases o:κ (b>=a)with
   |true=>exact cv rfl (e (by rw[j_,f,g,o];rfl))
   |false=>
   refine bA rfl (aq rfl ?_);cases k:aH d (-300) 300 with
   |false=>exact cv rfl (e (by rw[j_,f,g,o,k];rfl))
   |true=>exact bA rfl (cv rfl (aq rfl (i _ (by rw[j_,f,g,o,k];rfl) rfl)))
  |false=>
   refine bA rfl (aq rfl ?_);cases k:aH d (-300) 300 with
   |false=>exact cv rfl (e (by rw[j_,f,g,k];rfl))
   |true=>exact bA rfl (bA rfl (aq rfl (i _ (by rw[j_,f,g,k];rfl) rfl)))
 ·cases l
noncomputable abbrev zh:cb:=f52
def WD(a:O->(O->Z)->Z->Z->Z)(cf:O->(O->Z)->Z->O->Z)(b:O->(O->Z)->Z->Z):aG:=ext (wA a) 106 (ev [] (F2 cf b))
abbrev Dp:Ex->E O:=cj [0,5,6,7,8,9] [7] [2]
abbrev xB(a b:Z)(n:O)(i:O):E AV:=[.ptr 0 0 0 0,.v (ι a),.v (ι b),.own 2 i,.v (ι n),.v (ι i)]
def asq(o:O->(O->Z)->Z->Z->Z)(cf:O->(O->Z)->Z->O->Z)(r:O->(O->Z)->Z->Z)(l:O)(c:χ O)(p:Z)(m:O)(b:ao)(tr s:ae)(h:Θ)(g j:Z)(n:O)(i:O):let k:=κ (0<m);let e:=(1:Z);let f:=(aS b);let a:=(bD f);let d:=(p+e);let t:=AB.row η m 1 f s;a0 θ (WD o cf r) 100 K (a5 1 zh) (ar 0 65 ((Dp .normal).zip (xB g j n i))) (kw l c p m b tr s i h) (cw 65 Dp 2)
 =bif κ ((↑i:Z)<(↑n:Z))then Ξ [okB m f,κ (l<=m),κ ((0:Z)<=p),κ (p<=(1073741824:Z)),k,okB m f,κ (l<=m),κ ((0:Z)<=p+e),κ (p+e<=(536870912:Z)),k,k,Δ i i,Δ (i+1) 549755813888] (am.out .normal [AV.ptr 0 0 0 0,vI g,vI j,AV.own 2 (i+1),vI (↑n:Z),vI (aa .i64 ((↑i:Z)+e))] [AB.cells [AV.sl 1 1 0 0 l c,vI (r l a d)] tr,t,AB.row ε (i+1) 9 (λq=>[ι (bif ω q i then h q 0 else aa .i64 (j+aa .i64 (g*aa .i64 (o l a p (5:Z) -(2:Z))))),ι (bif ω q i then h q 1 else cf l a d 0),ι (bif ω q i then h q 2 else cf l a d 1),ι (bif ω q i then h q 3 else cf l a d 2),ι (bif ω q i then h q 4 else cf l a d 3),ι (bif ω q i then h q 5 else cf l a d 4),ι (bif ω q i then h q 6 else cf l a d 5),ι (bif ω q i then h q 7 else cf l a d 6),ι (bif ω q i then h q 8 else cf l a d 7)]) 123])else am.out (Ex.exit 1) [AV.own 2 i] [AB.cells [AV.sl 1 1 0 0 l c,vI p] tr,t,AB.row ε i 9 (J h) 123]:=by intros;kernel_rfl
noncomputable abbrev Yz(l:O)(c:χ O)(m:O)(b:ao)(tr d:ae)(e f:Z)(n:O)(g i:Z)(h:Θ):O->χ Sum:=bX 1 (bm 65 (Dp .normal) 2 (xB e f n 0) (kw l c g m b tr d 0 (Y [])) (λa=>a .normal (ar 0 65 [(7,.own 2 n)]) (kw l c i m b tr d n h)))
def Nr(a:O->(O->Z)->Z->Z->Z)(b:O->(O->Z)->Z->E Wh)(c:O->(O->Z)->Z->Z)(rd:Z->Z->ξ->Z->E Wh)(d:Z->Z->ξ->Z->ξ):aG:=ext (ext (wA a) 104 (ev [] (K4 b c))) 105 (ai [.val,.val,.val,.val] (F6 rd d))
def JA(e:O->(O->Z)->Z->Z->Z)(S:O->(O->Z)->Z->E Wh)(T:O->(O->Z)->Z->Z)(rd:Z->Z->ξ->Z->E Wh)(U:Z->Z->ξ->Z->ξ)(l:O)(c:χ O)(p:Z)(m:O)(b:ao)(tr N:ae)(P Q:Z)(n:O)(W X:Z)(h:Θ):let a:=(1:Z);let d:=(bD (aS b));let r:=(1073741824:Z);let g:=κ (l<=m);let f:=κ (0<m);let u:=AB.row η m 1 (aS b) N;let i:=okB m (aS b);let k:=(0:Z);let v:=(aa .i64 ((6:Z)+e l d (p+a+a) (12:Z)));let j:=AV.sl 1 1 0 0 l c;let s:=κ (k<=p+a);let w:=(kw l c W m b tr N 0 (Y []));let x:=AB.row ε 0 9 (λ_=>[]) 123;let y:=κ (p+a+a+a<=r);let z:=κ (k<=p+a+a+a);let A:=(p+a+a+a+a+a);let B:=κ (k<=p+a+a);let C:=κ (p+a+a<=r);let D:=(p+a+a+a+a);let G:=κ (p+a<=r);let o:=(4:Z);let H:=(p+a+a+a);let q:=(p+a);let u8:=(rO [AV.own 2 n] [AB.cells [j,vI X] tr,u,AB.row ε n 9 (J h) 123]);let I:=(aa .i64 (e l d D (20:Z) -(10:Z)));let L:=(aa .i64 ((6:Z)+e l d q (30:Z)));let M:=(e l d H (2:Z)==k);let t:=(S l d q);let R:=(rd L v M I);ad θ (Nr e S T rd U) (Yz l c m b tr N P Q n W X h) 100 zh [.ptr 0 0 0 0] (cK l c p m b tr N) (ag 2)
 =Ξ [i,g,κ (k<=p),κ (p<=r),f] (bif e l d p o==k then Ξ [i,g,s,κ (p+a<=(134217728:Z)),f,f] (rO [AV.own 2 (ce t)] [AB.cells [j,vI (T l d q)] tr,u,AB.row ε (ce t) 9 (J (Y t)) 123])else bif e l d p o==a then Ξ [i,g,s,G,f,i,g,B,C,f,i,g,z,y,f,i,g,κ (k<=p+a+a+a+a),κ (p+a+a+a+a<=r),f] (bif U L v M I then rO [AV.own 2 (ce R)] [AB.cells [j,vI A] tr,u,AB.row ε (ce R) 9 (J (Y R)) 123]else Ξ [i,g,κ (k<=p+a+a+a+a+a),κ (p+a+a+a+a+a<=r),f,i,g,κ (k<=p+a+a+a+a+a+a),κ (p+a+a+a+a+a+a<=r),f,i,g,κ (k<=p+a+a+a+a+a+a+a),κ (p+a+a+a+a+a+a+a<=r),f,cy ([AV.ptr 0 0 0 0,vI (aa .i64 (a+e l d A o)),vI (aa .i64 (e l d (p+a+a+a+a+a+a) (5:Z) -(2:Z))),AV.own 2 0,vI (aa .i64 (a+e l d (p+a+a+a+a+a+a+a) (3:Z))),vI 0]=xB P Q n 0/\Φ [AB.cells [j,vI (p+a+a+a+a+a+a+a+a)] tr,u,x] w)] u8)else Ξ [i,g,s,G,f,i,g,B,C,f,i,g,z,y,f,cy ([AV.ptr 0 0 0 0,vI (aa .i64 (a+e l d q o)),vI (aa .i64 (e l d (p+a+a) (5:Z) -(2:Z))),AV.own 2 0,vI (aa .i64 (a+e l d H (3:Z))),vI 0]=xB P Q n 0/\Φ [AB.cells [j,vI D] tr,u,x] w)] u8):=by intros;kernel_rfl
noncomputable def qK(a c:Z)(l:O)(b:ao)(p:Z):O->E Wh
 |0=>[]
 |i+1=>qK a c l b p i++[⟨W (c+W (a*W (a9 l b (gq l b p i) 5-2))),bq (un l b (gq l b p i+1))⟩]
def Mo(a c:Z)(l:O)(b:ao)(p:Z):∀i:O,(qK a c l b p i).length=i
 |0=>rfl
 |i+1=>by
  show(qK a c l b p i++[_]).length=i+1
  rw[bN,Mo a c l b p i];rfl
def akT:aK θ (WD a9 un sf):=az (az ba s5) ZH
def ak4:aK θ (Nr a9 Cj y_ fG fy):=az (az (az ba s5) apq) Z0
def auK(l:O)(c:χ O)(p:Z)(m:O)(b:ao)(tr g:ae)(d e:Z)(N:O)(o:N<=3)(h:okB m (aS b)=ε)(r:l<=m)(s:0<=p)(t:p<=2^28)(u:0<m):ck θ 2 (.block 1 (.loop (a5 1 zh))) (bm 65 (Dp .normal) 2 (xB d e N 0) (kw l c p m b tr g 0 (Y [])) (λa=>a .normal (ar 0 65 [(7,.own 2 N)]) (kw l c (gq l b p N) m b tr g N (Y (qK d e l b p N))))):=by
 refine dQ akT (n:=100) (m:=2) (lv:=Dp) (λi=>xB d e N i) (λi=>kw l c (gq l b p i) m b tr g i (Y (qK d e l b p i))) (λ_=>True) N (λ_=>K) (du rfl rfl rfl) (aQ _) trivial λa Q j i _ w=>⟨cN _ _ _,?_⟩
 rw[asq];have y:=Cl l b p i;refine aD (λf=>?_) λf=>?_
 ·have f:=aV f
  refine aq ?_ (F ⟨i+1,⟨rfl,by omega,trivial⟩,?_,?_⟩)
  ·simp only[Ω,ax,aj,aL,bl,h,bv]
   omega
  ·rw[bz (x:=(i:Z)+1)]
   rfl
  ·refine .cons (ab.refl _) (.cons (ab.refl _) (.cons (ab.row λq k=>?_) .nil))
   exact pQ (qK d e l b p i) ⟨W (e+W (d*W (a9 l b (gq l b p i) 5-2))),bq (un l b (gq l b p i+1))⟩ i (Mo d e l b p i) q k
 ·have f:=cu f
  have:i=N:=by omega
  subst this;refine F ⟨_,Φ.refl _,?_⟩;rw[aU rfl];exact j
def Cd(l:O)(b:ao)(p:Z):∃(L:E Wh)(o:Z),(p<=o/\o<=p+70)/\L.length<=12/\∀(c:χ O)(m:O)(tr d:ae),okB m (aS b)=ε->l<=m->0<=p->p<=2^26->0<m->∃Λ,(∀u,zh.body=γ u->dk θ 2 Λ u)/\aE (ad θ (Nr a9 Cj y_ fG fy) Λ 100 zh [.ptr 0 0 0 0] (cK l c p m b tr d) (ag 2)) (λ_ vs I=>vs=[.own 2 L.length]/\Φ I (kw l c o m b tr d L.length (Y L))):=by
 have t:=λq n=>qd l b q n
 have num:∀q:Z,∃N:O,(N:Z)=1+a9 l b q 3/\N<=3:=λq=>by have:=t q 3;have:=mq l b q (n:=3) (by omega);exact⟨(1+a9 l b q 3).toNat,by omega,by omega⟩
 have r:∀(q:Z)(z A:Z)(N:O),N<=3->p<=q->q<=p+20->∀(c:χ O)(m:O)(tr d:ae),okB m (aS b)=ε->l<=m->0<=p->p<=2^26->0<m->(∀u,zh.body=γ u->dk θ 2 (Yz l c m b tr d z A N q (gq l b q N) (Y (qK z A l b q N))) u):=
  λq z A N M h D c m tr d a e g P f=>da (auK l c q m b tr d z A N M a e (by omega) (by omega) f)
 have X:=t p 4;by_cases B:a9 l b p 4=0
 ·have v:=ah3 l b (p+1)
  refine⟨Cj l b (p+1),y_ l b (p+1),by omega,ah1 _ _ _,λc m tr d a e g h f=>⟨_,r p 0 0 0 (by omega) (by omega) (by omega) c m tr d a e g h f,?_⟩⟩;rw[JA];exact aq (IK a e f g (by omega)) (cv (fm.2 B) (aq (by simp only[Ω,ax,aj,aL,a,bv];omega) (F ⟨rfl,Φ.refl _⟩)))
 · --Q i,from q on
   have i:∀(q:Z),p+1<=q->q<=p+5->∃(N:O)(L:E Wh)(o:Z),N<=3/\(N:Z)=1+a9 l b (q+1+1) 3/\L=qK (W (1+a9 l b q 4)) (W (a9 l b (q+1) 5-2)) l b (q+1+1+1) N/\o=gq l b (q+1+1+1) N/\(p<=o/\o<=p+70)/\L.length=N:=λq h D=>by obtain⟨N,s,w⟩:=num (q+1+1);have v:=Cl l b (q+1+1+1) N;exact⟨N,_,_,w,s,rfl,rfl,by omega,Mo _ _ _ _ _ _⟩
   have G:∀(q:Z)(c:χ O)(m:O)(tr d:ae)(N:O),(N:Z)=1+a9 l b (q+1+1) 3->p+1<=q->q<=p+5->okB m (aS b)=ε->l<=m->0<=p->p<=2^26->0<m->aJ [okB m (aS b),κ (l<=m),κ (0<=q),κ (q<=1073741824),κ (0<m),okB m (aS b),κ (l<=m),κ (0<=q+1),κ (q+1<=1073741824),κ (0<m),okB m (aS b),κ (l<=m),κ (0<=q+1+1),κ (q+1+1<=1073741824),κ (0<m),cy ([AV.ptr 0 0 0 0,AV.v (ι (W (1+a9 l b q 4))),AV.v (ι (W (a9 l b (q+1) 5-2))),AV.own 2 0,AV.v (ι (W (1+a9 l b (q+1+1) 3))),AV.v (ι 0)]=xB (W (1+a9 l b q 4)) (W (a9 l b (q+1) 5-2)) N 0/\Φ [AB.cells [AV.sl 1 1 0 0 l c,AV.v (ι (q+1+1+1))] tr,AB.row η m 1 (aS b) d,AB.row ε 0 9 (λ_=>[]) 123] (kw l c (q+1+1+1) m b tr d 0 (Y [])))]=ε:=λq c m tr d N s h D a e g P f=>by have:=t (q+1+1) 3;have:=mq l b (q+1+1) (n:=3) (by omega);simp only[Ω,ax,aj,aL,a,bv];refine⟨by omega,by omega,by omega,by omega,by omega,by omega,by omega,by omega,by omega,by omega,by omega,by omega,cG ⟨?_,.cons (ab.refl _) (.cons (ab.refl _) (.cons (ab.row λj R=>aR R (dh _)) .nil))⟩⟩;rw[fj (x:=1+a9 l b (q+1+1) 3) (by omega) (by omega),<-s];rfl
   by_cases C:a9 l b p 4=1
   ·have a1:=t (p+1) 30
    have S:=mq l b (p+1) (n:=30) (by omega);have a2:=t (p+1+1) 12;have T:=mq l b (p+1+1) (n:=12) (by omega);have a3:=t (p+1+1+1+1) 20;have U:=mq l b (p+1+1+1+1) (n:=20) (by omega);have y:∀(m:O),okB m (aS b)=ε->l<=m->0<=p->p<=2^26->0<m->aJ [okB m (aS b),κ (l<=m),κ (0<=p+1),κ (p+1<=1073741824),κ (0<m),okB m (aS b),κ (l<=m),κ (0<=p+1+1),κ (p+1+1<=1073741824),κ (0<m),okB m (aS b),κ (l<=m),κ (0<=p+1+1+1),κ (p+1+1+1<=1073741824),κ (0<m),okB m (aS b),κ (l<=m),κ (0<=p+1+1+1+1),κ (p+1+1+1+1<=1073741824),κ (0<m)]=ε:=λm a e g h f=>by simp only[Ω,ax,aj,aL,a,bv];omega
    cases H:fy (W (6+a9 l b (p+1) 30)) (W (6+a9 l b (p+1+1) 12)) (a9 l b (p+1+1+1) 2==0) (W (a9 l b (p+1+1+1+1) 20-10))with
    |true=>refine⟨fG (W (6+a9 l b (p+1) 30)) (W (6+a9 l b (p+1+1) 12)) (a9 l b (p+1+1+1) 2==0) (W (a9 l b (p+1+1+1+1) 20-10)),p+1+1+1+1+1,by omega,ar5 _ _ _ _,λc m tr d a e g h f=>⟨_,r p 0 0 0 (by omega) (by omega) (by omega) c m tr d a e g h f,?_⟩⟩;rw[JA];exact aq (IK a e f g (by omega)) (bA (cq.2 B) (cv (fm.2 C) (aq (y m a e g h f) (cv H (F ⟨rfl,Φ.refl _⟩)))))
    |false=>obtain⟨N,L,o,w,s,rfl,rfl,v,k⟩:=i (p+1+1+1+1+1) (by omega) (by omega);refine⟨qK (W (1+a9 l b (p+1+1+1+1+1) 4)) (W (a9 l b (p+1+1+1+1+1+1) 5-2)) l b (p+1+1+1+1+1+1+1+1) N,_,v,by omega,λc m tr d a e g h f=>⟨_,r (p+1+1+1+1+1+1+1+1) (W (1+a9 l b (p+1+1+1+1+1) 4)) (W (a9 l b (p+1+1+1+1+1+1) 5-2)) N w (by omega) (by omega) c m tr d a e g h f,?_⟩⟩;rw[JA,k];exact aq (IK a e f g (by omega)) (bA (cq.2 B) (cv (fm.2 C) (aq (y m a e g h f) (bA H (aq (G _ c m tr d N s (by omega) (by omega) a e g h f) (F ⟨rfl,Φ.refl _⟩))))))
   ·obtain⟨N,L,o,w,s,rfl,rfl,v,k⟩:=i (p+1) (by omega) (by omega)
    refine⟨qK (W (1+a9 l b (p+1) 4)) (W (a9 l b (p+1+1) 5-2)) l b (p+1+1+1+1) N,_,v,by omega,λc m tr d a e g h f=>⟨_,r (p+1+1+1+1) (W (1+a9 l b (p+1) 4)) (W (a9 l b (p+1+1) 5-2)) N w (by omega) (by omega) c m tr d a e g h f,?_⟩⟩;rw[JA,k];exact aq (IK a e f g (by omega)) (bA (cq.2 B) (bA (cq.2 C) (aq (G _ c m tr d N s (by omega) (by omega) a e g h f) (F ⟨rfl,Φ.refl _⟩))))
noncomputable def sk(l:O)(b:ao)(p:Z):E Wh:=(Cd l b p).choose
noncomputable def iu(l:O)(b:ao)(p:Z):Z:=(Cd l b p).choose_spec.choose
def aiC(l:O)(b:ao)(p:Z):p<=iu l b p/\iu l b p<=p+70:=(Cd l b p).choose_spec.choose_spec.1
def aiB(l:O)(b:ao)(p:Z):(sk l b p).length<=12:=(Cd l b p).choose_spec.choose_spec.2.1
def K7(a:O->(O->Z)->Z->E Wh)(b:O->(O->Z)->Z->Z):E AV->E AB->χ HR
 |[.ptr 0 0 0 0],[.cells [.sl 1 1 0 0 l c,.v (.int .i64 p)] d,.row η m 1 g e]=>γ {val:=.own 2 (a l (bD g) p).length,out:=[.cells [.sl 1 1 0 0 l c,.v (.int .i64 (b l (bD g) p))] d,.row η m 1 g e],new:=[.row ε (a l (bD g) p).length 9 (J (Y (a l (bD g) p))) 123],aw:=[okB m g,κ (l<=m),κ (0<=p),κ (p<=2^26),κ (0<m)]}
 |_,_=>ζ
def apr:ak θ 52 (ev [] (K7 sk iu)):=by
 refine nZ ak4 func52 rfl λk H w a d=>?_
 unfold K7 at a;split at a
 ·rename_i l c p f m g h
  cases a;simp only[Ω,aL]at d;obtain⟨b,n,o,q,r,_⟩:=d;obtain⟨s,t,u⟩:=(Cd l (bD g) p).choose_spec.choose_spec.2.2 c m f h (s4 b) n o q r;refine⟨cK l c p m (bD g) f h,s,100,tc b,t,⟨kJ (λe x y i=>?_) u.out⟩⟩;refine⟨i.1,i.2.trans' (.cons (ab.refl _) (.cons (ab.row λj v=>(mn b v).1.symm) (Φ.refl _)))⟩
 ·cases a
def WF(a:O->(O->Z)->Z->E Wh)(b:O->(O->Z)->Z->Z)(c:O->(O->Z)->Z->Z->Z):aG:=ext (wA c) 52 (ev [] (K7 a b))
def ak0:aK θ (WF sk iu a9):=az (az ba s5) apr
def axk(q:χ Addr)(c:O)(p n:Z)(tr:ae):let a:=[AB.cells [AV.v (gj q 0 c),vI (aa .i64 (p+(1:Z)))] tr];ad θ g0 K 100 SH [.ptr 0 0 0 0,.v (ι n)] [.cells [.v (.slice q 0 c),.v (ι p)] tr] (ag 1)
 =bif κ (n<(1:Z))then rO [vI 0] a else rO [vI 0] a:=by intros;kernel_rfl
def Lm:E AV->E AB->χ HR
 |[.ptr 0 0 0 0,.v (.int .i64 _)],[.cells [.v (.slice q 0 c),.v (.int .i64 p)] a]=>γ {val:=.v (.int .i64 0),out:=[.cells [.v (.slice q 0 c),.v (.int .i64 (p+1))] a],aw:=[κ (0<=p),κ (p<=2^30)]}
 |_,_=>ζ
def aqc:ak θ 12 (ev [] Lm):=by
 refine nZ ba Tryz.func12 rfl λe H f a d=>?_
 unfold Lm at a;split at a
 ·rename_i n q c p b
  cases a;simp only[Ω,aL]at d;obtain⟨g,h,_⟩:=d;refine⟨[.cells [.v (.slice q 0 c),.v (ι p)] b],K,100,Φ.refl _,de _,?_⟩;rw[show ad θ g0 K 100 SH [.ptr 0 0 0 0,.v (ι n)] [.cells [.v (.slice q 0 c),.v (ι p)] b] (ag [AB.cells [AV.v (.slice q 0 c),.v (ι p)] b].length)=_ from axk q c p n b];rw[bz (x:=p+1)];exact aD (λ_=>F ⟨rfl,Φ.refl _⟩) λ_=>F ⟨rfl,Φ.refl _⟩
 ·cases a
def WQ:aG:=ext g0 12 (ev [] Lm)
def ala:aK θ WQ:=az ba aqc
def yV(t:Z)(k:O):Z->(O->Z)->Z:=λs f=>iG f (t*s) k
def afu(t:Z)(k:O):pH (yV t k):=λs f g=>by unfold yV;rw[avP]
def pS(L:E Wh)(t:Z)(k:O):Z:=dd (yV t k) L
def xb(h:aO L=ε){w:Wh}(a:w∈L):(-1000<=w.s/\w.s<=1000)/\fo 1000000 w.r.f/\bt w.r=ε:=by rw[aO,aP,bT]at h;have:=h.2 w a;rw[aP]at this;exact⟨cd.1 this.1,Mn this.2,this.2⟩
def Pu(h:aO L=ε):mT 1000000 L:=λ_ a=>(xb h a).2.1
def acj(a:fo A h)(n:Z):fo (2*A) (iG h n):=acl a _
def ag2{sp tn la:Z}{w:Wh}(hs: -1000<=w.s/\w.s<=1000)(c:fo 1000000 w.r.f)(a: -20<=sp/\sp<=20)(e:0<=tn/\tn<=23)(d:0<=la/\la<=23):(ep sp tn la η w).s=sp*w.s/\∀k,k<8->(ep sp tn la η w).r.f k=iG w.r.f (tn+la*w.s) k:=by
 have f:=zW (x:=sp) (y:=w.s) (A:=20) (B:=1000) a.1 a.2 hs.1 hs.2;have g:=zW (x:=la) (y:=w.s) (A:=23) (B:=1000) (by omega) d.2 hs.1 hs.2;refine⟨bz,λk b=>?_⟩;show(bq (fX w.r.f (aa aY (tn+aa aY (la*w.s))%24).toNat)).f k=_
 rw[Cc _ k b,bz (x:=la*w.s),bz (x:=tn+la*w.s),Rj c (by omega) _ k b];rfl
def ag3{sp tn la:Z}{w:Wh}(hs: -1000<=w.s/\w.s<=1000)(f:fo 1000000 w.r.f)(c: -20<=sp/\sp<=20)(h:0<=tn/\tn<=23)(g:0<=la/\la<=23):(ep sp tn la ε w).s=sp*w.s/\∀k,k<8->(ep sp tn la ε w).r.f k=iG (wV w.r.f) (tn+la*w.s) k:=by
 have i:=zW (x:=sp) (y:=w.s) (A:=20) (B:=1000) c.1 c.2 hs.1 hs.2;have j:=zW (x:=la) (y:=w.s) (A:=23) (B:=1000) (by omega) g.2 hs.1 hs.2;have d:=Y9 f;have e:∀k,k<8->w8 (jo w.r.f) k=wV w.r.f k:=λk a=>by rw[ayl _ k a];exact W8 d (by omega) k a
 have b:fo 2000000 (w8 (jo w.r.f)):=λk a=>by rw[e k a];have:=d k a;omega
 refine⟨bz,λk a=>?_⟩;show(bq (fX (w8 (jo w.r.f)) (aa aY (tn+aa aY (la*w.s))%24).toNat)).f k=_
 rw[Cc _ k a,bz (x:=la*w.s),bz (x:=tn+la*w.s),Rj b (by omega) _ k a];exact AU e _ k a
def ag1{sp tn la:Z}{w:Wh}(hs: -1000<=w.s/\w.s<=1000)(a:fo 1000000 w.r.f)(c: -20<=sp/\sp<=20)(d:0<=tn/\tn<=23)(e:0<=la/\la<=23):fo 4000000 (ep sp tn la q w).r.f:=λk b=>by
 cases q with
 |false=>rw[(ag2 hs a c d e).2 k b];have:=acj a (tn+la*w.s) k b;omega
 |true=>rw[(ag3 hs a c d e).2 k b];have:=acj (Y9 a) (tn+la*w.s) k b;omega
def aiA{sp tn la:Z}(d: -20<=sp/\sp<=20)(h:hP sp tn la q L=ε):aO L=ε/\(0<=tn/\tn<=23)/\(0<=la/\la<=23)/\bK (ga sp tn la q L)/\∀φ,pH φ->dd φ (ga sp tn la q L)=dd φ (L.map (ep sp tn la q)):=by
 rw[hP,aP]at h;have e:ga sp tn la q L=bo (L.map (ep sp tn la q)):=by rw[ga,h.1];rfl
 have a:=h.1;rw[i5,aP,aP]at a;have b:=cd.1 a.2.1;have c:=cd.1 a.2.2;have f:mT 2000000000000 (L.map (ep sp tn la q)):=λw g=>by obtain⟨x,i,rfl⟩:=gh.1 g;obtain⟨j,k,_⟩:=xb a.1 i;exact(ag1 j k d b c).mono (by omega)
 rw[e];exact⟨a.1,b,c,AT f h.2⟩
def rH(h:bK L):aO L=ε:=h.2.2
def Iv(L:E Wh):V (ο (J (Y L))) L.length=L:=hZ L _ rfl
variable {S:E AB}
def Ay(h:q=ε):aE (.out .ret [.v (.bool q)] S) vX:=by subst h;exact F rfl
def Gp(h:i<=12):κ (i<=274877906944)=ε:=dc
def avr(h:yI L=ε):aO L=ε/\bK (tI L)/\∀φ,pH φ->dd φ (tI L)=dd φ L:=by
 have a:tI L=bo L:=by rw[tI,h];rfl
 rw[yI,aP]at h;rw[a];exact⟨h.1,AT ((Pu h.1).mono (by omega)) h.2⟩
def zJ:bK []:=⟨yb,λw a=>by simp at a,rfl⟩
def ve(L:E Wh):bK (tI L):=by
 cases h:yI L with
 |true=>exact(avr h).2.1
 |false=>rw[Jt h];exact zJ
def vm(h:bK L):yI L=ε:=by rw[yI,rH h,aoG h];rfl
def AQ(h:bK L):tI L=L:=by rw[tI,vm h,a6,avJ h]
def En(x:O->ρ):O->E τ:=λj=>[.string (x j)]
def BP(d:O->(O->Z)->Z->Z->Z):E AV->E AB->χ HR
 |[.ptr 0 0 0 0,.own 1 n],[.cells [.sl 2 1 0 0 l c,.v (.int .i64 p)] e,.row ε b 1 a f,.row η m 1 g h]=>γ {val:=.v (.string (fU (a (d l (bD g) p n).toNat))),out:=[.cells [.sl 2 1 0 0 l c,.v (.int .i64 (p+1))] e,.row ε b 1 a f,.row η m 1 g h],aw:=[okB m g,κ (l<=m),κ (0<=p),κ (p<=2^30),κ (0<m),Ψ n b,Δ 1 n,Δ n 1000,mO n a]}
 |_,_=>ζ
def axf(a:O->(O->Z)->Z->Z->Z)(l:O)(c:χ O)(p:Z)(m:O)(b:ao)(tr f g:ae)(n:O)(x:O->ρ):let d:=(↑n:Z);let e:=(bD (aS b));ad θ (wA a) K 100 f22 [.ptr 0 0 0 0,.own 1 n] [.cells [.sl 2 1 0 0 l c,.v (ι p)] tr,.row ε n 1 (En x) g,.row η m 1 (aS b) f] (ag 3)
 =Ξ [okB m (aS b),κ (l<=m),κ ((0:Z)<=p),κ (p<=(1073741824:Z)),κ (0<m),κ ((0:Z)<=a l e p d),κ (a l e p d<d),κ (aT (a l e p d)<n)] (rO [AV.v (.string (x (aT (a l e p d))))] [AB.cells [AV.sl 2 1 0 0 l c,vI (p+(1:Z))] tr,AB.row ε n 1 (En x) g,AB.row η m 1 (aS b) f]):=by intros;kernel_rfl
variable {N:ae}
def atr(h:mO i p=ε):ab (.row ε i 1 p N) (.row ε i 1 (En λj=>fU (p j)) N):=.row λ_ a=>yS h a
def PI:ak θ 22 (ev [] (BP a9)):=by
 refine nZ (az ba s5) func22 rfl λq H s b e=>?_
 unfold BP at b;split at b
 ·rename_i n l c p f t h i m g k
  cases b;simp only[Ω,aL,Sr,bl]at e;obtain⟨d,u,v,w,x,rfl,y,z,o,_⟩:=e;have r:=s4 d;refine⟨[.cells [.sl 2 1 0 0 l c,.v (ι p)] f,.row ε n 1 (En λj=>fU (h j)) i,.row η m 1 (aS (bD g)) k],K,100,.cons (ab.refl _) (.cons (atr o) (.cons (ab.row λj a=>(mn d a).1) .nil)),de _,?_⟩;show aE (ad θ (wA a9) K 100 f22 [.ptr 0 0 0 0,.own 1 n] [.cells [.sl 2 1 0 0 l c,.v (ι p)] f,.row ε n 1 (En λj=>fU (h j)) i,.row η m 1 (aS (bD g)) k] (ag 3)) _
  rw[axf,iw];have A:=qd l (bD g) p n;have B:=mq l (bD g) p (n:=(n:Z)) (by omega);refine aq (by simp only[Ω,ax,aj,aL,r,bv];omega) (F ⟨rfl,?_⟩);exact .cons (ab.refl _) (.cons (.row λj a=>(yS o a).symm) (.cons (ab.row λj a=>(mn d a).1.symm) .nil))
 ·cases b
def CQ(b:O->(O->Z)->Z->E Wh)(c:O->(O->Z)->Z->Z)(a:O->(O->Z)->Z->Z->Z)(d:E Wh->ρ)(e:E Wh->ξ):aG:=ext (ext (WF b c a) 51 (ai bF (tZ d e))) 22 (ev [] (BP a))
def JB(L:O->(O->Z)->Z->E Wh)(i:O->(O->Z)->Z->Z)(o:O->(O->Z)->Z->Z->Z)(M:E Wh->ρ)(N:E Wh->ξ)(l:O)(c:χ O)(p:Z)(m:O)(b:ao)(tr P:ae):let a:=(bD (aS b));let e:=(1:Z);let d:=(250:Z);let g:=κ (0<m);let r:=AB.row η m 1 (aS b) P;let k:=κ (l<=m);let f:=(0:Z);let n:=okB m (aS b);let j:=(i l a p);let s:=(1073741824:Z);let t:=AV.sl 1 1 0 0 l c;let v:=(ap [(45:υ)]);let w:=(ap [(32:υ)]);let x:=(i l a p+e+e);let u:=(L l a p);let C:=(aT (o l a x (5:Z)));let D:=(ce u);let Q:=[AB.cells [t,vI x] tr,r];let y:=(J (Y u));let z:=(V (ο y) D);let q:=(M z);let G:=(fU [b9 (bif Ψ C 0 then ah (ap [(48:υ)])else bif Ψ C 1 then ah v else bif Ψ C 2 then ah (ap [(44:υ)])else bif Ψ C 3 then ah w else ah (ap [(120:υ)]))]);let h:=(↑(ay q):Z);let H:=(o l a j (if h<d then h else d)+e);let I:=(qp q 0 (aT (o l a j (if h<d then h else d))));let A:=(qp q (aT (aa .i64 H)) (aT h));let B:=(aI q (ah w));ad θ (CQ L i o M N) K 100 S0 [.ptr 0 0 0 0] (cK l c p m b tr P) (ag 2)
 =Ξ [n,k,κ (f<=p),κ (p<=(67108864:Z)),g,g,Δ D D,aF D y,κ (ce u<=274877906944)] (bif !N z then rO [AV.v (.string (ah v))] [AB.cells [t,vI j] tr,r]else Ξ [n,k,κ (f<=i l a p),κ (i l a p<=s),g,n,k,κ (f<=i l a p+e),κ (i l a p+e<=s),g] (bif o l a (i l a p+e) (8:Z)==f then Ξ [κ (f<=o l a j (if h<d then h else d)),κ (o l a j (if h<d then h else d)<=h),n,k,κ (f<=i l a p+e+e),κ (i l a p+e+e<=s),g,g,Δ (ay I+ay G) 9223372036854775807,κ (f<=aa .i64 H),κ (aa .i64 H<=h),κ (h<=h),Δ (ay (aI I G)+ay A) 9223372036854775807] (rO [AV.v (.string (aI (aI I G) A))] [AB.cells [t,vI (i l a p+e+e+e)] tr,r])else bif o l a (i l a p+e) (8:Z)==e then Ξ [Δ (ay q+1) 9223372036854775807,Δ (ay B+ay q) 9223372036854775807] (rO [AV.v (.string (aI B q))] Q)else rO [AV.v (.string q)] Q)):=by intros;kernel_rfl
def ax5(h:yI L=ε):1<=(ef L).size/\(ef L).size<=3000:=by
 have b:=ve L;have a:=rH b;unfold aO at a;rw[aP,aL]at a;have c:∀w∈tI L,e7 w=ε:=λw d=>bT.1 a.2 w d
 have f:=Jw c;unfold ef;rw[h,a6,dF];cases e:tI L with
 |nil=>exact⟨aQ _,(by omega:(1:O)<=3000)⟩
 |cons w R=>rw[List.isEmpty_cons,be,sS];rw[e]at f a;refine⟨?_,by have:=a.1;omega⟩;unfold l4;rw[eG,tC,bN,ng,bN,bZ];omega
def ak9:aK θ (CQ sk iu a9 ef yI):=az (az ak0 PC) PI
def Gz(k:O):ρ:=fU [b9 (bif Ψ k 0 then ah (ap [48])else bif Ψ k 1 then ah (ap [45])else bif Ψ k 2 then ah (ap [44])else bif Ψ k 3 then ah (ap [32])else ah (ap [120]))]
def U8(k:O):(Gz k).size=1:=by unfold Gz;cases Ψ k 0<;>cases Ψ k 1<;>cases Ψ k 2<;>cases Ψ k 3<;>rfl
def O3(l:O)(b:ao)(p:Z):∃(T:ρ)(P:Z),p<=P/\P<=p+80/\T.size<=7000/\∀(c:χ O)(m:O)(tr d:ae),okB m (aS b)=ε->l<=m->0<=p->p<=2^26->0<m->aE (ad θ (CQ sk iu a9 ef yI) K 100 S0 [.ptr 0 0 0 0] (cK l c p m b tr d) (ag 2)) (λ_ vs k=>vs=[.v (.string T)]/\k=cK l c P m b tr d):=by
 have v:=aiC l b p;have h:=aiB l b p;cases g:yI (sk l b p)with
 |false=>refine⟨ah (ap [45]),iu l b p,v.1,by omega,(by decide:(1:O)<=7000),λc m tr d a e i o q=>?_⟩;rw[JB,iw,Iv];refine aq (by simp only[Ω,ax,aj,aL,bl,dn,bv,a,Gp h];omega) (cv (by rw[g];rfl) (F ⟨rfl,rfl⟩))
 |true=>
  obtain⟨w,y⟩:=ax5 g;have r:∀S:ρ,ef (sk l b p)=S->∃(T:ρ)(P:Z),p<=P/\P<=p+80/\T.size<=7000/\∀(c:χ O)(m:O)(tr d:ae),okB m (aS b)=ε->l<=m->0<=p->p<=2^26->0<m->
    aE (ad θ (CQ sk iu a9 ef yI) K 100 S0 [.ptr 0 0 0 0] (cK l c p m b tr d) (ag 2)) (λ_ vs k=>vs=[.v (.string T)]/\k=cK l c P m b tr d):=λS j=>by
   rw[j]at w y;have z:(if(S.size:Z)<250 then(S.size:Z)else 250)<=S.size/\1<=(if(S.size:Z)<250 then(S.size:Z)else 250):=by split<;>omega
   have B:=qd l b (iu l b p) (if(S.size:Z)<250 then(S.size:Z)else 250);have C:=mq l b (iu l b p) z.2;cases i:a9 l b (iu l b p+1) 8==0 with
   |true=>
    have D:=qd l b (iu l b p+1+1) 5;have G:=mq l b (iu l b p+1+1) (n:=5) (by omega);have A:=bz (x:=a9 l b (iu l b p) (if(S.size:Z)<250 then(S.size:Z)else 250)+1);refine⟨aI (aI (S.extract 0 (a9 l b (iu l b p) (if(S.size:Z)<250 then(S.size:Z)else 250)).toNat) (Gz (a9 l b (iu l b p+1+1) 5).toNat)) (S.extract (a9 l b (iu l b p) (if(S.size:Z)<250 then(S.size:Z)else 250)+1).toNat (S.size:Z).toNat),iu l b p+1+1+1,by omega,by omega,by simp only[gO,tA,U8];omega,λc m tr d a e s t q=>?_⟩;rw[JB,iw,Iv,j];generalize H:a9 l b (iu l b p) (if(S.size:Z)<250 then(S.size:Z)else 250)=f at*;rw[A];refine aq (by simp only[Ω,ax,aj,aL,bl,dn,bv,a,Gp h];omega) (bA (by rw[g];rfl) (aq (by simp only[Ω,ax,aj,aL,a,bv];omega) (cv i (aq ?_ (F ⟨rfl,rfl⟩)))));have u:=U8 (a9 l b (iu l b p+1+1) 5).toNat;unfold Gz at u;have I:(S.extract 0 f.toNat).size<=S.size:=by rw[tA];omega
    have L:(S.extract (f+1).toNat (S.size:Z).toNat).size<=S.size:=by rw[tA];omega
    have M:f<S.size:=by omega
    simp only[Ω,ax,aj,aL,bl,gO,a,bv,u];omega
   |false=>
    cases o:a9 l b (iu l b p+1) 8==1 with
    |true=>refine⟨aI (aI S (ah (ap [32]))) S,iu l b p+1+1,by omega,by omega,by simp only[gO];have:(ah (ap [32])).size=1:=rfl;omega,λc m tr d a e s t q=>?_⟩;rw[JB,iw,Iv,j];refine aq (by simp only[Ω,ax,aj,aL,bl,dn,bv,a,Gp h];omega) (bA (by rw[g];rfl) (aq (by simp only[Ω,ax,aj,aL,a,bv];omega) (bA i (cv o (aq (by simp only[Ω,ax,aj,bl,gO];exact⟨by omega,by have:(ah (ap [32])).size=1:=rfl;omega⟩) (F ⟨rfl,rfl⟩))))))
    |false=>refine⟨S,iu l b p+1+1,by omega,by omega,by omega,λc m tr d a e s t q=>?_⟩;rw[JB,iw,Iv,j];refine aq (by simp only[Ω,ax,aj,aL,bl,dn,bv,a,Gp h];omega) (bA (by rw[g];rfl) (aq (by simp only[Ω,ax,aj,aL,a,bv];omega) (bA i (bA o (F ⟨rfl,rfl⟩)))))
  exact r _ rfl
noncomputable def wP(l:O)(b:ao)(p:Z):ρ:=mC (O3 l b p)
noncomputable def uI(l:O)(b:ao)(p:Z):Z:=mC (gK (O3 l b p))
def Y1(l:O)(b:ao)(p:Z):p<=uI l b p/\uI l b p<=p+80/\(wP l b p).size<=7000/\∀(c:χ O)(m:O)(tr a:ae),okB m (aS b)=ε->l<=m->0<=p->p<=2^26->0<m->aE (ad θ (CQ sk iu a9 ef yI) K 100 S0 [.ptr 0 0 0 0] (cK l c p m b tr a) (ag 2)) (λ_ vs d=>vs=[.v (.string (wP l b p))]/\d=cK l c (uI l b p) m b tr a):=gK (gK (O3 l b p))
def Ld(a:O->(O->Z)->Z->ρ)(b:O->(O->Z)->Z->Z):E AV->E AB->χ HR
 |[.ptr 0 0 0 0],[.cells [.sl 1 1 0 0 l c,.v (.int .i64 p)] d,.row η m 1 g e]=>γ {val:=.v (.string (a l (bD g) p)),out:=[.cells [.sl 1 1 0 0 l c,.v (.int .i64 (b l (bD g) p))] d,.row η m 1 g e],aw:=[okB m g,κ (l<=m),κ (0<=p),κ (p<=2^26),κ (0<m)]}
 |_,_=>ζ
def ap1:ak θ 23 (ev [] (Ld wP uI)):=by
 refine nZ ak9 func23 rfl λi H t a d=>?_
 unfold Ld at a;split at a
 ·rename_i l c p f m g h
  cases a;simp only[Ω,aL]at d;obtain⟨b,k,n,o,q,_⟩:=d;have r:=s4 b;refine⟨cK l c p m (bD g) f h,K,100,tc b,de _,⟨kJ ?_ ((Y1 l (bD g) p).2.2.2 c m f h r k n o q).out⟩⟩;rintro e u v ⟨rfl,rfl⟩;exact⟨rfl,.cons (ab.refl _) (.cons (ab.row λj s=>(mn b s).1.symm) .nil)⟩
 ·cases a
def oH(a:Z->O->(O->Z)->Z->ρ)(wp:Z->O->(O->Z)->Z->Z)(k:Z):E AV->E AB->χ HR
 |[.ptr 0 0 0 0,.v (.int .i64 d)],[.cells [.sl 1 1 0 0 l c,.v (.int .i64 p)] b,.row η m 1 g e]=>γ {val:=.v (.string (a d l (bD g) p)),out:=[.cells [.sl 1 1 0 0 l c,.v (.int .i64 (wp d l (bD g) p))] b,.row η m 1 g e],aw:=[okB m g,κ (l<=m),κ (0<=p),κ (p+1000*d<=2^25),κ (0<m),κ (0<=d),κ (d<=k)]}
 |_,_=>ζ
def sD(a:O->(O->Z)->Z->Z->Z)(b:Z->O->(O->Z)->Z->ρ)(wp:Z->O->(O->Z)->Z->Z)(k:Z)(c:Z->ρ)(d:Z->ξ):aG:=ext (ext (ext (wA a) 22 (ev [] (BP a))) 21 (aW (oR c d))) 53 (ev [] (oH b wp k))
abbrev sQ:Ex->E O:=cj [0,1,5,6,7] [5] [4]
abbrev ph(d:Z)(s:ρ)(n i:Z):E AV:=[.ptr 0 0 0 0,.v (ι d),.v (.string s),.v (ι n),.v (ι i)]
def xl(L:O->(O->Z)->Z->Z->Z)(wt:Z->O->(O->Z)->Z->ρ)(wp:Z->O->(O->Z)->Z->Z)(k:Z)(N:Z->ρ)(iD:Z->ξ)(l:O)(c:χ O)(p:Z)(m:O)(b:ao)(tr tb:ae)(d:Z)(s:ρ)(n i:Z):let u3:=(ah (ap [(32:υ)]));let u6:=(ah (ap [(114:υ)]));let o:=(1:Z);let g:=κ (0<m);let t:=AB.row η m 1 (aS b) tb;let q:=vI (aa .i64 (i+o));let a:=κ (l<=m);let P:=(1073741824:Z);let e:=okB m (aS b);let f:=(0:Z);let u:=AV.sl 1 1 0 0 l c;let v:=(ap [(101:υ)]);let w:=(ap [(110:υ)]);let h:=(bD (aS b));let x:=κ (f<=p+o);let y:=κ (p+o<=P);let r:=AV.ptr 0 0 0 0;let Q:=(ah (ap [(32:υ),(93:υ)]));let j:=(aI s u3);let R:=Δ (ay s+1) 9223372036854775807;let S:=[AB.cells [u,vI (p+o)] tr,t];let C:=κ (f<=p);let D:=κ (p<=P);let T:=κ (f<=p+o+o);let U:=(ap [(100:υ)]);let W:=(ap [(116:υ)]);let X:=(ap [(115:υ)]);let u42:=(ap [(119:υ)]);let u43:=(ap [(117:υ)]);let G:=(p+o+o);let z:=(d-o);let M:=(aa .i64 (o+L l h (p+o) (4:Z)));let A:=(aT (L l h (p+o) (9:Z)));let B:=(aT (L l h p (9:Z)));let u16:=(aI (aI j u6) (N M));let u18:=κ (p+o+o+(1000:Z)*aa .i64 z<=(33554432:Z));let H:=(aI (aI s u6) (N M));let u28:=[e,a,C,D,g];let u31:=κ (f<=aa .i64 z);let u32:=[AB.cells [u,vI G] tr,t];let u33:=κ (aa .i64 z<=k);let u38:=(aa .i64 z);let I:=(aI u16 u3);let u0:=(fU [b9 (bif Ψ A 0 then ah u43 else bif Ψ A 1 then ah U else bif Ψ A 2 then ah w else bif Ψ A 3 then ah v else bif Ψ A 4 then ah X else bif Ψ A 5 then ah u42 else bif Ψ A 6 then ah v else bif Ψ A 7 then ah w else ah W)]);let u1:=(fU [b9 (bif Ψ B 0 then ah u43 else bif Ψ B 1 then ah U else bif Ψ B 2 then ah w else bif Ψ B 3 then ah v else bif Ψ B 4 then ah X else bif Ψ B 5 then ah u42 else bif Ψ B 6 then ah v else bif Ψ B 7 then ah w else ah W)]);let u4:=(wt u38 l h G);let u14:=[AB.cells [u,vI (wp u38 l h G)] tr,t];let u44:=(aI (aI H u3) u4);a0 θ (sD L wt wp k N iD) 200 K (a5 0 BC) (ar 0 47 ((sQ .normal).zip (ph d s n i))) (cK l c p m b tr tb) (cw 47 sQ 2)
 =bif κ (i<n)then bif κ (i>f)then Ξ [R] (bif κ (d>f)then Ξ u28 (bif L l h p (4:Z)==f then Ξ [Δ (ay j+1) 9223372036854775807,e,a,x,y,g,iD M,Δ (ay (aI j u6)+ay (N M)) 9223372036854775807,Δ (ay u16+1) 9223372036854775807,e,a,T,u18,g,u31,u33,g,Δ (ay I+ay u4) 9223372036854775807,Δ (ay (aI I u4)+2) 9223372036854775807] (am.out .normal [r,vI d,AV.v (.string (aI (aI I u4) Q)),vI n,q] u14)else Ξ [e,a,x,y,g,g,Δ (ay j+ay u0) 9223372036854775807] (am.out .normal [r,vI d,AV.v (.string (aI j u0)),vI n,q] u32))else Ξ [e,a,C,D,g,g,Δ (ay j+ay u1) 9223372036854775807] (am.out .normal [r,vI d,AV.v (.string (aI j u1)),vI n,q] S))else bif κ (d>f)then Ξ u28 (bif L l h p (4:Z)==f then Ξ [R,e,a,x,y,g,iD M,Δ (ay (aI s u6)+ay (N M)) 9223372036854775807,Δ (ay H+1) 9223372036854775807,e,a,T,u18,g,u31,u33,g,Δ (ay (aI H u3)+ay u4) 9223372036854775807,Δ (ay u44+2) 9223372036854775807] (am.out .normal [r,vI d,AV.v (.string (aI u44 Q)),vI n,q] u14)else Ξ [e,a,x,y,g,g,Δ (ay s+ay u0) 9223372036854775807] (am.out .normal [r,vI d,AV.v (.string (aI s u0)),vI n,q] u32))else Ξ [e,a,C,D,g,g,Δ (ay s+ay u1) 9223372036854775807] (am.out .normal [r,vI d,AV.v (.string (aI s u1)),vI n,q] S)else am.out (Ex.exit 0) [AV.v (.string s)] [AB.cells [u,vI p] tr,t]:=by intros;kernel_rfl
noncomputable abbrev YE(l:O)(c:χ O)(f g:Z)(m:O)(b:ao)(tr e:ae)(d:Z)(n:Z)(S:ρ):O->χ Sum:=bX 0 (bm 47 (sQ .normal) 2 (ph d oh n 0) (cK l c f m b tr e) (λa=>a .normal (ar 0 47 [(5,.v (.string S))]) (cK l c g m b tr e)))
def axW(e:O->(O->Z)->Z->Z->Z)(i:Z->O->(O->Z)->Z->ρ)(wp:Z->O->(O->Z)->Z->Z)(k:Z)(j:Z->ρ)(o:Z->ξ)(l:O)(c:χ O)(p:Z)(m:O)(b:ao)(tr a:ae)(d:Z)(n f:Z)(S:ρ):let g:=(ah (ap []));let h:=AB.row η m 1 (aS b) a;ad θ (sD e i wp k j o) (YE l c (p+1) f m b tr a d n S) 200 BC [.ptr 0 0 0 0,.v (ι d)] (cK l c p m b tr a) (ag 2)
 =Ξ [okB m (aS b),κ (l<=m),κ ((0:Z)<=p),κ (p<=(1073741824:Z)),κ (0<m),cy ([AV.ptr 0 0 0 0,vI d,AV.v (.string g),vI (aa .i64 ((1:Z)+e l (bD (aS b)) p (5:Z))),vI 0]=ph d g n (0:Z)/\Φ [AB.cells [AV.sl 1 1 0 0 l c,vI (p+(1:Z))] tr,h] (cK l c (p+(1:Z)) m b tr a))] (rO [AV.v (.string S)] [AB.cells [AV.sl 1 1 0 0 l c,vI f] tr,h]):=by intros;kernel_rfl
def Ri(t:O->(O->Z)->Z->Z->Z)(y:Z->O->(O->Z)->Z->ρ)(wp:Z->O->(O->Z)->Z->Z)(k:Z)(C:Z->ρ)(D:Z->ξ)(l:O)(c:χ O)(p:Z)(m:O)(b:ao)(tr z:ae):let a:=(32:υ);let d:=(101:υ);let h:=(114:υ);let i:=(93:υ);let n:=(1:Z);let e:=κ (0<m);let f:=(57:υ);let o:=κ (l<=m);let u:=κ ((0:Z)<=p+n);let g:=(aS b);let q:=(100:υ);let v:=AB.row η m 1 g z;let j:=(p+n);let w:=(1073741824:Z);let A:=[okB m g,o,u,κ (p+n<=w),e,e];let B:=[AB.cells [AV.sl 1 1 0 0 l c,vI (p+n+n)] tr,v];let s:=(bD g);let r:=(aT (t l s j (8:Z)));let x:=(aT (t l s j (4:Z)));ad θ (sD t y wp k C D) K 200 f24 [.ptr 0 0 0 0] (cK l c p m b tr z) (ag 2)
 =Ξ [okB m g,o,κ ((0:Z)<=p),κ (p<=w),e] (bif t l s p (14:Z)==(0:Z)then Ξ A (rO [AV.v (.string (fU [b9 (bif Ψ r 0 then ah (ap [])else bif Ψ r 1 then ah (ap [(120:υ)])else bif Ψ r 2 then ah (ap [h,(50:υ),a,i])else bif Ψ r 3 then ah (ap [h,(48:υ),a,d,a,i])else bif Ψ r 4 then ah (ap [d,a,a,d])else bif Ψ r 5 then ah (ap [h,(50:υ),a,d])else bif Ψ r 6 then ah (ap [d,a,i])else ah (ap [h,f,a,h,f,a,h,f,a,d,a,i,a,i,a,i]))]))] B)else bif t l s p (14:Z)==n then Ξ A (rO [AV.v (.string (fU [b9 (bif Ψ x 0 then ah (ap [q,a,h,(52:υ),a,d,a,(116:υ),a,i])else bif Ψ x 1 then ah (ap [q,a,d,a,(110:υ),a,(119:υ),a,(115:υ)])else bif Ψ x 2 then ah (ap [d,a,d,a,d,a,d,a,d,a,d,a,d,a,d,a,d,a,d,a,d,a,d])else ah (ap [q,a,h,f,a,h,f,a,d,a,i,a,(116:υ),a,i]))]))] B)else Ξ [okB m g,o,u,κ (p+n+(2000:Z)<=(33554432:Z)),e,κ ((2:Z)<=k),e] (rO [AV.v (.string (y (2:Z) l s j))] [AB.cells [AV.sl 1 1 0 0 l c,vI (wp (2:Z) l s j)] tr,v])):=by intros;kernel_rfl
def pO(k:O):ρ:=fU [b9 (bif Ψ k 0 then ah (ap [117])else bif Ψ k 1 then ah (ap [100])else bif Ψ k 2 then ah (ap [110])else bif Ψ k 3 then ah (ap [101])else bif Ψ k 4 then ah (ap [115])else bif Ψ k 5 then ah (ap [119])else bif Ψ k 6 then ah (ap [101])else bif Ψ k 7 then ah (ap [110])else ah (ap [116]))]
def U_(k:O):(pO k).size=1:=by unfold pO;cases Ψ k 0<;>cases Ψ k 1<;>cases Ψ k 2<;>cases Ψ k 3<;>cases Ψ k 4<;>cases Ψ k 5<;>cases Ψ k 6<;>cases Ψ k 7<;>rfl
def ayw{N:Z->O->(O->Z)->Z->ρ}{wp:Z->O->(O->Z)->Z->Z}{a:Z}(X:i<=1000000)(_:a<=150)(T:∀d l b p,(N d l b p).size<=i/\p<=wp d l b p/\wp d l b p<=p+a)(l:O)(b:ao)(d:Z)(n f:O)(s:ρ)(p:Z):∃(S:ρ)(P:Z),S.size<=s.size+25+i/\p<=P/\P<=p+(2+a)/\∀(c:χ O)(m:O)(tr x:ae),okB m (aS b)=ε->l<=m->0<=p->p+1000*(d-1)+2<=2^25->0<m->0<=d->d<=A+1->d<=2->s.size<=10000000->f<n->n<=5->aE (a0 θ (sD a9 N wp A bE p8) 200 K (a5 0 BC) (ar 0 47 ((sQ .normal).zip (ph d s n f))) (cK l c p m b tr x) (cw 47 sQ 2)) (λe vs U=>e=.normal/\vs=ph d S n ((f+1:O):Z)/\U=cK l c P m b tr x):=by
 have k:=qd l b (p+1) 4;have q3:=mq l b (p+1) (n:=4) (by omega);have q4:=T (d-1) l b (p+1+1);have q:(ah (ap [(32:υ)])).size=1:=rfl;have r:(ah (ap [(114:υ)])).size=1:=rfl;have G:(ah (ap [(32:υ),(93:υ)])).size=2:=rfl;have y:=U_ (a9 l b p 9).toNat;have z:=U_ (a9 l b (p+1) 9).toNat;have z3:=nD (n:=1+a9 l b (p+1) 4) (by omega) (by omega);have C:aa aY (1+a9 l b (p+1) 4)=1+a9 l b (p+1) 4:=bz;have R:p8 (1+a9 l b (p+1) 4)=ε:=by unfold p8;rw[aL];omega
 have D:f<n->n<=5->aa aY ((f:Z)+1)=((f+1:O):Z):=λB W=>by rw[bz];omega
 have Q:0<d->d<=2->aa aY (d-1)=d-1:=λB W=>bz
 by_cases hi:0<f
 ·by_cases t:0<d
  ·cases H:a9 l b p 4==0 with
   |true=>
    refine⟨aI (aI (aI (aI (aI (aI s (ah (ap [32]))) (ah (ap [114]))) (bE (1+a9 l b (p+1) 4))) (ah (ap [32]))) (N (d-1) l b (p+1+1))) (ah (ap [32,93])),wp (d-1) l b (p+1+1),?_,by omega,by omega,λc m tr x g u I B L v w o M h j=>?_⟩
    ·simp only[gO,q,r,G];omega
    ·rw[xl,iw,D h j,Q t o,C]
     unfold pO at y z;refine cv (dc) (cv (dc) (aq ?_ (cv (di t) (aq ?_ (cv H (aq ?_ (F ⟨rfl,rfl,rfl⟩)))))))
     ·simp only[Ω,ax,aj,bl];omega
     ·simp only[Ω,ax,aj,aL,g,bv];omega
     ·simp only[Ω,ax,aj,aL,g,bv,bl,gO,q,r,R];omega
   |false=>
    refine⟨aI (aI s (ah (ap [32]))) (pO (a9 l b (p+1) 9).toNat),p+1+1,?_,by omega,by omega,λc m tr x g u I B L v w o M h j=>?_⟩
    ·simp only[gO,q,z];omega
    ·rw[xl,iw,D h j,Q t o,C]
     refine cv (dc) (cv (dc) (aq ?_ (cv (di t) (aq ?_ (bA H (aq ?_ (F ⟨rfl,rfl,rfl⟩)))))))
     ·simp only[Ω,ax,aj,bl];omega
     ·simp only[Ω,ax,aj,aL,g,bv];omega
     ·unfold pO at z
      simp only[Ω,ax,aj,aL,g,bv,bl,gO,q,z];omega
  ·refine⟨aI (aI s (ah (ap [32]))) (pO (a9 l b p 9).toNat),p+1,?_,by omega,by omega,λc m tr x g u I B L v w o M h j=>?_⟩
   ·simp only[gO,q,y];omega
   ·rw[xl,iw,D h j,C]
    refine cv (dc) (cv (dc) (aq ?_ (bA (gN t) (aq ?_ (F ⟨rfl,rfl,rfl⟩)))))
    ·simp only[Ω,ax,aj,bl];omega
    ·unfold pO at y
     simp only[Ω,ax,aj,aL,g,bv,bl,gO,q,y];omega
 ·by_cases t:0<d
  ·cases H:a9 l b p 4==0 with
   |true=>
    refine⟨aI (aI (aI (aI (aI s (ah (ap [114]))) (bE (1+a9 l b (p+1) 4))) (ah (ap [32]))) (N (d-1) l b (p+1+1))) (ah (ap [32,93])),wp (d-1) l b (p+1+1),?_,by omega,by omega,λc m tr x g u I B L v w o M h j=>?_⟩
    ·simp only[gO,q,r,G];omega
    ·rw[xl,iw,D h j,Q t o,C]
     refine cv (dc) (bA (gF) (cv (di t) (aq ?_ (cv H (aq ?_ (F ⟨rfl,rfl,rfl⟩))))))
     ·simp only[Ω,ax,aj,aL,g,bv];omega
     ·simp only[Ω,ax,aj,aL,g,bv,bl,gO,q,r,R];omega
   |false=>
    refine⟨aI s (pO (a9 l b (p+1) 9).toNat),p+1+1,?_,by omega,by omega,λc m tr x g u I B L v w o M h j=>?_⟩
    ·simp only[gO,z];omega
    ·rw[xl,iw,D h j,Q t o,C]
     refine cv (dc) (bA (gF) (cv (di t) (aq ?_ (bA H (aq ?_ (F ⟨rfl,rfl,rfl⟩))))))
     ·simp only[Ω,ax,aj,aL,g,bv];omega
     ·unfold pO at z
      simp only[Ω,ax,aj,aL,g,bv,bl,z];omega
  ·refine⟨aI s (pO (a9 l b p 9).toNat),p+1,?_,by omega,by omega,λc m tr x g u I B L v w o M h j=>?_⟩
   ·simp only[gO,y];omega
   ·rw[xl,iw,D h j,C]
    refine cv (dc) (bA (gF) (bA (gN t) (aq ?_ (F ⟨rfl,rfl,rfl⟩))));unfold pO at y;simp only[Ω,ax,aj,aL,g,bv,bl,y];omega
def NI{a:Z->O->(O->Z)->Z->ρ}{wp:Z->O->(O->Z)->Z->Z}(h:ak θ 53 (ev [] (oH a wp A))):aK θ (sD a9 a wp A bE p8):=az (az (az (az ba s5) PI) z8) h
def ayu{y:Z->O->(O->Z)->Z->ρ}{wp:Z->O->(O->Z)->Z->Z}{h:Z}(W:ak θ 53 (ev [] (oH y wp A)))(X:i<=1000000)(k:0<=h)(hA:h<=150)(hb:∀d l b p,(y d l b p).size<=i/\p<=wp d l b p/\wp d l b p<=p+h)(l:O)(b:ao)(d:Z)(n:O)(p:Z)(hn:n<=5):∃(S:ρ)(P:Z),S.size<=5*(25+i)/\p<=P/\P<=p+5*(2+h)/\∀(c:χ O)(m:O)(tr o:ae),okB m (aS b)=ε->l<=m->0<=p->p+1000*d<=2^25+1->0<m->0<=d->d<=A+1->d<=2->ck θ 2 (.block 0 (.loop (a5 0 BC))) (bm 47 (sQ .normal) 2 (ph d oh n ((0:O):Z)) (cK l c p m b tr o) (λa=>a .normal (ar 0 47 [(5,.v (.string S))]) (cK l c P m b tr o))):=by
 have hex:∀x:O× (ρ×Z),∃r:ρ×Z,r.1.size<=x.2.1.size+25+i/\x.2.2<=r.2/\r.2<=x.2.2+(2+h)/\∀(c:χ O)(m:O)(tr o:ae),okB m (aS b)=ε->l<=m->0<=x.2.2->x.2.2+1000*(d-1)+2<=2^25->0<m->0<=d->d<=A+1->d<=2->x.2.1.size<=10000000->x.1<n->n<=5->
   aE (a0 θ (sD a9 y wp A bE p8) 200 K (a5 0 BC) (ar 0 47 ((sQ .normal).zip (ph d x.2.1 n x.1))) (cK l c x.2.2 m b tr o) (cw 47 sQ 2)) (λe M N=>e=.normal/\M=ph d r.1 n ((x.1+1:O):Z)/\N=cK l c r.2 m b tr o):=λx=>by
  obtain⟨S,P,t,v,w,h4⟩:=ayw X hA hb l b d n x.1 x.2.1 x.2.2;exact⟨(S,P),t,v,w,h4⟩
 obtain⟨f,R⟩:=Classical.axiomOfChoice hex;obtain⟨g,g0,z⟩:∃g:O->ρ×Z,g 0=(oh,p)/\∀j,g (j+1)=f (j,g j):=⟨λj=>Nat.rec (oh,p) (λj q=>f (j,q)) j,rfl,λ_=>rfl⟩;have bd:∀j,(g j).1.size<=j*(25+i)/\p<=(g j).2/\(g j).2<=p+(j:Z)*(2+h):=by
  intro j;induction j with
  |zero=>rw[g0];exact⟨ej _,R1 _,by simp⟩
  |succ j ih=>
   obtain⟨t,v,w,_⟩:=R (j,g j);rw[z];simp only at t v w;refine⟨?_,by omega,?_⟩
   ·rw[Ss];omega
   ·rw[Int.natCast_succ,Int.add_mul,xW];omega
 have s:∀j,j<=n->(g j).1.size<=5*(25+i)/\p<=(g j).2/\(g j).2<=p+5*(2+h):=λj T=>by obtain⟨t,v,w⟩:=bd j;have U:j*(25+i)<=5*(25+i):=iY _ (by omega);have e2:(j:Z)*(2+h)<=5*(2+h):=adz (by omega) (by omega);omega
 refine⟨(g n).1,(g n).2,(s n (aQ _)).1,(s n (aQ _)).2.1,(s n (aQ _)).2.2,λc m tr o B C h0 t hm D G H=>?_⟩;have e0:cK l c p m b tr o=cK l c (g 0).2 m b tr o:=by rw[g0]
 have U:ph d oh n ((0:O):Z)=ph d (g 0).1 n ((0:O):Z):=by rw[g0]
 rw[e0,U];refine dQ (NI W) (n:=200) (m:=2) (lv:=sQ) (λj=>ph d (g j).1 n (j:O)) (λj=>cK l c (g j).2 m b tr o) (λ_=>True) n (λ_=>K) (du rfl rfl rfl) (aQ _) trivial λa Q I j _ T=>⟨cN _ _ _,?_⟩
 obtain⟨s1,s2,s3⟩:=s j T;by_cases u:j<n
 ·have hq:=(R (j,g j)).2.2.2 c m tr o B C (by simp only;omega) (by simp only;omega) hm D G H (by simp only;omega) u hn
  refine⟨kJ ?_ hq.out⟩;rintro e M N ⟨rfl,rfl,rfl⟩;refine⟨j+1,⟨rfl,u,trivial⟩,?_,?_⟩
  ·show _=ph d (g (j+1)).1 n ((j+1:O):Z)
   rw[z]
  ·show Φ _ (cK l c (g (j+1)).2 m b tr o)
   rw[z];exact Φ.refl _
 ·have L:j=n:=by omega
  subst L;rw[xl,iw];refine bA (gF) (F ⟨_,Φ.refl _,?_⟩);rw[aU rfl];exact I
def ayt{h:Z->O->(O->Z)->Z->ρ}{wp:Z->O->(O->Z)->Z->Z}{a:Z}(t:ak θ 53 (ev [] (oH h wp A)))(u:i<=1000000)(j:0<=a)(v:a<=150)(w:∀d l b p,(h d l b p).size<=i/\p<=wp d l b p/\wp d l b p<=p+a)(H:A<=1)(d:Z)(l:O)(b:ao)(p:Z):∃(S:ρ)(P:Z),S.size<=5*(25+i)/\p<=P/\P<=p+(1+5*(2+a))/\∀(c:χ O)(m:O)(tr e:ae),okB m (aS b)=ε->l<=m->0<=p->p+1000*d<=2^25->0<m->0<=d->d<=A+1->∃Λ,(∀r,(BC).body=γ r->dk θ 2 Λ r)/\aE (ad θ (sD a9 h wp A bE p8) Λ 200 BC [.ptr 0 0 0 0,.v (ι d)] (cK l c p m b tr e) (ag 2)) (λ_ vs x=>vs=[.v (.string S)]/\x=cK l c P m b tr e):=by have I:=qd l b p 5;have L:=mq l b p (n:=5) (by omega);obtain⟨n,y⟩:=rQ (show 0<=1+a9 l b p 5 by omega);obtain⟨S,P,z,M,N,B⟩:=ayu t u j v w l b d n (p+1) (by omega);refine⟨S,P,z,by omega,by omega,λc m tr e f g C D s o q=>?_⟩;have G:=B c m tr e f g (by omega) (by omega) s o q (by omega);refine⟨YE l c (p+1) P m b tr e d n S,da G,?_⟩;rw[axW,iw,bz,y];exact aq (Ω.2 ⟨f,Ω.2 ⟨di g,Ω.2 ⟨di C,Ω.2 ⟨dc,Ω.2 ⟨di s,Ω.2 ⟨cG ⟨rfl,Φ.refl _⟩,rfl⟩⟩⟩⟩⟩⟩) (F ⟨rfl,rfl⟩)
def Ru{a:Z}(w:i<=1000000)(o:0<=a)(x:a<=150)(y:A<=1)(h:∃(f:Z->O->(O->Z)->Z->ρ)(wp:Z->O->(O->Z)->Z->Z),ak θ 53 (ev [] (oH f wp A))/\∀d l b p,(f d l b p).size<=i/\p<=wp d l b p/\wp d l b p<=p+a):∃(f:Z->O->(O->Z)->Z->ρ)(wp:Z->O->(O->Z)->Z->Z),ak θ 53 (ev [] (oH f wp (A+1)))/\∀d l b p,(f d l b p).size<=5*(25+i)/\p<=wp d l b p/\wp d l b p<=p+(1+5*(2+a)):=by
 obtain⟨f,wp,s,z⟩:=h;have hex:=ayt s w o x z y;refine⟨λd l b p=>mC (hex d l b p),λd l b p=>mC (gK (hex d l b p)),?_,λd l b p=>?_⟩
 ·refine nZ (NI s) func53 rfl λB H S n t=>?_
  unfold oH at n;split at n
  ·rename_i d l c p u m g v
   cases n;simp only[Ω,aL]at t;obtain⟨q,C,D,G,I,L,M,_⟩:=t;have r:=s4 q;obtain⟨N,P,Q⟩:=(gK (gK (hex d l (bD g) p))).2.2.2 c m u v r C D G I L M;refine⟨cK l c p m (bD g) u v,N,200,tc q,P,⟨kJ ?_ Q.out⟩⟩;rintro e T U ⟨rfl,rfl⟩;exact⟨rfl,.cons (ab.refl _) (.cons (ab.row λj R=>(mn q R).1.symm) .nil)⟩
  ·cases n
 ·have:=gK (gK (hex d l b p))
  exact⟨this.1,this.2.1,this.2.2.1⟩
def ayv:ak θ 53 (ev [] (oH (λ_ _ _ _=>oh) (λ_ _ _ p=>p) (-1))):=by
 refine nZ ba func53 rfl λb H d a c=>?_
 unfold oH at a;split at a
 ·cases a
  simp only[Ω,aL]at c;omega
 ·cases a
def E8:∃(a:Z->O->(O->Z)->Z->ρ)(wp:Z->O->(O->Z)->Z->Z),ak θ 53 (ev [] (oH a wp 2))/\∀d l b p,(a d l b p).size<=10000/\p<=wp d l b p/\wp d l b p<=p+500:=by have c:∃(a:Z->O->(O->Z)->Z->ρ)(wp:Z->O->(O->Z)->Z->Z),ak θ 53 (ev [] (oH a wp (-1)))/\∀d l b p,(a d l b p).size<=0/\p<=wp d l b p/\wp d l b p<=p+0:=⟨_,_,ayv,λd l b p=>⟨aQ _,R1 _,by simp⟩⟩;have e:=Ru (by omega) (by omega) (by omega) (by omega) c;have f:=Ru (by omega) (by omega) (by omega) (by omega) e;obtain⟨a,wp,g,h⟩:=Ru (by omega) (by omega) (by omega) (by omega) f;exact⟨a,wp,g,λd l b p=>by have:=h d l b p;omega⟩
noncomputable def E7:Z->O->(O->Z)->Z->ρ:=mC E8
noncomputable def A0:Z->O->(O->Z)->Z->Z:=mC (gK E8)
def aqR:ak θ 53 (ev [] (oH E7 A0 2)):=(gK (gK E8)).1
def ays(d:Z)(l:O)(b:ao)(p:Z):(E7 d l b p).size<=10000:=((gK (gK E8)).2 d l b p).1
def ayr(d:Z)(l:O)(b:ao)(p:Z):p<=A0 d l b p/\A0 d l b p<=p+500:=((gK (gK E8)).2 d l b p).2
def L'(k:O):ρ:=fU [b9 (bif Ψ k (0:O)then ah (ap [])else bif Ψ k (1:O)then ah (ap [(120:υ)])else bif Ψ k (2:O)then ah (ap [(114:υ),(50:υ),(32:υ),(93:υ)])else bif Ψ k (3:O)then ah (ap [(114:υ),(48:υ),(32:υ),(101:υ),(32:υ),(93:υ)])else bif Ψ k (4:O)then ah (ap [(101:υ),(32:υ),(32:υ),(101:υ)])else bif Ψ k (5:O)then ah (ap [(114:υ),(50:υ),(32:υ),(101:υ)])else bif Ψ k (6:O)then ah (ap [(101:υ),(32:υ),(93:υ)])else ah (ap [(114:υ),(57:υ),(32:υ),(114:υ),(57:υ),(32:υ),(114:υ),(57:υ),(32:υ),(101:υ),(32:υ),(93:υ),(32:υ),(93:υ),(32:υ),(93:υ)]))]
def L_(k:O):ρ:=fU [b9 (bif Ψ k (0:O)then ah (ap [(100:υ),(32:υ),(114:υ),(52:υ),(32:υ),(101:υ),(32:υ),(116:υ),(32:υ),(93:υ)])else bif Ψ k (1:O)then ah (ap [(100:υ),(32:υ),(101:υ),(32:υ),(110:υ),(32:υ),(119:υ),(32:υ),(115:υ)])else bif Ψ k (2:O)then ah (ap [(101:υ),(32:υ),(101:υ),(32:υ),(101:υ),(32:υ),(101:υ),(32:υ),(101:υ),(32:υ),(101:υ),(32:υ),(101:υ),(32:υ),(101:υ),(32:υ),(101:υ),(32:υ),(101:υ),(32:υ),(101:υ),(32:υ),(101:υ)])else ah (ap [(100:υ),(32:υ),(114:υ),(57:υ),(32:υ),(114:υ),(57:υ),(32:υ),(101:υ),(32:υ),(93:υ),(32:υ),(116:υ),(32:υ),(93:υ)]))]
def ag5(k:O):(L' k).size<=10000:=by
 rw[L',Js]
 repeat' apply B3
 all_goals decide
def ag4(k:O):(L_ k).size<=10000:=by
 rw[L_,Js]
 repeat' apply B3
 all_goals decide
def PU(l:O)(b:ao)(p:Z):∃(S:ρ)(P:Z),p<=P/\P<=p+600/\S.size<=10000/\∀(c:χ O)(m:O)(tr d:ae),okB m (aS b)=ε->l<=m->0<=p->p<=2^24->0<m->aE (ad θ (sD a9 E7 A0 2 bE p8) K 200 f24 [.ptr 0 0 0 0] (cK l c p m b tr d) (ag 2)) (λ_ vs k=>vs=[.v (.string S)]/\k=cK l c P m b tr d):=by
 cases f:a9 l b p 14==0 with
 |true=>refine⟨L' (a9 l b (p+1) 8).toNat,p+1+1,by omega,by omega,ag5 _,λc m tr d a e g h i=>?_⟩;rw[Ri,iw];exact aq (by simp only[Ω,ax,aj,aL,a,bv];omega) (cv f (aq (by simp only[Ω,ax,aj,aL,a,bv];omega) (F ⟨rfl,rfl⟩)))
 |false=>
  cases j:a9 l b p 14==1 with
  |true=>refine⟨L_ (a9 l b (p+1) 4).toNat,p+1+1,by omega,by omega,ag4 _,λc m tr d a e g h i=>?_⟩;rw[Ri,iw];exact aq (by simp only[Ω,ax,aj,aL,a,bv];omega) (bA f (cv j (aq (by simp only[Ω,ax,aj,aL,a,bv];omega) (F ⟨rfl,rfl⟩))))
  |false=>have:=ayr 2 l b (p+1);refine⟨E7 2 l b (p+1),A0 2 l b (p+1),by omega,by omega,ays _ _ _ _,λc m tr d a e g h i=>?_⟩;rw[Ri,iw];exact aq (by simp only[Ω,ax,aj,aL,a,bv];omega) (bA f (bA j (aq (by simp only[Ω,ax,aj,aL,a,bv];omega) (F ⟨rfl,rfl⟩))))
noncomputable def xh(l:O)(b:ao)(p:Z):ρ:=mC (PU l b p)
noncomputable def uT(l:O)(b:ao)(p:Z):Z:=mC (gK (PU l b p))
def aav(l:O)(b:ao)(p:Z):p<=uT l b p/\uT l b p<=p+600/\(xh l b p).size<=10000/\∀(c:χ O)(m:O)(tr a:ae),okB m (aS b)=ε->l<=m->0<=p->p<=2^24->0<m->aE (ad θ (sD a9 E7 A0 2 bE p8) K 200 f24 [.ptr 0 0 0 0] (cK l c p m b tr a) (ag 2)) (λ_ vs d=>vs=[.v (.string (xh l b p))]/\d=cK l c (uT l b p) m b tr a):=gK (gK (PU l b p))
def Lo(a:O->(O->Z)->Z->ρ)(b:O->(O->Z)->Z->Z):E AV->E AB->χ HR
 |[.ptr 0 0 0 0],[.cells [.sl 1 1 0 0 l c,.v (.int .i64 p)] d,.row η m 1 g e]=>γ {val:=.v (.string (a l (bD g) p)),out:=[.cells [.sl 1 1 0 0 l c,.v (.int .i64 (b l (bD g) p))] d,.row η m 1 g e],aw:=[okB m g,κ (l<=m),κ (0<=p),κ (p<=2^24),κ (0<m)]}
 |_,_=>ζ
def aqe:ak θ 24 (ev [] (Lo xh uT)):=by
 refine nZ (NI aqR) func24 rfl λi H t a d=>?_
 unfold Lo at a;split at a
 ·rename_i l c p f m g h
  cases a;simp only[Ω,aL]at d;obtain⟨b,k,n,o,q,_⟩:=d;have r:=s4 b;refine⟨cK l c p m (bD g) f h,K,200,tc b,de _,⟨kJ ?_ ((aav l (bD g) p).2.2.2 c m f h r k n o q).out⟩⟩;rintro e u v ⟨rfl,rfl⟩;exact⟨rfl,.cons (ab.refl _) (.cons (ab.row λj s=>(mn b s).1.symm) .nil)⟩
 ·cases a
def CP(a:O->(O->Z)->Z->Z->Z)(b:O->(O->Z)->Z->ρ)(c:O->(O->Z)->Z->Z)(mt:O->(O->Z)->Z->ρ)(d:O->(O->Z)->Z->Z):aG:=
 ext (ext (ext (ext g0 12 (ev [] (yD a))) 22 (ev [] (BP a))) 23 (ev [] (Ld b c))) 24 (ev [] (Lo mt d))
def aw5(o:O->(O->Z)->Z->Z->Z)(lt:O->(O->Z)->Z->ρ)(lp:O->(O->Z)->Z->Z)(mt:O->(O->Z)->Z->ρ)(mp:O->(O->Z)->Z->Z)(l:O)(c:χ O)(p:Z)(m:O)(b:ao)(tr tb:ae):let t:=(1:Z);let g:=(bD (aS b));let d:=κ (0<m);let a:=(32:υ);let e:=κ (l<=m);let f:=okB m (aS b);let h:=(116:υ);let q:=(50:υ);let j:=(114:υ);let N:=AB.row η m 1 (aS b) tb;let k:=(97:υ);let r:=(115:υ);let i:=(13:Z);let u:=(111:υ);let v:=(101:υ);let w:=(48:υ);let C:=(52:υ);let W:=(1073741824:Z);let y:=(49:υ);let z:=(54:υ);let A:=(51:υ);let P:=AV.sl 1 1 0 0 l c;let D:=(100:υ);let n:=(p+t);let G:=(105:υ);let H:=(p+t+t);let X:=(ap [q,C]);let Q:=(117:υ);let R:=(109:υ);let u53:=κ (p+t+t<=W);let u54:=(ap [(53:υ)]);let u55:=(108:υ);let u56:=(122:υ);let S:=(0:Z);let M:=(aT (o l g H (6:Z)));let u3:=(fU [b9 (bif Ψ (aT (o l g n (2:Z))) 0 then ah (ap [G,(110:υ),a])else ah (ap [u,Q,h,a]))]);let u8:=(aT (o l g n (4:Z)));let u9:=(fU [b9 (bif Ψ M 0 then ah (ap [w])else bif Ψ M 1 then ah (ap [A])else bif Ψ M 2 then ah (ap [(55:υ)])else bif Ψ M 3 then ah X else bif Ψ M 4 then ah (ap [(45:υ),y])else ah (ap []))]);let I:=[AB.cells [P,vI H] tr,N];let u13:=(fU [b9 (bif Ψ u8 0 then ah (ap [w])else bif Ψ u8 1 then ah u54 else bif Ψ u8 2 then ah (ap [q,A])else ah X)]);let u14:=(fU [b9 (bif Ψ u8 0 then ah (ap [A])else bif Ψ u8 1 then ah (ap [C])else bif Ψ u8 2 then ah X else ah u54)]);let x:=κ (p+t<=W);let s:=κ (S<=p+t);let B:=(aT (o l g n (7:Z)));let u20:=[AB.cells [P,vI (p+t+t+t)] tr,N];let L:=(aT (o l g n (6:Z)));let T:=(aT (o l g n (3:Z)));let U:=(aT (o l g n (5:Z)));let u34:=κ (S<=p+t+t);let u52:=[f,e,s,x,d,d];let u0:=(fU [b9 (bif Ψ M 0 then ah (ap [q,C,a,(56:υ),a,C])else bif Ψ M 1 then ah (ap [A,w,a,y,q,a,z])else bif Ψ M 2 then ah (ap [y,q,a,z,a,z])else bif Ψ M 3 then ah (ap [y,w,a,q,w,a,A])else bif Ψ M 4 then ah (ap [(55:υ),a,z])else ah (ap [(120:υ),a,z,a,z]))]);let u1:=(fU [b9 (bif Ψ T 0 then ah (ap [r,v,h,a])else bif Ψ T 1 then ah (ap [k,D,D,a])else ah (ap [h,G,R,v,r,a]))]);let u5:=(fU [b9 (bif Ψ U 0 then ah (ap [w,a,w])else bif Ψ U 1 then ah (ap [A,a,C])else bif Ψ U 2 then ah (ap [(53:υ),a,(56:υ)])else bif Ψ U 3 then ah (ap [y])else ah (ap [q,a,(57:υ)]))]);let u7:=(fU [b9 (bif Ψ T 0 then ah (ap [h,Q,j,(110:υ),a])else bif Ψ T 1 then ah (ap [u55,k,h,v,j,a])else ah (ap [(102:υ),k,r,h,v,j,a]))]);let u10:=[f,e,s,x,d,d,f,e,u34,κ (p+t+t<=(67108864:Z)),d,d,Δ (ay u1+ay (lt l g H)) 9223372036854775807];let u11:=[f,e,s,x,d,d,f,e,u34,u53,d,d,Δ (ay u3+ay u0) 9223372036854775807];let u22:=(rO [AV.v (.string (aI u1 (lt l g H)))] [AB.cells [P,vI (lp l g H)] tr,N]);let u40:=(rO [AV.v (.string (aI u3 u0))] u20);ad θ (CP o lt lp mt mp) K 100 SJ [.ptr 0 0 0 0] (cK l c p m b tr tb) (ag 2)
 =Ξ [f,e,κ (S<=p),κ (p<=W),d] (bif o l g p i==S then Ξ u10 u22 else bif o l g p i==t then Ξ u10 u22 else bif o l g p i==(2:Z)then Ξ u11 u40 else bif o l g p i==(3:Z)then Ξ u11 u40 else bif o l g p i==(4:Z)then Ξ [f,e,s,x,d,d,f,e,u34,u53,d,d,Δ (ay u7+ay u9) 9223372036854775807] (rO [AV.v (.string (aI u7 u9))] u20)else bif o l g p i==(5:Z)then Ξ [f,e,s,x,d,d,Δ (3+ay u13) 9223372036854775807] (rO [AV.v (.string (aI (ah (ap [k,h,a])) u13))] I)else bif o l g p i==(6:Z)then Ξ [f,e,s,x,d,d,Δ (5+ay u5) 9223372036854775807] (rO [AV.v (.string (aI (ah (ap [(103:υ),j,G,D,a])) u5))] I)else bif o l g p i==(7:Z)then Ξ [f,e,s,x,d,d,Δ (5+ay u14) 9223372036854775807] (rO [AV.v (.string (aI (ah (ap [k,j,v,k,a])) u14))] I)else bif o l g p i==(8:Z)then Ξ [f,e,s,κ (p+t<=(16777216:Z)),d,d,Δ (5+ay (mt l g n)) 9223372036854775807] (rO [AV.v (.string (aI (ah (ap [(112:υ),u55,u,h,a])) (mt l g n)))] [AB.cells [P,vI (mp l g n)] tr,N])else bif o l g p i==(9:Z)then Ξ u52 (rO [AV.v (.string (fU [b9 (bif Ψ B 0 then ah (ap [])else bif Ψ B 1 then ah (ap [u56,u56,u56])else bif Ψ B 2 then ah (ap [r,(104:υ),u,(119:υ),a,y])else bif Ψ B 3 then ah (ap [r,v,h])else bif Ψ B 4 then ah (ap [k,h])else bif Ψ B 5 then ah (ap [r,Q,R,a])else ah (ap [(98:υ),k,(99:υ),(107:υ),a,q]))]))] I)else Ξ u52 (rO [AV.v (.string (fU [b9 (bif Ψ L 0 then ah (ap [(98:υ),k,(99:υ),(107:υ)])else bif Ψ L 1 then ah (ap [R,G,j,j,u,j])else bif Ψ L 2 then ah (ap [r,(104:υ),u,(119:υ)])else bif Ψ L 3 then ah (ap [(102:υ),u,u55,D])else bif Ψ L 4 then ah (ap [(112:υ),v,j,G,u,D])else ah (ap [r,Q,R]))]))] I)):=by intros;kernel_rfl
def agV{a b:ρ}{m n k:O}(c:a.size<=m)(d:b.size<=n)(h:m+n<=k):(aI a b).size<=k:=by rw[gO];omega
def avq{a b:O}(c:a<=1000000)(d:b<=1000000):a+b<=9223372036854775807:=by omega
def ak8:aK θ (CP a9 wP uI xh uT):=az (az (az (az ba s5) PI) ap1) aqe
def OY(e:O)(c:χ O)(p:Z)(m:O)(b:ao)(tr g:ae):∃(a:ρ)(f:Z),p<=f/\f<=p+700/\a.size<=11000/\(okB m (aS b)=ε/\e<=m/\0<=p/\p<=2^23/\0<m->aE (ad θ (CP a9 wP uI xh uT) K 100 SJ [.ptr 0 0 0 0] (cK e c p m b tr g) (ag 2)) (λ_ vs k=>vs=[.v (.string a)]/\k=cK e c f m b tr g)):=by
 by_cases r:okB m (aS b)=ε/\e<=m/\0<=p/\p<=2^23/\0<m
 ·obtain⟨w,y,M,T,U⟩:=r
  have o:aE (ad θ (CP a9 wP uI xh uT) K 100 SJ [.ptr 0 0 0 0] (cK e c p m b tr g) (ag 2)) λ_ vs k=>∃(a:ρ)(f:Z),p<=f/\f<=p+700/\a.size<=11000/\vs=[.v (.string a)]/\k=cK e c f m b tr g:=by
   rw[aw5,iw];obtain⟨s,t,v,_⟩:=Y1 e b (p+1+1);obtain⟨W,b2,b3,_⟩:=aav e b (p+1)
   repeat' first
    |refine aq (?_:aJ _=ε) ?_
    |refine aD (λ_=>?_) λ_=>?_
    |(refine F ?_;refine⟨_,_,?_,?_,?_,rfl,rfl⟩)
   all_goals first
    |omega
    |((try simp only[Js]);(first|(refine agV (m:=500) (n:=10000) ?_ ?_ (by decide)<;>first|omega|(repeat' apply B3)<;>decide)|((repeat' apply B3)<;>decide)))
    |((simp only[Ω,ax,aj,aL,bl,w,bv]);(repeat' apply And.intro)<;>first|omega|(refine avq ?_ ?_<;>first|omega|decide|(rw[Js];(repeat' apply B3)<;>decide)))
  obtain⟨a,f,s,t,v,x⟩:=ax6 (H:=λf=>cK e c f m b tr g) o;exact⟨a,f,s,t,v,λ_=>x⟩
 ·exact⟨oh,p,by omega,by omega,by decide,λd=>aR d r⟩
noncomputable def kY(l:O)(c:χ O)(p:Z)(m:O)(b:ao)(tr a:ae):ρ:=mC (OY l c p m b tr a)
noncomputable def kB(l:O)(c:χ O)(p:Z)(m:O)(b:ao)(tr a:ae):Z:=mC (gK (OY l c p m b tr a))
def OZ(l:O)(c:χ O)(p:Z)(m:O)(b:ao)(tr a:ae):p<=kB l c p m b tr a/\kB l c p m b tr a<=p+700/\(kY l c p m b tr a).size<=11000/\(okB m (aS b)=ε/\l<=m/\0<=p/\p<=2^23/\0<m->aE (ad θ (CP a9 wP uI xh uT) K 100 SJ [.ptr 0 0 0 0] (cK l c p m b tr a) (ag 2)) (λ_ vs d=>vs=[.v (.string (kY l c p m b tr a))]/\d=cK l c (kB l c p m b tr a) m b tr a)):=gK (gK (OY l c p m b tr a))
def Lb(d:O->χ O->Z->O->(O->Z)->ae->ae->ρ)(e:O->χ O->Z->O->(O->Z)->ae->ae->Z):E AV->E AB->χ HR
 |[.ptr 0 0 0 0],[.cells [.sl 1 1 0 0 l c,.v (.int .i64 p)] a,.row η m 1 g b]=>γ {val:=.v (.string (d l c p m (bD g) a b)),out:=[.cells [.sl 1 1 0 0 l c,.v (.int .i64 (e l c p m (bD g) a b))] a,.row η m 1 g b],aw:=[okB m g,κ (l<=m),κ (0<=p),κ (p<=2^23),κ (0<m)]}
 |_,_=>ζ
def ap0:ak θ 13 (ev [] (Lb kY kB)):=by
 refine nZ ak8 func13 rfl λi H t a d=>?_
 unfold Lb at a;split at a
 ·rename_i l c p f m g h
  cases a;simp only[Ω,aL]at d;obtain⟨b,k,n,o,q,_⟩:=d;have r:=s4 b;refine⟨cK l c p m (bD g) f h,K,100,tc b,de _,⟨kJ ?_ ((OZ l c p m (bD g) f h).2.2.2 ⟨r,k,n,o,q⟩).out⟩⟩;rintro e u v ⟨rfl,rfl⟩;exact⟨rfl,.cons (ab.refl _) (.cons (ab.row λj s=>(mn b s).1.symm) .nil)⟩
 ·cases a
def aw'(s:ρ):let c:=(aI s s);let a:=(aI c c);let h:=(aI (ah (ap [])) c);let d:=(aI a a);let b:=(aI d d);let i:=(aI (aI h a) d);let e:=(aI b b);let j:=(aI (aI i b) e);let f:=(aI e e);let g:=(aI f f);ad θ g0 K 100 SM [.v (.string s),.v (ι 190)] [] dR
 =Ξ [Δ (ay s+ay s) 9223372036854775807,Δ (0+ay c) 9223372036854775807,Δ (ay c+ay c) 9223372036854775807,Δ (ay h+ay a) 9223372036854775807,Δ (ay a+ay a) 9223372036854775807,Δ (ay (aI h a)+ay d) 9223372036854775807,Δ (ay d+ay d) 9223372036854775807,Δ (ay i+ay b) 9223372036854775807,Δ (ay b+ay b) 9223372036854775807,Δ (ay (aI i b)+ay e) 9223372036854775807,Δ (ay e+ay e) 9223372036854775807,Δ (ay f+ay f) 9223372036854775807,Δ (ay j+ay g) 9223372036854775807,Δ (ay g+ay g) 9223372036854775807] (rO [AV.v (.string (aI j g))] []):=by intros;kernel_rfl
def Pf(s:ρ):∃S:ρ,S.size<=1000/\(s.size=5->Good (ad θ g0 K 100 SM [.v (.string s),.v (ι 190)] [] dR) (.string S)):=by
 by_cases h:s.size=5
 ·have a:aE (ad θ g0 K 100 SM [.v (.string s),.v (ι 190)] [] dR) λ_ b _=>∃S:ρ,S.size<=1000/\b=[.v (.string S)]:=by
   rw[aw'];refine aq ?_ (F ⟨_,?_,rfl⟩)
   all_goals
    simp only[Ω,ax,aj,bl,gO,h]
    decide
  generalize ad θ g0 K 100 SM [.v (.string s),.v (ι 190)] [] dR=r at a⊢;cases r with
  |err=>exact a.out.elim
  |out e T d=>obtain⟨S,c,rfl⟩:=a.out;exact⟨S,c,λ_=>⟨⟨_,rfl,rfl⟩⟩⟩
 ·exact⟨oh,by decide,λq=>aR q h⟩
noncomputable def DS(s:ρ):ρ:=mC (Pf s)
def an_(s:ρ):(DS s).size<=1000:=(gK (Pf s)).1
def Lh(a:ρ->ρ):E τ->χ (τ×E ξ)
 |[.string s,.int .i64 n]=>γ (.string (a s),[n==190,Ψ s.size 5])
 |_=>ζ
def ap7:ak θ 14 (aW (Lh DS)):=by
 refine et (n:=100) ba func14 rfl λc x d a b=>?_
 unfold Lh at a;split at a
 ·cases a
  simp only[Ω,fm,Sr]at b;obtain⟨rfl,h,_⟩:=b;exact(gK (Pf _)).2 h
 ·cases a
abbrev Zl:ρ:=ah (ap [10])
noncomputable def lL(d:O->χ O->Z->O->(O->Z)->ae->ae->ρ)(e:O->χ O->Z->O->(O->Z)->ae->ae->Z)(l:O)(c:χ O)(m:O)(b:ao)(tr a:ae)(p:Z):O->ρ×Z
 |0=>(oh,p)
 |j+1=>(aI (aI (lL d e l c m b tr a p j).1 (d l c (lL d e l c m b tr a p j).2 m b tr a)) Zl,e l c (lL d e l c m b tr a p j).2 m b tr a)
def MA(l:O)(c:χ O)(m:O)(b:ao)(tr a:ae)(p:Z):∀j:O,(lL kY kB l c m b tr a p j).1.size<=11001*j/\p<=(lL kY kB l c m b tr a p j).2/\(lL kY kB l c m b tr a p j).2<=p+700*j
 |0=>⟨ej _,R1 _,by simp[lL]⟩
 |j+1=>by obtain⟨d,e,f⟩:=MA l c m b tr a p j;obtain⟨g,h,i,_⟩:=OZ l c (lL kY kB l c m b tr a p j).2 m b tr a;have:Zl.size=1:=rfl;unfold lL;simp only[gO,this];omega
def CW(a:O->(O->Z)->Z->Z->Z)(b:O->χ O->Z->O->(O->Z)->ae->ae->ρ)(c:O->χ O->Z->O->(O->Z)->ae->ae->Z)(d:ρ->ρ):aG:=ext (ext (ext g0 12 (ev [] (yD a))) 13 (ev [] (Lb b c))) 14 (aW (Lh d))
abbrev DM:Ex->E O:=cj [3,4,5,6] [3,4] [2]
abbrev AN(s:ρ)(n i:Z):E AV:=[.ptr 1 0 0 0,.v (.string s),.v (ι n),.v (ι i)]
abbrev uA(l:O)(c:χ O)(p:Z)(m:O)(b:ao):E AB:=[.row η m 1 (aS b) 5,.cells [.sl 0 1 0 0 l c,.v (ι p)] 49]
def as7(h:O->(O->Z)->Z->Z->Z)(e:O->χ O->Z->O->(O->Z)->ae->ae->ρ)(f:O->χ O->Z->O->(O->Z)->ae->ae->Z)(j:ρ->ρ)(l:O)(c:χ O)(p:Z)(m:O)(b:ao)(s:ρ)(n i:Z):let a:=(aS b);let d:=(e l c p m (bD a) 49 5);let g:=AB.row η m 1 a 5;a0 θ (CW h e f j) 200 K (a5 0 BD) (ar 0 33 ((DM .normal).zip (AN s n i))) (uA l c p m b) (cw 33 DM 2)
 =bif κ (i<n)then Ξ [okB m a,κ (l<=m),κ ((0:Z)<=p),κ (p<=(8388608:Z)),κ (0<m),κ (0<m),Δ (ay s+ay d) 9223372036854775807,Δ (ay (aI s d)+1) 9223372036854775807] (am.out .normal [AV.ptr 1 0 0 0,AV.v (.string (aI (aI s d) (ah (ap [(10:υ)])))),vI n,vI (aa .i64 (i+(1:Z)))] [g,AB.cells [AV.sl 0 1 0 0 l c,vI (f l c p m (bD a) 49 5)] 49])else am.out (Ex.exit 0) [AV.ptr 1 0 0 0,AV.v (.string s)] [g,AB.cells [AV.sl 0 1 0 0 l c,vI p] 49]:=by intros;kernel_rfl
noncomputable abbrev It(l:O)(c:χ O)(d e:Z)(m:O)(b:ao)(n:Z)(S:ρ):O->χ Sum:=bX 0 (bm 33 (DM .normal) 2 (AN oh n 0) (uA l c d m b) (λa=>a .normal (ar 0 33 [(3,.ptr 1 0 0 0),(4,.v (.string S))]) (uA l c e m b)))
def axZ(f:O->(O->Z)->Z->Z->Z)(w:O->χ O->Z->O->(O->Z)->ae->ae->ρ)(x:O->χ O->Z->O->(O->Z)->ae->ae->Z)(r:ρ->ρ)(l:O)(c:χ O)(p g:Z)(m:O)(b:ao)(n:Z)(S:ρ):let s:=(r (ah (ap [(115:υ),(104:υ),(111:υ),(119:υ),(10:υ)])));let j:=(ah (ap []));let q:=(aS b);let e:=(0:Z);let k:=κ (0<m);let t:=κ (g<=(1073741824:Z));let u:=(aT (2000-0));let o:=(m:Z);let a:=okB m q;let h:=κ (e<=g);let d:=(bD q);let i:=AB.row η m 1 q 5;let v:=(bif f l d g (24:Z)==e then Ξ [Δ (ay S+4) 9223372036854775807] (rO [AV.v (.string (aI S (ah (ap [(115:υ),(104:υ),(111:υ),(119:υ)]))))] [i])else bif f l d g (24:Z)==(1:Z)then Ξ [Δ (ay S+ay s) 9223372036854775807] (rO [AV.v (.string (aI S s))] [i])else rO [AV.v (.string S)] [i]);ad θ (CW f w x r) (It l c p g m b n S) 200 BD [.sl 0 1 0 0 m ζ] [.row η m 1 (aS b) 5] (ag 1)
 =bif κ (o> (2000:Z))then Ξ [κ ((2000:Z)<=o),κ (o<=o),a,κ (aT (2000-0)<=m),k,cy ([AV.ptr 1 0 0 0,AV.v (.string j),vI (f u d e (9:Z)),vI 0]=AN j n e/\Φ [i,AB.cells [AV.sl 0 1 0 0 u ζ,vI 1] 49] (uA l c p m b)),a,κ (l<=m),h,t,k] v else Ξ [a,κ (m<=m),k,cy ([AV.ptr 1 0 0 0,AV.v (.string j),vI (f m d e (9:Z)),vI 0]=AN j n e/\Φ [i,AB.cells [AV.sl 0 1 0 0 m ζ,vI 1] 49] (uA l c p m b)),a,κ (l<=m),h,t,k] v:=by intros;kernel_rfl
def ax0(q:χ Addr)(c:O)(g:O->E τ):ad θ WQ K 100 BD [.v (.slice q 0 c)] [.row η 0 1 g 5] (ag 1)=rO [AV.v (.string (aI (ah (ap [])) (ah (ap [(115:υ),(104:υ),(111:υ),(119:υ)]))))] [AB.row η 0 1 g 5]:=by kernel_rfl
def Xf:aK θ (CW a9 kY kB DS):=az (az (az ba s5) ap0) ap7
def avk(l m:O)(b:ao)(n:O)(f:n<=8)(d:okB m (aS b)=ε)(g:l<=m)(h:0<m):ck θ 1 (.block 0 (.loop (a5 0 BD))) (bm 33 (DM .normal) 2 (AN oh n ((0:O):Z)) (uA l ζ 1 m b) (λa=>a .normal (ar 0 33 [(3,.ptr 1 0 0 0),(4,.v (.string (lL kY kB l ζ m b 49 5 1 n).1))]) (uA l ζ (lL kY kB l ζ m b 49 5 1 n).2 m b))):=by
 refine dQ Xf (n:=200) (m:=2) (lv:=DM) (λj=>AN (lL kY kB l ζ m b 49 5 1 j).1 n (j:O)) (λj=>uA l ζ (lL kY kB l ζ m b 49 5 1 j).2 m b) (λ_=>True) n (λ_=>K) (du rfl rfl rfl) (by omega) trivial λa Q e j _ k=>⟨cN _ _ _,?_⟩
 obtain⟨o,p,q⟩:=MA l ζ m b 49 5 1 j;obtain⟨_,_,r,_⟩:=OZ l ζ (lL kY kB l ζ m b 49 5 1 j).2 m b 49 5;rw[as7,iw];refine aD (λc=>?_) λc=>?_
 ·have c:=aV c
  rw[show aa aY ((j:Z)+1)=((j+1:O):Z) by rw[bz];omega];exact aq (by simp only[Ω,ax,aj,aL,d,bv,bl,gO];omega) (F ⟨j+1,⟨rfl,by omega,trivial⟩,rfl,Φ.refl _⟩)
 ·have c:=cu c
  have:j=n:=by omega
  subst this;refine F ⟨_,Φ.refl _,?_⟩;rw[aU rfl];exact e
def GL(m:O)(b:ao):∃a:ρ,a.size<=100000/\(0<m->okB m (aS b)=ε->KG BD [.sl 0 1 0 0 m ζ] [.row η m 1 (aS b) 5] {val:=.v (.string a)}):=by
 by_cases g:0<m/\okB m (aS b)=ε
 ·obtain⟨x,s⟩:=g
  have q1:=mq (kZ m) b 0 (n:=9) (by omega);obtain⟨n,t⟩:=rQ (qd (kZ m) b 0 9);have y:n<=8:=by omega
  have k:=avk (kZ m) m b n y s (YT m) x;have H:=YT m;obtain⟨M,U,W⟩:=MA (kZ m) ζ m b 49 5 1 n;have c:=an_ (ah (ap [115,104,111,119,10]));have z4:(ah (ap [(115:υ),104,111,119])).size=4:=rfl;generalize(lL kY kB (kZ m) ζ m b 49 5 1 n).1=a at k M;generalize(lL kY kB (kZ m) ζ m b 49 5 1 n).2=d at k U W;have f:aE (ad θ (CW a9 kY kB DS) (It (kZ m) ζ 1 d m b n a) 200 BD [.sl 0 1 0 0 m ζ] [.row η m 1 (aS b) 5] (ag 1)) λ_ vs v=>∃a:ρ,a.size<=100000/\vs=[.v (.string a)]/\v=[.row η m 1 (aS b) 5]:=by
   rw[axZ,iw];refine alz (λw g=>?_) λw g=>?_
   all_goals
    rw[w]at t H⊢
    try rw[show aT ((2000:Z) -0)=2000 from rfl]
    refine⟨?_,aD (λ_=>c_ (F ⟨_,?_,rfl,rfl⟩)) λ_=>aD (λ_=>c_ (F ⟨_,?_,rfl,rfl⟩)) λ_=>F ⟨_,?_,rfl,rfl⟩⟩
    ·simp only[Ω,ax,aj,aL,s,bv]
     repeat' apply And.intro
     all_goals first
      |omega
      |exact cG ⟨by rw[t],Φ.refl _⟩
    ·simp only[gO,z4];omega
    ·simp only[gO];omega
    ·omega
  generalize hr:ad θ (CW a9 kY kB DS) (It (kZ m) ζ 1 d m b n a) 200 BD [.sl 0 1 0 0 m ζ] [.row η m 1 (aS b) 5] (ag 1)=r at f;cases r with
  |err=>exact f.out.elim
  |out e T v=>obtain⟨S',o,rfl,rfl⟩:=f.out;refine⟨S',o,λ_ _=>⟨_,It (kZ m) ζ 1 d m b n a,200,Xf,da k,?_⟩⟩;rw[hr];exact F ⟨_,rfl,rfl,Φ.refl _⟩
 ·exact⟨oh,by decide,λo h2=>aR ⟨o,h2⟩ g⟩
noncomputable def r6(m:O)(b:ao):ρ:=if m=0 then aI (ah (ap [])) (ah (ap [115,104,111,119]))else mC (GL m b)
def LZ(m:O)(b:ao):(r6 m b).size<=100000:=by
 unfold r6;split
 ·rw[gO];decide
 ·exact(gK (GL m b)).1
def apt:ak θ 6 (ai Iy (F3 λm b=>{val:=.v (.string (r6 m b))})):=by
 refine aiz func6 rfl (λm b a f d=>?_) λq c g b=>⟨_,K,100,ala,de _,?_⟩
 ·have e:r6 m b=mC (GL m b):=by unfold r6;rw[gc]
  rw[e];exact(gK (GL m b)).2 a d
 ·rw[ax0]
  exact F ⟨_,rfl,rfl,Φ.refl _⟩
def cx(r:χ O):Fence:={Fence.wide with round:=r}
def acV:cx ζ=Fence.wide:=rfl
variable {X:ψ}
def afS{r:χ O}{args:aX τ}{R:Ending->ψ->Prop}(h:Calls P I args X R):CallsIn (cx r) i P I args X R:=by
 cases r with
 |none=>exact TE.2 h
 |some l=>exact CallsIn.inRound l (TE.2 h)
def aut{r:χ O}{m a:Machine}(h:Steps P m a):StepsIn (Machine.fenced P (cx r)) P m a:=by
 cases r with
 |none=>exact stepsIn_wide.2 h
 |some l=>exact stepsIn_wide.2 h
def att{r:χ O}{a:String}{args:aX τ}{R:τ->ψ->Prop}(h:Rows P a args X R):RowsIn (cx r) i P a args X R:=
 λc b _=>let⟨v,d,q,s⟩:=h c b;⟨v,d,q,aut s⟩
def aaj{r:χ O}{n:O}{P:bS}{o:a_}{a:a8}{w:ψ}{next:a8->ψ->Prop}{Q:e9->a8->ψ->Prop}(g:∀c,o.op≠ .defer c)(h:o.wp P a w next Q):o.wpIn (cx r) n P a w next Q:=by
 refine⟨λ_ _=>trivial,?_⟩;have i:o.semAt (cx r).round a.eval=dw a.eval o:=by
  cases r with
  |none=>exact Oper.semAt_none _ _
  |some l=>exact Oper.semAt_some l _ o g
 rw[i];unfold ot at h;generalize(dw a.eval o).run P w=R at h;cases R with
 |ok x j=>
  cases x with
  |value v=>exact h
  |skip=>exact h
  |defer d=>exact h
  |enter f args=>exact⟨λb=>(by cases b),afS (h.mono λe k m=>by cases e<;>exact m)⟩
  |row row args=>exact⟨λb=>(by cases b),att h⟩
  |round=>exact h.elim
  |_=>exact h.elim
 |halt x j=>
  cases x with
  |panic v=>exact h
  |_=>exact h.elim
def wX(ops:aX a_):ξ:=ops.toList.all λo=>match o.op with
 | .defer _=>η
 |_=>ε
def aop{ops:aX a_}(h:wX ops=ε){o:a_}(a:ops[i]?=γ o):∀c,o.op≠ .defer c:=by
 intro c e;have b:o∈ops.toList:=by have:=cC.1 a;obtain⟨d,e⟩:=this;rw[<-e];simp
 have:=bT.1 h o b;rw[e]at this;cases this
variable {C:e9->a8->ψ->Prop}
def RB{r:χ O}{ops:aX a_}(f:wX ops=ε)(g:¬LetsOut C){c:O}{b:a8->ψ->Prop}{a:a8}(h:wpOp P ops C c b a X):wpOpIn (cx r) i P ops C c b a X:=by
 unfold wpOp at h;unfold wpOpIn;cases d:ops[c]?with
 |none=>rw[d]at h;exact h
 |some o=>
  rw[d]at h;simp only at h⊢;split at h
  ·rename_i e
   rw[aU e];rcases h with h|h
   ·exact aaj (aop f d) h
   ·exact(g h.2).elim
  ·rename_i e
   rw[bI e];exact⟨λ_ _=>trivial,h⟩
def ac2{r:χ O}{n:O}{P:bS}{ops:aX a_}{Q:e9->a8->ψ->Prop}(b:wX ops=ε)(c:¬LetsOut Q):∀{l:E O}{a:a8}{w:ψ},wpOps P ops Q l a w->wpOpsIn (cx r) n P ops Q l a w
 |[],a,w,h=>h
 |i::l,a,w,h=>by rw[TL]at h;rw[vK];exact wpOpIn_mono (λa w h=>ac2 b c h) (RB b c h)
def ac0{r:χ O}{n:O}{P:bS}{md:Region.Mode}{ops:aX a_}{Q:e9->a8->ψ->Prop}(c:wX ops=ε)(d:¬LetsOut Q):∀{fuel:O}{b:aX ξ}{a:a8}{w:ψ},wpAny P md ops Q fuel b a w->wpAnyIn (cx r) n P md ops Q fuel b a w
 |0,_,_,_,h=>h
 |_+1,_,_,_,h=>⟨h.1,λi e=>wpOpIn_mono (λ_ _ h=>ac0 c d h) (RB c d (h.2 i e))⟩
def nW(f:E Bc)(M:O->Prop)(g:ψ)(c:Nu)(b:dx)(Q:Ex->E AV->E AB->Prop):e9->a8->ψ->Prop:=
 λe a w=>∃d T H h,e=Ex.to d/\(b d T H).ok Q/\SR M g c T H a w h/\a.defers=f
variable {R:Nu}
def aaw{c:E Bc}{b:dx}:¬LetsOut (nW c B X R b Q):=by rintro⟨a,w,d,T,H,e,h,_⟩;cases d<;>cases h
def aax{d:E Bc}{b:dx}{k2:E AV->E AB->am}{c:a8->ψ->Prop}{e:e9}{a:a8}{w:ψ}(h:nW d B X R (EX k2 b) Q e a w)(j:∀T H ν,(k2 T H).ok Q->SR B X R T H a w ν->a.defers=d->c a w):e9.then c (nW d B X R b Q) e a w:=by
 obtain⟨k,T,H,ν,rfl,f,g,i⟩:=h;cases k with
 |normal=>exact j T H ν f g i
 |exit id=>exact⟨.exit id,T,H,ν,rfl,f,g,i⟩
 |ret=>exact⟨.ret,T,H,ν,rfl,f,g,i⟩
def arp{l:E Bc}{b:dx}{e:e9}{a:a8}{w:ψ}(h:nW l B X R (wl i b) Q e a w):pr i (nW l B X R b Q) e a w:=by
 obtain⟨n,T,H,d,rfl,c,f,g⟩:=h;cases n with
 |normal=>exact⟨.normal,T,H,d,rfl,c,f,g⟩
 |ret=>exact⟨.ret,T,H,d,rfl,c,f,g⟩
 |exit j=>
  simp only[Ex.to,pr];simp only[wl]at c;split
  ·rename_i k
   subst k;rw[mG]at c;exact⟨.normal,T,H,d,rfl,c,f,g⟩
  ·rename_i k
   cases m:Ψ j i with
   |true=>exact(k (cA m)).elim
   |false=>rw[m]at c;exact⟨.exit j,T,H,d,rfl,c,f,g⟩
def arq{d:E Bc}{b:dx}{e:e9}{a:a8}{w:ψ}(h:nW d B X R b Q e a w):adm (nW d B X R b Q) e a w:=by
 have c:=h;obtain⟨f,T,H,g,rfl,i,k,l⟩:=h;cases f with
 |normal=>exact c
 |ret=>exact c
 |exit j=>exact c
def AO{b:Frame}{a:a8}{k:E Go.Item}{cs:E Frame}{c:bc}:step P (lone (b.atR a (.code (.scope c)::k)) cs X)=.next (lone (b.atR a (.code c::.inScope c::k)) cs X):=
 step_lone_go (by simp[stepG,stepG.exec,Frame.atR])
def auq{b:Frame}{a:a8}{k:E Go.Item}{cs:E Frame}{c:bc}:step P (lone (b.atR a (.inScope c::k)) cs X)=.next (lone (b.atR a k) cs X):=
 step_lone_go (by simp[stepG,stepG.exec,Frame.atR])
def ayL{d:Fence}{c:bc}{a:a8}(h:c.wpIn d i P (adm C) a X):(Code.scope c).wpIn d i P C a X:=by
 intro b k v q r s;have m:(lone (b.atR a (.code (.scope c)::k)) v X).fenced P d:=fenced_calm r s rfl;obtain⟨e,g,j,o,f⟩:=h b (.inScope c::k) v q r s;cases e with
 |normal=>exact⟨.normal,g,j,o,.head m AO (StepsIn.trans f (.one (fenced_calm r s rfl) auq))⟩
 |exit id=>
  have x:exitTo id (.inScope c::k)=exitTo id k:=by simp[exitTo]
  exact⟨.exit id,g,j,o,λy t=>.head m AO (f.1 y (by rw[x];exact t)),λu t=>let⟨p,z,A⟩:=f.2 u (by rw[x];exact t);⟨p,z,.head m AO A⟩⟩
 |goto l=>exact o.elim
 |ret=>exact⟨_,g,j,o,.of_steps (.one m AO) f⟩
 |panic B=>exact⟨_,g,j,o,.of_steps (.one m AO) f⟩
 |outgrown=>exact⟨_,g,j,o,.of_steps (.one m AO) f⟩
def dZ:bc->ξ
 | .region _ ops _=>wX ops
 | .seq a b=>dZ a&&dZ b
 | .cond _ a b=>dZ a&&dZ b
 | .block _ c=>dZ c
 | .loop c=>dZ c
 | .scope c=>dZ c
 |_=>ε
def oQ{Γ:aG}(U:aK P Γ)(I:P.follows .mixedOrders=ε)(L:Enters P)(r:χ O)(nn:O)(W:E Bc):∀(n:O)(c:bc),dZ c=ε->∀(M:O->Prop)(p:ψ)(f:Nu),(∀k,p.heap.size<=k->M k)->∀(T:E AV)(H:E AB)(d:dx)(Q:Ex->E AV->E AB->Prop)(a:a8)(w:ψ)(ν:Nu),(a0 P Γ n K c T H d).ok Q->SR M p f T H a w ν->a.defers=W->c.wpIn (cx r) nn P (nW W M p f d Q) a w:=by
 intro n;induction n with
 |zero=>intro c _ M p f hM T H d Q a w ν h;exact h.elim
 |succ n X=>
  intro c v M p f hM T H d Q a w ν h j B;have A:∀e,(d e T H).ok Q->nW W M p f d Q (Ex.to e) a w:=λe hk=>⟨e,T,H,ν,rfl,hk,j,B⟩
  cases c with
  |skip=>exact KD (A .normal h)
  |label l=>exact wpIn_label (A .normal h)
  |region id ops draw=>
   cases draw with
   |true=>
    simp only[a0,a6]at h;obtain⟨es,T',C,r1,h2⟩:=zd h;rcases kT h2 with⟨N,h2⟩|⟨_,h2⟩
    ·have hB:jS ops.toList es=ε:=by simpa using N
     refine wpIn_region_any I ?_;have s:SR M p f T H a {w with drawn:=w.drawn+1} ν:=⟨j.tmps,⟨λi=>(j.heap.br i).of_block λ_ _ _=>rfl,j.heap.sep,j.heap.own,j.heap.lt,j.heap.eL⟩,j.fr.drew,j.cg,j.len,j.le⟩;have:=Uq (Q:=nW W M p f d Q) U hM r1 hB s λR D o h' u=>⟨.normal,T',C,o,rfl,h2,h',u.trans B⟩
     exact ac0 v aaw (by simpa using this)
    ·exact h2.elim
   |false=>
    refine wpIn_region ?_;simp only[a0,be]at h;have:=Es (Qw:=nW W M p f d Q) (all:=ops.toList) U hM (Q:=Q) (λg avs C Kc vals D o N hv hH S hM'=>?_) ops.toList 0 T H a w ν rfl h j λT' C R D o hk s u=>⟨.normal,T',C,o,rfl,hk,s,u.trans B⟩
    ·refine ac2 v aaw ?_
     rw[<-ad1]at this;simpa using this
    ·split at N
     ·rename_i fn hf
      split at N
      ·rename_i c' hb
       rw[uv]at N;refine⟨λargs w=>L g fn hf (by rw[hb];rfl) args w,?_⟩;refine FP hf hb (oF (sq U I L n C.length (λ_=>ζ) c' (λ_ _ h=>by cases h) M D o hM' S _ C (pV P fn Kc) Q _ D o N (rF hv hH S) rfl) λe R w'' G=>?_);exact M5 G
      ·exact N.elim
     ·exact N.elim
  |seq x y=>simp only[dZ,aP]at v;exact jQ (mM (X x v.1 M p f hM T H _ Q a w ν h j B) λe R D G=>aax G λT' C o hk s u=>X y v.2 M p f hM T' C d Q R D o hk s u)
  |cond c x y=>
   simp only[dZ,aP]at v;simp only[a0]at h;split at h
   ·rename_i q hq
    have hv:a.eval c=.bool q:=by
     have:=lK (T:=T) (a:=a) (ν:=ν) (z:=c) λt _=>j.tmps t
     rw[hq]at this;simpa only[VR]using this
    refine wpIn_cond hv ?_;rcases kT h with⟨rfl,h⟩|⟨rfl,h⟩
    ·rw[Jj hq]at h
     exact X x v.1 M p f hM T H d Q a w ν h j B
    ·rw[Jj hq]at h
     exact X y v.2 M p f hM T H d Q a w ν h j B
   ·exact h.elim
  |block id b=>simp only[dZ]at v;simp only[a0]at h;exact BG (mM (X b v M p f hM T H _ Q a w ν h j B) λe R D G=>arp G)
  |scope b=>simp only[dZ]at v;simp only[a0]at h;exact ayL (mM (X b v M p f hM T H d Q a w ν h j B) λe R D G=>arq G)
  |loop b=>
   simp only[dZ]at v;simp only[a0]at h;refine wpIn_loop_rounds n ?_;have key:∀(m:O)(T:E AV)(H:E AB)(a:a8)(w:ψ)(ν:Nu),(iter (a0 P Γ n K b) m T H d).ok Q->SR M p f T H a w ν->a.defers=W->Code.roundsIn (cx r) nn P b (nW W M p f d Q) m a w:=by
    intro m;induction m with
    |zero=>intro T H a w ν h;exact h.elim
    |succ m ihm=>intro T H a w ν h j B;rw[roundsIn_succ];exact mM (X b v M p f hM T H _ Q a w ν h j B) λe R D G=>aax G λT' C o hk s u=>ihm T' C R D o hk s u
   exact key n T H a w ν h j B
  |exit id=>exact TK (A (.exit id) h)
  |ret=>exact wpIn_ret (A .ret h)
  |_=>simp only[a0]at h;exact h.elim
def fQ(w:ψ)(ν:Nu)(H:E AB):O->Prop:=λk=>w.heap.size<=k\/∃i b,(H.getD i .gone).wr=ε/\ν i=γ b/\b.n=k
variable {G:E AV}
def SR.Ap{a:a8}{w:ψ}{ν:Nu}(h:SR B X R G S a w ν)(hM:∀k,X.heap.size<=k->B k:=by first|assumption|exact λk c=>.inl c):SR (fQ w ν S) w ν G S a w ν:=
 ⟨h.tmps,⟨h.heap.br,h.heap.sep,λi b d f=>.inr ⟨i,b,d,f,rfl⟩,h.heap.lt,h.heap.eL.mono λk _ c=>c.elim (λc=>hM k (cF h.fr.size c)) λ⟨i,b,d,f,e⟩=>e▸h.heap.own i b d f⟩,Fr.refl _ _,h.cg,h.len,Le.refl _⟩
def SR.xN{T T':E AV}{H H':E AB}{a l:a8}{w w':ψ}{ν e:Nu}(hM:∀k,X.heap.size<=k->B k)(h:SR B X R T H a w ν)(d:SR (fQ w ν H) w ν T' H' l w' e):SR B X R T' H' l w' e:=by
 have c:∀k,fQ w ν H k->B k:=by
  rintro k (f|⟨i,b,g,j,rfl⟩)
  ·exact hM k (cF h.fr.size f)
  ·exact h.heap.own i b g j
 exact⟨d.tmps,⟨d.heap.br,d.heap.sep,λi b g j=>c _ (d.heap.own i b g j),d.heap.lt,h.heap.eL.fr (d.fr.mono λk _ f=>c k f)⟩,h.fr.trans (d.fr.mono λk _ f=>c k f),d.cg,d.len,h.le.trans d.le⟩
def SR.vg{a:a8}{w w':ψ}{ν:Nu}{row:χ O}(hM:∀k,X.heap.size<=k->B k)(h:SR B X R G S a w ν)(f:w.grownBy w' row)(q:∀r,row=γ r->X.heap.size<=r/\∃o:Obj,w.heap[r]?=γ o/\o.isCells=η):SR B X R G S a w' ν:=by
 have z:∀i k,ν i=γ k->(S.getD i .gone).live=ε->w'.heap[k.n]?=w.heap[k.n]?:=by
  intro i k c p;refine f.block _ (h.heap.lt i k c) λe=>?_
  obtain⟨_,o,x,y⟩:=q _ e.symm;have d:=h.heap.br i;cases u:S.getD i .gone with
  |cells C t=>rw[u]at d;obtain⟨b,l,j,_,m,_⟩:=d;rw[c]at j;cases j;rw[x]at m;cases m;cases y
  |row rw n s g t=>
   rw[u]at d;rcases d with⟨_,_,j⟩|⟨b,l,D,I,j,m,_⟩
   ·rw[c]at j;cases j
   ·rw[c]at j
    cases j;rw[x]at m;cases m;cases y
  |gone=>rw[u]at p;cases p
 refine⟨h.tmps,⟨λi=>(h.heap.br i).of_block λk c p=>z i k c p,h.heap.sep,h.heap.own,λi b A=>eN (h.heap.lt i b A) f.size,h.heap.eL.block λk c v=>f.block k c λe=>v (hM _ (q _ e.symm).1)⟩,?_,h.cg,h.len,h.le⟩;refine⟨f.os.trans h.fr.os,f.tape.trans h.fr.tape,f.output.trans h.fr.output,cF h.fr.size f.size,λk c v=>?_⟩;rw[f.block k (eN c h.fr.size) λe=>?_]
 ·exact h.fr.block k c v
 ·have:=(q _ e.symm).1
  omega
def j3:E Tmp->E τ->E AV->E AV
 |p::a,v::b,T=>j3 a b (T.set p (.v v))
 |_,_,T=>T
def aam{ν:Nu}:∀{ps:E Tmp}{vs:E τ}{T:E AV}{t:aX τ},(∀p∈ps,p<T.length)->T.length<=t.size->(∀i,VR ν (T.getD i .dead) (t.getD i undef))->(∀i,VR ν ((j3 ps vs T).getD i .dead) (((ps.zip vs).foldl (λt (p,v)=>t.setIfInBounds p v) t).getD i undef))/\(j3 ps vs T).length<=((ps.zip vs).foldl (λt (p,v)=>t.setIfInBounds p v) t).size
 |[],vs,T,t,_,a,h=>⟨h,a⟩
 |p::ps,[],T,t,_,a,h=>⟨h,a⟩
 |p::ps,v::vs,T,t,c,a,h=>by
  simp only[j3,List.zip_cons_cons,Bm];refine aam (by simpa using λq d=>c q (l8 _ d)) (by simpa using a) λi=>?_
  have b:=c p (by simp);by_cases e:p=i
  ·subst e
   have f:p<t.size:=eN b a;simp[cX,rN,b,f,VR]
  ·simpa[cX,rN,Sh,RL,e]using h i
def lQ(w:ψ)(M:O->Prop)(W a:ψ):Prop:=W.heap.size<=a.heap.size/\∀(k:O)(o:Obj),k<w.heap.size->¬M k->W.heap[k]?=γ o->a.heap[k]?=γ o
def lQ.trans{A a C:ψ}(h:lQ X B A a)(k:lQ X B a C):lQ X B A C:=⟨cF h.1 k.1,λi o b c d=>k.2 i o b c (h.2 i o b c d)⟩
def Vt(m:O):dx:=eV (λ_=>[]) m
def mP(P:bS)(Γ:aG)(n:O)(a:bc)(m:O):dx:=λe b c=>match e with
 | .normal=>a0 P Γ n K a b c (Vt m)
 |_=>.err
def Oc:Ex->bc
 | .ret=>.ret
 | .exit id=>.exit id
 | .normal=>.skip
def SR.Aa{a:a8}{w:ψ}{ν:Nu}(h:SR B X R G S a w ν){o:Obj}(j:w.heap[i]?=γ o)(p:o.isCells=η):¬fQ w ν S i:=by
 rintro(r|⟨c,b,q,k,rfl⟩)
 ·rw[JL r]at j;cases j
 ·have d:=h.heap.br c
  cases m:S.getD c .gone with
  |cells v t=>rw[m]at d;obtain⟨u,i,e,_,f,_⟩:=d;rw[k]at e;cases e;rw[j]at f;cases f;cases p
  |row rw n s g t=>
   rw[m]at d;rcases d with⟨_,_,e⟩|⟨u,i,x,y,e,f,_⟩
   ·rw[k]at e;cases e
   ·rw[k]at e
    cases e;rw[j]at f;cases f;cases p
  |gone=>rw[m]at q;cases q
def LJ{α:Type}(lv:Ex->ξ)(c:E α->E AB)(d:Ex->E α->E AB)(a:E α):Ex->E AV->E AB->Prop:=λe _ b=>match e with
 | .normal=>Φ b (c a)
 |e=>lv e=ε/\Φ b (d e a)
def qF{α:Type}(c:E α->Prop)(d:Ex->E α->Prop)(f:E α->E AB)(g:Ex->E α->E AB)(a:E α):Ex->E AV->E AB->Prop:=λe _ b=>match e with
 | .normal=>c a/\Φ b (f a)
 |e=>d e a/\Φ b (g e a)
def arP{Q b:Ex->E AV->E AB->Prop}(h:∀e T H,Q e T H->b e T H):∀{r:am},r.ok Q->r.ok b
 | .err,a=>a
 | .out e T H,a=>h e T H a
def atm{α:Type}{lv:Ex->ξ}{c:E α->E AB}{d:Ex->E α->E AB}{a:E α}{r:am}(h:r.ok (LJ lv c d a)):r.ok (qF (λ_=>True) (λe _=>lv e=ε) c d a):=
 arP (λe T H b=>by
  cases e with
  |normal=>exact⟨trivial,b⟩
  |ret=>exact b
  |exit j=>exact b) h
def Od(w:ψ)(M:O->Prop)(W a:ψ):Prop:=lQ w M W a/\KeepsWalks W a
def auu{α:Type}{a:Fence}{g:O}{o:aX τ}{encs:α->aX τ}{Kp d:ψ->ψ->Prop}{S Sp:E α->Prop}{N:O}(h:yj a i P g o encs Kp S Sp N X)(p:∀A B,d A B->Kp A B):yj a i P g o encs d S Sp N X:=λl b q W r s k t u=>h l b q W r s k (λm x v y z=>by obtain⟨fn,f,c,j,C,D⟩:=t m x v y z;exact⟨fn,f,c,j,C,D.mono λe H G=>G.imp (λh=>⟨h.1,h.2.1,p _ _ h.2.2⟩) id⟩) u
def Wk(W:ψ)(l:O)(o:Obj)(a:B l):Fr B W (W.putObj l o):=⟨rfl,rfl,rfl,by simp[World.putObj],λk _ b=>Kt (by rintro rfl;exact b a)⟩
def aaG{α:Type}{Γ:aG}(hΓ:aK P Γ)(hmix:P.follows .mixedOrders=ε)(hent:Enters P){g:cP}{lb:aX τ}{encs:α->E τ}{ps:aX Tmp}{assign body:bc}{S Sp:E α->Prop}{N nn n:O}{a:a8}(hg:a.eval g=.func (.func i) #[] lb)(eg:∀args X,(g_ i args).run P X=.ok (.enter i args) X)(Jv:E α->Prop)(Lx:Ex->E α->Prop)(hp:E α->E AB)(hx:Ex->E α->E AB)(hD1:dZ assign=ε)(hD2:dZ body=ε){m:O}(hm:(hp []).length=m)(hM:∀k,X.heap.size<=k->B k)(h0:SR B X R G (hp []) a X R){St Kp:ψ->ψ->Prop}(hst:∀q A d u,SR B X R G (hp q) a A u->St A d->SR B X R G (hp q) a d u)(hstx:∀e q A d u,SR B X R G (hx e q) a A u->St A d->SR B X R G (hx e q) a d u)(T:∀A d k o,St A d->X.heap.size<=k->A.heap[k]?=γ o->o.isWalk=η->d.heap[k]?=γ o)(hKp:∀q W W' u HH ν3 r,SR B X R G (hp q) a W u->W.heap[X.heap.size+1]?=γ (.loop r)->Fr (λk=>k=X.heap.size+1\/fQ W u (hp q) k) W W'->SR B X R G HH a W' ν3->Kp W W')(hseq:∀(l:O)(c Jx:E α->ψ->Prop)(W:ψ),Below X.heap.size X W->X.heap.size<=W.heap.size->(∀s A f,c s A->St A f->c s f)->(∀s A f,Jx s A->St A f->Jx s f)->(∀q x M,c q M->q.length<N->YieldAt (cx ζ) (nn-1) P l (encs x).toArray M λe W'=>(e=.returned (.bool ε)/\c (q++[x]) W'/\Kp M W')\/(e=.returned (.bool η)/\Jx (q++[x]) W'))->c [] W->CallsIn (cx ζ) nn P i (#[.func (.yield l) #[] #[]]++lb) W λe W'=>(∃v,e=.returned v)/\((∃xs,S xs/\c xs W')\/(∃q,Sp q/\Jx q W')))(hps:∀x,(encs x).length=ps.size)(hpT:∀p∈ps.toList,p<G.length)(hJ0:Jv [])(hround:∀q x,Jv q->q.length<N->(a0 P Γ n K assign (j3 ps.toList (encs x) G) (hp q) (mP P Γ n body m)).ok (qF Jv Lx hp hx (q++[x])))(hdone:∀D xs W u,X.heap.size<=D->S xs->Jv xs->SR B X R G (hp xs) a W u->W.heap[D]?=γ (.deferred (γ []))->C .normal {a with defers:={target:=.collected D,args:= #[]}::a.defers} W)(hleave:∀D e q W u,X.heap.size<=D->e≠ .normal->Lx e q->Sp q->SR B X R G (hx e q) a W u->W.heap[D]?=γ (.deferred (γ []))->C (Ex.to e) {a with defers:={target:=.collected D,args:= #[]}::a.defers} W):(adj g ps assign body).wpIn (cx ζ) (nn+1) P C a X:=by
 refine wpIn_rangeFunc λfn hfn=>?_
 obtain⟨rec,z⟩:∃rec:LoopState->χ bc->Loop,rec=λst pe=>{state:=st,pending:=pe,fn,tmps:=a.tmps,params:=ps,assign,body,defers:=X.heap.size}:=⟨_,rfl⟩
 obtain⟨M,hW1⟩:∃M,(X.alloc (.deferred (γ []))).alloc (.loop (rec .ready ζ))=M:=⟨_,rfl⟩;have hsz:M.heap.size=X.heap.size+2:=by rw[<-hW1];simp
 have hL1:M.heap[X.heap.size+1]?=γ (.loop (rec .ready ζ)):=by rw[<-hW1];have:=oz (X.alloc (.deferred (γ []))) (.loop (rec .ready ζ));rwa [World.size_alloc]at this
 have hK1:M.heap[X.heap.size]?=γ (.deferred (γ [])):=by rw[<-hW1];exact(gJ _ _ _ (by simp)).trans (oz X _)
 have hg1:X.grownBy M ζ:=by rw[<-hW1];have e1:=fJ X (.deferred (γ [])) ζ;have e2:=fJ (X.alloc (.deferred (γ []))) (.loop (rec .ready ζ)) ζ;exact⟨e2.os.trans e1.os,e2.tape.trans e1.tape,e2.output.trans e1.output,cF e1.size e2.size,λk U hn=>(e2.block k (eN U e1.size) hn).trans (e1.block k U hn)⟩
 have hb1:Below X.heap.size X M:=⟨hg1.os,hg1.tape,hg1.output,hg1.size,λk U=>hg1.block k U (by simp)⟩
 --the caller's word:I
 let I:E α->ψ->Prop:=λq W=>Jv q/\∃u,SR B X R G (hp q) a W u
 let Ix:Ex->E α->ψ->Prop:=λe q W=>(e≠ .normal/\Lx e q)/\∃u,SR B X R G (hx e q) a W u
 have hI1:I [] M:=⟨hJ0,R,h0.vg hM hg1 λr e=>by cases e⟩;refine⟨X.heap.size+1,[{target:=.collected X.heap.size,args:= #[]}],M,{target:=.fn (.func i) lb,args:= #[.func (.yield (X.heap.size+1)) #[] #[]]},M,i,#[.func (.yield (X.heap.size+1)) #[] #[]]++lb,M,?_,?_,λ_ _=>trivial,?_,λh=>(by cases h),?_⟩
 ·rw[<-hW1,z];exact run_enterLoop_outer _ _ _ _ _
 ·simp only[resolve,hg]
  simp[go_sem]
 ·simp[invoke,go_sem,eg]
 ·refine(hseq (X.heap.size+1) (λq W=>I q W/\W.heap[X.heap.size+1]?=γ (.loop (rec .ready ζ))/\W.heap[X.heap.size]?=γ (.deferred (γ []))) (λq W=>∃e,Ix e q W/\W.heap[X.heap.size+1]?=γ (.loop (rec .done (γ (Oc e))))/\W.heap[X.heap.size]?=γ (.deferred (γ []))) M hb1 (by omega) (λs A d ⟨⟨hj,u,hs⟩,Q,U⟩ hc=>⟨⟨hj,u,hst s A d u hs hc⟩,T A d _ _ hc (by omega) Q rfl,T A d _ _ hc (aQ _) U rfl⟩) (λs A d ⟨e,⟨hn,u,hs⟩,Q,U⟩ hc=>⟨e,⟨hn,u,hstx e s A d u hs hc⟩,T A d _ _ hc (by omega) Q rfl,T A d _ _ hc (aQ _) U rfl⟩) ?_ ⟨hI1,hL1,hK1⟩).mono ?_
  ·rintro q x W ⟨⟨hj,u,hs⟩,Q,U⟩ hlen
   have hlt:X.heap.size+1<W.heap.size:=(cC.1 Q).1;have hy:=run_yield (P:=P) (args:=(encs x).toArray) Q (by rw[z];simp[hps x]);rw[z]at hy;refine⟨fn,_,assign,body,hy,roundIn_of_wpIn hfn ?_⟩;have hpar:=aam (ps:=ps.toList) (vs:=encs x) (T:=G) (t:=a.tmps) hpT hs.len hs.tmps;have hfold:(ps.zip (encs x).toArray).foldl (λt (p,v)=>t.setIfInBounds p v) a.tmps=(ps.toList.zip (encs x)).foldl (λt (p,v)=>t.setIfInBounds p v) a.tmps:=by rw[<-Array.foldl_toList,Array.toList_zip]
   have hstart:SR B X R (j3 ps.toList (encs x) G) (hp q) {tmps:=(ps.toList.zip (encs x)).foldl (λt (p,v)=>t.setIfInBounds p v) a.tmps,defers:=[]} W u:=
    ⟨hpar.1,hs.heap,hs.fr,hs.cg,hpar.2,hs.le⟩
   have run1:=oQ hΓ hmix hent (γ (X.heap.size+1)) (nn-1) [] n assign hD1 (fQ W u (hp q)) W u (λk U=>.inl U) _ _ _ _ _ W u (hround q x hj hlen) hstart.Ap rfl;show assign.wpIn (cx (γ (X.heap.size+1))) (nn-1) P _ _ W
   simp only[hfold];refine mM run1 ?_;rintro e a1 Wa ⟨e1,T1,H1,ν1,rfl,hk1,hS1,hd1⟩;cases e1 with
   |exit id=>exact hk1.elim
   |ret=>exact hk1.elim
   |normal=>
    have hlA:Wa.heap[X.heap.size+1]?=γ (.loop (rec .ready ζ)):=(hS1.fr.block _ hlt (hs.Aa Q rfl)).trans Q;have hkA:Wa.heap[X.heap.size]?=γ (.deferred (γ [])):=(hS1.fr.block _ (by omega) (hs.Aa U rfl)).trans U;have hSu:=hstart.xN hM hS1;refine⟨_,run_beginRound hlA (by rw[z]),?_⟩;obtain⟨W2,hW2⟩:∃W2,Wa.putObj (X.heap.size+1) (.loop {rec .ready ζ with state:=.busy})=W2:=⟨_,rfl⟩;have hl2:W2.heap[X.heap.size+1]?=γ (.loop {rec .ready ζ with state:=.busy}):=by rw[<-hW2];exact azF (cC.1 hlA).1
    have hk2:W2.heap[X.heap.size]?=γ (.deferred (γ [])):=by rw[<-hW2];exact(Kt (by omega)).trans hkA
    have hS2:SR B X R T1 H1 a1 W2 ν1:=by
     rw[<-hW2];refine hSu.vg hM (Kx Wa _ _) λr e=>?_
     cases e;exact⟨by omega,_,hlA,rfl⟩
    rw[hW2];have run2:=oQ hΓ hmix hent (γ (X.heap.size+1)) (nn-1) [] n body hD2 (fQ W2 ν1 H1) W2 ν1 (λk U=>.inl U) _ _ _ _ a1 W2 ν1 hk1 hS2.Ap hd1;refine mM run2 ?_;rintro e a2 W3 ⟨e2,T2,H2,ν2,rfl,L,hS3,hd3⟩;have hl3:W3.heap[X.heap.size+1]?=γ (.loop {rec .ready ζ with state:=.busy}):=(hS3.fr.block _ (cC.1 hl2).1 (hS2.Aa hl2 rfl)).trans hl2;have hk3':W3.heap[X.heap.size]?=γ (.deferred (γ [])):=(hS3.fr.block _ (cC.1 hk2).1 (hS2.Aa hk2 rfl)).trans hk2;have hS4:=hS2.xN hM hS3;have hfr:∀o,Fr (λk=>k=X.heap.size+1\/fQ W u (hp q) k) W (W3.putObj (X.heap.size+1) o):=λo=>by
     refine(((hS1.fr.mono λk _ h=>.inr h).trans (hW2▸Wk Wa _ _ (.inl rfl))).trans (hS3.fr.mono λk U h=>?_)).trans (Wk W3 _ _ (.inl rfl));rcases h with h|⟨j,b,hw,hb,rfl⟩
     ·omega
     ·exact .inr (hS1.heap.own j b hw hb)
    unfold Vt eV at L;split at L
    ·rename_i p hwk
     have hS5:=n9 hwk hS4 (by rw[<-hm];exact h0.cg);have fin:∀(y:χ bc),(Instr.endRound (X.heap.size+1) y).run P W3=.ok (.bool y.isNone) (W3.putObj (X.heap.size+1) (.loop (rec (if y.isNone then .ready else .done) y)))/\
       (W3.putObj (X.heap.size+1) (.loop (rec (if y.isNone then .ready else .done) y))).heap[X.heap.size+1]?=γ (.loop (rec (if y.isNone then .ready else .done) y))/\
       (W3.putObj (X.heap.size+1) (.loop (rec (if y.isNone then .ready else .done) y))).heap[X.heap.size]?=γ (.deferred (γ []))/\∀HH ν3,SR B X R p.1 HH a2 W3 ν3->SR B X R G HH a (W3.putObj (X.heap.size+1) (.loop (rec (if y.isNone then .ready else .done) y))) ν3:=λy=>by
      have:=run_endRound (P:=P) y hl3;rw[z]at this⊢;refine⟨this,azF (cC.1 hl3).1,(Kt (by omega)).trans hk3',λHH ν3 hh=>?_⟩;have h1:SR B X R G HH a W3 ν3:=⟨λt=>(h0.tmps t).le hh.le,hh.heap,hh.fr,hh.cg,h0.len,hh.le⟩;refine h1.vg hM (Kx W3 _ _) λr e=>?_
      cases e;exact⟨by omega,_,hl3,rfl⟩
     cases e2 with
     |normal=>obtain⟨f1,f2,f3,f4⟩:=fin ζ;exact⟨_,_,f1,.inl ⟨rfl,⟨⟨L.1,_,f4 _ _ (hS5.iB L.2)⟩,f2,f3⟩,hKp q W _ u _ _ _ hs Q (hfr _) (f4 _ _ (hS5.iB L.2))⟩⟩
     |ret=>obtain⟨f1,f2,f3,f4⟩:=fin (γ .ret);exact⟨_,_,f1,.inr ⟨rfl,.ret,⟨⟨(by simp),L.1⟩,_,f4 _ _ (hS5.iB L.2)⟩,f2,f3⟩⟩
     |exit id=>obtain⟨f1,f2,f3,f4⟩:=fin (γ (.exit id));exact⟨_,_,f1,.inr ⟨rfl,.exit id,⟨⟨(by simp),L.1⟩,_,f4 _ _ (hS5.iB L.2)⟩,f2,f3⟩⟩
    ·exact L.elim
  ·rintro e W2 ⟨⟨v,rfl⟩,(⟨xs,hS,⟨hj,u,hi⟩,Q,U⟩|⟨q,hSp,e,⟨hne,u,hi⟩,Q,U⟩)⟩
   ·have w:=run_endLoop (P:=P) Q (by rw[z];simp)
    rw[z]at w;refine⟨ζ,_,w,hdone _ xs _ u (aQ _) hS hj (hi.vg hM (Kx W2 _ _) λr e=>?_) ((Kt (by omega)).trans U)⟩;cases e;exact⟨by omega,_,Q,rfl⟩
   ·have w:=run_endLoop (P:=P) Q (by rw[z];simp)
    rw[z]at w;have hi':=hi.vg (w':=W2.putObj (X.heap.size+1) (.loop {rec .done (γ (Oc e))with state:=.exhausted})) hM (Kx W2 _ _) λr e=>by cases e;exact⟨by omega,_,Q,rfl⟩
    have hk':(W2.putObj (X.heap.size+1) (.loop {rec .done (γ (Oc e))with state:=.exhausted})).heap[X.heap.size]?=γ (.deferred (γ [])):=(Kt (by omega)).trans U;rw[z]at hi' hk';refine⟨_,_,w,?_⟩;cases e with
    |normal=>exact(hne.1 rfl).elim
    |ret=>exact wpIn_ret (hleave _ .ret q _ u (aQ _) hne.1 hne.2 hSp hi' hk')
    |exit id=>exact TK (hleave _ (.exit id) q _ u (aQ _) hne.1 hne.2 hSp hi' hk')
def arE{α:Type}{Γ:aG}(hΓ:aK P Γ)(Q:P.follows .mixedOrders=ε)(T:Enters P){g:cP}{lb:aX τ}{encs:α->E τ}{ps:aX Tmp}{f v:bc}{S Sp:E α->Prop}{N nn n:O}{a:a8}(y:a.eval g=.func (.func i) #[] lb)(eg:∀args X,(g_ i args).run P X=.ok (.enter i args) X)(Jv:E α->Prop)(Lx:Ex->E α->Prop)(u:E α->E AB)(hx:Ex->E α->E AB)(hD1:dZ f=ε)(hD2:dZ v=ε){m:O}(hm:(u []).length=m)(h0:SR (fQ X R (u [])) X R G (u []) a X R)(hseq:yj (cx ζ) nn P i lb (λx=>(encs x).toArray) (Od X (fQ X R (u []))) S Sp N X)(hps:∀x,(encs x).length=ps.size)(hpT:∀p∈ps.toList,p<G.length)(hJ0:Jv [])(z:∀j x,Jv j->j.length<N->(a0 P Γ n K f (j3 ps.toList (encs x) G) (u j) (mP P Γ n v m)).ok (qF Jv Lx u hx (j++[x])))(U:∀D xs W H,X.heap.size<=D->S xs->Jv xs->SR (fQ X R (u [])) X R G (u xs) a W H->W.heap[D]?=γ (.deferred (γ []))->C .normal {a with defers:={target:=.collected D,args:= #[]}::a.defers} W)(I:∀D e j W H,X.heap.size<=D->e≠ .normal->Lx e j->Sp j->SR (fQ X R (u [])) X R G (hx e j) a W H->W.heap[D]?=γ (.deferred (γ []))->C (Ex.to e) {a with defers:={target:=.collected D,args:= #[]}::a.defers} W):(adj g ps f v).wpIn (cx ζ) (nn+1) P C a X:=by
 have hM:∀k,X.heap.size<=k->fQ X R (u []) k:=λk M=>.inl M
 have hr':∀{A:ψ}{q:χ O},(∀r,q=γ r->X.heap.size<=r/\∃o:Obj,A.heap[r]?=γ o/\o.isWalk=ε)->(∀r,q=γ r->X.heap.size<=r/\∃o:Obj,A.heap[r]?=γ o/\o.isCells=η):=
  λt r e=>let⟨hB,o,L,hw⟩:=t r e;⟨hB,o,L,Obj.not_cells_of_walk hw⟩
 exact aaG hΓ Q T y eg Jv Lx u hx hD1 hD2 hm hM h0 (St:=λA B=>∃q,A.grownBy B q/\∀r,q=γ r->X.heap.size<=r/\∃o:Obj,A.heap[r]?=γ o/\o.isWalk=ε) (Kp:=Od X (fQ X R (u [])))
  (λ_ _ _ _ w ⟨_,y,t⟩=>w.vg hM y (hr' t)) (λ_ _ _ _ _ w ⟨_,y,t⟩=>w.vg hM y (hr' t)) (λ_ _ _ _ ⟨_,y,t⟩ _ hl L=>(grownBy_keeps y (λr e=>(t r e).2) hl L).trans hl)
  (λj W W' H HH ν3 r w hl hf _=>⟨⟨hf.size,λk o M hm L=>(hf.block k (cC.1 L).1 λh=>by
    rcases h with h|h|⟨d,b,hw,hb,rfl⟩
    ·omega
    ·have:=w.fr.size;omega
    ·exact hm (w.heap.own d b hw hb)).trans L⟩,hf.size,λk o M L=>(hf.block k (cC.1 M).1 λh=>by
    rcases h with rfl|h
    ·rw[hl]at M;cases M;cases L
    ·exact w.Aa M (Obj.not_cells_of_walk L) h).trans M⟩)
  (λl c Jx W hb hsz hJ hJx hY hj=>hseq l c Jx W hb (λs A B q h y t=>hJ s A B h ⟨q,y,λr e=>⟨cF hsz (t r e).1,(t r e).2⟩⟩) (λs A B q h y t=>hJx s A B h ⟨q,y,λr e=>⟨cF hsz (t r e).1,(t r e).2⟩⟩) hY hj)
  hps hpT hJ0 z U I
def ab7(k:O)(all:E a_):ξ:=(dK all.length).all λi=>ω i k||(dK k).all λj=>((jD all []).getD i 0).testBit j
def um(k n:O):aX ξ:=((dK n).map λj=>κ (j<k)).toArray
def ahC:∀{k n:O},k<=n->(((dK n).map λj=>κ (j<k)).toArray.toList).count η=n-k:=by
 intro k n;induction n with
 |zero=>intro h;simp
 |succ n a=>
  intro h;simp only[J9,kP,eG,kQ,List.count_append]at a⊢;by_cases b:k<=n
  ·rw[a b,gF]
   simp;omega
  ·have:k=n+1:=by omega
   subst this;have c:((dK n).map λj=>κ (j<n+1)).count η=0:=by rw[Fm];intro d;obtain⟨j,f,e⟩:=gh.1 d;have:=np.1 f;simp at e;omega
   rw[c,dc];simp
def E_:∀(l:E a_)(a:E fb),ad3 Item.mk (l.take a.length) a=ad3 Item.mk l a
 |[],a=>by simp
 |o::l,[]=>by simp
 |o::l,e::a=>by simp[E_ l a]
def afg{Γ:aG}(hΓ:aK P Γ){nn k:O}{all:E a_}{s:E fb}(hM:∀k,X.heap.size<=k->B k){T':E AV}{H':E AB}(r:ub P Γ all (all.take k) s G S T' H')(hkl:k<=all.length)(hnd:wX all.toArray=ε)(hB:jS all s=ε)(hC:ab7 k all=ε){a:a8}{w:ψ}{ν:Nu}(hQo:¬LetsOut C)(h:SR B X R G S a w ν)(hQ:∀u w' n,SR B X R T' H' u w' n->u.defers=a.defers->wpAnyIn (cx ζ) nn P .any all.toArray C (all.length-k) (um k all.length) u w'):wpAnyIn (cx ζ) nn P .any all.toArray C all.length (tx all.length η) a w:=by
 have rl:s.length=k:=by rw[Aw r];simp;omega
 have l:items (all.take k) s=items all s:=by simp only[items];rw[<-rl];exact E_ all s
 have ra:yP P Γ all all s G S T' H':=by have H:=xo r;have:=H.at_;exact⟨by omega,H.Db,H.zN,by rw[<-l];exact H.at_,by rw[<-l];exact H.wi,by rw[<-l];exact H.Cq,by rw[<-l];exact H.base,by rw[<-l];exact H.apart,by rw[<-l];exact H.lt⟩
 have hlen:(items all s).length=k:=by simp[items,rl];omega
 simp only[jS,aP]at hB;obtain⟨hB1,hB2⟩:=hB;have edges:∀(i:O) o,all[i]?=γ o->∀e∈o.after,mH .any e=ε->e.on<i:=λi o ho e he N=>by simpa using GO hB1 i o ho e he N
 have U:∀(i j:O) x y,i<j->(items all s)[i]?=γ x->(items all s)[j]?=γ y->((jD all []).getD j 0).testBit i=ε\/lx all.toArray x y=ε:=λi j x y hij hx z=>I8 hB2 j y z i x (by simpa using hij) (by simpa using hx)
 have key:∀(f:O)(d:aX ξ)(u:a8)(w':ψ)(n:Nu),d.size=all.length->d.toList.count η=f->FV all (λj=>d.getD j η)->(∀j,k<=j->d.getD j η=η)->
   rZ B X R G.length S.length (λt=>G.getD t .dead) (λb=>S.getD b .gone) (items all s) (λj=>d.getD j η) u w' n->u.defers=a.defers->wpAnyIn (cx ζ) nn P .any all.toArray C f d u w':=by
  intro f;have fin:∀(f:O)(d:aX ξ)(u:a8)(w':ψ)(n:Nu),d.size=all.length->d.toList.count η=f->(∀j,k<=j->d.getD j η=η)->
    rZ B X R G.length S.length (λt=>G.getD t .dead) (λb=>S.getD b .gone) (items all s) (λj=>d.getD j η) u w' n->u.defers=a.defers->(∀j,j<k->d.getD j η=ε)->wpAnyIn (cx ζ) nn P .any all.toArray C f d u w':=by
   intro f d u w' n hs p I st hd Q;have e1:d=um k all.length:=by
    apply aX.ext
    ·simp[um,hs]
    ·intro j hj1 hj2
     simp only[um,List.getElem_toArray,J5,List.getElem_range];have h1:d.getD j η=d[j]:=by simp[rM,hj1]
     rw[<-h1];by_cases hjk:j<k
     ·rw[Q j hjk,di hjk]
     ·rw[I j (by omega),gN hjk]
   have e2:f=all.length-k:=by rw[<-p,e1];simp only[um];exact ahC hkl
   rw[e2,e1];exact hQ u w' n (Jq ra st λj g=>Q j (by omega)) hd
  induction f with
  |zero=>
   intro d u w' n hs p hc I st hd;refine fin 0 d u w' n hs p I st hd λj g=>?_
   have hjs:j<d.size:=by omega
   have hne:η∉d.toList:=Fm.1 p;have:d[j]≠η:=λe=>hne (by rw[<-e];simp)
   simp[rM,hjs];simpa using this
  |succ f ih=>
   intro d u w' n hs p hc I st hd;by_cases W:∀j,j<k->d.getD j η=ε
   ·exact fin (f+1) d u w' n hs p I st hd W
   refine⟨λhnil=>(W λj g=>?_).elim,λi hi=>RB hnd hQo ?_⟩
   ·induction j using Fy with
    |_ j jh=>
     cases hl:d.getD j η with
     |true=>rfl
     |false=>
      have:j∈mI .any all.toArray d:=by rw[vG];refine⟨by rw[wz (by omega) ε η];exact hl,all[j],by simp[show j<all.length by omega],λe he N=>?_⟩;have hlt:=edges j all[j] (by simp[show j<all.length by omega]) e he N;exact jh e.on hlt (by omega)
      rw[hnil]at this;cases this
   ·obtain⟨h1,o,ho,he⟩:=vG.1 hi
    have hil:i<all.length:=by simpa using(cC.1 ho).1
    have M:all[i]?=γ o:=by simpa using ho
    have L:d.getD i η=η:=by rw[wz (by omega) η ε];exact h1
    have hik:i<k:=by
     rcases om i k with h|h
     ·exact h
     ·exfalso
      have anc0:∀q,((jD all []).getD i 0).testBit q=ε->d.getD q η=ε:=r7 (S:=λj=>d.getD j η) (r:=all) (acc:=[]) hc rfl (λj o g=>by simp at g) i o M he;have:=bT.1 hC i (by simpa using hil);rcases Bool.or_eq_true_iff.1 this with h'|h'
      ·rw[bM]at h';omega
      ·exact W λj g=>anc0 j (bT.1 h' j (by simpa using g))
    have v:(items all s)[i]?=γ (items all s)[i]:=df (by omega);generalize hxg:(items all s)[i]=x at v;have hxo:x.o=o:=by
     simp only[items,Fp]at v;split at v
     ·rename_i o' e' h1' h2'
      cases v;rw[M]at h1';cases h1';rfl
     ·cases v
    --ancestors of i are d;those of a d one are d
    have anc:∀q,((jD all []).getD i 0).testBit q=ε->d.getD q η=ε:=r7 (S:=λj=>d.getD j η) (r:=all) (acc:=[]) hc rfl (λj o g=>by simp at g) i o M he;have anc':∀j,d.getD j η=ε->j<all.length->∀q,((jD all []).getD j 0).testBit q=ε->d.getD q η=ε:=by intro j g hjl;have hjx:all[j]?=γ all[j]:=df hjl;exact r7 (S:=λj=>d.getD j η) (r:=all) (acc:=[]) hc rfl (λj o g=>by simp at g) j _ hjx (hc.cl j _ hjx g)
    have D:∀(j:O) y,j<i->(items all s)[j]?=γ y->lx all.toArray y x=ε\/d.getD j η=ε:=by
     intro j y g z;rcases U j i y x g z v with h|h
     ·exact .inr (anc j h)
     ·exact .inl h
    have m:∀(j:O) y,i<j->(items all s)[j]?=γ y->lx all.toArray x y=ε\/d.getD j η=η:=by
     intro j y g z;rcases U i j x y g v z with h|h
     ·right
      cases hl:d.getD j η with
      |false=>rfl
      |true=>
       have hjl:j<all.length:=by have:=(fY.1 z).1;omega
       have:=anc' j hl hjl i h;rw[L]at this;cases this
     ·exact .inl h
    refine QX hΓ hM ra v st L (λt ht=>?_) (λb N=>?_) (λt ht j y g z A=>?_) (λb N j y g z hwy=>?_) λa'' w'' ν'' st' hd'=>?_
    ·refine ux rfl λj y z A=>?_
     simp only[bH];rcases vw j i with g|g|g
     ·rw[di g]
      exact(D j y g z).resolve_left λha=>((r4 ha).1 t A).1 ht
     ·subst g
      rw[L];simp
     ·rw[gF]
      exact(m j y g z).resolve_left λha=>(r4 ha).2 t A ht
    ·refine zq rfl λj y z A=>?_
     simp only[bH];rcases vw j i with g|g|g
     ·rw[di g]
      exact(D j y g z).resolve_left λha=>((r3 ha).1 b A).1 N
     ·subst g
      rw[L];simp
     ·rw[gF]
      exact(m j y g z).resolve_left λha=>(r3 ha).2 b A N
    ·rcases m j y g z with h|h
     ·exact aR A ((r4 h).1 t ht).2
     ·exact h
    ·rcases m j y g z with h|h
     ·exact aR hwy ((r3 h).1 b N).2
     ·exact h
    ·have T:(λj=>(d.setIfInBounds i ε).getD j η)=eR (λj=>d.getD j η) i:=by
      funext j
      simp only[eR];by_cases e:i=j
      ·subst e
       simp[rM,show i<d.size by omega]
      ·rw[ym η e]
       have:(j==i)=η:=by simp;exact λh=>e h.symm
       rw[this,ac_]
     refine ih (d.setIfInBounds i ε) a'' w'' ν'' (by simpa using hs) ?_ ⟨λj o' ho' g e he' N=>?_⟩ (λj g=>by rw[ym η (by omega)];exact I j g) (by rw[T];exact st') (hd'.trans hd)
     ·have hi':i<d.toList.length:=by simp;omega
      have hval:d.toList[i]=η:=by
       have:i<d.size:=by omega
       simp[rM,this]at L;simpa using L
      simp only[JN];rw[adP hi'];simp[hval,p]
     ·have hset':∀j,(d.setIfInBounds i ε).getD j η=eR (λj=>d.getD j η) i j:=congrFun T
      rw[hset']at g⊢;simp only[eR,po,fm]at g⊢;rcases g with g|rfl
      ·exact .inl (hc.cl j o' ho' g e he' N)
      ·rw[M]at ho'
       cases ho';exact .inl (he e he' N)
 have rep:∀j,(tx all.length η).getD j η=η:=by intro j;rw[rN,RJ];split<;>rfl
 refine key all.length _ a w ν (by simp) (by simp) ⟨λj o ho g=>?_⟩ (λj _=>rep j) (QW h _ λj=>rep j) rfl;rw[rep j]at g;cases g
def wg(k:O)(all:E a_):ξ:=(dK all.length).all λi=>Δ i k||((jD all []).getD i 0).testBit k
def Up{Γ:aG}(hΓ:aK P Γ){all:E a_}{s:E fb}(hM:∀i,X.heap.size<=i->B i){T':E AV}{H':E AB}(r:ub P Γ all (all.take i) s G S T' H')(hkl:i<all.length)(hB:jS all s=ε)(hC:wg i all=ε){a:a8}{w:ψ}{ν:Nu}{Q:e9->a8->ψ->Prop}(h:SR B X R G S a w ν)(hD:∀d W w' C,rZ B X R G.length S.length (λt=>G.getD t .dead) (λb=>S.getD b .gone) (items all s) d W w' C->W.defers=a.defers->(∀q,((jD all []).getD i 0).testBit q=ε->d q=ε)->∀c,wpOp P all.toArray Q i c W w'):wpAny P .any all.toArray Q all.length (tx all.length η) a w:=by
 have rl:s.length=i:=by rw[Aw r];simp;omega
 have n:items (all.take i) s=items all s:=by simp only[items];rw[<-rl];exact E_ all s
 have ra:yP P Γ all all s G S T' H':=by have k:=xo r;have:=k.at_;exact⟨by omega,k.Db,k.zN,by rw[<-n];exact k.at_,by rw[<-n];exact k.wi,by rw[<-n];exact k.Cq,by rw[<-n];exact k.base,by rw[<-n];exact k.apart,by rw[<-n];exact k.lt⟩
 have hlen:(items all s).length=i:=by simp[items,rl];omega
 simp only[jS,aP]at hB;obtain⟨hB1,hB2⟩:=hB;have edges:∀(g:O) o,all[g]?=γ o->∀e∈o.after,mH .any e=ε->e.on<g:=λg o ho e he I=>by simpa using GO hB1 g o ho e he I
 have L:∀(g j:O) x y,g<j->(items all s)[g]?=γ x->(items all s)[j]?=γ y->((jD all []).getD j 0).testBit g=ε\/lx all.toArray x y=ε:=λg j x y hij hx v=>I8 hB2 j y v g x (by simpa using hij) (by simpa using hx)
 have key:∀(f:O)(l:aX ξ)(W:a8)(w':ψ)(C:Nu),l.size=all.length->l.toList.count η=f->FV all (λj=>l.getD j η)->(∀j,i<=j->l.getD j η=η)->
   rZ B X R G.length S.length (λt=>G.getD t .dead) (λb=>S.getD b .gone) (items all s) (λj=>l.getD j η) W w' C->W.defers=a.defers->wpAny P .any all.toArray Q f l W w':=by
  intro f;induction f with
  |zero=>
   intro l W w' C hs N hc U st hd;exfalso;have hne:η∉l.toList:=Fm.1 N;have hks:i<l.size:=by omega
   have h1:=U i (aQ _);simp only[rM,hks,dif_pos]at h1;exact hne (by rw[<-h1];simp)
  |succ f ih=>
   intro l W w' C hs N hc U st hd;refine⟨λhnil=>?_,λg hi=>?_⟩
   ·exfalso
    have allT:∀j,j<all.length->l.getD j η=ε:=by
     intro j;induction j using Fy with
     |_ j jh=>
      intro m;cases hl:l.getD j η with
      |true=>rfl
      |false=>
       have:j∈mI .any all.toArray l:=by rw[vG];refine⟨by rw[wz (by omega) ε η];exact hl,all[j],by simp[m],λe he I=>?_⟩;have hlt:=edges j all[j] (by simp[m]) e he I;exact jh e.on hlt (by omega)
       rw[hnil]at this;cases this
    have h1:=allT i hkl;rw[U i (aQ _)]at h1;cases h1
   ·obtain⟨h1,o,ho,he⟩:=vG.1 hi
    have hil:g<all.length:=by simpa using(cC.1 ho).1
    have H:all[g]?=γ o:=by simpa using ho
    have D:l.getD g η=η:=by rw[wz (by omega) η ε];exact h1
    have M:∀q,((jD all []).getD g 0).testBit q=ε->l.getD q η=ε:=r7 (S:=λj=>l.getD j η) (r:=all) (acc:=[]) hc rfl (λj o m=>by simp at m) g o H he;rcases vw g i with hik|rfl|hik
    case inr.inr=>
     exfalso;have:=bT.1 hC g (by simpa using hil);rcases Bool.or_eq_true_iff.1 this with h'|h'
     ·rw[bl]at h';omega
     ·have:=M i h'
      rw[U i (aQ _)]at this;cases this
    case inr.inl=>exact hD _ W w' C st hd M _
    have u:(items all s)[g]?=γ (items all s)[g]:=df (by omega);generalize hxg:(items all s)[g]=x at u;have hxo:x.o=o:=by
     simp only[items,Fp]at u;split at u
     ·rename_i o' e' h1' h2'
      cases u;rw[H]at h1';cases h1';rfl
     ·cases u
    --ancestors of g are l;those of a l one are l
    have anc:∀q,((jD all []).getD g 0).testBit q=ε->l.getD q η=ε:=r7 (S:=λj=>l.getD j η) (r:=all) (acc:=[]) hc rfl (λj o m=>by simp at m) g o H he;have anc':∀j,l.getD j η=ε->j<all.length->∀q,((jD all []).getD j 0).testBit q=ε->l.getD q η=ε:=by intro j m hjl;have hjx:all[j]?=γ all[j]:=df hjl;exact r7 (S:=λj=>l.getD j η) (r:=all) (acc:=[]) hc rfl (λj o m=>by simp at m) j _ hjx (hc.cl j _ hjx m)
    have A:∀(j:O) y,j<g->(items all s)[j]?=γ y->lx all.toArray y x=ε\/l.getD j η=ε:=by
     intro j y m v;rcases L j g y x m v u with h|h
     ·exact .inr (anc j h)
     ·exact .inl h
    have p:∀(j:O) y,g<j->(items all s)[j]?=γ y->lx all.toArray x y=ε\/l.getD j η=η:=by
     intro j y m v;rcases L g j x y m u v with h|h
     ·right
      cases hl:l.getD j η with
      |false=>rfl
      |true=>
       have hjl:j<all.length:=by have:=(fY.1 v).1;omega
       have:=anc' j hl hjl g h;rw[D]at this;cases this
     ·exact .inl h
    refine QX hΓ hM ra u st D (λt ht=>?_) (λb I=>?_) (λt ht j y m v z=>?_) (λb I j y m v hwy=>?_) λa'' w'' ν'' st' hd'=>?_
    ·refine ux rfl λj y v z=>?_
     simp only[bH];rcases vw j g with m|m|m
     ·rw[di m]
      exact(A j y m v).resolve_left λha=>((r4 ha).1 t z).1 ht
     ·subst m
      rw[D];simp
     ·rw[gF]
      exact(p j y m v).resolve_left λha=>(r4 ha).2 t z ht
    ·refine zq rfl λj y v z=>?_
     simp only[bH];rcases vw j g with m|m|m
     ·rw[di m]
      exact(A j y m v).resolve_left λha=>((r3 ha).1 b z).1 I
     ·subst m
      rw[D];simp
     ·rw[gF]
      exact(p j y m v).resolve_left λha=>(r3 ha).2 b z I
    ·rcases p j y m v with h|h
     ·exact aR z ((r4 h).1 t ht).2
     ·exact h
    ·rcases p j y m v with h|h
     ·exact aR hwy ((r3 h).1 b I).2
     ·exact h
    ·have T:(λj=>(l.setIfInBounds g ε).getD j η)=eR (λj=>l.getD j η) g:=by
      funext j
      simp only[eR];by_cases e:g=j
      ·subst e
       simp[rM,show g<l.size by omega]
      ·rw[ym η e]
       have:(j==g)=η:=by simp;exact λh=>e h.symm
       rw[this,ac_]
     refine ih (l.setIfInBounds g ε) a'' w'' ν'' (by simpa using hs) ?_ ⟨λj o' ho' m e he' I=>?_⟩ (λj m=>by rw[ym η (by omega)];exact U j m) (by rw[T];exact st') (hd'.trans hd)
     ·have hi':g<l.toList.length:=by simp;omega
      have hval:l.toList[g]=η:=by
       have:g<l.size:=by omega
       simp[rM,this]at D;simpa using D
      simp only[JN];rw[adP hi'];simp[hval,N]
     ·have hset':∀j,(l.setIfInBounds g ε).getD j η=eR (λj=>l.getD j η) g j:=congrFun T
      rw[hset']at m⊢;simp only[eR,po,fm]at m⊢;rcases m with m|rfl
      ·exact .inl (hc.cl j o' ho' m e he' I)
      ·rw[H]at ho'
       cases ho';exact .inl (he e he' I)
 have rep:∀j,(tx all.length η).getD j η=η:=by intro j;rw[rN,RJ];split<;>rfl
 refine key all.length _ a w ν (by simp) (by simp) ⟨λj o ho m=>?_⟩ (λj _=>rep j) (QW h _ λj=>rep j) rfl;rw[rep j]at m;cases m
def Gk(k:O)(all:E a_)(args:E cP):ξ:=args.all λ
 | .tmp t=>(dK k).all λj=>match all[j]?with
  |some o=>(match o.dst with|some d=> !(Ψ d t)|none=>ε)||((jD all []).getD k 0).testBit j
  |none=>ε
 |_=>ε
def YF(k:O)(all:E a_):ξ:=(dK k).all λj=>((jD all []).getD k 0).testBit j
def Qv{o:a_}{args:aX cP}{b:aX ae}{a:a8}(h:o.op=.call ⟨.value (.func I),args,b⟩)(c:∀args X,(g_ I args).run P X=.ok (.enter I args) X):(dw a.eval o).run P X=.ok (.enter I (args.toList.map a.eval).toArray) X:=by
 have e:(args.map a.eval)=(args.toList.map a.eval).toArray:=by apply gg;simp
 have d:(args.toList.map a.eval).toArray++ #[]=(args.toList.map a.eval).toArray:=by apply gg;simp
 simp[dw,h,resolve,Fb,invoke,Act.eval,c]<;>first|exact e|(apply gg;simp)
def arL{Γ:aG}(T:aK P Γ)(D:P.follows .mixedOrders=ε){k id:O}{ops:aX a_}(hM:∀k,X.heap.size<=k->B k)(L:(ku P Γ ops.toList (ops.toList.take k) G S [] λT' H' tr=>cond (jS ops.toList tr.reverse&&wg k ops.toList) (.out .normal T' H') .err).ok Q){o:a_}{args:aX cP}{ts:aX ae}(ho:ops.toList[k]?=γ o)(hg:o.guard=ζ)(hop:o.op=.call ⟨.value (.func I),args,ts⟩)(eg:∀args w,(g_ I args).run P w=.ok (.enter I args) w)(q:Gk k ops.toList args.toList=ε){a:a8}{w:ψ}{ν:Nu}(h:SR B X R G S a w ν)(N:∀T' H',Q .normal T' H'->∀y w' l (vals:E τ),aB l (args.toList.map (bP T')) vals->(YF k ops.toList=ε->SR B X R T' H' y w' l)->Fr B X w'->a4 B w'->y.defers=a.defers->Calls P I vals.toArray w' λe U=>∃f,e=.panicked f/\C (.panic f) y U):(Code.region id ops ε).wp P C a w:=by
 obtain⟨m,T',H',r,s⟩:=zd L;rcases(kT s).symm with⟨_,s⟩|⟨hc,s⟩
 ·exact s.elim
 rw[aP]at hc;obtain⟨u,W⟩:=hc;have u:jS ops.toList m=ε:=by simpa using u
 have g:k<ops.toList.length:=(fY.1 ho).1;have rl:m.length=k:=by rw[Aw r];simp at g⊢;omega
 have ra:=xo r;have d:items (ops.toList.take k) m=items ops.toList m:=by simp only[items];rw[<-rl];exact E_ ops.toList m
 rw[<-RO (xs:=ops)];have hS':SR B X R G S a {w with drawn:=w.drawn+1} ν:=⟨h.tmps,⟨λi=>(h.heap.br i).of_block λ_ _ _=>rfl,h.heap.sep,h.heap.own,h.heap.lt,h.heap.eL⟩,h.fr.drew,h.cg,h.len,h.le⟩;refine TM D ?_;have:=Up (Q:=C) T hM r g u W hS' λc y w' l M hd n b=>?_
 ·simpa using this
 unfold wpOp;simp only[vr,ho];rw[aU (by simp[Region.wanted,hg])];refine .inl ?_;unfold ot;rw[Qv hop eg];simp only[Oper.upon];have H:∀(j:O) x,(items ops.toList m)[j]?=γ x->j<k/\ops.toList[j]?=γ x.o:=by
  intro j x A;simp only[items,Fp]at A;split at A
  ·rename_i o' e' h1 s
   cases A;exact⟨by have:=(fY.1 s).1;omega,h1⟩
  ·cases A
 have v:aB l (args.toList.map (bP T')) (args.toList.map y.eval):=uc λz hz=>lK λt ht=>by
  subst ht;have e:T'.getD t .dead=gR c 0 (items ops.toList m) (λt=>G.getD t .dead) t:=by
   rw[ra.wi t,d];refine ux rfl λj x A hdx=>?_
   obtain⟨hjk,hjo⟩:=H j x A;have:=bT.1 (bT.1 q _ hz) j (np.2 hjk);rw[hjo]at this;simp only[hdx,mG,Bb,JP]at this;rw[bH,n j this]
  rw[e];exact M.tmps t
 refine(N T' H' s y w' l _ v (λhl=>?_) M.fr M.heap.eL hd).mono ?_
 ·have ra2:yP P Γ ops.toList ops.toList m G S T' H':=by have p:=xo r;exact⟨by omega,p.Db,p.zN,by rw[<-d];exact p.at_,by rw[<-d];exact p.wi,by rw[<-d];exact p.Cq,by rw[<-d];exact p.base,by rw[<-d];exact p.apart,by rw[<-d];exact p.lt⟩
  exact Jq ra2 M λj hj=>n j (bT.1 hl j (np.2 (by omega)))
 ·rintro e U ⟨f,rfl,hq⟩
  exact hq
def HE(a:(O->Z)->ξ)(mul:(O->Z)->(O->Z)->O->Z):aG:=ext (ext g0 134 (aW (nF a))) 203 (aW (ss mul))
def aws(c:(O->Z)->ξ)(mul:(O->Z)->(O->Z)->O->Z)(a b:ao):let d:=[AV.af [AV.agg [vI 0,vI 0,vI 0,vI 0,vI 0,vI 0,vI 0,vI 0],vB η]];ad θ (HE c mul) K 100 f115 [.v (dA a),.v (dA b)] [] (ag 0)
 =bif !c (w8 a)then rO d []else bif !c (w8 b)then rO d []else bif !c (w8 (mul (w8 a) (w8 b)))then rO d []else rO [AV.af [AV.agg [vI (mul (w8 a) (w8 b) 0),vI (mul (w8 a) (w8 b) 1),vI (mul (w8 a) (w8 b) 2),vI (mul (w8 a) (w8 b) 3),vI (mul (w8 a) (w8 b) 4),vI (mul (w8 a) (w8 b) 5),vI (mul (w8 a) (w8 b) 6),vI (mul (w8 a) (w8 b) 7)],vB ε]] []:=by intros;kernel_rfl
def HC(a:(O->Z)->ξ)(mul:(O->Z)->(O->Z)->O->Z):aG:=ext (ext g0 167 (aW (nF a))) 238 (aW (ss mul))
def awt(c:(O->Z)->ξ)(mul:(O->Z)->(O->Z)->O->Z)(a b:ao):let d:=[AV.af [AV.agg [vI 0,vI 0,vI 0,vI 0,vI 0,vI 0,vI 0,vI 0],vB η]];ad θ (HC c mul) K 100 f159 [.v (dA a),.v (dA b)] [] (ag 0)
 =bif !c (w8 a)then rO d []else bif !c (w8 b)then rO d []else bif !c (w8 (mul (w8 a) (w8 b)))then rO d []else rO [AV.af [AV.agg [vI (mul (w8 a) (w8 b) 0),vI (mul (w8 a) (w8 b) 1),vI (mul (w8 a) (w8 b) 2),vI (mul (w8 a) (w8 b) 3),vI (mul (w8 a) (w8 b) 4),vI (mul (w8 a) (w8 b) 5),vI (mul (w8 a) (w8 b) 6),vI (mul (w8 a) (w8 b) 7)],vB ε]] []:=by intros;kernel_rfl
def yz(q:(O->Z)->(O->Z)->O->Z)(r:(O->Z)->(O->Z)->ξ):E SA->χ FR
 |[.v (.agg ⟨[.int .i64 a,.int .i64 b,.int .i64 c,.int .i64 d,.int .i64 e,.int .i64 f,.int .i64 g,.int .i64 h]⟩),.v (.agg ⟨[.int .i64 i,.int .i64 j,.int .i64 k,.int .i64 l,.int .i64 m,.int .i64 n,.int .i64 o,.int .i64 p]⟩)]=>γ {val:=.af [.agg (fe (q (v8 a b c d e f g h) (v8 i j k l m n o p))),.v (.bool (r (v8 a b c d e f g h) (v8 i j k l m n o p)))]}
 |_=>ζ
def HY(a:(O->Z)->(O->Z)->O->Z)(b:(O->Z)->(O->Z)->ξ):aG:=ext g0 115 (ai [.val,.val] (yz a b))
abbrev zQ:Ex->E O:=cj [1,6,8,22,23,24,28,29,30] [1,6,22,23,24] [4,5]
abbrev AL(m n k i j:O):E AV:=[.sl 1 9 0 0 n ζ,.own 2 k,.ptr 3 0 0 0,.sl 0 9 0 0 m ζ,.v (ι m),.v (ι i),.sl 1 9 0 0 n ζ,.v (ι n),.v (ι j)]
abbrev fv(m:O)(f:Θ)(n:O)(g:Θ)(k:O)(h:Θ):E AB:=[.row η m 9 (J f) 123,.row η n 9 (J g) 123,.row ε k 9 (J h) 123]
abbrev wH(m:O)(f:Θ)(n:O)(g:Θ)(k:O)(h:Θ)(x:ao):E AB:=[.row η m 9 (J f) 123,.row η n 9 (J g) 123,.row ε k 9 (J h) 123,.cells [.v (ι (x 0)),.v (ι (x 1)),.v (ι (x 2)),.v (ι (x 3)),.v (ι (x 4)),.v (ι (x 5)),.v (ι (x 6)),.v (ι (x 7)),.v (ι (x 8))] 123]
abbrev jl(m:O)(f:Θ)(n:O)(g:Θ):E AB:=[.row η m 9 (J f) 123,.row η n 9 (J g) 123]
def as0(a:(O->Z)->(O->Z)->O->Z)(s:(O->Z)->(O->Z)->ξ)(m:O)(f:Θ)(n:O)(g:Θ)(k:O)(h:Θ)(x:ao)(i j:O):let b:=(v8 (x 1) (x 2) (x 3) (x 4) (x 5) (x 6) (x 7) (x 8));let l:=AB.row η m 9 (J f) 123;let o:=AB.row η n 9 (J g) 123;let e:=(↑j:Z);let p:=AV.sl 1 9 0 0 n ζ;let r:=(↑n:Z);let t:=AV.sl 0 9 0 0 m ζ;let c:=(0+aT e);let d:=(v8 (g c 1) (g c 2) (g c 3) (g c 4) (g c 5) (g c 6) (g c 7) (g c 8));a0 θ (HY a s) 100 K (a5 2 nr) (ar 0 60 ((zQ .normal).zip (AL m n k i j))) (wH m f n g k h x) (cw 60 zQ 2)
 =bif κ (e<r)then Ξ [κ (e<r),κ (0+aT e<n)] (bif !s b d then rO [AV.v (gj ζ 0 0),vB η] [l,o]else Ξ [Δ k k,Δ (k+1) 549755813888] (am.out .normal [p,AV.own 2 (k+1),AV.ptr 3 0 0 0,t,vI (m:Z),vI (↑i:Z),p,vI r,vI (aa .i64 (e+(1:Z)))] [l,o,AB.row ε (k+1) 9 (λq=>[ι (bif ω q k then h q 0 else aa .i64 (x 0+g c 0)),ι (bif ω q k then h q 1 else a b d 0),ι (bif ω q k then h q 2 else a b d 1),ι (bif ω q k then h q 3 else a b d 2),ι (bif ω q k then h q 4 else a b d 3),ι (bif ω q k then h q 5 else a b d 4),ι (bif ω q k then h q 6 else a b d 5),ι (bif ω q k then h q 7 else a b d 6),ι (bif ω q k then h q 8 else a b d 7)]) 123,AB.cells [vI (x 0),vI (x 1),vI (x 2),vI (x 3),vI (x 4),vI (x 5),vI (x 6),vI (x 7),vI (x 8)] 123]))else am.out (Ex.exit 2) [p,AV.own 2 k,t,vI (m:Z),vI (↑i:Z)] [l,o,AB.row ε k 9 (J h) 123]:=by intros;kernel_rfl
abbrev wT:Ex->E O:=cj [1,6,22,23,24] [6] [4,5]
abbrev qk(m n k i:O):E AV:=[.sl 1 9 0 0 n ζ,.own 2 k,.sl 0 9 0 0 m ζ,.v (ι m),.v (ι i)]
noncomputable abbrev YD(m:O)(f:Θ)(n:O)(g:Θ)(k:O)(h:Θ)(x:ao)(i:O)(c:ξ)(k2:O)(b:Θ):O->χ Sum:=bX 2 (bm 60 (zQ .normal) 2 (AL m n k i 0) (wH m f n g k h x) (λa=>cond c (a .normal (ar 0 60 ([1,6,22,23,24].zip (qk m n k2 i))) (fv m f n g k2 b)) (a .ret (ar 0 60 [(4,.v (.slice ζ 0 0)),(5,.v (.bool η))]) (jl m f n g))))
def asY(r:(O->Z)->(O->Z)->O->Z)(s:(O->Z)->(O->Z)->ξ)(m:O)(f:Θ)(n:O)(g:Θ)(k:O)(h:Θ)(i:O)(c:ξ)(k2:O)(o:Θ):let d:=AB.row η n 9 (J g) 123;let e:=AB.row η m 9 (J f) 123;let b:=(↑i:Z);let l:=AV.sl 1 9 0 0 n ζ;let p:=AB.row ε k 9 (J h) 123;let j:=(m:Z);let q:=AV.sl 0 9 0 0 m ζ;let a:=(0+aT b);a0 θ (HY r s) 100 (YD m f n g k h (f i) i c k2 o) (a5 0 nr) (ar 0 60 ((wT .normal).zip (qk m n k i))) (fv m f n g k h) (cw 60 wT 2)
 =bif κ (b<j)then Ξ [κ (b<j),κ (0+aT b<m),cy ([l,AV.own 2 k,AV.ptr 3 0 0 0,q,vI j,vI b,l,vI (↑n:Z),vI 0]=AL m n k i 0/\Φ [e,d,p,AB.cells [vI (f a 0),vI (f a 1),vI (f a 2),vI (f a 3),vI (f a 4),vI (f a 5),vI (f a 6),vI (f a 7),vI (f a 8)] 123] (wH m f n g k h (f i)))] (bif c then am.out .normal [l,AV.own 2 k2,q,vI j,vI (aa .i64 (b+(1:Z)))] [e,d,AB.row ε k2 9 (J o) 123]else rO [AV.v (gj ζ 0 0),vB η] [e,d])else am.out (Ex.exit 0) [AV.own 2 k] [e,d,p]:=by intros;kernel_rfl
def asZ(a:(O->Z)->(O->Z)->O->Z)(b:(O->Z)->(O->Z)->ξ)(m:O)(f:Θ)(n:O)(g:Θ)(k:O)(h:Θ)(i:O):a0 θ (HY a b) 100 (bX 2 iv) (a5 0 nr) (ar 0 60 ((wT .normal).zip (qk m n k i))) (fv m f n g k h) (cw 60 wT 2)=bif κ ((↑i:Z)<(m:Z))then Ξ [κ ((↑i:Z)<(m:Z)),κ (0+aT (↑i:Z)<m)] am.err else am.out (Ex.exit 0) [AV.own 2 k] [AB.row η m 9 (J f) 123,AB.row η n 9 (J g) 123,AB.row ε k 9 (J h) 123]:=by kernel_rfl
noncomputable abbrev C8(m:O)(f:Θ)(n:O)(g:Θ)(c:ξ)(k:O)(h:Θ):O->χ Sum:=bX 0 (bm 60 (wT .normal) 2 (qk m n 0 0) (fv m f n g 0 (Y [])) (λa=>cond c (a .normal (ar 0 60 [(6,.own 2 k)]) (fv m f n g k h)) (a .ret (ar 0 60 [(4,.v (.slice ζ 0 0)),(5,.v (.bool η))]) (jl m f n g))))
def axR(a:E Wh->ξ)(i:E Wh->E Wh)(b d:E Wh->ξ)(m:O)(f:Θ)(n:O)(g:Θ)(c:ξ)(k:O)(h:Θ):let j:=[AV.af [AV.v (gj ζ 0 0),vB η]];let e:=(V (ο (J h)) k);let l:=AB.row η m 9 (J f) 123;let o:=AB.row η n 9 (J g) 123;let p:=(ce (i e));let r:=[l,o];ad θ (sx a i b d) (C8 m f n g c k h) 100 nr [.sl 0 9 0 0 m ζ,.sl 1 9 0 0 n ζ] (jl m f n g) (ag 2)
 =Ξ [Δ (0+m) m,aF m λq=>J f (0+q),κ (m<=549755813888)] (bif !a (V (ο λq=>J f (0+q)) m)then rO j r else Ξ [Δ (0+n) n,aF n λq=>J g (0+q),κ (n<=549755813888)] (bif !a (V (ο λq=>J g (0+q)) n)then rO j r else Ξ [cy ([AV.sl 1 9 0 0 n ζ,AV.own 2 0,AV.sl 0 9 0 0 m ζ,vI (m:Z),vI 0]=qk m n 0 0/\Φ [l,o,AB.row ε 0 9 (λ_=>[]) 123] (fv m f n g 0 (Y [])))] (bif c then Ξ [Δ k k,aF k (J h),κ (k<=274877906944),d e,b e] (rO [AV.af [AV.sl 2 9 0 0 p (γ p),vB ε]] [l,o,AB.row ε p 9 (J (Y (i e))) 123])else rO j r))):=by intros;kernel_rfl
def axO(a:E Wh->ξ)(b d:E Wh->ξ)(m:O)(f:Θ)(n:O)(g:Θ)(c:ξ)(k:O)(h:Θ):let e:=[AV.af [AV.v (gj ζ 0 0),vB η]];let j:=AB.row η n 9 (J g) 123;let l:=AB.row η m 9 (J f) 123;let o:=(V (ο (J h)) k);let i:=[l,j];ad θ (mg a b d) (C8 m f n g c k h) 100 nr [.sl 0 9 0 0 m ζ,.sl 1 9 0 0 n ζ] (jl m f n g) (ag 2)
 =Ξ [Δ (0+m) m,aF m λq=>J f (0+q),κ (m<=549755813888)] (bif !a (V (ο λq=>J f (0+q)) m)then rO e i else Ξ [Δ (0+n) n,aF n λq=>J g (0+q),κ (n<=549755813888)] (bif !a (V (ο λq=>J g (0+q)) n)then rO e i else Ξ [cy ([AV.sl 1 9 0 0 n ζ,AV.own 2 0,AV.sl 0 9 0 0 m ζ,vI (m:Z),vI 0]=qk m n 0 0/\Φ [l,j,AB.row ε 0 9 (λ_=>[]) 123] (fv m f n g 0 (Y [])))] (bif c then Ξ [Δ k k,aF k (J h),κ (k<=274877906944),d o,!b o] (rO e i)else rO e i))):=by intros;kernel_rfl
def HV(a:(O->Z)->(O->Z)->O->Z)(b:(O->Z)->(O->Z)->ξ):aG:=ext g0 159 (ai [.val,.val] (yz a b))
abbrev zP:Ex->E O:=cj [0,1,6,7,8] [0,1,6,7] [4,5]
abbrev AK(m n k i j:O):E AV:=[.sl 0 9 0 0 m ζ,.sl 1 9 0 0 n ζ,.own 2 k,.v (ι i),.v (ι j)]
def asW(a:(O->Z)->(O->Z)->O->Z)(w:(O->Z)->(O->Z)->ξ)(m:O)(f:Θ)(n:O)(g:Θ)(k:O)(h:Θ)(i j:O):let l:=(↑j:Z);let o:=(↑i:Z);let u:=AB.row η n 9 (J g) 123;let v:=AB.row η m 9 (J f) 123;let x:=κ (0+aT l<n);let y:=κ (0+aT o<m);let p:=κ (l<(↑n:Z));let r:=κ (o<(m:Z));let s:=AV.sl 1 9 0 0 n ζ;let t:=AV.sl 0 9 0 0 m ζ;let b:=(0+aT o);let c:=(0+aT l);let d:=(v8 (g c 1) (g c 2) (g c 3) (g c 4) (g c 5) (g c 6) (g c 7) (g c 8));let e:=(v8 (f b 1) (f b 2) (f b 3) (f b 4) (f b 5) (f b 6) (f b 7) (f b 8));a0 θ (HV a w) 100 K (a5 2 pD) (ar 0 70 ((zP .normal).zip (AK m n k i j))) (fv m f n g k h) (cw 70 zP 2)
 =bif κ (l<(↑n:Z))then Ξ [r,y,p,x] (bif !w e d then rO [AV.own 2 0,vB η] [v,u,AB.row ε 0 9 (λ_=>[]) 123]else Ξ [r,y,p,x,Δ k k,Δ (k+1) 549755813888] (am.out .normal [t,s,AV.own 2 (k+1),vI o,vI (aa .i64 (l+(1:Z)))] [v,u,AB.row ε (k+1) 9 (λq=>[ι (bif ω q k then h q 0 else aa .i64 (f b 0+g c 0)),ι (bif ω q k then h q 1 else a e d 0),ι (bif ω q k then h q 2 else a e d 1),ι (bif ω q k then h q 3 else a e d 2),ι (bif ω q k then h q 4 else a e d 3),ι (bif ω q k then h q 5 else a e d 4),ι (bif ω q k then h q 6 else a e d 5),ι (bif ω q k then h q 7 else a e d 6),ι (bif ω q k then h q 8 else a e d 7)]) 123]))else am.out (Ex.exit 2) [t,s,AV.own 2 k,vI o] [v,u,AB.row ε k 9 (J h) 123]:=by intros;kernel_rfl
abbrev wS:Ex->E O:=cj [0,1,6,7] [6] [4,5]
abbrev rE(m n k i:O):E AV:=[.sl 0 9 0 0 m ζ,.sl 1 9 0 0 n ζ,.own 2 k,.v (ι i)]
abbrev C5(m:O)(f:Θ)(n:O)(g:Θ):E AB:=fv m f n g 0 (Y [])
noncomputable abbrev YC(m:O)(f:Θ)(n:O)(g:Θ)(k:O)(h:Θ)(i:O)(c:ξ)(k2:O)(b:Θ):O->χ Sum:=bX 2 (bm 70 (zP .normal) 2 (AK m n k i 0) (fv m f n g k h) (λa=>cond c (a .normal (ar 0 70 ([0,1,6,7].zip (rE m n k2 i))) (fv m f n g k2 b)) (a .ret (ar 0 70 [(4,.own 2 0),(5,.v (.bool η))]) (C5 m f n g))))
def asU(p:(O->Z)->(O->Z)->O->Z)(q:(O->Z)->(O->Z)->ξ)(m:O)(f:Θ)(n:O)(g:Θ)(k:O)(h:Θ)(i:O)(c:ξ)(k2:O)(e:Θ):let a:=AB.row η n 9 (J g) 123;let b:=AB.row η m 9 (J f) 123;let d:=(↑i:Z);let j:=AV.sl 1 9 0 0 n ζ;let l:=AV.sl 0 9 0 0 m ζ;let o:=[b,a,AB.row ε k 9 (J h) 123];a0 θ (HV p q) 100 (YC m f n g k h i c k2 e) (a5 0 pD) (ar 0 70 ((wS .normal).zip (rE m n k i))) (fv m f n g k h) (cw 70 wS 2)
 =bif κ (d<(m:Z))then Ξ [cy ([l,j,AV.own 2 k,vI d,vI 0]=AK m n k i 0/\Φ o (fv m f n g k h))] (bif c then am.out .normal [l,j,AV.own 2 k2,vI (aa .i64 (d+(1:Z)))] [b,a,AB.row ε k2 9 (J e) 123]else rO [AV.own 2 0,vB η] [b,a,AB.row ε 0 9 (J (Y [])) 123])else am.out (Ex.exit 0) [AV.own 2 k] o:=by intros;kernel_rfl
def asV(a:(O->Z)->(O->Z)->O->Z)(b:(O->Z)->(O->Z)->ξ)(m:O)(f:Θ)(n:O)(g:Θ)(k:O)(h:Θ)(i:O):a0 θ (HV a b) 100 (bX 2 iv) (a5 0 pD) (ar 0 70 ((wS .normal).zip (rE m n k i))) (fv m f n g k h) (cw 70 wS 2)=bif κ ((↑i:Z)<(m:Z))then am.err else am.out (Ex.exit 0) [AV.own 2 k] [AB.row η m 9 (J f) 123,AB.row η n 9 (J g) 123,AB.row ε k 9 (J h) 123]:=by kernel_rfl
noncomputable abbrev OI(m:O)(f:Θ)(n:O)(g:Θ)(c:ξ)(k:O)(h:Θ):O->χ Sum:=bX 0 (bm 70 (wS .normal) 2 (rE m n 0 0) (fv m f n g 0 (Y [])) (λa=>cond c (a .normal (ar 0 70 [(6,.own 2 k)]) (fv m f n g k h)) (a .ret (ar 0 70 [(4,.own 2 0),(5,.v (.bool η))]) (C5 m f n g))))
def sC(a:E Wh->ξ)(c:E Wh->E Wh)(b:E Wh->ξ):aG:=ext (ext g0 157 (ai bF (qD a))) 158 (ai bF (F7 c b))
def axP(a:E Wh->ξ)(d:E Wh->E Wh)(b:E Wh->ξ)(m:O)(f:Θ)(n:O)(g:Θ)(c:ξ)(k:O)(h:Θ):let e:=[AV.af [AV.own 2 0,vB η]];let i:=(V (ο (J h)) k);let j:=AB.row η m 9 (J f) 123;let l:=AB.row η n 9 (J g) 123;let p:=(ce (d i));let o:=[j,l,AB.row ε 0 9 (λ_=>[]) 123];ad θ (sC a d b) (OI m f n g c k h) 100 pD [.sl 0 9 0 0 m ζ,.sl 1 9 0 0 n ζ] (jl m f n g) (ag 2)
 =Ξ [Δ (0+m) m,aF m λq=>J f (0+q),κ (m<=549755813888)] (bif !a (V (ο λq=>J f (0+q)) m)then rO e o else Ξ [Δ (0+n) n,aF n λq=>J g (0+q),κ (n<=549755813888)] (bif !a (V (ο λq=>J g (0+q)) n)then rO e o else Ξ [cy ([AV.sl 0 9 0 0 m ζ,AV.sl 1 9 0 0 n ζ,AV.own 2 0,vI 0]=rE m n 0 0/\Φ o (fv m f n g 0 (Y [])))] (bif c then Ξ [Δ k k,aF k (J h),κ (k<=274877906944)] (rO [AV.af [AV.own 2 p,AV.v (.bool (b i))]] [j,l,AB.row ε p 9 (J (Y (d i))) 123])else rO e [j,l,AB.row ε 0 9 (J (Y [])) 123]))):=by intros;kernel_rfl
def axN(a:E Wh->ξ)(b c:E Wh->ξ)(m:O)(f:Θ)(n:O)(g:Θ):let d:=[AB.row η m 9 (J f) 123,AB.row η n 9 (J g) 123];let e:=[AV.af [AV.v (gj ζ 0 0),vB η]];ad θ (mg a b c) (bX 0 iv) 100 nr [.sl 0 9 0 0 m ζ,.sl 1 9 0 0 n ζ] (jl m f n g) (ag 2)
 =Ξ [Δ (0+m) m,aF m λq=>J f (0+q),κ (m<=549755813888)] (bif !a (V (ο λq=>J f (0+q)) m)then rO e d else Ξ [Δ (0+n) n,aF n λq=>J g (0+q),κ (n<=549755813888),!a (V (ο λq=>J g (0+q)) n)] (rO e d)):=by intros;kernel_rfl
def axQ(a:E Wh->ξ)(e:E Wh->E Wh)(b:E Wh->ξ)(m:O)(f:Θ)(n:O)(g:Θ):let c:=[AB.row η m 9 (J f) 123,AB.row η n 9 (J g) 123,AB.row ε 0 9 (λ_=>[]) 123];let d:=[AV.af [AV.own 2 0,vB η]];ad θ (sC a e b) (bX 0 iv) 100 pD [.sl 0 9 0 0 m ζ,.sl 1 9 0 0 n ζ] (jl m f n g) (ag 2)
 =Ξ [Δ (0+m) m,aF m λq=>J f (0+q),κ (m<=549755813888)] (bif !a (V (ο λq=>J f (0+q)) m)then rO d c else Ξ [Δ (0+n) n,aF n λq=>J g (0+q),κ (n<=549755813888),!a (V (ο λq=>J g (0+q)) n)] (rO d c)):=by intros;kernel_rfl
end
end Go.Proofs.YtdadmpgfcfkidaaGreatDoor
