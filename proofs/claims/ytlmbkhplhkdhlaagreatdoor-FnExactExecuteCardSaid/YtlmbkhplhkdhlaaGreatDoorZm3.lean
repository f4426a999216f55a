/- Part 3 of the proof of FnExactExecuteCard. -/
import Derived.Test.YtlmbkhplhkdhlaaGreatDoorZm2
import Derived.Laws.FloatArith
import Derived.Laws.Externs
import Derived.WalkLawsBesides
import Derived.OrdersHeld
import Derived.Deep.RegionHeld3
import Derived.Lib.AppendZeros
import Derived.Lib.Walk
import Derived.Lib.SliceRun
set_option maxRecDepth 100000
set_option maxHeartbeats 8000000
set_option linter.defProp false
set_option linter.unusedVariables false
set_option linter.unusedSimpArgs false
open Go renaming Act→aV,Calls→aH,Code→a9,Func→cA,FuncId→bq,Oper→a6,Operand→cS,Program→aF,TypeId→ae,Value→τ,World→υ,callFunc→g_,calls_of_wp→D0,cell_of_row→gR,execOp→dl,floatToFloatBits→Ia,floatToIntVal→zO,getD_set_ne→wA,grownCap→lC,grownCap_ge→Qm,run_float_arith→Qp,run_underlying→fC,undef→aX,wpIn_mono→ku,wpIn_seq→jw,wp_seq→wF,yielded→zQ
open Go.Act renaming put→jb
open _root_ renaming Array→aU,Bool→κ,ByteArray→ρ,Int→Z,List→E,Nat→O,Option→χ,UInt8→ψ,absurd→aO,and_true→aa,beq_eq_false_iff_ne→dT,beq_iff_eq→ks,cond_false→a_,cond_true→aZ,decide_eq_false→eJ,decide_eq_false_iff_not→sd,decide_eq_true→bA,decide_eq_true_eq→aB,getElem!_pos→wB,if_neg→bi,if_pos→aP,of_decide_eq_false→cE,of_decide_eq_true→aL,true_and→bo
open Array renaming getElem?_eq_none→Hn,getElem?_eq_some_iff→cm,length_toList→lx,mk→bj,replicate→r4,size_replicate→OJ
open Bool renaming and_eq_true→aM,and_false→gP,and_true→iM,eq_iff_iff→kk,false_and→ly,not_eq_false'→nC,not_eq_true'→it,or_eq_true→oA,true_and→dD,false→η,true→ε
open Go.Builtin renaming zeroCells→py
open ByteArray renaming extract→Hr,mk→a8,size→aW
open Go.ByteArray renaming toList_eq→qG
open Go.Code renaming cond→Dm,seq→v5
open Go.Extern.MathFloor renaming toIntegral→ZA
open Fin renaming val→Dp
open Go.FloatKind renaming f32→bQ,f64→jd
open Go.Shelf renaming Ren→mJ
open Ieee.Datum renaming integral→aty,number→atz
open Ieee.Format renaming binade→ZB,mul→atA,nearest→ZC,order→atB,read→OR,word→ZD
open Ieee.Toward renaming cut→OS,even→Hy
open Ieee renaming signed→iC
open Int renaming eq_ofNat_of_zero_le→tQ,mul_eq_zero→OW,mul_nonneg→Ds,tdiv→eU,tmod→mK,toNat→a5,toNat_natCast→cY
open Go.IntKind renaming i64→a7,u64→atD,wrap→aj,wrap_i64→O0
open Go.Lib renaming decDigits→gB,decDigits_length→HB,itoa→bc,join→iD,nDigits→wc,zeros24→Dw
open List renaming all_append→gC,all_cons→gl,all_eq_true→bX,all_nil→jR,append_eq_nil_iff→ZX,ext_getElem→O4,finRange→oE,find?_eq_none→wi,foldl_append→zz,getD_eq_getElem?_getD→cq,getElem?_cons_zero→kn,getElem_cons_zero→wj,getElem_mem→ko,length→b_,length_append→cv,length_cons→cn,length_map→cC,length_nil→gm,map_append→iN,map_congr_left→wk,map_cons→eD,map_nil→kp,mem_cons→dw,mem_range→mM,mem_singleton→mN,not_mem_nil→kq,range→dH,range_succ→HK,replicate→ez,setIfInBounds_toArray→l4,suffix_cons→DE,take_of_length_le→oH
open List.cons renaming injEq→lA
open Nat renaming add_assoc→aae,add_mul→fN,add_zero→iu,beq→ai,ble→Θ,ble_eq→aT,blt→Δ,blt_eq→bS,div_eq_of_lt→tX,div_one→aag,eq_of_beq_eq_true→ci,eq_zero_or_pos→pB,gcd→zE,gcd_zero_left→aah,le_refl→aR,le_trans→cD,lt_irrefl→nF,lt_of_lt_of_le→eE,lt_or_ge→nG,lt_succ_self→ft,min_eq_left→DI,min_eq_right→aak,mod_eq_of_lt→zF,mod_lt→r7,mul_assoc→DJ,mul_comm→r8,mul_eq_zero→aam,mul_le_mul→pD,mul_le_mul_right→iO,mul_lt_mul_of_pos_right→DK,mul_one→qJ,not_le→fY,not_lt_zero→cN,one_mul→jS,pow_add→jT,pow_le_pow_right→oI,pow_succ→HO,pow_zero→zG,shiftLeft_eq→tZ,succ_mul→aao,two_pow_pos→nH,zero_add→bF,zero_le→eF,zero_lt_one→nI,zero_mul→DM
open OfNat renaming ofNat→Pl
open Go.Oper renaming wp→nJ
open Option.some renaming injEq→ar
open Or renaming inl→kr
open Prod.mk renaming injEq→cG
open Go.Region renaming Mode→DR,binds→l6,free→aaw,free_spec→at3,noSelect→aax,noSelect_spec→at4,ready→l7,wanted→nK
open Go.Sort renaming grow→HW
open Go.Proofs.Tryz renaming f102→Pt,f112→Pv,f127→Pw,f129→dd,f177→wv,f178→PF,f218→DU,f51→PH,f64→PI,f70→PL,f82→wx,func127→PY,func129→pE,func173→aaz,func199→P1,func31→aaD,func32→P4,func33→P5,func66→aaH,func82→aaK,prog→θ
open UInt8 renaming toNat_inj→H7
open Go.Value renaming int→jf,slice→dk,string→cZ
open Go.World renaming cell?→pI,grownBy_alloc→fk
open Decidable renaming decide→ο
open Option renaming none→ζ,some→γ
open Go.RowKit renaming wrap64→sk
open Go.Proofs.Tryz
namespace Go.Proofs.YtlmbkhplhkdhlaaGreatDoor
noncomputable section
open Go.RowKit Go.Shelf Go.Sort Go.Lib
def iz(h:aQ):O->Z
 |0=>0
 |i+1=>fe (iz h i) (h i)
def afI(a:Z):fe 0 a=a.natAbs:=by unfold fe;rw[show(0:Z).natAbs=0 from rfl,aah]
def yy{h:O->Z}{k:O}(a:∀i,i<k-> -2000<=h i/\h i<=2000):∀i,i<=k->0<=iz h i/\iz h i<=2000
 |0,_=>by show 0<=(0:Z)/\(0:Z)<=2000;omega
 |i+1,c=>by
  have d:=yy a i (by omega);have e:=a i (by omega);show 0<=(zE (iz h i).natAbs (h i).natAbs:Z)/\(zE (iz h i).natAbs (h i).natAbs:Z)<=2000
  refine⟨by omega,?_⟩;by_cases b:(iz h i).natAbs=0
  ·rw[b,aah]
   omega
  ·have:=Nat.gcd_le_left (h i).natAbs (show 0<(iz h i).natAbs by omega)
   omega
def FT:aK θ (Ba fe):=az (az bt VQ) akm
def FU:aK θ (uT yI tI):=az (az bt MG) MQ
def rR(T:E Wh):O->Z:=λi=>Y T i 0
def k7(T:E Wh):O->Z:=λi=>aj a7 (Y T i 0-Y T 0 0)
def aof{T:E Wh}{i:O}(a:i<T.length):rR T i=T[i].s:=by unfold rR;rw[rY a];rfl
def vS{T:E Wh}(h:bH T){i:O}(a:i<T.length): -1000<=Y T i 0/\Y T i 0<=1000:=by have e:Y T i 0=T[i].s:=aof a;rw[e];exact(vm (rU h) (ko a)).1
def ao1(m:O)(f:ω)(T:E Wh)(d:bH T):cp θ 1 (.block 0 (.loop (a4 0 Kf))) (bD 27 (BN .normal) 1 (CX T.length 0 0) (p5 m f T.length (Y T)) (λa=>a .normal (aw 0 27 [(5,.v (ι (iz (rR T) T.length)))]) (j4 m f))):=by
 refine dQ FT (n:=100) (m:=1) (lv:=BN) (λi=>CX T.length (iz (rR T) i) i) (λ_=>p5 m f T.length (Y T)) (λ_=>True) T.length (λ_=>K) (du rfl rfl rfl) (aR _) trivial λa Q g i _ p=>⟨cT _ _ _,?_⟩
 have e:=kd (rU d);rw[am5];refine ay (λb=>?_) λb=>?_
 ·have b:=aL b
  have c:i<T.length:=by omega
  rw[show 0+a5 (i:Z)=i by omega,bR (x:=(i:Z)+1) (by omega)];have q:=yy (h:=rR T) (k:=T.length) (λj l=>by have:=vS d l;show-2000<=Y T j 0/\Y T j 0<=2000;omega) i (by omega);have r:=vS d c;refine ag (by simp only[F,ah,aa,aB];exact⟨by omega,by omega,b9.2 (by omega),b9.2 (by omega)⟩) (Φ ⟨i+1,⟨rfl,c,trivial⟩,rfl,ab.refl _⟩)
 ·have b:=cE b
  have:i=T.length:=by omega
  subst this;refine Φ ⟨_,ab.refl _,?_⟩;rw[aP rfl];exact g
def ao2(m:O)(f:ω)(T:E Wh)(d:bH T):cp θ 1 (.block 0 (.loop (a4 0 Kg))) (bD 28 (BO .normal) 1 (CY T.length 0 0) (p6 m f T.length (Y T)) (λa=>a .normal (aw 0 28 [(5,.v (ι (iz (rR T) T.length)))]) (j4 m f))):=by
 refine dQ FT (n:=100) (m:=1) (lv:=BO) (λi=>CY T.length (iz (rR T) i) i) (λ_=>p6 m f T.length (Y T)) (λ_=>True) T.length (λ_=>K) (du rfl rfl rfl) (aR _) trivial λa Q g i _ p=>⟨cT _ _ _,?_⟩
 have e:=kd (rU d);rw[am6];refine ay (λb=>?_) λb=>?_
 ·have b:=aL b
  have c:i<T.length:=by omega
  rw[show a5 (i:Z)=i by omega,bR (x:=(i:Z)+1) (by omega)];have q:=yy (h:=rR T) (k:=T.length) (λj l=>by have:=vS d l;show-2000<=Y T j 0/\Y T j 0<=2000;omega) i (by omega);have r:=vS d c;refine ag (by simp only[F,ah,aa,aB];exact⟨by omega,by omega,b9.2 (by omega),b9.2 (by omega)⟩) (Φ ⟨i+1,⟨rfl,c,trivial⟩,rfl,ab.refl _⟩)
 ·have b:=cE b
  have:i=T.length:=by omega
  subst this;refine Φ ⟨_,ab.refl _,?_⟩;rw[aP rfl];exact g
def Av{T:E Wh}(a:bH T){i:O}(b:i<T.length): -2000<=k7 T i/\k7 T i<=2000:=by have c:=vS a b;have d:=vS a (i:=0) (by omega);unfold k7;rw[bR (by omega)];omega
def ao3(m:O)(f:ω)(T:E Wh)(d:bH T):cp θ 1 (.block 0 (.loop (a4 0 Ki))) (bD 32 (BP .normal) 1 (CZ T.length 0 0) (p5 m f T.length (Y T)) (λa=>a .normal (aw 0 32 [(5,.v (ι (iz (k7 T) T.length)))]) (j4 m f))):=by
 refine dQ FT (n:=100) (m:=1) (lv:=BP) (λi=>CZ T.length (iz (k7 T) i) i) (λ_=>p5 m f T.length (Y T)) (λ_=>True) T.length (λ_=>K) (du rfl rfl rfl) (aR _) trivial λa Q g i _ p=>⟨cT _ _ _,?_⟩
 have e:=kd (rU d);rw[am7];refine ay (λb=>?_) λb=>?_
 ·have b:=aL b
  have c:i<T.length:=by omega
  rw[show 0+a5 (i:Z)=i by omega,bR (x:=(i:Z)+1) (by omega)];have q:=yy (h:=k7 T) (k:=T.length) (λj l=>Av d l) i (by omega);have r: -2000<=aj a7 (Y T i 0-Y T 0 0)/\aj a7 (Y T i 0-Y T 0 0)<=2000:=Av d c;refine ag (by simp only[F,ah,aa,aB];exact⟨by omega,by omega,by omega,by omega,b9.2 (by omega),b9.2 (by omega)⟩) (Φ ⟨i+1,⟨rfl,c,trivial⟩,rfl,ab.refl _⟩)
 ·have b:=cE b
  have:i=T.length:=by omega
  subst this;refine Φ ⟨_,ab.refl _,?_⟩;rw[aP rfl];exact g
def RW{T:E Wh}:iz (k7 T) 1=0:=by
 show fe 0 (k7 T 0)=0
 rw[afI];unfold k7;rw[Int.sub_self];rfl
def ao4(m:O)(f:ω)(T:E Wh)(d:bH T):cp θ 1 (.block 0 (.loop (a4 0 Kj))) (bD 33 (BQ .normal) 1 (vO T.length 0 0) (p6 m f T.length (Y T)) (λa=>a .normal (aw 0 33 [(5,.v (ι (iz (k7 T) T.length)))]) (j4 m f))):=by
 have o:vO T.length 0 0=vO T.length (iz (k7 T) (0+1)) 0:=by rw[bF,RW]
 rw[o];refine dQ FT (n:=100) (m:=1) (lv:=BQ) (λi=>vO T.length (iz (k7 T) (i+1)) i) (λ_=>p6 m f T.length (Y T)) (λi=>i=0\/i<T.length) T.length (λ_=>K) (du rfl rfl rfl) (aR _) (.inl rfl) λa Q g i p t=>⟨cT _ _ _,?_⟩
 have l:=kd (rU d);rw[am8];refine ay (λb=>?_) λb=>?_
 ·have b:=aL b
  have c:i+1<T.length:=by omega
  rw[show a5 ((i:Z)+1)=i+1 by omega,bR (x:=(i:Z)+1+1) (by omega)];have u:=yy (h:=k7 T) (k:=T.length) (λj q=>Av d q) (i+1) (by omega);have v: -2000<=aj a7 (Y T (i+1) 0-Y T 0 0)/\aj a7 (Y T (i+1) 0-Y T 0 0)<=2000:=Av d c;refine ag (by simp only[F,ah,aa,aB];exact⟨by omega,by omega,by omega,by omega,b9.2 (by omega),b9.2 (by omega)⟩) (Φ ⟨i+1,⟨rfl,by omega,.inr c⟩,rfl,ab.refl _⟩)
 ·have b:=cE b
  have e:iz (k7 T) (i+1)=iz (k7 T) T.length:=by
   by_cases r:T.length=0
   ·have:i=0:=by omega
    subst this;rw[r,bF,RW];rfl
   ·have:i+1=T.length:=by omega
    rw[this]
  refine Φ ⟨_,ab.refl _,?_⟩;rw[aP rfl];rw[<-e]at g;exact g
def jH(L:E Wh):Z:=bif yI L then iz (rR (tI L)) (tI L).length else-1
def jy(L:E Wh):Z:=bif yI L then iz (k7 (tI L)) (tI L).length else-1
def nN(v:E Wh->Z):E SA->χ FR
 |[.row m g]=>γ {val:=.v (.int .i64 (v (V (ξ g) m))),ap:=[ak m g,ο (m<=2^38)]}
 |_=>ζ
def Gu{m:O}{g:O->E τ}{v:E Wh->Z}{x:Z}{ob:E κ}{fn:cA}{Λ:O->χ Sum}(e:ak m g=ε)(k:m<=2^38){P:Prop}(c:P)(a:P->aJ ob=ε)(f:yI (V (ξ g) m)=η->v (V (ξ g) m)= -1)(h:yI (V (ξ g) m)=ε->v (V (ξ g) m)=x)(i:ad θ (uT yI tI) Λ 100 fn [.sl 0 9 0 0 m ζ] (j4 m (ξ g)) (af 1)=Ω [Θ (0+m) m,ak m λq=>J (ξ g) (0+q),ο (m<=274877906944)] (bif !yI (V (ξ λq=>J (ξ g) (0+q)) m)then .out .ret [.v (ι (-1))] [.row η m 9 (J (ξ g)) 112]else Ω ob (.out .ret [.v (ι x)] [.row η m 9 (J (ξ g)) 112]))):aC (ad θ (uT yI tI) Λ 100 fn [.sl 0 9 0 0 m ζ] (j4 m (ξ g)) (af 1)) (dV (bI bP [.row m g] []) {val:=.v (ι (v (V (ξ g) m))),ap:=[ak m g,ο (m<=2^38)]}):=by
 rw[i];simp only[bV,cb];refine ag (by simp only[F,ah,aa,aB,aT,bw,bo];omega) (ay (λq=>?_) λq=>?_)
 ·have b:yI (V (ξ g) m)=η:=by simpa using q
  exact Φ ⟨_,rfl,by rw[f b],.cons (Ξ.row λj d=>(aN e j d).symm) .nil⟩
 ·have b:yI (V (ξ g) m)=ε:=by simpa using q
  exact ag (a c) (Φ ⟨_,rfl,by rw[h b],.cons (Ξ.row λj d=>(aN e j d).symm) .nil⟩)
def akP:au θ 77 (am bP (nN jH)):=by
 refine bY FU func77 rfl λd i a b=>?_
 unfold nN at a;split at a
 ·rename_i m g
  cases a;simp only[F]at b;obtain⟨c,e,_⟩:=b;have f:=aL e;refine⟨j4 m (ξ g),_,100,.cons (Ξ.row λj h=>aN c j h) .nil,cz (by kernel_rfl) (ao1 m (ξ g) (tI (V (ξ g) m)) (vR _)),?_⟩;refine Gu c f trivial (λ_=>?_) (λq=>by rw[jH,q];rfl) (λq=>by rw[jH,q];rfl) (ars yI tI m (ξ g) _ _ _);simp only[bV,cb,F,ah,aa];exact cg ⟨rfl,ab.refl _⟩
 ·cases a
def akQ:au θ 44 (am bP (nN jH)):=by
 refine bY FU func44 rfl λd i a b=>?_
 unfold nN at a;split at a
 ·rename_i m g
  cases a;simp only[F]at b;obtain⟨c,e,_⟩:=b;have f:=aL e;refine⟨j4 m (ξ g),_,100,.cons (Ξ.row λj h=>aN c j h) .nil,cz (by kernel_rfl) (ao2 m (ξ g) (tI (V (ξ g) m)) (vR _)),?_⟩;refine Gu c f trivial (λ_=>?_) (λq=>by rw[jH,q];rfl) (λq=>by rw[jH,q];rfl) (art yI tI m (ξ g) _ _ _);simp only[bV,cb,F,ah,aa];exact cg ⟨rfl,ab.refl _⟩
 ·cases a
def akh:au θ 76 (am bP (nN jy)):=by
 refine bY FU func76 rfl λd i a b=>?_
 unfold nN at a;split at a
 ·rename_i m g
  cases a;simp only[F]at b;obtain⟨c,e,_⟩:=b;have f:=aL e;refine⟨j4 m (ξ g),_,100,.cons (Ξ.row λj h=>aN c j h) .nil,cz (by kernel_rfl) (ao3 m (ξ g) (tI (V (ξ g) m)) (vR _)),?_⟩;refine Gu c f trivial (λ_=>?_) (λq=>by rw[jy,q];rfl) (λq=>by rw[jy,q];rfl) (arv yI tI m (ξ g) _ _ _);simp only[bV,cb,F,ah,aa];exact cg ⟨rfl,ab.refl _⟩
 ·cases a
def aki:au θ 43 (am bP (nN jy)):=by
 refine bY FU func43 rfl λd i a b=>?_
 unfold nN at a;split at a
 ·rename_i m g
  cases a;simp only[F]at b;obtain⟨c,e,_⟩:=b;have f:=aL e;refine⟨j4 m (ξ g),_,100,.cons (Ξ.row λj h=>aN c j h) .nil,cz (by kernel_rfl) (ao4 m (ξ g) (tI (V (ξ g) m)) (vR _)),?_⟩;refine Gu c f trivial (λ_=>?_) (λq=>by rw[jy,q];rfl) (λq=>by rw[jy,q];rfl) (arw yI tI m (ξ g) _ _ _);simp only[bV,cb,F,ah,aa];exact cg ⟨rfl,ab.refl _⟩
 ·cases a
def Kq:E τ->χ (τ×E κ)
 |[.nilIface]=>γ (.bool ε,[])
 |_=>ζ
def akg:au θ 202 (aS Kq):=by
 refine nl (λargs w=>enters 202 _ Tryz.func202 (by kernel_rfl) args w) λc x d a f w _=>?_
 unfold Kq at a;split at a
 ·simp only[ar,cG]at a
  obtain⟨rfl,rfl⟩:=a;refine(afe w).mono ?_;rintro e g ⟨rfl,h⟩;exact⟨rfl,h.os,h.tape,h.output,h.size,λk b _=>h.block k b⟩
 ·cases a
def KX(gf:Z->Z->Z):aE:=ext fm 142 (am [.val,.val] (uk gf))
def ard(gf:Z->Z->Z)(a b:Z)(c:κ):let d:=(rO [AV.Ψ [vI (gf a b),AV.v Value.nilIface]] []);let e:=(-1000000000000:Z);let f:=(1000000000000:Z);let g:=[aD a e f,aD b e f];ad θ (KX gf) K 100 f201 [.v (ι a),.v (ι b),.v (.bool c)] [] (af 0)
 =bif !aD a (6:Z) (240:Z)then ao.err else bif !aD b (6:Z) (240:Z)then ao.err else bif c then bif ο (b>=a)then ao.err else Ω g d else Ω g d:=by intros;kernel_rfl
def I4(d:Z->Z->κ->κ)(gf:Z->Z->Z):E SA->χ FR
 |[.v (.int .i64 a),.v (.int .i64 b),.v (.bool c)]=>γ {val:=.Ψ [.v (ι (gf a b)),.v .nilIface],ap:=[d a b c]}
 |_=>ζ
def af_:aK θ (KX fe):=az jz VQ
def akJ:au θ 201 (am [.val,.val,.val] (I4 jn fe)):=by
 refine bY af_ Tryz.func201 rfl λk n e f=>?_
 unfold I4 at e;split at e
 ·rename_i a b c
  cases e;simp only[F]at f;obtain⟨h,_⟩:=f;refine⟨[],K,100,.nil,dq _,?_⟩;show aC (ad θ (KX fe) K 100 f201 [.v (ι a),.v (ι b),.v (.bool c)] [] (af 0)) _
  rw[ard];rw[jn,aM,aM]at h;obtain⟨g,i,j⟩:=h;have o:=b9.1 g;have p:=b9.1 i;have d:aC (Ω [aD a (-1000000000000:Z) (1000000000000:Z),aD b (-1000000000000:Z) (1000000000000:Z)] (ao.out Ex.ret [AV.Ψ [AV.v (jf a7 (fe a b)),AV.v Value.nilIface]] [])) (dV (bI [.val,.val,.val] [.v (ι a),.v (ι b),.v (.bool c)] []) {val:=.Ψ [.v (ι (fe a b)),.v .nilIface],ap:=[jn a b c]}):=
   ag (by simp only[F,ah,aa];exact⟨b9.2 (by omega),b9.2 (by omega)⟩) (Φ ⟨_,rfl,rfl,.nil⟩)
  refine cL (by rw[g];rfl) (cL (by rw[i];rfl) ?_);cases c with
  |true=>refine eS rfl (cL ?_ d);rw[dD]at j;simpa using j
  |false=>exact cL rfl d
 ·cases e
def aq1(a b:Z):ad θ g0 K 100 f203 [.v (ι a),.v (ι b)] [] (af 0)=rO [AV.agg [vI a,vI 0,vI 0,vI 0,vI 0,vI 0,vI b,vI 0]] []:=by kernel_rfl
def IZ:E SA->χ FR
 |[.v (.int .i64 a),.v (.int .i64 b)]=>γ {val:=.agg [.v (ι a),.v (ι 0),.v (ι 0),.v (ι 0),.v (ι 0),.v (ι 0),.v (ι b),.v (ι 0)]}
 |_=>ζ
def akl:au θ 203 (am [.val,.val] IZ):=by
 refine bY bt func203 rfl λb e a f=>?_
 unfold IZ at a;split at a
 ·rename_i c d
  cases a;refine⟨[],K,100,.nil,dq _,?_⟩;show aC (ad θ g0 K 100 f203 [.v (ι c),.v (ι d)] [] (af 0)) _
  rw[aq1];exact Φ ⟨_,rfl,rfl,.nil⟩
 ·cases a
def Jl(v:E Wh->E Wh)(t u:E Wh->κ):E SA->χ FR
 |[.row 2 g]=>match g 0,g 1 with
  |[.int .i64 a,.int .i64 b,.int .i64 c,.int .i64 d,.int .i64 e,.int .i64 f,.int .i64 h,.int .i64 i,.int .i64 j],[.int .i64 k,.int .i64 l,.int .i64 m,.int .i64 n,.int .i64 o,.int .i64 p,.int .i64 q,.int .i64 r,.int .i64 s]=>γ {val:=js (v [⟨a,⟨b,c,d,e,f,h,i,j⟩⟩,⟨k,⟨l,m,n,o,p,q,r,s⟩⟩]),new:=fR (v [⟨a,⟨b,c,d,e,f,h,i,j⟩⟩,⟨k,⟨l,m,n,o,p,q,r,s⟩⟩]),ap:=[u [⟨a,⟨b,c,d,e,f,h,i,j⟩⟩,⟨k,⟨l,m,n,o,p,q,r,s⟩⟩],t [⟨a,⟨b,c,d,e,f,h,i,j⟩⟩,⟨k,⟨l,m,n,o,p,q,r,s⟩⟩]]}
  |_,_=>ζ
 |_=>ζ
def Jk(a b:E Wh->κ):E SA->χ FR
 |[.row 2 g]=>match g 0,g 1 with
  |[.int .i64 c,.int .i64 d,.int .i64 e,.int .i64 f,.int .i64 h,.int .i64 i,.int .i64 j,.int .i64 k,.int .i64 l],[.int .i64 m,.int .i64 n,.int .i64 o,.int .i64 p,.int .i64 q,.int .i64 r,.int .i64 s,.int .i64 t,.int .i64 u]=>γ {val:=eQ,ap:=[b [⟨c,⟨d,e,f,h,i,j,k,l⟩⟩,⟨m,⟨n,o,p,q,r,s,t,u⟩⟩],!a [⟨c,⟨d,e,f,h,i,j,k,l⟩⟩,⟨m,⟨n,o,p,q,r,s,t,u⟩⟩]]}
  |_,_=>ζ
 |_=>ζ
def YJ{g:O->E τ}{a b c d e f h i k l m n o p q r s t:Z}(u:g 0=[.int .i64 a,.int .i64 b,.int .i64 c,.int .i64 d,.int .i64 e,.int .i64 f,.int .i64 h,.int .i64 i,.int .i64 k])(v:g 1=[.int .i64 l,.int .i64 m,.int .i64 n,.int .i64 o,.int .i64 p,.int .i64 q,.int .i64 r,.int .i64 s,.int .i64 t]):V (ξ g) 2=[⟨a,⟨b,c,d,e,f,h,i,k⟩⟩,⟨l,⟨m,n,o,p,q,r,s,t⟩⟩]/\ak 2 g=ε:=by
 refine⟨?_,bX.2 λj w=>?_⟩
 ·show[bm (ξ g 0),bm (ξ g 1)]=_
  unfold bm ξ;rw[u,v];rfl
 ·have w:j<2:=by simpa using w
  rcases(by omega:j=0\/j=1)with rfl|rfl
  ·rw[u];rfl
  ·rw[v];rfl
def alj:au θ 124 (am bP (Jl bv bg dS)):=by
 refine NR (λc i a=>?_) V9;unfold Jl at a;split at a
 ·rename_i g
  split at a
  ·rename_i j k l m n o p q r s t u v w x y z A d e
   cases a;obtain⟨b,f⟩:=YJ d e;refine⟨_,rfl,by simp only[b],by simp only[b],rfl,λh=>?_⟩;simp only[F,ah,aa]at h⊢;rw[b];exact⟨f,by decide,h.1,h.2⟩
  ·cases a
 ·cases a
def ali:au θ 124 (am bP (Jk bg dS)):=by
 refine NR (λb i a=>?_) V8;unfold Jk at a;split at a
 ·rename_i g
  split at a
  ·rename_i j k l m n o p q r s t u v w x y z A c d
   cases a;obtain⟨e,f⟩:=YJ c d;refine⟨_,rfl,rfl,rfl,rfl,λh=>?_⟩;simp only[F,ah,aa]at h⊢;rw[e];exact⟨f,by decide,h.1,h.2⟩
  ·cases a
 ·cases a
def K3(a:Z->Z->κ->κ)(gf:Z->Z->Z):aE:=ext (ext (ext fm 201 (am [.val,.val,.val] (I4 a gf))) 202 (aS Kq)) 203 (am [.val,.val] IZ)
def K6(c:Z->Z->κ->κ)(gf:Z->Z->Z)(d:E Wh->E Wh)(a b:E Wh->κ):aE:=ext (K3 c gf) 124 (am bP (Jl d a b))
def K4(c:Z->Z->κ->κ)(gf:Z->Z->Z)(a b:E Wh->κ):aE:=ext (K3 c gf) 124 (am bP (Jk a b))
def arD(n:Z->Z->κ->κ)(gf:Z->Z->Z)(h:E Wh->E Wh)(f g:E Wh->κ)(a b:Z)(c:κ)(d:Z):let e:=(0:Z);let i:= !ο (gf a b=e);let o:=(aj .i64 (eU b (gf a b)));let p:=(aj .i64 (a+b));let j:=[Wh.mk o (Cy.mk p e e e e e e e),Wh.mk (aj .i64 (eU p (gf a b))) (Cy.mk (aj .i64 (e-d)) e e e e e e e)];let k:=[Wh.mk o (Cy.mk (aj .i64 (a-b)) e e e e e e e),Wh.mk (aj .i64 (eU (aj .i64 (e-aj .i64 (a-b))) (gf a b))) (Cy.mk d e e e e e e e)];let l:=(b_ (h j));let m:=(b_ (h k));ad θ (K6 n gf h f g) K 100 Pw [.v (ι a),.v (ι b),.v (.bool c),.v (ι d)] [] (af 0)
 =Ω [n a b c] (bif !aD d (-300:Z) (300:Z)then rO [AV.Ψ [AV.v (dk ζ 0 0),vB η]] []else bif c then Ω [i,i,g k,f k] (rO [AV.Ψ [AV.sl 0 9 0 0 m (γ m),vB ε]] [AB.row ε m 9 (J (Y (h k))) 112])else Ω [i,i,g j,f j] (rO [AV.Ψ [AV.sl 0 9 0 0 l (γ l),vB ε]] [AB.row ε l 9 (J (Y (h j))) 112])):=by intros;kernel_rfl
def arC(i:Z->Z->κ->κ)(gf:Z->Z->Z)(f g:E Wh->κ)(a b:Z)(c:κ)(d:Z):let e:=(0:Z);let j:=[AV.Ψ [AV.v (dk ζ 0 0),vB η]];let h:= !ο (gf a b=e);let k:=(aj .i64 (eU b (gf a b)));let l:=(aj .i64 (a+b));let m:=(rO j []);let n:=[Wh.mk k (Cy.mk l e e e e e e e),Wh.mk (aj .i64 (eU l (gf a b))) (Cy.mk (aj .i64 (e-d)) e e e e e e e)];let o:=[Wh.mk k (Cy.mk (aj .i64 (a-b)) e e e e e e e),Wh.mk (aj .i64 (eU (aj .i64 (e-aj .i64 (a-b))) (gf a b))) (Cy.mk d e e e e e e e)];ad θ (K4 i gf f g) K 100 Pw [.v (ι a),.v (ι b),.v (.bool c),.v (ι d)] [] (af 0)
 =Ω [i a b c] (bif !aD d (-300:Z) (300:Z)then rO j []else bif c then Ω [h,h,g o,!f o] m else Ω [h,h,g n,!f n] m):=by intros;kernel_rfl
def KN{a b:Z}(c:aD a 6 240=ε)(d:aD b 6 240=ε):mh a b=fe a b:=by have c:=b9.1 c;have d:=b9.1 d;exact FA (by omega) (by omega)
def Te:aK θ (K3 jn fe):=az (az (az jz akJ) akg) akl
def agd:aK θ (K6 jn fe bv bg dS):=az Te alj
def agb:aK θ (K4 jn fe bg dS):=az Te ali
def Nl(a b:Z)(c:κ)(d:Z):kg a b c d=(jn a b c&&aD d (-300) 300):=by rw[kg,jn];cases aD a 6 240<;>cases aD b 6 240<;>cases c<;>cases ο (b>=a)<;>rfl
def ME{a b:Z}{c:κ}(h:jn a b c=ε):aD a 6 240=ε/\aD b 6 240=ε:=by rw[jn,aM,aM]at h;exact⟨h.1,h.2.1⟩
def tm(a b d:Z):E Wh:=[⟨aj a7 (eU b (fe a b)),⟨aj a7 (a-b),0,0,0,0,0,0,0⟩⟩,⟨aj a7 (eU (aj a7 (0-aj a7 (a-b))) (fe a b)),⟨d,0,0,0,0,0,0,0⟩⟩]
def tq(a b d:Z):E Wh:=[⟨aj a7 (eU b (fe a b)),⟨aj a7 (a+b),0,0,0,0,0,0,0⟩⟩,⟨aj a7 (eU (aj a7 (a+b)) (fe a b)),⟨aj a7 (0-d),0,0,0,0,0,0,0⟩⟩]
def Nh{a b:Z}(h:jn a b ε=ε)(d:Z):tm a b d=pi a b ε d:=by obtain⟨c,e⟩:=ME h;have f:=b9.1 c;have g:=b9.1 e;rw[tm,pi,KN c e,aZ,bR (x:=a-b) (by omega),bR (x:=0-(a-b)) (by omega),bR (x:=b-a) (by omega),show 0-(a-b)=b-a by omega]
def Ni{a b:Z}(h:jn a b η=ε)(d:Z):tq a b d=pi a b η d:=by obtain⟨c,e⟩:=ME h;rw[tq,pi,KN c e,a_]
def SO{a b:Z}{c:κ}(h:jn a b c=ε):(!ο (fe a b=0))=ε:=by obtain⟨d,e⟩:=ME h;rw[<-KN d e,eJ (SN d e)];rfl
def RQ{x:Z}(h: -9223372036854775808<=x/\x<=9223372036854775807):mY ⟨x,0,0,0,0,0,0,0⟩:=λk a=>by
 rcases(by omega:k=0\/k=1\/k=2\/k=3\/k=4\/k=5\/k=6\/k=7)with rfl|rfl|rfl|rfl|rfl|rfl|rfl|rfl
 ·exact h
 all_goals
  show-9223372036854775808<=(0:Z)/\(0:Z)<=9223372036854775807
  omega
def GU{x y s t:Z}(b: -9223372036854775808<=x/\x<=9223372036854775807)(c: -9223372036854775808<=y/\y<=9223372036854775807):dS [⟨s,⟨x,0,0,0,0,0,0,0⟩⟩,⟨t,⟨y,0,0,0,0,0,0,0⟩⟩]=ε:=cg λw a=>by
 rcases dw.1 a with rfl|a
 ·exact RQ b
 ·rcases dw.1 a with rfl|a
  ·exact RQ c
  ·cases a
def Jc(rd:Z->Z->κ->Z->E Wh)(e:Z->Z->κ->Z->κ):E SA->χ FR
 |[.v (.int .i64 a),.v (.int .i64 b),.v (.bool c),.v (.int .i64 d)]=>γ {val:=js (rd a b c d),new:=fR (rd a b c d),ap:=[e a b c d]}
 |_=>ζ
def QH(e:Z->Z->κ->Z->κ):E SA->χ FR
 |[.v (.int .i64 a),.v (.int .i64 b),.v (.bool c),.v (.int .i64 d)]=>γ {val:=eQ,ap:=[!e a b c d]}
 |_=>ζ
def V2:au θ 127 (am [.val,.val,.val,.val] (Jc gy fJ)):=by
 refine bY agd PY rfl λn o f k=>?_
 unfold Jc at f;split at f
 ·rename_i a b c d
  cases f;simp only[F]at k;obtain⟨h,_⟩:=k;refine⟨[],K,100,.nil,dq _,?_⟩;show aC (ad θ (K6 jn fe bv bg dS) K 100 Pw [.v (ι a),.v (ι b),.v (.bool c),.v (ι d)] [] (af 0)) _
  rw[arD];have l:=h;rw[fJ,Nl,aM,aM]at l;obtain⟨⟨e,j⟩,m⟩:=l;have p:=b9.1 j;have g:gy a b c d=bv (pi a b c d):=(yK (by rw[Nl,e,j];rfl)).1;have i:=SO e;refine ag (by rw[F];exact⟨e,rfl⟩) (cL (by rw[j];rfl) ?_);cases c with
  |true=>
   refine eS rfl ?_;show aC (Ω [!ο (fe a b=0),!ο (fe a b=0),dS (tm a b d),bg (tm a b d)] (.out .ret [js (bv (tm a b d))] (fR (bv (tm a b d))))) _
   rw[Nh e d];refine ag ?_ (Φ ⟨_,rfl,by rw[g];rfl,by rw[g];exact ab.refl _⟩);simp only[F,ah,aa];refine⟨i,i,?_,m⟩;rw[<-Nh e d];exact GU (nr _) (by omega)
  |false=>
   refine cL rfl ?_;show aC (Ω [!ο (fe a b=0),!ο (fe a b=0),dS (tq a b d),bg (tq a b d)] (.out .ret [js (bv (tq a b d))] (fR (bv (tq a b d))))) _
   rw[Ni e d];refine ag ?_ (Φ ⟨_,rfl,by rw[g];rfl,by rw[g];exact ab.refl _⟩);simp only[F,ah,aa];refine⟨i,i,?_,m⟩;rw[<-Ni e d];exact GU (nr _) (nr _)
 ·cases f
def apw{M:O->Prop}{w:υ}(h:aY M w):w.cell? ⟨5,0,ζ⟩=γ eT:=by obtain⟨_,l,t,c,a,b⟩:=h (5,QW) (by simp[zd]);have a:w.heap[5]?=γ (.cells (List.toArray l) t c):=a;have b:l=[eT]:=b;subst b;simp[pI,a]
def amv{a b d:Z}{c:κ}(w:υ)(i:w.cell? ⟨5,0,ζ⟩=γ eT)(h:jn a b c=η):aH θ 127 #[.int .i64 a,.int .i64 b,.bool c,.int .i64 d] w λe w'=>e=.returned (.tuple #[.slice ζ 0 0,.bool η])/\Below w.heap.size w w':=by
 have k:=aiL w h;have l:=kT i
 go_enter PY,ntmps127
 go_wp2_with fail
 go_at_call 201
 refine k.mono ?_;rintro e m ⟨v,rfl,j,f⟩;have n:=afd v m ((f.cell l).trans i) j;clear j
 go_wp2_with fail
 go_at_call 202
 refine n.mono ?_;rintro e o ⟨rfl,g⟩
 go_wp2_with fail
 go_ret2
 exact⟨rfl,f.trans (g.mono f.size)⟩
def akY:au θ 127 (am [.val,.val,.val,.val] (QH fJ)):=by
 refine nk enters PY (by kernel_rfl) λx C r v=>?_
 unfold QH at r;split at r
 ·rename_i a b c d
  cases r;simp only[F]at v;obtain⟨h,_⟩:=v;refine⟨[],.nil,λM p w y hM q g l=>?_⟩;cases f:jn a b c with
  |true=>
   refine(nS (Λ:=K) (n:=100) (Q:=dV (bI [.val,.val,.val,.val] [.v (ι a),.v (ι b),.v (.bool c),.v (ι d)] []) {val:=eQ,ap:=[!fJ a b c d]}) agb mixed enters PY (dq _) hM ?_ q g l).mono λ_ _ h=>h
   show(ad θ (K4 jn fe bg dS) K 100 Pw [.v (ι a),.v (ι b),.v (.bool c),.v (ι d)] [] (af 0)).ok _
   refine aC.out ?_;rw[arC];refine ag (by rw[F];exact⟨f,rfl⟩) ?_;refine ay (λ_=>Φ ⟨_,rfl,rfl,.nil⟩) λs=>?_
   have s:aD d (-300) 300=ε:=by simpa using s
   have G:=b9.1 s;have t:=SO f;have u:=h;rw[fJ,Nl,f,s]at u;cases c with
   |true=>
    refine eS rfl ?_;show aC (Ω [!ο (fe a b=0),!ο (fe a b=0),dS (tm a b d),!bg (tm a b d)] (.out .ret [eQ] [])) _
    refine ag ?_ (Φ ⟨_,rfl,rfl,.nil⟩);simp only[F,ah,aa];refine⟨t,t,GU (nr _) (by omega),?_⟩;rw[Nh f d];simpa using u
   |false=>
    refine cL rfl ?_;show aC (Ω [!ο (fe a b=0),!ο (fe a b=0),dS (tq a b d),!bg (tq a b d)] (.out .ret [eQ] [])) _
    refine ag ?_ (Φ ⟨_,rfl,rfl,.nil⟩);simp only[F,ah,aa];refine⟨t,t,GU (nr _) (nr _),?_⟩;rw[Ni f d];simpa using u
  |false=>
   match p,q with
   |[H,I,L,v4],q=>
    simp only[hZ,ax,VR,aa]at q;obtain⟨rfl,rfl,rfl,rfl⟩:=q;refine(amv w (apw g.eC) f).mono ?_;rintro e B ⟨rfl,o⟩;have j:Fr (λk=>w.heap.size<=k) w B:=⟨o.os,o.tape,o.output,o.size,λk m _=>o.block k m⟩;refine⟨_,eQ,_,y,rfl,⟨_,rfl,rfl,.nil⟩,?_,?_,j.mono λk _ m=>hM k m,Le.refl _,l⟩
    ·simp only[VR]
     exact⟨[_,_],rfl,by simp only[ax,VR,aa]⟩
    ·exact⟨λi=>(g.br i).of_block λk m _=>j.block _ (g.lt i k m) (by have:=g.lt i k m;omega),g.sep,g.own,λi b o=>eE (g.lt i b o) j.size,g.eC.fr (j.mono λk _ m=>hM k m)⟩
 ·cases r
def Jw(rd:Z->Z->κ->Z->E Wh)(e:Z->Z->κ->Z->κ):E SA->χ UR
 |[.v (.int .i64 a),.v (.int .i64 b),.v (.bool c),.v (.int .i64 d)]=>γ ⟨e a b c d,rd a b c d,[]⟩
 |_=>ζ
def amy{a b d:Z}{c:κ}(h:fJ a b c d=η):gy a b c d=[]:=by
 cases e:kg a b c d with
 |false=>exact(Nj e).1
 |true=>rw[(yK e).1];rw[(yK e).2]at h;exact Oc h
def ajx:au θ 127 (rS [.val,.val,.val,.val] (Jw gy fJ)):=by
 refine NT rfl V2 akY λg u e h=>?_
 unfold Jw at e;split at e
 ·rename_i a b c d
  cases e;refine⟨rfl,?_⟩;cases f:fJ a b c d with
  |true=>exact .inl ⟨rfl,[fJ a b c d],rfl,by simp only[F,ah,aa];exact f⟩
  |false=>exact .inr ⟨rfl,amy f,[!fJ a b c d],rfl,by simp only[F,ah,aa];rw[f];rfl⟩
 ·cases e
def mA(c:κ)(_:E Wh)(r:E ψ):χ (E Wh×E ψ):=
 bif cP 3 r&&fJ (aI r 0) (aI r 1) c (aI r 2)then γ (gy (aI r 0) (aI r 1) c (aI r 2),[111,107])else ζ
def de.after{D:O}{L:E Wh}{r:χ (E Wh×E ψ)}{w a:υ}(f:Fr (aq w) w a){e:Ending}{w':υ}(h:de D L r a e w'):de D L r w e w':=
 ⟨(f.oh (D:=D)).trans (h.1.mono λ_ _ b=>b.elim (λx=>.inl (cD f.size x)) .inr),h.2⟩
def de.die{D:O}{L:E Wh}{w a:υ}(b:dM D L w)(f:Fr (aq w) w a):de D L ζ w oX a:=⟨f.oh,rfl,b.fr f⟩
def de.CF{D:O}{L:E Wh}{w a:υ}{t:E ψ}(b:dM D L w)(c:bH L)(f:Fr (aq w) w a):de D L (γ (L,t)) w (.returned (.string ⟨t.toArray⟩)) a:=⟨f.oh,rfl,b.fr f,c⟩
def de.po{D:O}{L T:E Wh}{t:E ψ}{w w':υ}{e:Ending}(h:de D L (γ (T,t)) w e w'):e=.returned (.string ⟨t.toArray⟩)/\de D L (γ (T,t)) w (.returned (.string ⟨t.toArray⟩)) w':=by have:=h.2.1;exact⟨this,h.1,rfl,h.2.2⟩
def de.qk{D:O}{L:E Wh}{w w':υ}{e:Ending}(h:de D L ζ w e w'):e=oX/\de D L ζ w oX w':=⟨h.2.1,h.1,rfl,h.2.2⟩
noncomputable abbrev Fb:cA:=f66
noncomputable def u1:a9:=Fb.body.getD .skip
noncomputable def ql:aU a6:=UG (pb (rx (rx u1)))
def bRi:Fb.body=γ (.seq (pb u1) (.seq (pb (rx u1)) (.seq (.region 2 ql ε) (rx (rx (rx u1)))))):=by kernel_rfl
def Bb(a:Z->ρ->κ)(b:ρ->O->Z)(rd:Z->Z->κ->Z->E Wh)(c:Z->Z->κ->Z->κ):aE:=ext (ext (ext g0 68 (am [.val,.val] (zW a b))) 127 (rS [.val,.val,.val,.val] (Jw rd c))) 62 G7
def agf:aK θ (Bb e8 fq gy fJ):=az (az (az bt MN) ajx) VI
def K7(a:Z->ρ->κ)(b:ρ->O->Z)(rd:Z->Z->κ->Z->E Wh)(c:Z->Z->κ->Z->κ):aE:=ext (ext (ext g0 68 (am [.val,.val] (zW a b))) 127 (am [.val,.val,.val,.val] (Jc rd c))) 62 G7
def age:aK θ (K7 e8 fq gy fJ):=az (az (az bt MN) V2) VI
def ap4(d:Z->ρ->κ)(a:ρ->O->Z)(rd:Z->Z->κ->Z->E Wh)(e:Z->Z->κ->Z->κ)(s:ρ)(c:κ)(n h:O)(f:ω):let g:=(rd (a s 0) (a s 1) c (a s 2));let b:=(b_ g);ad θ (K7 d a rd e) K 100 Fb [.ptr 0 1 0 0,.v (.string s),.v (.bool c)] (dI n h f) (af 2)
 =Ω [d (3:Z) s,Δ (aW s) 4294967281,e (a s 0) (a s 1) c (a s 2)] (rO [AV.v (.string tf)] [AB.cells [AV.sl 2 9 0 0 b (γ b)] 30,AB.row η n 9 (J f) 112,AB.row ε b 9 (J (Y g)) 112]):=by intros;kernel_rfl
abbrev Az:AV:=.v (.string ⟨#[]⟩)
def N8(s:ρ)(c:κ):E AV:=(([.ptr 0 1 0 0,.v (.string s),.v (.bool c)]:E AV)++ez 22 (AV.v aX)).set 6 Az
def Yh(s:ρ)(c:κ):E AV:=(((N8 s c).set 7 (.own 2 3)).set 8 (.v (.string s))).set 9 (.own 2 3)
def Ue(a:ρ->O->Z)(s:ρ)(n b:O)(f:ω):E AB:=dI n b f++[.row ε 3 1 (λj=>[.int .i64 (a s j)]) 3]
def ap5(d:Z->ρ->κ)(e:ρ->O->Z)(rd:Z->Z->κ->Z->E Wh)(g:Z->Z->κ->Z->κ)(s:ρ)(c:κ)(n b:O)(f:ω):let a:=AV.v aX;a0 θ (Bb d e rd g) 100 K (pb u1) ([.ptr 0 1 0 0,.v (.string s),.v (.bool c)]++ez 22 (.v aX)) (dI n b f) pc
 =ao.out .normal [AV.ptr 0 1 0 0,AV.v (.string s),AV.v (.bool c),a,a,a,AV.v (.string (a8 (bj []))),a,a,a,a,a,a,a,a,a,a,a,a,a,a,a,a,a,a] (dI n b f):=by intros;kernel_rfl
def ap6(b:Z->ρ->κ)(d:ρ->O->Z)(rd:Z->Z->κ->Z->E Wh)(g:Z->Z->κ->Z->κ)(s:ρ)(c:κ)(n e:O)(f:ω):let a:=AV.v aX;a0 θ (Bb b d rd g) 100 K (pb (rx u1)) (N8 s c) (dI n e f) pc
 =Ω [b (3:Z) s,Δ (aW s) 4294967281] (ao.out .normal [AV.ptr 0 1 0 0,AV.v (.string s),AV.v (.bool c),a,a,a,Az,AV.own 2 3,AV.v (.string s),AV.own 2 3,a,a,a,a,a,a,a,a,a,a,a,a,a,a,a] [AB.cells [AV.sl 1 9 0 0 n (γ e)] 30,AB.row η n 9 (J f) 112,AB.row ε 3 1 (λj=>[ι (d s j)]) 3]):=by intros;kernel_rfl
def ap7(e:Z->ρ->κ)(a:ρ->O->Z)(rd:Z->Z->κ->Z->E Wh)(b:Z->Z->κ->Z->κ)(s:ρ)(c:κ)(n d:O)(f:ω):(j0 θ (Bb e a rd b) ql.toList (ql.toList.take 14) (Yh s c) (Ue a s n d f) [] λT' H' tr=>cond (jx ql.toList tr.reverse&&uB 14 ql.toList) (.out .normal T' H') .err)=ao.out .normal [AV.ptr 0 1 0 0,AV.v (.string s),AV.v (.bool c),AV.v aX,AV.v aX,AV.v aX,Az,AV.own 2 3,AV.v (.string s),AV.own 2 3,AV.ptr 0 1 0 0,AV.own 2 3,AV.ptr 2 1 0 0,vI (a s 0),AV.own 2 3,AV.ptr 2 1 1 0,vI (a s 1),AV.v (.bool c),AV.own 2 3,AV.ptr 2 1 2 0,vI (a s 2),AV.Ψ [AV.sl 3 9 0 0 (b_ (rd (a s 0) (a s 1) c (a s 2))) (γ (b_ (rd (a s 0) (a s 1) c (a s 2)))),AV.v (.bool (b (a s 0) (a s 1) c (a s 2)))],AV.sl 3 9 0 0 (b_ (rd (a s 0) (a s 1) c (a s 2))) (γ (b_ (rd (a s 0) (a s 1) c (a s 2)))),AV.v (.bool (b (a s 0) (a s 1) c (a s 2))),AV.v aX] [AB.cells [AV.sl 1 9 0 0 n (γ d)] 30,AB.row η n 9 (J f) 112,AB.row ε 3 1 (λj=>[ι (a s j)]) 3,AB.row η (b_ (rd (a s 0) (a s 1) c (a s 2))) 9 (J (Y (rd (a s 0) (a s 1) c (a s 2)))) 112]:=by kernel_rfl
def ahj:ql.toList[14]?=γ (ql.toList.getD 14 default):=by kernel_rfl
noncomputable def rV(o:a6):aU ae:=match o.op with| .call c=>c.argTypes|_=> #[]
def UH:(ql.toList.getD 14 default).guard=ζ/\(ql.toList.getD 14 default).op=.call ⟨.value (.func 62),#[.tmp 10,.tmp 22,.tmp 23],rV (ql.toList.getD 14 default)⟩:=⟨by kernel_rfl,by kernel_rfl⟩
def Ca{a b:κ}(c:a=ε)(d:b=ε):aJ [a,b]=ε:=by subst c d;rfl
def ob3{a b c:κ}(d:a=ε)(e:b=ε)(f:c=ε):aJ [a,b,c]=ε:=by subst d e f;rfl
def Vp{s:ρ}(h:cP 3 s.data.toList=ε):e8 3 s=ε:=h
def Rs{D:O}{L:E Wh}(c:κ)(s:ρ){w:υ}(o:dM D L w)(p:aY (cj w D) w)(hs:s.size<4294967281)(C:∀a b d,fJ a b c d=ε->bH (gy a b c d)):aH θ 66 #[.pointer (γ ⟨D,0,ζ⟩),.string s,.bool c] w (de D L (mA c L s.data.toList) w):=by
 unfold mA;have g:Δ s.size 4294967281=ε:=by rw[bS];exact hs
 cases l:cP 3 s.data.toList with
 |false=>
  have i:=xa s 3 (aR _) w p.nw hs;rw[l]at i;clear hs C l g;have mixed:=mixed
  go_enter aaH,ntmps66
  go_wp2_with (go_at_call 68;refine i.mono ?_;rintro e w1 ⟨M,N⟩;obtain rfl:=M)
  exact⟨rfl,de.die o N⟩
 |true=>
  rw[dD];cases r:fJ (aI s.data.toList 0) (aI s.data.toList 1) c (aI s.data.toList 2)with
  |true=>
   refine adZ (vs:=[.string s,.bool c]) (T:=gy (aI s.data.toList 0) (aI s.data.toList 1) c (aI s.data.toList 2)) (t:=[111,107]) age aaH o p (λh=>?_) (C _ _ _ r);show(ad θ (K7 e8 fq gy fJ) K 100 Fb [.ptr 0 1 0 0,.v (.string s),.v (.bool c)] (dI L.length h (Y L)) (af 2)).ok _
   rw[ap4];refine(ag (ob3 (Vp l) g r) ⟨?_⟩).out;exact⟨rfl,2,_,rfl,rfl⟩
  |false=>
   obtain⟨h,ν,G,j,P⟩:=Au o p;have H:=G.1;refine afH (vals:=[.pointer (γ ⟨D,0,ζ⟩),.string s,.bool c]) (avs:=[.ptr 0 1 0 0,.v (.string s),.v (.bool c)]) (Ta:=N8 s c) (T:=Yh s c) (Ha:=dI L.length h (Y L)) (H1:=Ue fq s L.length h (Y L)) agf aaH bRi (λk R=>.inl R) ⟨?_,rfl,rfl,trivial⟩ P j ?_ ?_ ⟨14,λ_ u v=>bN u (.tmp 10)=.ptr 0 1 0 0/\bN u (.tmp 23)=.v (.bool η)/\v.getD 0 .gone=.cells [.sl 1 9 0 0 L.length (γ h)] 30/\v.getD 1 .gone=.row η L.length 9 (J (Y L)) 112,_,62,#[.tmp 10,.tmp 22,.tmp 23],_,?_,ahj,UH.1,UH.2,λargs w=>enters _ _ Tryz.func62 rfl args w,by kernel_rfl,?_⟩
   ·simp only[VR]
    exact⟨_,H,rfl⟩
   ·show(a0 θ (Bb e8 fq gy fJ) 100 K (pb u1) ([.ptr 0 1 0 0,.v (.string s),.v (.bool c)]++ez 22 (.v aX)) (dI L.length h (Y L)) pc).ok _
    rw[ap5];exact⟨rfl,rfl,rfl⟩
   ·rw[ap6]
    refine(ag (Ca (Vp l) g) ⟨?_⟩).out;exact⟨rfl,rfl,rfl⟩
   ·rw[ap7]
    refine⟨rfl,?_,rfl,rfl⟩;show AV.v (.bool _)=_
    exact congrArg (λq=>AV.v (.bool q)) r
   ·rintro u v ⟨S,U,W,X⟩ w' ν' f m n hf _
    match f,m with
    |[x,y,z],m=>simp only[eD,kp,ax,aa]at m;obtain⟨A,_,B⟩:=m;rw[S]at A;rw[U]at B;have n:=n (by kernel_rfl);simp only[VR]at A B;obtain⟨b,I,rfl⟩:=A;subst B;rw[n.2 _ _ H]at I;cases I;exact ahV G rfl W X n hf y
def R_{Γ:aE}(l:aK θ Γ)(n m0:O){M:O->Prop}{m:υ}{f:Nu}(hM:∀k,m.heap.size<=k->M k)(g:∀i b,f i=γ b->i<m0){d:dx}{Q:Ex->E AV->E AB->Prop}{z:a9}{Qw:Exit->aV->υ->Prop}(u:∀T H a w ν,(d .normal T H).ok Q->SR M m f T H a w ν->a.defers=[]->z.wp θ Qw a w):∀(cs:E a9) T H a w ν,(fc θ Γ n cs T H d).ok Q->SR M m f T H a w ν->a.defers=[]->(kC cs z).wp θ Qw a w
 |[],T,H,a,w,ν,h,o,p=>u T H a w ν h o p
 |c::cs,T,H,a,w,ν,h,o,p=>by
  refine wF (wp_mono (sM l mixed enters n m0 K c (cT _ _ _) M m f hM g T H _ Q a w ν h o p) ?_);rintro e v x ⟨y,A,B,q,rfl,r,s,t⟩;cases y with
  |normal=>exact R_ l n m0 hM g u cs A B v x q r s t
  |ret=>exact r.elim
  |exit j=>exact r.elim
def an4{D n c:O}{L:E Wh}{ν a:Nu}{w w':υ}(A:Eo w D c ν)(f:Le ν a)(u:Fr (cj w D) w w')(B:n=L.length)(C:BR a 0 (.cells [.sl 1 9 0 0 n (γ c)] 30) w')(k:BR a 1 (.row η n 9 (J (Y L)) 112) w'):dM D L w':=by
 subst B;obtain⟨G,H,I⟩:=A;obtain⟨v,m,x⟩:∃v,w'.heap[D]?=γ (.cells #[v] 30 (0,0))/\VR a (.sl 1 9 0 0 L.length (γ c)) v:=by
  obtain⟨b,l,m,_,q,e⟩:=C;rw[f _ _ G]at m;cases m
  match l,e with
  |[v],e=>exact⟨v,q,e.1⟩
 simp only[VR]at x;obtain⟨p,y,rfl,q,e,M⟩:=x;obtain rfl:=q c rfl;refine⟨p,_,y,m,?_⟩;cases d:ν 1 with
 |none=>obtain rfl:=I d;have N:L=[]:=List.length_eq_zero_iff.1 (Nat.le_zero.1 e);subst N;refine⟨λ_=>ζ,λi b h=>(by cases h),?_,.inl ⟨rfl,rfl,rfl⟩⟩;simp only[VR];exact⟨p,0,rfl,by simp,aR _,λh=>aO h (nF 0)⟩
 |some b=>
  obtain⟨z,P,Q⟩:=H b d;have r:=f _ _ d;refine⟨λj=>if j=0 then γ b else ζ,λj W o=>?_,?_,?_⟩
  ·simp only at o
   split at o
   ·cases o
    refine⟨by assumption,eE z u.size,?_⟩;obtain⟨l,s,R⟩:=P;exact⟨l,s,(u.block _ z λh=>h.elim (λh=>by omega) Q).trans R⟩
   ·cases o
  ·simp only[VR]
   refine⟨p,y,rfl,by simp,e,λS=>?_⟩;obtain⟨T,g,t⟩:=M S;rw[r]at g;cases g;exact⟨b,by simp,t⟩
  ·rcases k with⟨_,_,k⟩|⟨T,l,U,s,g,t⟩
   ·rw[r]at k
    cases k
   ·rw[r]at g
    cases g;exact .inr ⟨b,l,U,s,by simp,t⟩
abbrev ahr(n c:O)(f:ω)(H:E AB):Prop:=H.getD 0 .gone=.cells [.sl 1 9 0 0 n (γ c)] 30/\H.getD 1 .gone=.row η n 9 (J f) 112
def EV{Γ:aE}(d:aK θ Γ){f:bq}{fn:cA}(p:θ.funcs[f]?=γ fn){D:O}{L:E Wh}{t:E ψ}{vs:E τ}{w:υ}(q:dM D L w)(r:aY (cj w D) w)(s:bH L)(hex:∀c,(ad θ Γ K 100 fn (.ptr 0 1 0 0::vs.map .v) (dI L.length c (Y L)) (af 2)).ok λ_ l i=>l=[.v (.string ⟨t.toArray⟩)]/\ahr L.length c (Y L) i):aH θ f (.pointer (γ ⟨D,0,ζ⟩)::vs).toArray w (de D L (γ (L,t)) w):=by
 obtain⟨c,C,j,a,u⟩:=Au q r;have x:=j.1;refine(nS (vals:=.pointer (γ ⟨D,0,ζ⟩)::vs) d mixed enters p (dq _) (λk y=>.inl y) (hex c) ⟨?_,vW vs⟩ u a).mono ?_
 ·simp only[VR]
  exact⟨_,x,rfl⟩
 ·rintro e G ⟨v,H,i,z,rfl,⟨n,A,B⟩,o,g,b,h,_⟩
  simp only[lA,aa]at n;subst n;simp only[VR]at o;subst o;exact⟨b,rfl,Ng j h b g rfl A B,s⟩
def zS(g:bq)(us:E τ):Prop:=∀a,aY (aq a) a->aH θ g us.toArray a λe b=>e=oX/\Fr (aq a) a b
def yd:zS 74 [.bool η]:=λa _=>(tc a).mono λ_ _ ⟨b,c⟩=>⟨b,c▸Fr.refl _ _⟩
def Mx{s:ρ}{n:O}(b:n<=3)(hs:s.size<4294967281)(h:cP n s.data.toList=η):zS 68 [.string s,ι n]:=λc d=>(xa s n b c d hs).mono λe f ⟨a,g⟩=>⟨by rw[h]at a;exact a,g⟩
def On{ν:Nu}:∀{us vals:E τ},ax ν (us.map .v) vals->vals=us
 |[],[],_=>rfl
 |[],_::_,h=>h.elim
 |_::_,[],h=>h.elim
 |u::us,v::vals,h=>by obtain⟨a,b⟩:=h;have a:v=u:=a;rw[a,On b]
def aY.ajk{w w':υ}{D:O}(h:aY (cj w D) w')(hs:w.heap.size<=w'.heap.size):aY (aq w') w':=h.mono λ_ _ a=>.inl (cD hs a)
def RX{g:bq}{us:E τ}(d:zS g us){D:O}{L:E Wh}{w w':υ}(c:Fr (cj w D) w w')(i:aY (cj w D) w')(j:dM D L w'):aH θ g us.toArray w' λe b=>∃a,e=.panicked a/\de D L ζ w (.panicked a) b:=by refine(d w' (i.ajk c.size)).mono ?_;rintro e b ⟨rfl,f⟩;refine⟨_,rfl,c.trans ((Fr.oh (D:=D) f).mono λk _ h=>h.elim (λh=>.inl (cD c.size h)) .inr),rfl,j.fr f⟩
abbrev Yp(vs:E τ)(fn:cA):E AV:=(.ptr 0 1 0 0::vs.map .v)++ez (fn.ntmps-(AV.ptr 0 1 0 0::vs.map .v).length) (.v aX)
def Yo(H:E AB){i:O}(h:i<2):(H.take 2).getD i .gone=H.getD i .gone:=by rw[cq,cq,List.getElem?_take,aP h]
def uA{Γ:aE}(j:aK θ Γ){f:bq}{fn:cA}(x:θ.funcs[f]?=γ fn){h:E a9}{id k:O}{ops:aU a6}{l:a9}(y:fn.body=γ (kC h (.seq (.region id ops η) l))){o:a6}{g:bq}{args:aU cS}{z:aU ae}(A:ops.toList[k]?=γ o)(m:o.guard=ζ)(n:o.op=.call ⟨.value (.func g),args,z⟩)(B:∀args w,(g_ g args).run θ w=.ok (.enter g args) w){us:E τ}(C:zS g us){D:O}{L:E Wh}{vs:E τ}{w:υ}(G:dM D L w)(I:aY (cj w D) w)(hex:∀c,(fc θ Γ 100 h (Yp vs fn) (dI L.length c (Y L)) (λ_ T H=>fv θ Γ (λ_ _ _ _=>.err) ops.toList (ops.toList.take k) T H λT' H'=>.out .normal (args.toList.map (bN T')) (H'.take 2))).ok λ_ T H=>T=us.map .v/\H=dI L.length c (Y L)):aH θ f (.pointer (γ ⟨D,0,ζ⟩)::vs).toArray w (de D L ζ w):=by
 obtain⟨c,M,s,d,N⟩:=Au G I;have P:=s.1;have hM:∀k,w.heap.size<=k->cj w D k:=λk p=>.inl p
 refine D0 x y (R_ j 100 2 hM d (Q:=λ_ T H=>T=us.map .v/\H=dI L.length c (Y L)) (λT H a w1 R p S q=>?_) h _ _ _ w M (hex c) (qw ⟨?_,vW vs⟩ N d) rfl)
 ·refine wF (alW j hM p A m n B S λT' H' U a' w' W t u b r=>?_)
  obtain⟨X,v⟩:=U;rw[X]at u;obtain rfl:=On u;have g0:H'.getD 0 .gone=.cells [.sl 1 9 0 0 L.length (γ c)] 30:=(Yo H' (by omega)).symm.trans (by rw[v];rfl);have g1:H'.getD 1 .gone=.row η L.length 9 (J (Y L)) 112:=(Yo H' (by omega)).symm.trans (by rw[v];rfl);refine(RX C b.fr b.heap.eC (Ng s b.le b.fr b.heap rfl g0 g1)).mono ?_;rintro e w'' ⟨i,rfl,hr⟩;exact⟨i,rfl,r.trans q,hr⟩
 ·simp only[VR]
  exact⟨_,P,rfl⟩
def adY{Γ:aE}(i:aK θ Γ){f:bq}{fn:cA}(G:θ.funcs[f]?=γ fn){n:a9}{id k:O}{ops:aU a6}{j:a9}(H:fn.body=γ (.seq n (.seq (.region id ops ε) j))){o:a6}{g:bq}{args:aU cS}{I:aU ae}(M:ops.toList[k]?=γ o)(p:o.guard=ζ)(q:o.op=.call ⟨.value (.func g),args,I⟩)(N:∀args w,(g_ g args).run θ w=.ok (.enter g args) w)(d:EA k ops.toList args.toList=ε){us:E τ}(P:zS g us){D:O}{L:E Wh}{vs:E τ}{w:υ}(Q:dM D L w)(R:aY (cj w D) w)(v:E AV)(S:∀c,(a0 θ Γ 100 K n (Yp vs fn) (dI L.length c (Y L)) pc).ok λe x y=>e=.normal/\x=v/\y=dI L.length c (Y L))(hex:∀c,(j0 θ Γ ops.toList (ops.toList.take k) v (dI L.length c (Y L)) [] λT' H' tr=>cond (jx ops.toList tr.reverse&&(uB k ops.toList&&GO [0,1] tr.reverse)) (.out .normal T' H') .err).ok λ_ T _=>args.toList.map (bN T)=us.map .v):aH θ f (.pointer (γ ⟨D,0,ζ⟩)::vs).toArray w (de D L ζ w):=by
 obtain⟨c,z,A,b,U⟩:=Au Q R;have W:=A.1;have hM:∀k,w.heap.size<=k->cj w D k:=λk X=>.inl X
 refine D0 G H (wF (wp_mono (sM i mixed enters 100 2 K n (cT _ _ _) (cj w D) w z hM b _ _ pc _ _ w z (S c) (qw ⟨?_,vW vs⟩ U b) rfl) ?_))
 ·simp only[VR]
  exact⟨_,W,rfl⟩
 ·rintro e a w1 ⟨e',x,y,ν1,rfl,⟨rfl,rfl,rfl⟩,hS,r⟩
  refine wF (ami i mixed hM [0,1] (hex c) M p q N d hS λT' H' hq a' w' ν' B C l s m t u=>?_);rw[hq]at C;obtain rfl:=On C;refine(RX P m t (an4 A s m rfl (l 0 (by simp)) (l 1 (by simp)))).mono ?_;rintro e w'' ⟨h,rfl,hr⟩;exact⟨h,rfl,u.trans r,hr⟩
def Vs(f:Ieee.Format)(s:κ)(m:O)(i:Z)(H:m.log2<=f.fractionBits)(v:f.leastPlace<=i)(p:((i-f.leastPlace).toNat+1)*f.binade+f.binade<f.infRung)(I:f.infRung<=f.signWeight):∃b:Z,b<=i/\f.read (f.nearest s m i)=.number s (m*2^(i-b).toNat) b:=by
 have c:0<f.binade:=nH _;have t:∀R,R<f.signWeight->f.word s R%f.signWeight=R/\(f.word s R/f.signWeight%2==1)=s:=λR e=>by
  unfold ZD;cases s
  ·simp only[Bool.false_eq_true,if_false]
   rw[zF e,tX e];exact⟨rfl,rfl⟩
  ·simp only[if_true]
   rw[Nat.add_mod_left,zF e,Nat.add_div_left _ (by omega),tX e];exact⟨rfl,rfl⟩
 by_cases g:m=0
 ·subst g
  refine⟨f.leastPlace,v,?_⟩;unfold ZC;rw[aP rfl];unfold OR;obtain⟨j,k⟩:=t 0 (by omega);simp only[j,k];rw[aP c,DM]
 ·obtain⟨b,w⟩:∃b,b=max (i+(m.log2:Z) -(f.fractionBits:Z)) f.leastPlace:=⟨_,rfl⟩
  have l:b<=i:=by omega
  refine⟨b,l,?_⟩;have x:(b-i).toNat=0:=by omega
  have y:Hy.cut s (m<<< (i-b).toNat) 0=m*2^(i-b).toNat:=by unfold OS;simp only[Nat.zero_min,Nat.shiftLeft_zero,aag,Nat.mod_one];rw[tZ];simp
  have z:f.nearest s m i=f.word s ((b-f.leastPlace).toNat*f.binade+m*2^(i-b).toNat):=by
   unfold ZC;rw[bi g];simp only;rw[<-w,x,y]
   congr 1
   apply DI;have n:m*2^(i-b).toNat<2*f.binade:=by
    have:=log2_lt m;unfold ZB
    calc m*2^(i-b).toNat<2^(m.log2+1)*2^(i-b).toNat:=DK (log2_lt m) (nH _)
     _=2^(m.log2+1+(i-b).toNat):=(jT ..).symm
     _<=2^(f.fractionBits+1):=oI (by omega) (by omega)
     _=2*2^f.fractionBits:=by rw[HO];omega
   have A:(b-f.leastPlace).toNat*f.binade<=(i-f.leastPlace).toNat*f.binade:=iO _ (by omega);rw[fN,jS]at p;omega
  rw[z];have n:m*2^(i-b).toNat<2*f.binade:=by
   unfold ZB
   calc m*2^(i-b).toNat<2^(m.log2+1)*2^(i-b).toNat:=DK (log2_lt m) (nH _)
    _=2^(m.log2+1+(i-b).toNat):=(jT ..).symm
    _<=2^(f.fractionBits+1):=oI (by omega) (by omega)
    _=2*2^f.fractionBits:=by rw[HO];omega
  have o:b=f.leastPlace\/f.binade<=m*2^(i-b).toNat:=by
   by_cases B:b=f.leastPlace
   ·exact .inl B
   ·refine .inr ?_
    have:i-b=(f.fractionBits:Z) -m.log2:=by omega
    unfold ZB
    calc 2^f.fractionBits=2^m.log2*2^(i-b).toNat:=by rw[<-jT];congr 1;omega
     _<=m*2^(i-b).toNat:=iO _ (Nat.log2_self_le g)
  have A:(b-f.leastPlace).toNat*f.binade<=(i-f.leastPlace).toNat*f.binade:=iO _ (by omega);rw[fN,jS]at p;generalize m*2^(i-b).toNat=a at*;generalize L:(b-f.leastPlace).toNat=q at*;obtain⟨j,k⟩:=t (q*f.binade+a) (by omega);unfold OR;simp only[j,k];by_cases d:q*f.binade+a<f.binade
  ·rw[aP d]
   have:q=0:=by
    rcases pB q with h|h
    ·exact h
    ·have:=iO f.binade h
     omega
   subst this;rw[DM,bF]
   congr 1
   try omega
  ·rw[bi d,aP (by omega)]
   have C:f.binade<=a:=by
    rcases o with h|h
    ·have:q=0:=by omega
     subst this;omega
    ·exact h
   obtain⟨r,rfl⟩:∃r,a=f.binade+r:=⟨a-f.binade,by omega⟩;have u:r<f.binade:=by omega
   have D:(q*f.binade+(f.binade+r))%f.binade=r:=by rw[<-aae,<-aao,r8,Nat.mul_add_mod,zF u]
   have G:(q*f.binade+(f.binade+r))/f.binade=q+1:=by rw[<-aae,<-aao,r8,Nat.mul_add_div c,tX u]
   rw[D,G]
   congr 1
   rw[Nat.add_sub_cancel];omega
def adC(s:κ)(n d:O):Ieee.Toward.down.cut s n d=n/2^d+(s&&n%2^d !=0).toNat:=by
 unfold OS;simp only[tZ,jS];by_cases h:d<=n.log2+2
 ·rw[DI h]
 ·rw[aak (by omega)]
  have a:n<2^(n.log2+2):=eE (log2_lt n) (oI (by omega) (by omega));have b:n<2^d:=eE a (oI (by omega) (by omega));rw[tX a,tX b,zF a,zF b]
def adH(s:κ)(n d:O):Ieee.Toward.zero.cut s n d=n/2^d:=by
 unfold OS;simp only[tZ,jS,Bool.toNat_false,iu];by_cases h:d<=n.log2+2
 ·rw[DI h]
 ·rw[aak (by omega)]
  have a:n<2^(n.log2+2):=eE (log2_lt n) (oI (by omega) (by omega));have b:n<2^d:=eE a (oI (by omega) (by omega));rw[tX a,tX b]
def ja(m:O)(i:Z):O:=m*2^i.toNat/2^(-i).toNat
def lp(m:O)(i:Z):κ:=m*2^i.toNat%2^(-i).toNat !=0
def Y9{m:O}{i a:Z}(h:a<=i):ja (m*2^(i-a).toNat) a=ja m i/\lp (m*2^(i-a).toNat) a=lp m i:=by
 unfold ja lp;by_cases j:0<=a
 ·have e:(-a).toNat=0:=by omega
  have b:(-i).toNat=0:=by omega
  rw[e,b,DJ,<-jT,show(i-a).toNat+a.toNat=i.toNat by omega];exact⟨rfl,rfl⟩
 ·have f:a.toNat=0:=by omega
  rw[f,zG,qJ];by_cases k:0<=i
  ·have b:(-i).toNat=0:=by omega
   have c:(i-a).toNat=i.toNat+(-a).toNat:=by omega
   rw[b,c,jT,<-DJ,Nat.mul_div_cancel _ (nH _),Nat.mul_mod_left,zG,aag,Nat.mod_one];exact⟨rfl,rfl⟩
  ·have b:i.toNat=0:=by omega
   have c:(-a).toNat=(-i).toNat+(i-a).toNat:=by omega
   rw[b,zG,qJ,c,jT];refine⟨Nat.mul_div_mul_right _ _ (nH _),?_⟩;rw[Nat.mul_mod_mul_right];have l:=nH (i-a).toNat;cases d:m%2^(-i).toNat !=0 with
   |false=>
    have:m%2^(-i).toNat=0:=by simpa using d
    rw[this,DM];rfl
   |true=>
    have:m%2^(-i).toNat≠0:=by simpa using d
    have g:m%2^(-i).toNat*2^(i-a).toNat≠0:=Nat.mul_ne_zero this (by omega);simpa using g
def ag1(s:κ)(m:O)(i:Z):(atz s m i).integral .down=.number s (ja m i+(s&&lp m i).toNat) 0:=by unfold aty;simp only[adC,tZ];rfl
def toInt_zero(s:κ)(m:O)(i:Z):(atz s m i).toInt .zero=γ (iC s (ja m i) 0):=by unfold Ieee.Datum.toInt aty;simp only[adH,tZ];rfl
def asP{m:O}{i:Z}{e:O}(h:i+(m.log2:Z)<=(e:Z)):ja m i<2^(e+1):=by
 unfold ja;rw[Nat.div_lt_iff_lt_mul (nH _)]
 calc m*2^i.toNat<2^(m.log2+1)*2^i.toNat:=DK (log2_lt m) (nH _)
  _=2^(m.log2+1+i.toNat):=(jT ..).symm
  _<=2^(e+1+(-i).toNat):=oI (by omega) (by omega)
  _=2^(e+1)*2^(-i).toNat:=jT ..
def aeV:bQ.format.infRung<=bQ.format.signWeight:=by decide
def aeY:jd.format.infRung<=jd.format.signWeight:=by decide+kernel
def Sa:jd.format.leastPlace= -1074:=by decide+kernel
def aeW:jd.format.binade=4503599627370496:=by decide+kernel
def aeX:jd.format.infRung=9218868437227405312:=by decide+kernel
def Vr(s:κ)(m:O)(i:Z)(b:m.log2<=52)(c: -1074<=i)(d:i<=100):∃a:Z,a<=i/\jd.format.read (jd.format.nearest s m i)=.number s (m*2^(i-a).toNat) a:=
 Vs _ s m i b (by rw[Sa];exact c) (by rw[Sa,aeW,aeX];omega) aeY
def ai1(s:κ)(m:O)(i:Z)(b:m.log2<=23)(c: -149<=i)(d:i<=60):∃a:Z,a<=i/\bQ.format.read (bQ.format.nearest s m i)=.number s (m*2^(i-a).toNat) a:=
 Vs _ s m i b (by rw[AH];exact c) (by rw[AH,E1,E2];omega) aeV
def WI{x:O}{s:κ}{m:O}{i:Z}(h:bQ.format.read x=.number s m i):m<16777216/\ -149<=i/\(m=0->i= -149):=by
 unfold OR at h;simp only[E3,E1,E2,AH]at h;split at h
 ·cases h
  omega
 ·split at h
  ·cases h
   omega
  ·split at h
   ·cases h
   ·cases h
def pm(s:κ)(m u:O):iC s m u=bif s then-((m*2^u:O):Z)else((m*2^u:O):Z):=by unfold iC;rw[tZ];cases s<;>rfl
def afb{y:O}{e:Z}(h:hO y e):∃s m i,bQ.format.read y=.number s m i/\i+(m.log2:Z)<=e/\m.log2<=23/\ -149<=i:=by obtain⟨s,m,i,a,b⟩:=h;obtain⟨d,c,_⟩:=WI a;exact⟨s,m,i,a,b,ry (by omega),c⟩
def pT(y:O):O:=(Ia .f32 y .f64).getD 0
def pY(r:O):O:=jd.encode ((jd.decode r).integral .down)
def adN{y:O}{s:κ}{m:O}{i:Z}(h:bQ.format.read y=.number s m i)(f:m.log2<=23)(g: -149<=i)(j:i<=60):Ia .f32 y .f64=γ (pT y)/\∃a,a<=i/\jd.decode (pT y)=.number s (m*2^(i-a).toNat) a:=by
 obtain⟨a,d,b⟩:=Vr s m i (by omega) (by omega) (by omega);have c:Ia .f32 y .f64=γ (jd.format.nearest s m i):=by
  unfold Ia;rw[bi (by decide)];show(match bQ.format.read y with| .nan _ _=>_| .infinity s=>_| .number s m e=>_)=_
  rw[h];show(if(jd.format.read (jd.format.nearest s m i)).isInfinity then ζ else γ (jd.format.nearest s m i))=_
  rw[b];rfl
 refine⟨by unfold pT;rw[c];rfl,a,d,?_⟩;unfold pT;rw[c];exact b
def afv{r:O}{s:κ}{m:O}{i:Z}{e:O}(h:jd.decode r=.number s m i)(p:ja m i<2^e)(d:e<=50):zO .f64 (pY r) .i64=γ (iC s (ja m i+(s&&lp m i).toNat) 0):=by
 have q:ja m i+(s&&lp m i).toNat<=2^e:=by
  have:(s&&lp m i).toNat<=1:=by cases(s&&lp m i)<;>decide
  omega
 have f:2^e<=2^50:=oI (by omega) d;unfold pY;rw[h,ag1];generalize ja m i+(s&&lp m i).toNat=a at*;have b:a.log2<=52:=ry (by omega);obtain⟨c,g,j⟩:=Vr s a 0 b (by omega) (by omega);have k:(jd.decode (jd.encode (.number s a 0))).toInt .zero=γ (iC s a 0):=by
  show(jd.format.read (jd.format.nearest s a 0)).toInt .zero=_
  rw[j,toInt_zero,(Y9 g).1]
  congr 2
  unfold ja;simp
 unfold zO;rw[k];have l:a7.min<=iC s a 0/\iC s a 0<=a7.max:=by
  have n:a7.min= -9223372036854775808:=by decide
  have o:a7.max=9223372036854775807:=by decide
  rw[n,o,pm];cases s<;>simp only[aZ,a_]<;>omega
 simp only;rw[aP l]
def ash{y:O}{s:κ}{m:O}{i:Z}{e:O}(h:bQ.format.read y=.number s m i)(g:ja m i<2^e)(a:e<=50):zO .f32 y .i64=γ (iC s (ja m i) 0):=by
 have b:2^e<=2^50:=oI (by omega) a;unfold zO;rw[show bQ.decode y=.number s m i from h,toInt_zero];have c:a7.min<=iC s (ja m i) 0/\iC s (ja m i) 0<=a7.max:=by
  have d:a7.min= -9223372036854775808:=by decide
  have f:a7.max=9223372036854775807:=by decide
  rw[d,f,pm];cases s<;>simp only[aZ,a_]<;>omega
 simp only;rw[aP c]
def alJ{y:O}{s:κ}{m:O}{i:Z}(h:bQ.format.read y=.number s m i)(v:ja m i<2^24):∃o,bQ.format.order (bQ.nearest (iC s (ja m i) 0)) y=γ o/\(o==.gt)=(s&&lp m i):=by
 obtain⟨W,r⟩:∃W,W=ja m i:=⟨_,rfl⟩;rw[<-r]at v⊢;obtain⟨t,u⟩:∃t,t=ο (iC s W 0<0):=⟨_,rfl⟩;have f:(iC s W 0).natAbs=W:=by rw[NH];simp
 obtain⟨c,H,w⟩:=ai1 t W 0 (ry (by omega)) (by omega) (by omega);have x:bQ.format.read (bQ.nearest (iC s W 0))=.number t (W*2^(0-c).toNat) c:=by rw[<-w];unfold FloatKind.nearest;rw[f,u];rfl
 unfold atB;rw[x,h];refine⟨_,rfl,?_⟩;have g:∀a b:Z,(compare a b==Ordering.gt)=ο (b<a):=λa b=>by rw[kk,ks,aB,Int.compare_eq_gt]
 rw[g]
 --both at z j l
 have B:∃k:O,(W*2^(0-c).toNat)*2^(c-min c i).toNat=W*2^(-i).toNat*2^k/\m*2^(i-min c i).toNat=m*2^i.toNat*2^k:=by
  refine⟨(i-min c i).toNat-i.toNat,?_,?_⟩
  ·rw[DJ,DJ,<-jT,<-jT]
   congr 2
   omega
  ·rw[DJ,<-jT]
   congr 2
   omega
 obtain⟨k,C,D⟩:=B;rw[pm,pm,C,D];have n:m*2^i.toNat=W*2^(-i).toNat+m*2^i.toNat%2^(-i).toNat:=by rw[r];unfold ja;rw[r8 (_/_)];exact(Nat.div_add_mod _ _).symm
 have G:lp m i=(m*2^i.toNat%2^(-i).toNat !=0):=rfl;rw[G];generalize m*2^i.toNat%2^(-i).toNat=R at*;rw[n,fN];have I:=nH (-i).toNat;have L:=nH k;have e:R*2^k=0↔R=0:=by rw[aam];exact⟨λh=>h.elim id λh=>aO h (by omega),.inl⟩
 have p:W*2^(-i).toNat*2^k=0↔W=0:=by rw[DJ,<-jT,aam];have:=nH ((-i).toNat+k);exact⟨λh=>h.elim id λh=>aO h (by omega),.inl⟩
 generalize R*2^k=RK at*;have q:t=(s&&W !=0):=by rw[u,kk,aB,pm];cases s<;>simp<;>omega
 generalize W*2^(-i).toNat*2^k=A at*;rw[kk,aB,q];cases s
 ·simp only[ly,a_]
  constructor
  ·intro h;omega
  ·intro h;cases h
 ·simp only[dD,aZ]
  by_cases d:W=0
  ·have:A=0:=p.2 d
   simp only[d,bne_self_eq_false,a_,bne_iff_ne,ne_eq];rw[<-e];omega
  ·have:(W !=0)=ε:=by simpa using d
   simp only[this,aZ,bne_iff_ne,ne_eq];rw[<-e];omega
def Ol{y:O}(h:hO y 23):∃(N n:Z)(o:Ordering),Ia .f32 y .f64=γ (pT y)/\(∃s m i,jd.decode (pT y)=.number s m i)/\zO .f64 (pY (pT y)) .i64=γ N/\zO .f32 y .i64=γ n/\bQ.format.order (bQ.nearest n) y=γ o/\N=(bif o==.gt then n-1 else n)/\(-16777217<=N/\N<=16777217)/\ -16777217<=n/\n<=16777217:=by
 obtain⟨s,m,i,b,j,k,l⟩:=afb h;have c:ja m i<2^24:=asP (e:=23) j;obtain⟨p,a,q,g⟩:=adN b k l (by omega);obtain⟨d,r⟩:=Y9 (m:=m) q;obtain⟨o,t,u⟩:=alJ b c;refine⟨_,_,o,p,⟨_,_,_,g⟩,afv g (e:=24) (by rw[d];exact c) (by omega),ash b (e:=24) c (by omega),t,?_,?_⟩
 ·rw[d,r,u,pm,pm]
  cases s
  ·simp
  ·simp only[dD,aZ,zG,qJ]
   cases lp m i
   ·simp
   ·simp only[aZ,Bool.toNat_true];omega
 ·rw[d,pm,pm]
  have:(s&&lp m i).toNat<=1:=by cases(s&&lp m i)<;>decide
  have f:(s&&lp (m*2^(i-a).toNat) a).toNat<=1:=by cases(s&&lp (m*2^(i-a).toNat) a)<;>decide
  cases s<;>simp only[aZ,a_,zG,qJ]at* <;>omega
def YG:(2:O)^23=8388608:=by decide
def AX(o:χ Ordering):κ:=o==γ .gt||o==γ .eq
def Bs(o:χ Ordering):κ:=o==γ .lt||o==γ .eq
def dK(x:O):κ:=AX (bQ.format.order x 3313500160)&&Bs (bQ.format.order x 1166016512)
def al8{x:O}(h:dK x=ε):hO x 12:=by
 unfold dK at h;rw[aM]at h;obtain⟨c,d⟩:=h;unfold atB at c d;have o:bQ.format.read 3313500160=.number ε 8388608 (-11):=by decide+kernel
 have p:bQ.format.read 1166016512=.number η 8388608 (-11):=by decide+kernel
 rw[o]at c;rw[p]at d;cases f:bQ.format.read x with
 |nan s t=>rw[f]at c;cases c
 |infinity s=>
  rw[f]at c d;cases s
  ·cases d
  ·cases c
 |number s m i=>
  rw[f]at c d;obtain⟨v,w,q⟩:=WI f;refine⟨s,m,i,f,?_⟩;by_cases k:i+(m.log2:Z)<=12
  ·exact k
  ·exfalso
   have r:m≠0:=λe=>by have:=q e;subst e;rw[show Nat.log2 0=0 by decide]at k;omega
   have g:∀a b:Z,Bs (γ (compare a b))=ε->a<=b:=λa b h=>by unfold Bs at h;rw[oA,ks,ks,ar,ar,Int.compare_eq_lt,Int.compare_eq_eq]at h;omega
   have j:∀a b:Z,AX (γ (compare a b))=ε->b<=a:=λa b h=>by unfold AX at h;rw[oA,ks,ks,ar,ar,Int.compare_eq_gt,Int.compare_eq_eq]at h;omega
   have l:=j _ _ c;have n:=g _ _ d;rw[pm,pm]at l n;have u:8388608*2^(-11-min i (-11)).toNat<m*2^(i-min i (-11)).toNat:=by
    calc 8388608*2^(-11-min i (-11)).toNat=2^(23+(-11-min i (-11)).toNat):=by rw[jT,YG]
     _<2^(m.log2+(i-min i (-11)).toNat):=Nat.pow_lt_pow_right (by omega) (by omega)
     _=2^m.log2*2^(i-min i (-11)).toNat:=jT ..
     _<=m*2^(i-min i (-11)).toNat:=iO _ (Nat.log2_self_le r)
   cases s<;>simp only[aZ,a_]at l n<;>omega
def asj:∀g:O,g<=8->bQ.format.read (bQ.nearest ((2^g:O):Z))=.number η 8388608 ((g:Z) -23):=λg a=>by
 have:g=0\/g=1\/g=2\/g=3\/g=4\/g=5\/g=6\/g=7\/g=8:=by omega
 rcases this with rfl|rfl|rfl|rfl|rfl|rfl|rfl|rfl|rfl<;>decide+kernel
def al4(L:O):2^(L+1)*8388608=2^(L+23+1):=by
 have e:L+23+1=(L+1)+23:=by omega
 rw[e,jT 2 (L+1) 23,YG]
def aiR(m:O):(m*8388608).log2<=m.log2+23:=by refine ry ?_;rw[<-al4];exact DK (log2_lt m) (by omega)
def mul_eq{x y:O}{s t:κ}{m n:O}{i j:Z}(a:bQ.format.read x=.number s m i)(b:bQ.format.read y=.number t n j):bQ.format.mul x y=γ (bQ.format.nearest (s^^t) (m*n) (i+j)):=by unfold atA;rw[a,b];rfl
def aiS{x y:O}{s t:κ}{m n:O}{i j e:Z}(a:bQ.format.read x=.number s m i)(b:bQ.format.read y=.number t n j)(c:i+j+((m*n).log2:Z)<=e)(d: -120<=e)(f:e<=100):(bQ.format.mul x y).isSome=ε/\hO ((bQ.format.mul x y).getD 0) (e+1):=by rw[mul_eq a b];exact⟨rfl,Gr (s^^t) (m*n) (i+j) c d f⟩
def mul_two{x:O}{g:O}(a:hO x 12)(b:g<=8):(bQ.format.mul x (bQ.nearest ((2^g:O):Z))).isSome=ε/\hO ((bQ.format.mul x (bQ.nearest ((2^g:O):Z))).getD 0) 21:=by obtain⟨s,m,i,c,d⟩:=a;have f:=aiR m;exact aiS c (asj g b) (e:=20) (by omega) (by omega) (by omega)
def oq(x g:O):O:=(bQ.format.mul x (bQ.nearest ((2^g:O):Z))).getD 0
def oj(x g:O):O:=(bQ.format.add (oq x g) 1056964608).getD 0
def M2{x g:O}(h:dK x=ε)(c:g<=8):bQ.format.mul x (bQ.nearest ((2^g:O):Z))=γ (oq x g)/\bQ.format.add (oq x g) 1056964608=γ (oj x g)/\hO (oj x g) 23:=by
 obtain⟨a,d⟩:=mul_two (al8 h) c;have f:bQ.format.mul x (bQ.nearest ((2^g:O):Z))=γ (oq x g):=by
  unfold oq;cases e:bQ.format.mul x (bQ.nearest ((2^g:O):Z))with
  |none=>rw[e]at a;cases a
  |some z=>rfl
 have i:hO (oq x g) 21:=d;obtain⟨b,j⟩:=z8 (e:=21) i (AU (show uH 1056964608 21=ε by decide+kernel)) (by omega) (by omega);have k:bQ.format.add (oq x g) 1056964608=γ (oj x g):=by
  unfold oj;cases e:bQ.format.add (oq x g) 1056964608 with
  |none=>rw[e]at b;cases b
  |some z=>rfl
 exact⟨f,k,j⟩
def i8(x g:O):Z:=(zO .f64 (pY (pT (oj x g))) .i64).getD 0
def YL{x g:O}(h:dK x=ε)(a:g<=8): -16777217<=i8 x g/\i8 x g<=16777217:=by obtain⟨_,_,f⟩:=M2 h a;obtain⟨N,n,o,_,_,e,_,_,_,b,_⟩:=Ol f;unfold i8;rw[e];exact b
def anX{x:O}{s:κ}{m:O}{i:Z}(h:jd.decode x=.number s m i)(w:υ):(g_ 275 #[.float .f64 x]).run θ w=.ok (.value (.float .f64 (pY x))) w:=by
 rw[run_callFunc_extern func275 (e:=ZA "math.archFloor" .down) (by kernel_rfl) (by kernel_rfl) (by kernel_rfl) (by kernel_rfl)];have e:(ZA "math.archFloor" .down #[.float .f64 x]).run θ w=.ok (.float .f64 (pY x)) w:=by
  unfold pY
  conv in(ZA _ _ _)=>whnf
  rw[h];rfl
 rw[e];rfl
def acs{x:O}{s:κ}{m:O}{i:Z}(h:jd.decode x=.number s m i)(w:υ):aH θ 248 #[.float .f64 x] w λe w'=>e=.returned (.float .f64 (pY x))/\w'=w:=by
 have mixed:=mixed;have a:=anX h;clear h
 go_enter func248,ntmps248
 go_wp2
 refine bodyPost_ret (v:=.float .f64 (pY x)) ?_ rfl ⟨rfl,rfl⟩;simp[results,results248,go_sem]
def Wz{g:O}(h:g<=8):aj .i64 (2^g:Z)=((2^g:O):Z)/\((2^g:O):Z)<=256/\1<=((2^g:O):Z):=by
 have:g=0\/g=1\/g=2\/g=3\/g=4\/g=5\/g=6\/g=7\/g=8:=by omega
 rcases this with rfl|rfl|rfl|rfl|rfl|rfl|rfl|rfl|rfl<;>decide
def acU{x g:O}(h:dK x=ε)(c:g<=8)(w:υ):aH θ 215 #[.float .f32 x,.int .i64 g] w λe w'=>e=.returned (ι (i8 x g))/\w'=w:=by
 have mixed:=mixed;obtain⟨d,f,j⟩:=M2 h c;obtain⟨N,n,o,k,⟨s,m,i,l⟩,a,q,r,t,u,v,y⟩:=Ol j;have p:i8 x g=N:=by unfold i8;rw[a];rfl
 rw[p];have b:=λw=>acs l w
 obtain⟨A,B,C⟩:=Wz c;generalize D:((2^g:O):Z)=P at*;have G:∀W,(binOp .mul 114 (.float .f32 x) (.float .f32 (floatOfInt .f32 P))).run θ W=.ok (.float .f32 (oq x g)) W:=λW=>Qp W .mul 114 .f32 x _ _ d
 have H:∀W,(binOp .add 114 (.float .f32 (oq x g)) (.float .f32 1056964608)).run θ W=.ok (.float .f32 (oj x g)) W:=λW=>Qp W .add 114 .f32 _ _ _ f
 have I:∀W,(convert 114 247 (.float .f32 (oj x g))).run θ W=.ok (.float .f64 (pT (oj x g))) W:=λW=>run_convert_float_float W 114 247 .f32 .f64 _ _ (by kernel_rfl) (by kernel_rfl) k
 have L:∀W,(convert 247 3 (.float .f64 (pY (pT (oj x g))))).run θ W=.ok (ι N) W:=λW=>run_convert_float_int W 247 3 .f64 .i64 _ _ (by kernel_rfl) (by kernel_rfl) a
 have z:(g:Z)<=8:=by omega
 clear d f j k l a q r t u v y p h
 go_enter func215,ntmps215
 go_wp2_with (go_at_call 248;refine(b _).mono ?_;rintro e M ⟨rfl,rfl⟩)
 go_ret
 exact⟨rfl,rfl⟩
def acy{x g:O}(h:dK x=ε)(b:g<=8)(w:υ):aH θ 173 #[.float .f32 x,.int .i64 g] w λe w'=>e=.returned (ι (i8 x g))/\w'=w:=by
 have mixed:=mixed;obtain⟨c,d,f⟩:=M2 h b;obtain⟨N,n,o,q,⟨s,m,i,r⟩,j,k,l,t,z,A,B⟩:=Ol f;have p:i8 x g=N:=by unfold i8;rw[j];rfl
 rw[p];obtain⟨C,D,G⟩:=Wz b;generalize H:((2^g:O):Z)=P at*;have I:∀W,(binOp .mul 114 (.float .f32 x) (.float .f32 (floatOfInt .f32 P))).run θ W=.ok (.float .f32 (oq x g)) W:=λW=>Qp W .mul 114 .f32 x _ _ c
 have L:∀W,(binOp .add 114 (.float .f32 (oq x g)) (.float .f32 1056964608)).run θ W=.ok (.float .f32 (oj x g)) W:=λW=>Qp W .add 114 .f32 _ _ _ d
 have M:∀W,(convert 114 3 (.float .f32 (oj x g))).run θ W=.ok (ι n) W:=λW=>run_convert_float_int W 114 3 .f32 .i64 _ _ (by kernel_rfl) (by kernel_rfl) k
 have u:bQ.format.order (floatOfInt .f32 n) (oj x g)=γ o:=l;have v:(g:Z)<=8:=by omega
 have Q:aj .i64 (n-1)=n-1:=by rw[O0];omega
 clear c d f q r j k l p h;subst t;cases y:o==.gt with
 |true=>
  have a:o=.gt:=by simpa using y
  subst a
  go_enter aaz,ntmps173
  go_wp2
  go_ret
  exact⟨rfl,rfl⟩
 |false=>
  go_enter aaz,ntmps173
  go_wp2
  go_ret
  exact⟨rfl,rfl⟩
def acI(x:O)(w:υ):aH θ 214 #[.float .f32 x] w λe w'=>e=.returned (.bool (dK x))/\w'=w:=by
 have mixed:=mixed;obtain⟨p,a⟩:∃p,bQ.format.order x 3313500160=p:=⟨_,rfl⟩;obtain⟨q,b⟩:∃q,bQ.format.order x 1166016512=q:=⟨_,rfl⟩;have e:dK x=(AX p&&Bs q):=by unfold dK;rw[a,b]
 rw[e];clear e;rcases p with _|p<;>(try cases p)<;>rcases q with _|q<;>(try cases q)<;>
 ·go_enter func214,ntmps214
  go_wp2
  go_ret
  exact⟨rfl,rfl⟩
def acJ(x:O)(w:υ):aH θ 108 #[.float .f32 x] w λe w'=>e=.returned (.bool (dK x))/\w'=w:=by
 have mixed:=mixed;obtain⟨p,a⟩:∃p,bQ.format.order x 3313500160=p:=⟨_,rfl⟩;obtain⟨q,b⟩:∃q,bQ.format.order x 1166016512=q:=⟨_,rfl⟩;have e:dK x=(AX p&&Bs q):=by unfold dK;rw[a,b]
 rw[e];clear e;rcases p with _|p<;>(try cases p)<;>rcases q with _|q<;>(try cases q)<;>
 ·go_enter func108,ntmps108
  go_wp2
  go_ret
  exact⟨rfl,rfl⟩
def wL(pv:O->κ):E τ->χ (τ×E κ)
 |[.float .f32 x]=>γ (.bool (pv x),[])
 |_=>ζ
def wP(pv:O->κ)(a:ω):E τ->χ (τ×E κ)
 |[.float .f32 x,.int .i64 g]=>γ (ι (a x g.toNat),[pv x,ο (0<=g),ο (g<=8)])
 |_=>ζ
def G9{f:bq}{a:E τ->χ (τ×E κ)}(b:∀args w,(g_ f args).run θ w=.ok (.enter f args) w)(h:∀vs x ob,a vs=γ (x,ob)->aJ ob=ε->∀w,aH θ f vs.toArray w λe w'=>e=.returned x/\w'=w):au θ f (aS a):=
 nl b λvs x ob c d w _=>(h vs x ob c d w).mono λ_ _ ⟨g,i⟩=>⟨g,i▸Fr.refl _ _⟩
def akS:au θ 214 (aS (wL dK)):=G9 (λargs w=>enters 214 f214 func214 rfl args w) λb x c a _ w=>by
 unfold wL at a;split at a
 ·cases a
  exact acI _ w
 ·cases a
def akT:au θ 108 (aS (wL dK)):=G9 (λargs w=>enters 108 f108 func108 rfl args w) λb x c a _ w=>by
 unfold wL at a;split at a
 ·cases a
  exact acJ _ w
 ·cases a
def alq:au θ 215 (aS (wP dK i8)):=G9 (λargs w=>enters 215 f215 func215 rfl args w) λe x f a b w=>by
 unfold wP at a;split at a
 ·rename_i x g
  cases a;simp only[F,ah,aa,aB]at b;obtain⟨c,d,h⟩:=b;obtain⟨g,rfl⟩:=tQ d;exact acU c (by omega) w
 ·cases a
def alr:au θ 173 (aS (wP dK i8)):=G9 (λargs w=>enters 173 f173 aaz rfl args w) λe x f a b w=>by
 unfold wP at a;split at a
 ·rename_i x g
  cases a;simp only[F,ah,aa,aB]at b;obtain⟨c,d,h⟩:=b;obtain⟨g,rfl⟩:=tQ d;exact acy c (by omega) w
 ·cases a
def S5(pv:O->κ)(a:ω):aE:=ext (ext fm 214 (aS (wL pv))) 215 (aS (wP pv a))
def S6(pv:O->κ)(a:ω):aE:=ext (ext m4 108 (aS (wL pv))) 173 (aS (wP pv a))
def aq4(pv:O->κ)(c:ω)(a b:O)(g:Z):let d:=[AV.Ψ [AV.agg [vI 0,vI 0],vB η]];let e:=ο (g<=(8:Z));let f:=ο ((0:Z)<=g);ad θ (S5 pv c) K 100 f80 [.v (.complex .f32 a b),.v (ι g)] [] ed
 =bif pv a then bif !pv b then rO d []else bif !aD g (0:Z) (8:Z)then rO d []else Ω [pv a,f,e,pv b,f,e] (rO [AV.Ψ [AV.agg [vI (c a (a5 g)),vI (c b (a5 g))],vB ε]] [])else rO d []:=by intros;kernel_rfl
def aq5(pv:O->κ)(c:ω)(a b:O)(g:Z):let d:=[AV.Ψ [AV.agg [vI 0,vI 0],vB η]];let e:=ο ((0:Z)<=g);let f:=ο (g<=(8:Z));ad θ (S6 pv c) K 100 f54 [.v (.complex .f32 a b),.v (ι g)] [] ed
 =bif !pv a then rO d []else bif !pv b then rO d []else bif !aD g (0:Z) (8:Z)then rO d []else Ω [pv a,e,f,pv b,e,f] (rO [AV.Ψ [AV.agg [vI (c a (a5 g)),vI (c b (a5 g))],vB ε]] []):=by intros;kernel_rfl
def j3(a b:O)(g:Z):κ:=dK a&&(dK b&&aD g 0 8)
def jA(a b:O)(g:Z):Z:=bif j3 a b g then i8 a g.toNat else 0
def jB(a b:O)(g:Z):Z:=bif j3 a b g then i8 b g.toNat else 0
def agA(a b:O)(g:Z):(-16777217<=jA a b g/\jA a b g<=16777217)/\ -16777217<=jB a b g/\jB a b g<=16777217:=by
 unfold jA jB;cases h:j3 a b g with
 |false=>simp
 |true=>unfold j3 at h;rw[aM,aM]at h;obtain⟨c,d,e⟩:=h;have:=b9.1 e;exact⟨YL c (by omega),YL d (by omega)⟩
def wJ(c d:O->O->Z->Z)(gk:O->O->Z->κ):E τ->χ (τ×E κ)
 |[.complex .f32 a b,.int .i64 g]=>γ (.tuple #[.agg #[ι (c a b g),ι (d a b g)],.bool (gk a b g)],[])
 |_=>ζ
def af8:aK θ (S5 dK i8):=az (az jz akS) alq
def af9:aK θ (S6 dK i8):=az (az p0 akT) alr
def akn:au θ 80 (aS (wJ jA jB j3)):=by
 refine en (n:=100) af8 func80 rfl λl x m c o=>?_
 unfold wJ at c;split at c
 ·rename_i a b g
  simp only[ar,cG]at c;obtain⟨rfl,rfl⟩:=c;have e:=aq4 dK i8 a b g;simp only[eD,kp];rw[e];unfold jA jB j3
  suffices h:aC _ (nO (.tuple #[.agg #[ι (bif dK a&&(dK b&&aD g 0 8)then i8 a g.toNat else 0),ι (bif dK a&&(dK b&&aD g 0 8)then i8 b g.toNat else 0)],.bool (dK a&&(dK b&&aD g 0 8))]))from⟨h.out⟩
  refine ay (λd=>ay (λi=>?_) λi=>ay (λj=>?_) λj=>?_) λd=>?_
  ·rw[d,show dK b=η by simpa using i]
   exact Φ ⟨_,rfl,rfl⟩
  ·rw[d,show dK b=ε by simpa using i,show aD g 0 8=η by simpa using j]
   exact Φ ⟨_,rfl,rfl⟩
  ·have k:dK b=ε:=by simpa using i
   have f:aD g 0 8=ε:=by simpa using j
   have:=b9.1 f;rw[d,k,f];exact ag (by simp only[F,ah,aa,aB,bo];omega) (Φ ⟨_,rfl,rfl⟩)
  ·rw[d]
   exact Φ ⟨_,rfl,rfl⟩
 ·cases c
def ako:au θ 54 (aS (wJ jA jB j3)):=by
 refine en (n:=100) af9 func54 rfl λm x o c p=>?_
 unfold wJ at c;split at c
 ·rename_i a b g
  simp only[ar,cG]at c;obtain⟨rfl,rfl⟩:=c;have e:=aq5 dK i8 a b g;simp only[eD,kp];rw[e];unfold jA jB j3
  suffices h:aC _ (nO (.tuple #[.agg #[ι (bif dK a&&(dK b&&aD g 0 8)then i8 a g.toNat else 0),ι (bif dK a&&(dK b&&aD g 0 8)then i8 b g.toNat else 0)],.bool (dK a&&(dK b&&aD g 0 8))]))from⟨h.out⟩
  refine ay (λd=>?_) λd=>ay (λi=>?_) λi=>ay (λj=>?_) λj=>?_
  ·rw[show dK a=η by simpa using d]
   exact Φ ⟨_,rfl,rfl⟩
  ·rw[show dK a=ε by simpa using d,show dK b=η by simpa using i]
   exact Φ ⟨_,rfl,rfl⟩
  ·rw[show dK a=ε by simpa using d,show dK b=ε by simpa using i,show aD g 0 8=η by simpa using j]
   exact Φ ⟨_,rfl,rfl⟩
  ·have k:dK a=ε:=by simpa using d
   have l:dK b=ε:=by simpa using i
   have f:aD g 0 8=ε:=by simpa using j
   have:=b9.1 f;rw[k,l,f];exact ag (by simp only[F,ah,aa,aB,bo];omega) (Φ ⟨_,rfl,rfl⟩)
 ·cases c
abbrev cM(f:ω):O->E τ:=λj=>[ι (f j 0),ι (f j 1),ι (f j 2),ι (f j 3),ι (f j 4),ι (f j 5),ι (f j 6),ι (f j 7)]
def u4(f:ω)(m:O):E Cy:=(dH m).map λj=>bC (f j)
def jY(L:E Cy):O->O->Z:=λj k=>match L[j]?with
 |some c=>c.f k
 |none=>0
def U5(f:ω)(m:O):(u4 f m).length=m:=by simp[u4]
def aiq(f:ω){m j:O}(a:j<m):(u4 f m)[j]?=γ (bC (f j)):=by simp[u4,a]
def No{f g:O->O->Z}{j:O}(h:∀k,k<8->f j k=g j k):cM f j=cM g j:=by simp only[cM,h 0 (by omega),h 1 (by omega),h 2 (by omega),h 3 (by omega),h 4 (by omega),h 5 (by omega),h 6 (by omega),h 7 (by omega)]
def anH(f:ω){m j:O}(a:j<m):cM (jY (u4 f m)) j=cM f j:=by
 refine No λk b=>?_
 simp only[jY,aiq f a];rcases(by omega:k=0\/k=1\/k=2\/k=3\/k=4\/k=5\/k=6\/k=7)with rfl|rfl|rfl|rfl|rfl|rfl|rfl|rfl<;>rfl
structure Jq where
 b:κ
 T:E Cy
 ap:E κ
abbrev yf(T:E Cy):E AB:=[.row ε T.length 8 (cM (jY T)) 75]
abbrev YP(T:E Cy):AV:=.Ψ [.own 0 T.length,.v (.bool ε)]
def G8(mds:E Md)(U:E SA->χ Jq):Spec:=λb H a=>
 match rP H mds b with
 |some c=>match U (c.map (·.sa))with
  |some u=>γ {val:=.Ψ [.sl a 8 0 0 u.T.length ζ,.v (.bool u.b)],rd:=(d_ mds c).filterMap id,put:=[],new:=[.row η u.T.length 8 (cM (jY u.T)) 75],ap:=c.flatMap (·.ob)++u.ap}
  |none=>ζ
 |none=>ζ
def aog{P:aF}{f:bq}{mds:E Md}{FY FN:E SA->χ FR}{U:E SA->χ Jq}(hw:n5 mds=η)(hY:au P f (am mds FY))(hN:au P f (am mds FN))(h:∀sas u,U sas=γ u->aJ u.ap=ε->ai (bI mds sas []).length (bK mds sas).length=ε/\((u.b=ε/\∃ob,FY sas=γ {val:=YP u.T,new:=yf u.T,ap:=ob}/\aJ ob=ε)\/(u.b=η/\u.T=[]/\∃ob,FN sas=γ {val:=eQ,ap:=ob}/\aJ ob=ε))):au P f (G8 mds U):=by
 refine⟨hY.1,λs H g δ ν t w B ho hv hr R p hsep y=>?_⟩;unfold G8 at B;split at B
 case h_2=>cases B
 rename_i C S;split at B
 case h_2=>cases B
 rename_i u hu;simp only[ar]at B;subst B;have D:aJ (C.flatMap (·.ob))=ε/\aJ u.ap=ε:=by simpa[aJ,gC]using ho
 obtain⟨Q,hc⟩:=h _ _ hu D.2;have z:fI (d_ mds C) (bI mds (C.map (·.sa)) [])=[]:=GK _ _ λb T=>Et hw b T
 rcases hc with⟨T,ob,G,I⟩|⟨T,hT,ob,G,I⟩
 ·have L:am mds FY s H g=γ {val:=.Ψ [.own g u.T.length,.v (.bool ε)],rd:=(d_ mds C).filterMap id,put:=[],new:=yf u.T,ap:=C.flatMap (·.ob)++ob}:=by
   unfold am;rw[S];simp only[G];show cond _ _ _=_
   rw[hw,Q,z];rfl
  refine(hY.2 s H g _ ν t w L (by simpa[aJ,gC]using And.intro D.1 I) hv hr R p (λi o j b b' hp=>by cases hp) (y.call λx W=>by first|exact W|cases W)).mono ?_;rintro e w' ⟨v,m,rfl,d⟩;have A:=d.new 0 _ rfl;have hv2:VR m (.Ψ [.sl g 8 0 0 u.T.length ζ,.v (.bool u.b)]) v:=by
   have:=d.val;simp only[VR]at this⊢;obtain⟨l,G,I⟩:=this
   match l,I with
   |[a,c],⟨⟨b0,X,ha⟩,M,_⟩=>
    refine⟨[a,c],G,⟨γ ⟨b0.n,b0.o,ζ⟩,b0.c,ha,λc' N=>(by cases N),?_,λ_=>⟨b0,X,by simp⟩⟩,by rw[T];exact M,trivial⟩;rcases A with⟨q,_,_⟩|⟨k,l,t',fz,q,_,_,h4,_⟩
    ·cases q
    ·rw[iu]at q
     rw[X]at q;cases q;exact h4
  refine⟨v,m,rfl,d.le,d.b6,hv2,λi b Q=>(by cases Q),λj b n=>?_,d.os,d.tape,d.output,d.size,d.block,d.fresh,d.apart⟩
  match j with
  |0=>
   simp only[kn,ar]at n;subst n;rcases A with⟨q,_,_⟩|⟨k,l,t',fz,q,h2,_,h4,h5⟩
   ·cases q
   ·exact .inr ⟨k,l,t',fz,q,h2,λh=>(by cases h),h4,h5⟩
  |j+1=>simp at n
 ·have L:am mds FN s H g=γ {val:=eQ,rd:=(d_ mds C).filterMap id,put:=[],new:=[],ap:=C.flatMap (·.ob)++ob}:=by
   unfold am;rw[S];simp only[G];show cond _ _ _=_
   rw[hw,Q,z];rfl
  refine(hN.2 s H g _ ν t w L (by simpa[aJ,gC]using And.intro D.1 I) hv hr R (λj n=>aO n (cN _)) (λi o j b b' hp=>by cases hp) (y.call λx W=>by first|exact W|cases W)).mono ?_;rintro e w' ⟨v,m,rfl,d⟩;have r:m g=ζ:=by
   have h0:ν g=ζ:=p 0 (nI);cases hq:m g with
   |none=>rfl
   |some b=>have:=d.b6 g h0 (by rw[hq];simp);simp at this
  have hv0:VR m (.Ψ [.sl g 8 0 0 0 ζ,.v (.bool η)]) v:=by
   have:=d.val;simp only[VR]at this⊢;obtain⟨l,G,I⟩:=this
   match l,I with
   |[a,b],⟨ha,M,_⟩=>exact⟨[a,b],G,⟨ζ,0,ha,λc' N=>(by cases N),aR _,λhc=>aO hc (nF 0)⟩,M,trivial⟩
  refine⟨v,m,rfl,d.le,λi q h2=>?_,by rw[T,hT];exact hv0,λi b Q=>(by cases Q),λj b n=>?_,d.os,d.tape,d.output,d.size,d.block,λj b n hq=>?_,λj j' b b' hne n hj'=>?_⟩
  ·have:=d.b6 i q h2
   simp at this;omega
  ·match j with
   |0=>simp only[kn,ar]at n;subst n;rw[hT];exact .inl ⟨rfl,rfl,r⟩
   |j+1=>simp at n
  ·have n:j<1:=n
   have:j=0:=by omega
   subst this;rw[iu,r]at hq;cases hq
  ·have n:j<1:=n
   have hj':j'<1:=hj';omega
noncomputable abbrev E':cA:=f81
noncomputable abbrev Fa:cA:=f55
def KZ(a:(O->O->Z)->Z->O->O->Z)(b:(O->O->Z)->Z->O->κ):aE:=ext (ext g0 78 (am dy (pK a b))) 52 (am dy (pK a b))
def xG(a:E Wh->κ):aE:=ext (ext m4 123 (am bP (pM a))) 95 (am bP (pM a))
abbrev iV(m:O)(f:ω)(i:O)(h:ω):E AB:=[.row η m 9 (J f) 112,.row ε i 8 (cM h) 75]
abbrev p7(m:O)(f:ω):E AB:=[.row η m 9 (J f) 112]
abbrev BS:Ex->E O:=cx [0,1,6,20,21] [6] [4,5]
abbrev C0(m n i:O):E AV:=[.sl 0 9 0 0 m ζ,.v (ι n),.own 1 i,.v (ι n),.v (ι i)]
def am9(a:(O->O->Z)->Z->O->O->Z)(j:(O->O->Z)->Z->O->κ)(m:O)(f:ω)(n:O)(h:ω)(i:O):let b:=(ξ λq=>J f (0+q));let e:=AB.row η m 9 (J f) 112;let d:=(↑n:Z);let g:=(↑i:Z);let c:=(aj .i64 (g*aj .i64 (eU (24:Z) d)));a0 θ (KZ a j) 100 K (a4 0 E') (aw 0 41 ((BS .normal).zip (C0 m n i))) (iV m f i h) (cJ 41 BS 1)
 =bif ο (g<d)then Ω [!ο (d=(0:Z)),Θ (0+m) m,ak m λq=>J f (0+q),ο (m<=274877906944)] (bif !j b c m then rO [AV.v (dk ζ 0 0),vB η] [e]else Ω [Θ i i,Θ (i+1) 549755813888] (ao.out .normal [AV.sl 0 9 0 0 m ζ,vI d,AV.own 1 (i+1),vI d,vI (aj .i64 (g+(1:Z)))] [e,AB.row ε (i+1) 8 (λq=>[ι (bif Δ q i then h q 0 else a b c m 0),ι (bif Δ q i then h q 1 else a b c m 1),ι (bif Δ q i then h q 2 else a b c m 2),ι (bif Δ q i then h q 3 else a b c m 3),ι (bif Δ q i then h q 4 else a b c m 4),ι (bif Δ q i then h q 5 else a b c m 5),ι (bif Δ q i then h q 6 else a b c m 6),ι (bif Δ q i then h q 7 else a b c m 7)]) 75]))else ao.out (Ex.exit 0) [AV.own 1 i] [e,AB.row ε i 8 (cM h) 75]:=by intros;kernel_rfl
noncomputable abbrev Gj(m:O)(f:ω)(n:O)(c:κ)(h:ω):O->χ Sum:=bJ 0 (bD 41 (BS .normal) 1 (C0 m n 0) (iV m f 0 λ_ _=>0) (λa=>cond c (a .normal (aw 0 41 [(6,.own 1 n)]) (iV m f n h)) (a .ret (aw 0 41 [(4,.v (.slice ζ 0 0)),(5,.v (.bool η))]) (p7 m f))))
def arx(b:E Wh->κ)(m:O)(f:ω)(x:Z)(n:O)(c:κ)(h:ω):let d:=[AV.Ψ [AV.v (dk ζ 0 0),vB η]];let a:=AB.row η m 9 (J f) 112;let e:=(0:Z);ad θ (xG b) (Gj m f n c h) 100 E' [.sl 0 9 0 0 m ζ,.v (ι x)] (p7 m f) (af 1)
 =bif ο (x>= (1:Z))then Ω [!ο (x=e)] (bif !mK (24:Z) x==e then rO d [a]else Ω [Θ (0+m) m,ak m λq=>J f (0+q),ο (m<=549755813888)] (bif !b (V (ξ λq=>J f (0+q)) m)then rO d [a]else Ω [ο (e<=x),ο (x<=(1099511627776:Z)),cw ([AV.sl 0 9 0 0 m ζ,vI x,AV.own 1 0,vI x,vI 0]=C0 m n 0/\ab [a,AB.row ε 0 8 (λ_=>[ι 0,ι 0,ι 0,ι 0,ι 0,ι 0,ι 0,ι 0]) 75] (iV m f 0 λ_ _=>e))] (bif c then rO [AV.Ψ [AV.own 1 n,vB ε]] [a,AB.row ε n 8 (cM h) 75]else rO d [a])))else rO d [a]:=by intros;kernel_rfl
abbrev BT:Ex->E O:=cx [0,1,6,7] [6] [4,5]
abbrev C1(m n i:O):E AV:=[.sl 0 9 0 0 m ζ,.v (ι n),.own 1 i,.v (ι i)]
def am_(a:(O->O->Z)->Z->O->O->Z)(j:(O->O->Z)->Z->O->κ)(m:O)(f:ω)(n:O)(h:ω)(i:O):let b:=(ξ λq=>J f (0+q));let e:=AB.row η m 9 (J f) 112;let d:=(↑n:Z);let g:=(↑i:Z);let c:=(aj .i64 (g*aj .i64 (eU (24:Z) d)));a0 θ (KZ a j) 100 K (a4 0 Fa) (aw 0 42 ((BT .normal).zip (C1 m n i))) (iV m f i h) (cJ 42 BT 1)
 =bif ο (g<d)then Ω [!ο (d=(0:Z)),Θ (0+m) m,ak m λq=>J f (0+q),ο (m<=274877906944)] (bif !j b c m then rO [AV.own 1 0,vB η] [e,AB.row ε 0 8 (λ_=>[]) 75]else Ω [Θ i i,Θ (i+1) 549755813888] (ao.out .normal [AV.sl 0 9 0 0 m ζ,vI d,AV.own 1 (i+1),vI (aj .i64 (g+(1:Z)))] [e,AB.row ε (i+1) 8 (λq=>[ι (bif Δ q i then h q 0 else a b c m 0),ι (bif Δ q i then h q 1 else a b c m 1),ι (bif Δ q i then h q 2 else a b c m 2),ι (bif Δ q i then h q 3 else a b c m 3),ι (bif Δ q i then h q 4 else a b c m 4),ι (bif Δ q i then h q 5 else a b c m 5),ι (bif Δ q i then h q 6 else a b c m 6),ι (bif Δ q i then h q 7 else a b c m 7)]) 75]))else ao.out (Ex.exit 0) [AV.own 1 i] [e,AB.row ε i 8 (cM h) 75]:=by intros;kernel_rfl
noncomputable abbrev LX(m:O)(f:ω)(n:O)(c:κ)(h:ω):O->χ Sum:=bJ 0 (bD 42 (BT .normal) 1 (C1 m n 0) (iV m f 0 λ_ _=>0) (λa=>cond c (a .normal (aw 0 42 [(6,.own 1 n)]) (iV m f n h)) (a .ret (aw 0 42 [(4,.own 1 0),(5,.v (.bool η))]) (iV m f 0 λ_ _=>0))))
def ary(a:E Wh->κ)(m:O)(f:ω)(x:Z)(n:O)(c:κ)(h:ω):let b:=[AV.Ψ [AV.own 1 0,vB η]];let g:=AB.row η m 9 (J f) 112;let e:=(0:Z);let d:=[g,AB.row ε 0 8 (λ_=>[]) 75];ad θ (xG a) (LX m f n c h) 100 Fa [.sl 0 9 0 0 m ζ,.v (ι x)] (p7 m f) (af 1)
 =bif ο (x>= (1:Z))then bif ο (x<=(24:Z))then Ω [!ο (x=e)] (bif !mK (24:Z) x==e then rO b d else Ω [Θ (0+m) m,ak m λq=>J f (0+q),ο (m<=549755813888)] (bif !a (V (ξ λq=>J f (0+q)) m)then rO b d else Ω [cw ([AV.sl 0 9 0 0 m ζ,vI x,AV.own 1 0,vI 0]=C1 m n 0/\ab d (iV m f 0 λ_ _=>e))] (bif c then rO [AV.Ψ [AV.own 1 n,vB ε]] [g,AB.row ε n 8 (cM h) 75]else rO b [g,AB.row ε 0 8 (cM λ_ _=>e) 75])))else rO b d else rO b d:=by intros;kernel_rfl
def i5(f:ω)(m:O)(x:Z):O->O->Z:=λj=>dP f ((j:Z)*eU 24 x) m
def pk(f:ω)(m:O)(x:Z)(j:O):κ:= !dp f ((j:Z)*eU 24 x) m
def kh(x:Z):κ:=ο (x>=1)&&(ο (x<=24)&&(mK 24 x==0))
def er(f:ω)(m:O)(x:Z):κ:=kh x&&(aG (V f m)&&bU (pk f m x) x.toNat)
def fy(f:ω)(m:O)(x:Z):E Cy:=bif er f m x then u4 (i5 f m x) x.toNat else[]
def GX{x:Z}(h:kh x=ε):1<=x/\x<=24:=by rw[kh,aM,aM,aB,aB]at h;exact⟨h.1,h.2.1⟩
def apB{n:O}(a:1<=n)(b:n<=24):0<=eU 24 (n:Z)/\eU 24 (n:Z)<=24:=by rw[Int.tdiv_eq_ediv_of_nonneg (by omega)];exact⟨Int.ediv_nonneg (by omega) (by omega),Int.ediv_le_self _ (by omega)⟩
def W2{i n:O}(b:i<n)(a:n<=24):aj a7 ((i:Z)*aj a7 (eU 24 (n:Z)))=(i:Z)*eU 24 (n:Z):=by have h:=apB (n:=n) (by omega) a;have c:=yc (x:=(i:Z)) (y:=eU 24 (n:Z)) (A:=24) (B:=24) (by omega) (by omega) (by omega) h.2;rw[bR (x:=eU 24 (n:Z)) (by omega),bR (by omega)]
def Tc:aK θ (KZ dP dp):=by refine az (az bt Gy) ?_;rw[Io];exact MF
def K1:aK θ (xG aG):=by unfold xG;rw[so];exact az (az p0 Ci) yj
def W5(f:ω)(m n i:O)(o:ω)(a:∀j,j<i->o j=i5 f m n j)(j:O)(b:j<i+1):[ι (bif Δ j i then o j 0 else dP f ((i:Z)*eU 24 (n:Z)) m 0),ι (bif Δ j i then o j 1 else dP f ((i:Z)*eU 24 (n:Z)) m 1),ι (bif Δ j i then o j 2 else dP f ((i:Z)*eU 24 (n:Z)) m 2),ι (bif Δ j i then o j 3 else dP f ((i:Z)*eU 24 (n:Z)) m 3),ι (bif Δ j i then o j 4 else dP f ((i:Z)*eU 24 (n:Z)) m 4),ι (bif Δ j i then o j 5 else dP f ((i:Z)*eU 24 (n:Z)) m 5),ι (bif Δ j i then o j 6 else dP f ((i:Z)*eU 24 (n:Z)) m 6),ι (bif Δ j i then o j 7 else dP f ((i:Z)*eU 24 (n:Z)) m 7)]=cM (i5 f m n) j:=by
 by_cases h:j<i
 ·rw[EF h]
  simp only[aZ,a j h]
 ·have:j=i:=by omega
  subst this;rw[Q_];rfl
def XY(m:O)(f:ω)(n:O)(o:m<=2^38)(l:n<=24):cp θ 1 (.block 0 (.loop (a4 0 E'))) (bD 41 (BS .normal) 1 (C0 m n 0) (iV m f 0 λ_ _=>0) (λa=>cond (bU (pk f m n) n) (a .normal (aw 0 41 [(6,.own 1 n)]) (iV m f n (i5 f m n))) (a .ret (aw 0 41 [(4,.v (.slice ζ 0 0)),(5,.v (.bool η))]) (p7 m f)))):=by
 refine dQ Tc (n:=100) (m:=1) (lv:=BS) (λi=>C0 m n i) (λi=>iV m f i (bif ai i 0 then(λ_ _=>0)else i5 f m n)) (λi=>bU (pk f m n) i=ε) n (λ_=>K) (du rfl rfl rfl) (aR _) rfl λa Q g i c r=>⟨cT _ _ _,?_⟩
 have h:∀j,j<i->(bif ai i 0 then(λ_ _=>(0:Z))else i5 f m n) j=i5 f m n j:=by
  intro j d;cases i with
  |zero=>exact aO d (cN _)
  |succ i=>rfl
 rw[am9];simp only[bV,nW,qW];refine ay (λe=>?_) λe=>?_
 ·have e:=aL e
  have b:i<n:=by omega
  rw[W2 b l,bR (x:=(i:Z)+1) (by omega)];refine ag (by simp only[F,ah,aa,it,sd,aB,aT,bw,bo];omega) (ay (λq=>?_) λq=>ag (by simp only[F,ah,aa,aB,aT];omega) (Φ ⟨i+1,⟨rfl,b,qj c q⟩,rfl,.cons (Ξ.refl _) (.cons (Ξ.row λj d=>?_) .nil)⟩))
  ·refine Φ ⟨_,ab.refl _,?_⟩
   rw[og b q]at g;exact g
  ·exact W5 f m n i _ h j d
 ·have e:=cE e
  have:i=n:=by omega
  subst this;refine Φ ⟨iV m f i (i5 f m i),.cons (Ξ.refl _) (.cons (Ξ.row λj d=>No λk _=>by rw[h j d]) .nil),?_⟩;rw[aP rfl];rw[c]at g;exact g
def ao5(m:O)(f:ω)(n:O)(o:m<=2^38)(l:n<=24):cp θ 1 (.block 0 (.loop (a4 0 Fa))) (bD 42 (BT .normal) 1 (C1 m n 0) (iV m f 0 λ_ _=>0) (λa=>cond (bU (pk f m n) n) (a .normal (aw 0 42 [(6,.own 1 n)]) (iV m f n (i5 f m n))) (a .ret (aw 0 42 [(4,.own 1 0),(5,.v (.bool η))]) (iV m f 0 λ_ _=>0)))):=by
 refine dQ Tc (n:=100) (m:=1) (lv:=BT) (λi=>C1 m n i) (λi=>iV m f i (bif ai i 0 then(λ_ _=>0)else i5 f m n)) (λi=>bU (pk f m n) i=ε) n (λ_=>K) (du rfl rfl rfl) (aR _) rfl λa Q g i d r=>⟨cT _ _ _,?_⟩
 have h:∀j,j<i->(bif ai i 0 then(λ_ _=>(0:Z))else i5 f m n) j=i5 f m n j:=by
  intro j b;cases i with
  |zero=>exact aO b (cN _)
  |succ i=>rfl
 rw[am_];simp only[bV,nW,qW];refine ay (λe=>?_) λe=>?_
 ·have e:=aL e
  have c:i<n:=by omega
  rw[W2 c l,bR (x:=(i:Z)+1) (by omega)];refine ag (by simp only[F,ah,aa,it,sd,aB,aT,bw,bo];omega) (ay (λq=>?_) λq=>ag (by simp only[F,ah,aa,aT];omega) (Φ ⟨i+1,⟨rfl,c,qj d q⟩,rfl,.cons (Ξ.refl _) (.cons (Ξ.row λj b=>?_) .nil)⟩))
  ·refine Φ ⟨iV m f 0 λ_ _=>0,.cons (Ξ.refl _) (.cons (Ξ.row λj b=>aO b (cN _)) .nil),?_⟩
   rw[og c q]at g;exact g
  ·exact W5 f m n i _ h j b
 ·have e:=cE e
  have:i=n:=by omega
  subst this;refine Φ ⟨iV m f i (i5 f m i),.cons (Ξ.refl _) (.cons (Ξ.row λj b=>No λk _=>by rw[h j b]) .nil),?_⟩;rw[aP rfl];rw[d]at g;exact g
def QJ:E SA->χ FR
 |[.row m g,.v (.int .i64 x)]=>γ {val:=YP (fy (ξ g) m x),new:=yf (fy (ξ g) m x),ap:=[ak m g,ο (m<=2^38),er (ξ g) m x]}
 |_=>ζ
def QI:E SA->χ FR
 |[.row m g,.v (.int .i64 x)]=>γ {val:=eQ,ap:=[ak m g,ο (m<=2^38),!er (ξ g) m x]}
 |_=>ζ
def Jy(a:(O->O->Z)->O->Z->κ)(rt:(O->O->Z)->O->Z->E Cy):E SA->χ Jq
 |[.row m g,.v (.int .i64 x)]=>γ ⟨a (ξ g) m x,rt (ξ g) m x,[ak m g,ο (m<=2^38)]⟩
 |_=>ζ
def Je(a:(O->O->Z)->O->Z->κ)(rt:(O->O->Z)->O->Z->E Cy):E SA->χ FR
 |[.row m g,.v (.int .i64 x)]=>γ {val:=.Ψ [.own 0 (rt (ξ g) m x).length,.v (.bool (a (ξ g) m x))],new:=yf (rt (ξ g) m x),ap:=[ak m g,ο (m<=2^38)]}
 |_=>ζ
def WW{f:O->O->Z}{m:O}{x:Z}(h:er f m x=ε):kh x=ε/\aG (V f m)=ε/\bU (pk f m x) x.toNat=ε:=by rw[er,aM,aM]at h;exact⟨h.1,h.2.1,h.2.2⟩
def WY{f:O->O->Z}{m:O}{x:Z}(h:er f m x=ε):fy f m x=u4 (i5 f m x) x.toNat:=by rw[fy,h];rfl
def Nn{f:O->O->Z}{m:O}{x:Z}(h:er f m x=η):fy f m x=[]:=by rw[fy,h];rfl
def WX(f:ω)(m:O)(x:Z):(fy f m x).length<=24:=by
 cases h:er f m x with
 |true=>have:=GX (WW h).1;rw[WY h,U5];omega
 |false=>rw[Nn h];exact eF _
def anP{x:Z}(_:x>=1)(h:mK 24 x=0):x<=24:=by
 by_cases a:x<=24
 ·exact a
 ·exfalso
  rw[Int.tmod_eq_emod_of_nonneg (by omega),Int.emod_eq_of_lt (by omega) (by omega)]at h;omega
def WV{m:O}{f:O->O->Z}{x:Z}{Q:Ex->E AV->E AB->Prop}(n:O)(p:n<=24)(l:kh x=ε->x=n)(q:m<=2^38)(h:er f m x=ε->aC (.out .ret [.Ψ [.own 1 n,.v (.bool ε)]] (iV m f n (i5 f m n))) Q)(c:er f m x=η->aC (.out .ret [.Ψ [.v (.slice ζ 0 0),.v (.bool η)]] (p7 m f)) Q):aC (ad θ (xG aG) (Gj m f n (bU (pk f m n) n) (i5 f m n)) 100 E' [.sl 0 9 0 0 m ζ,.v (ι x)] (p7 m f) (af 1)) Q:=by
 rw[arx];simp only[bV,cb];refine ay (λd=>?_) λd=>c (by rw[er,kh,d];rfl)
 have i:=aL d;refine ag (by simp only[F,ah,aa,it,sd];omega) (ay (λb=>c ?_) λb=>?_)
 ·have b:(mK 24 x==0)=η:=by simpa using b
  rw[er,kh,b,gP,gP];rfl
 ·have b:(mK 24 x==0)=ε:=by simpa using b
  have g:kh x=ε:=by rw[kh,d,b,bA (anP i (ks.1 b))];rfl
  have e:=l g;subst e;refine ag (by simp only[F,ah,aa,aB,aT,bw,bo];omega) (ay (λa=>c ?_) λa=>ag ?_ (ay (λk=>h ?_) λk=>c ?_))
  ·have a:aG (V f m)=η:=by simpa using a
   rw[er,a,g];rfl
  ·simp only[F,ah,aa,aB]
   exact⟨by omega,by omega,cg ⟨rfl,.cons (Ξ.refl _) (.cons (Ξ.row λj o=>aO o (cN _)) .nil)⟩⟩
  ·have a:aG (V f m)=ε:=by simpa using a
   rw[er,a,g,cY,k];rfl
  ·have a:aG (V f m)=ε:=by simpa using a
   rw[er,a,g,cY,k];rfl
def WZ{m:O}{g:O->E τ}{x:Z}{n:O}(c:ak m g=ε)(d:er (ξ g) m x=ε)(f:x=n):ab (iV m (ξ g) n (i5 (ξ g) m n)) ([.row η m 9 g 112]++yf (fy (ξ g) m x))/\(fy (ξ g) m x).length=n:=by
 subst f;have e:=WY d;rw[cY]at e;have b:(fy (ξ g) m n).length=n:=by rw[e,U5]
 refine⟨.cons (Ξ.row λj a=>(aN c j a).symm) ?_,b⟩;show ab _ [.row ε (fy (ξ g) m n).length 8 (cM (jY (fy (ξ g) m n))) 75]
 rw[b,e];exact .cons (Ξ.row λj a=>(anH _ a).symm) .nil
def ak2:au θ 81 (am dy QJ):=by
 refine bY K1 func81 rfl λi q a c=>?_
 unfold QJ at a;split at a
 ·rename_i m g x
  cases a;simp only[F]at c;obtain⟨d,k,e,_⟩:=c;have f:=aL k;have r:=GX (WW e).1;obtain⟨n,h⟩:∃n:O,x=n:=⟨x.toNat,by omega⟩;refine⟨p7 m (ξ g),Gj m (ξ g) n (bU (pk (ξ g) m n) n) (i5 (ξ g) m n),100,.cons (Ξ.row λj l=>aN d j l) .nil,cz (by kernel_rfl) (XY m (ξ g) n f (by omega)),?_⟩;refine WV n (by omega) (λ_=>h) f (λb=>?_) λb=>by rw[e]at b;cases b
  obtain⟨o,p⟩:=WZ d b h;exact Φ ⟨_,rfl,by rw[p];rfl,o⟩
 ·cases a
def ak0:au θ 81 (am dy QI):=by
 refine bY K1 func81 rfl λo r a e=>?_
 unfold QI at a;split at a
 ·rename_i m g x
  cases a;simp only[F]at e;obtain⟨f,p,b,_⟩:=e;have i:=aL p;have b:er (ξ g) m x=η:=by simpa using b
  obtain⟨n,k,c⟩:∃n:O,n<=24/\(kh x=ε->x=n):=by
   cases q:kh x with
   |true=>have:=GX q;exact⟨x.toNat,by omega,λ_=>by omega⟩
   |false=>exact⟨0,by omega,λh=>by cases h⟩
  refine⟨p7 m (ξ g),Gj m (ξ g) n (bU (pk (ξ g) m n) n) (i5 (ξ g) m n),100,.cons (Ξ.row λj d=>aN f j d) .nil,cz (by kernel_rfl) (XY m (ξ g) n i k),?_⟩;refine WV n k c i (λl=>by rw[b]at l;cases l) λ_=>?_
  exact Φ ⟨_,rfl,rfl,.cons (Ξ.row λj d=>(aN f j d).symm) .nil⟩
 ·cases a
def ajy:au θ 81 (G8 dy (Jy er fy)):=by
 refine aog rfl ak2 ak0 λf u a c=>?_
 unfold Jy at a;split at a
 ·rename_i m g x
  cases a;simp only[F]at c;obtain⟨d,e,_⟩:=c;refine⟨rfl,?_⟩;cases b:er (ξ g) m x with
  |true=>left;refine⟨rfl,[ak m g,ο (m<=2^38),er (ξ g) m x],rfl,?_⟩;simp only[F,ah,aa];exact⟨d,e,b⟩
  |false=>right;refine⟨rfl,Nn b,[ak m g,ο (m<=2^38),!er (ξ g) m x],rfl,?_⟩;simp only[F,ah,aa];exact⟨d,e,by rw[b];rfl⟩
 ·cases a
def ak1:au θ 55 (am dy (Je er fy)):=by
 refine bY K1 func55 rfl λu H i s=>?_
 unfold Je at i;split at i
 ·rename_i m g x
  cases i;simp only[F]at s;obtain⟨l,v,_⟩:=s;have w:=aL v;obtain⟨n,y,p⟩:∃n:O,n<=24/\(kh x=ε->x=n):=by
   cases d:kh x with
   |true=>have:=GX d;exact⟨x.toNat,by omega,λ_=>by omega⟩
   |false=>exact⟨0,by omega,λh=>by cases h⟩
  refine⟨p7 m (ξ g),LX m (ξ g) n (bU (pk (ξ g) m n) n) (i5 (ξ g) m n),100,.cons (Ξ.row λj b=>aN l j b) .nil,cz (by kernel_rfl) (ao5 m (ξ g) n w y),?_⟩;show aC (ad θ (xG aG) (LX m (ξ g) n (bU (pk (ξ g) m n) n) (i5 (ξ g) m n)) 100 Fa [.sl 0 9 0 0 m ζ,.v (ι x)] (p7 m (ξ g)) (af 1)) _
  rw[ary];simp only[bV,cb];have f:∀(o:O->E τ),er (ξ g) m x=η->aC (.out .ret [.Ψ [.own 1 0,.v (.bool η)]] [.row η m 9 (J (ξ g)) 112,.row ε 0 8 o 75]) (dV (bI dy [.row m g,.v (ι x)] []) {val:=.Ψ [.own 0 (fy (ξ g) m x).length,.v (.bool (er (ξ g) m x))],new:=yf (fy (ξ g) m x),ap:=[ak m g,ο (m<=2^38)]}):=by intro o h;rw[Nn h,h];exact Φ ⟨_,rfl,rfl,.cons (Ξ.row λj b=>(aN l j b).symm) (.cons (Ξ.row λj b=>aO b (cN _)) .nil)⟩
  refine ay (λk=>ay (λq=>?_) λq=>f _ (by rw[er,kh,q,ly,gP];rfl)) λk=>f _ (by rw[er,kh,k];rfl)
  have C:=aL k;refine ag (by simp only[F,ah,aa,it,sd];omega) (ay (λc=>f _ ?_) λc=>?_)
  ·have c:(mK 24 x==0)=η:=by simpa using c
   rw[er,kh,c,gP,gP];rfl
  ·have c:(mK 24 x==0)=ε:=by simpa using c
   have d:kh x=ε:=by rw[kh,k,c,q];rfl
   have e:=p d;subst e;refine ag (by simp only[F,ah,aa,aB,aT,bw,bo];omega) (ay (λa=>f _ ?_) λa=>ag ?_ (ay (λr=>?_) λr=>f _ ?_))
   ·have a:aG (V (ξ g) m)=η:=by simpa using a
    rw[er,a,d];rfl
   ·simp only[F,ah,aa]
    exact cg ⟨rfl,.cons (Ξ.refl _) (.cons (Ξ.row λj b=>aO b (cN _)) .nil)⟩
   ·have a:aG (V (ξ g) m)=ε:=by simpa using a
    have t:er (ξ g) m n=ε:=by rw[er,a,d,cY,r];rfl
    obtain⟨D,G⟩:=WZ l t rfl;exact Φ ⟨_,rfl,by rw[G,t];rfl,D⟩
   ·have a:aG (V (ξ g) m)=ε:=by simpa using a
    rw[er,a,d,cY,r];rfl
 ·cases i
def T6:aE:=TI
def agx:aK θ T6:=agu
def Lg:aE:=T6
def TX:aK θ Lg:=agx
def akF:au θ 174 (aS xr):=by
 refine en (n:=100) TX func174 rfl λk x l j o=>?_
 unfold xr at j;split at j
 ·rename_i a b c d f g h i m
  simp only[ar,cG]at j;obtain⟨rfl,rfl⟩:=j;have e:ad θ Lg K 100 f174 ([.agg ⟨[.int .i64 a,.int .i64 b,.int .i64 c,.int .i64 d,.int .i64 f,.int .i64 g,.int .i64 h,.int .i64 i]⟩,.int .i64 m].map .v) [] ed=cond (!aD ((v8 a b c d f g h i) 0) (W (0-m)) m) (rv (.bool η)) (cond (!aD ((v8 a b c d f g h i) 1) (W (0-m)) m) (rv (.bool η)) (cond (!aD ((v8 a b c d f g h i) 2) (W (0-m)) m) (rv (.bool η)) (cond (!aD ((v8 a b c d f g h i) 3) (W (0-m)) m) (rv (.bool η)) (cond (!aD ((v8 a b c d f g h i) 4) (W (0-m)) m) (rv (.bool η)) (cond (!aD ((v8 a b c d f g h i) 5) (W (0-m)) m) (rv (.bool η)) (cond (!aD ((v8 a b c d f g h i) 6) (W (0-m)) m) (rv (.bool η)) (cond (!aD ((v8 a b c d f g h i) 7) (W (0-m)) m) (rv (.bool η)) (rv (.bool ε))))))))):=by kernel_rfl
  rw[e];exact sT (by simp only[vp,tg,pn,v8,Al,JT])
 ·cases j
def TV:aE:=ext Lg 174 (aS xr)
def TW:aK θ TV:=az TX akF
def AO:E τ->χ (τ×E κ)
 |[.agg ⟨[.int .i64 a,.int .i64 b,.int .i64 c,.int .i64 d]⟩,.agg ⟨[.int .i64 e,.int .i64 f,.int .i64 g,.int .i64 h]⟩]=>γ (gX (λk=>W ((v4 a b c d) k+(v4 e f g h) k)),[])
 |_=>ζ
def V6:au θ 153 (aS AO):=by
 refine en (n:=100) TW func153 rfl λb x c a d=>?_
 unfold AO at a;split at a
 ·rename_i e f g h i j k l
  simp only[ar,cG]at a;obtain⟨rfl,rfl⟩:=a;exact one (by kernel_rfl)
 ·cases a
def T8:aE:=ext TV 153 (aS AO)
def T9:aK θ T8:=az TW V6
def Kv:E τ->χ (τ×E κ)
 |[.agg ⟨[.int .i64 a,.int .i64 b,.int .i64 c,.int .i64 d]⟩,.int .i64 n]=>γ (gX (λk=>W (n*(v4 a b c d) k)),[])
 |_=>ζ
def ak':au θ 251 (aS Kv):=by
 refine en (n:=100) T9 func251 rfl λb x c a d=>?_
 unfold Kv at a;split at a
 ·rename_i e f g h n
  simp only[ar,cG]at a;obtain⟨rfl,rfl⟩:=a;exact one (by kernel_rfl)
 ·cases a
def T_:aE:=ext T8 251 (aS Kv)
def Ua:aK θ T_:=az T9 ak'
def Kp:E τ->χ (τ×E κ)
 |[.int .i64 n]=>γ (gX (EO n.toNat),[ο (0<=n),ο (n<=(12:O))])
 |_=>ζ
def ajY:au θ 250 (aS Kp):=by
 refine en (n:=100) Ua func250 rfl λf x g a d=>?_
 unfold Kp at a;split at a
 ·rename_i n
  simp only[ar,cG]at a;obtain⟨rfl,rfl⟩:=a;obtain⟨b,c⟩:=Cd d;have b:=aL b;have c:=aL c;obtain⟨k,rfl⟩:=tQ b;have e:k=0\/k=1\/k=2\/k=3\/k=4\/k=5\/k=6\/k=7\/k=8\/k=9\/k=10\/k=11\/k=12:=by omega
  clear d b c;rcases e with rfl|rfl|rfl|rfl|rfl|rfl|rfl|rfl|rfl|rfl|rfl|rfl|rfl
  iterate 13 exact one (by kernel_rfl)
 ·cases a
def TA:aE:=ext T_ 250 (aS Kp)
def TB:aK θ TA:=az Ua ajY
def Ko:E τ->χ (τ×E κ)
 |[.int .i64 n]=>γ (gX (EO n.toNat),[ο (0<=n),ο (n<=(23:O))])
 |_=>ζ
def ajX:au θ 250 (aS Ko):=by
 refine en (n:=100) TB func250 rfl λf x g a d=>?_
 unfold Ko at a;split at a
 ·rename_i n
  simp only[ar,cG]at a;obtain⟨rfl,rfl⟩:=a;obtain⟨b,c⟩:=Cd d;have b:=aL b;have c:=aL c;obtain⟨k,rfl⟩:=tQ b;have e:k=0\/k=1\/k=2\/k=3\/k=4\/k=5\/k=6\/k=7\/k=8\/k=9\/k=10\/k=11\/k=12\/k=13\/k=14\/k=15\/k=16\/k=17\/k=18\/k=19\/k=20\/k=21\/k=22\/k=23:=by omega
  clear d b c;rcases e with rfl|rfl|rfl|rfl|rfl|rfl|rfl|rfl|rfl|rfl|rfl|rfl|rfl|rfl|rfl|rfl|rfl|rfl|rfl|rfl|rfl|rfl|rfl|rfl
  iterate 24 exact one (by kernel_rfl)
 ·cases a
def La:aE:=ext TA 250 (aS Ko)
def Tz:aK θ La:=az TB ajX
def Kr:E τ->χ (τ×E κ)
 |[.agg ⟨[.int .i64 a,.int .i64 b,.int .i64 c,.int .i64 d,.int .i64 e,.int .i64 f,.int .i64 g,.int .i64 h]⟩]=>γ (gX (p8 (v8 a b c d e f g h)),[])
 |_=>ζ
def akv:au θ 219 (aS Kr):=by
 refine en (n:=100) Tz func219 rfl λk x l a m=>?_
 unfold Kr at a;split at a
 ·rename_i b c d f g h i j
  simp only[ar,cG]at a;obtain⟨rfl,rfl⟩:=a;have e:o4 (ad θ La K 100 f219 ([.agg ⟨[.int .i64 b,.int .i64 c,.int .i64 d,.int .i64 f,.int .i64 g,.int .i64 h,.int .i64 i,.int .i64 j]⟩].map .v) [] ed)=γ (gX (Ga (v8 b c d f g h i j) 8)):=by kernel_rfl
  rw[Xx (agF (v8 b c d f g h i j))]at e;exact one e
 ·cases a
def TE:aE:=ext La 219 (aS Kr)
def agt:aK θ TE:=az Tz akv
def T4:aE:=TE
def T5:aK θ T4:=agt
def AJ:E τ->χ (τ×E κ)
 |[.agg ⟨[.int .i64 a,.int .i64 b,.int .i64 c,.int .i64 d,.int .i64 e,.int .i64 f,.int .i64 g,.int .i64 h]⟩,.agg ⟨[.int .i64 i,.int .i64 j,.int .i64 k,.int .i64 l,.int .i64 m,.int .i64 n,.int .i64 o,.int .i64 p]⟩]=>γ (gX (p8 (ep (jl (v8 a b c d e f g h)) (v8 i j k l m n o p))),[])
 |_=>ζ
def VL:au θ 154 (aS AJ):=by
 refine en (n:=100) T5 func154 rfl λb x c a d=>?_
 unfold AJ at a;split at a
 ·rename_i e f g h i j k l m o p q r s t u
  simp only[ar,cG]at a;obtain⟨rfl,rfl⟩:=a;exact one (by kernel_rfl)
 ·cases a
def TC:aE:=ext T4 154 (aS AJ)
def agr:aK θ TC:=az T5 VL
def Tx:aE:=TC
def Ty:aK θ Tx:=agr
def Ks:E τ->χ (τ×E κ)
 |[.agg ⟨[.int .i64 a,.int .i64 b,.int .i64 c,.int .i64 d,.int .i64 e,.int .i64 f,.int .i64 g,.int .i64 h]⟩,.int .i64 n]=>γ (dn (gA (v8 a b c d e f g h) n.toNat),[ο (0<=n),ο (n<=(23:O))])
 |_=>ζ
def akB:au θ 164 (aS Ks):=by
 refine en (n:=100) Ty func164 rfl λf x g a d=>?_
 unfold Ks at a;split at a
 ·rename_i h i j l m o p q n
  simp only[ar,cG]at a;obtain⟨rfl,rfl⟩:=a;obtain⟨b,c⟩:=Cd d;have b:=aL b;have c:=aL c;obtain⟨k,rfl⟩:=tQ b;have e:k=0\/k=1\/k=2\/k=3\/k=4\/k=5\/k=6\/k=7\/k=8\/k=9\/k=10\/k=11\/k=12\/k=13\/k=14\/k=15\/k=16\/k=17\/k=18\/k=19\/k=20\/k=21\/k=22\/k=23:=by omega
  clear d b c;rcases e with rfl|rfl|rfl|rfl|rfl|rfl|rfl|rfl|rfl|rfl|rfl|rfl|rfl|rfl|rfl|rfl|rfl|rfl|rfl|rfl|rfl|rfl|rfl|rfl
  iterate 24 exact one (by kernel_rfl)
 ·cases a
def Lf:aE:=ext Tx 164 (aS Ks)
def TN:aK θ Lf:=az Ty akB
def Kt:E τ->χ (τ×E κ)
 |[.agg ⟨[.int .i64 a,.int .i64 b,.int .i64 c,.int .i64 d,.int .i64 e,.int .i64 f,.int .i64 g,.int .i64 h]⟩]=>γ (gX (p8 (v8 a b c d e f g h)),[])
 |_=>ζ
def akC:au θ 175 (aS Kt):=by
 refine en (n:=100) TN func175 rfl λl x m k o=>?_
 unfold Kt at k;split at k
 ·rename_i a b c d f h i j
  simp only[ar,cG]at k;obtain⟨rfl,rfl⟩:=k;have e:o4 (ad θ Lf K 100 f175 ([.agg ⟨[.int .i64 a,.int .i64 b,.int .i64 c,.int .i64 d,.int .i64 f,.int .i64 h,.int .i64 i,.int .i64 j]⟩].map .v) [] ed)=γ (gX (v4 (W (W (2*(v8 a b c d f h i j) 2)+W (4*(v8 a b c d f h i j) 6))) (W (W (W (W (0-(v8 a b c d f h i j) 1)+W (2*(v8 a b c d f h i j) 3))+(v8 a b c d f h i j) 5)+(v8 a b c d f h i j) 7)) (W (2*(v8 a b c d f h i j) 4)) (W (W ((v8 a b c d f h i j) 1+(v8 a b c d f h i j) 5)+(v8 a b c d f h i j) 7)))):=by kernel_rfl
  rw[Xx (g:=p8 (v8 a b c d f h i j)) (SD ?_ ?_ ?_ ?_)]at e
  ·exact one e
  all_goals (simp only[v4,p8,Gb,qz,qA,Int.zero_sub])
 ·cases k
def TO:aE:=ext Lf 175 (aS Kt)
def agv:aK θ TO:=az TN akC
def TP:aE:=TO
def TQ:aK θ TP:=agv
def AN:E τ->χ (τ×E κ)
 |[.agg ⟨[.int .i64 a,.int .i64 b,.int .i64 c,.int .i64 d,.int .i64 e,.int .i64 f,.int .i64 g,.int .i64 h]⟩,.agg ⟨[.int .i64 i,.int .i64 j,.int .i64 k,.int .i64 l,.int .i64 m,.int .i64 n,.int .i64 o,.int .i64 p]⟩]=>γ (gX (p8 (ep (jl (v8 a b c d e f g h)) (v8 i j k l m n o p))),[])
 |_=>ζ
def VY:au θ 114 (aS AN):=by
 refine en (n:=100) TQ func114 rfl λb x c a d=>?_
 unfold AN at a;split at a
 ·rename_i e f g h i j k l m o p q r s t u
  simp only[ar,cG]at a;obtain⟨rfl,rfl⟩:=a;exact one (by kernel_rfl)
 ·cases a
def TS:aE:=ext TP 114 (aS AN)
def TU:aK θ TS:=az TQ VY
def AM:E τ->χ (τ×E κ)
 |[.agg ⟨[.int .i64 a,.int .i64 b,.int .i64 c,.int .i64 d]⟩,.int .i64 n,.agg ⟨[.int .i64 e,.int .i64 f,.int .i64 g,.int .i64 h]⟩]=>γ (gX (λk=>W ((v4 a b c d) k+W (n*(v4 e f g h) k))),[])
 |_=>ζ
def VW:au θ 113 (aS AM):=by
 refine en (n:=100) TU func113 rfl λb x c a d=>?_
 unfold AM at a;split at a
 ·rename_i e f g h n i j k l
  simp only[ar,cG]at a;obtain⟨rfl,rfl⟩:=a;exact one (by kernel_rfl)
 ·cases a
def TR:aE:=ext TS 113 (aS AM)
def agw:aK θ TR:=az TU VW
abbrev U(n:Z):Z:=atD.wrap n
def tx(x y:Z):Z:=
 if 0<=x/\0<=y then(if x=0/\y=0 then 0 else 1)
 else if x<=0/\y<=0 then-1
 else if x<0 then(if x*x>2*(y*y)then-1 else 1)
 else(if x*x>2*(y*y)then 1 else-1)
abbrev Lq(x:Z):κ:=aD x (-9223372036854775808) 9223372036854775807
abbrev xq(s:aQ):Z:=W (W (W (W (s 0*s 0)+W (W (2*s 1)*s 1)) -W (W (3*s 2)*s 2)) -W (W (6*s 3)*s 3))
abbrev yq(s:aQ):Z:=W (W (W (2*s 0)*s 1) -W (W (6*s 2)*s 3))
def NG(s:aQ):Z:=if tx (s 0) (s 1)=tx (s 2) (s 3)\/tx (s 2) (s 3)=0 then tx (s 0) (s 1)else if tx (s 0) (s 1)=0 then tx (s 2) (s 3)else tx (s 0) (s 1)*tx (xq s) (yq s)
def T7:aE:=TR
def agy:aK θ T7:=agw
def re:aE:=T7
def Bf:aK θ re:=agy
abbrev MI(W:υ)(bB:O):O->Prop:=λk=>W.heap.size<=k\/k=bB
def Rd{ν:Nu}{a:O->O->Z}{m c bB cB:O}{bL:Bk}{tB tr:ae}{X:υ}(h:BR ν 0 ((gd a m c tB tr).getD 0 .gone) X)(g:ν 0=γ ⟨bB,0,cB⟩)(i:ν 1=γ bL)(r:0<m):X.heap[bB]?=γ (.cells #[.slice (γ ⟨bL.n,bL.o,ζ⟩) m c] tB (0,0)):=by
 simp only[gd,List.getD_cons_zero]at h;obtain⟨b,l,e,s,j,d⟩:=h;rw[g]at e;cases e;rw[j];cases l with
 |nil=>simp only[ax]at d
 |cons y k=>
  cases k with
  |cons=>simp only[ax]at d;exact d.2.elim
  |nil=>simp only[ax,VR,aa]at d;obtain⟨p,t,rfl,n,u,o⟩:=d;have:=n c rfl;subst this;obtain⟨v,f,q⟩:=o (by omega);rw[i]at f;cases f;rw[q];simp
def UJ{w X a:υ}{M:O->Prop}(h:X.grownBy a ζ):ia w M X a:=⟨h.size,λ_ _ _ _ b=>(h.block _ (cm.1 b).1 (by simp)).trans b⟩
def apv{w X:υ}{bB:O}{M:O->Prop}(h:aY M w)(g:aY (λk=>w.heap.size<=k\/k=bB) w)(b:ia w M w X):aY (MI X bB) X:=λx c=>by obtain⟨i,l,t,j,d,m⟩:=h x c;obtain⟨n,_⟩:=g x c;have a:=(cm.1 d).1;exact⟨λf=>f.elim (λf=>by have:=b.1;omega) λe=>n (.inr e),l,t,j,b.2 x.1 _ a i d,m⟩
def an7{nn:O}{w:υ}{g:Nu}{bB cB:O}{bL:Bk}{a:O->O->Z}{m c:O}{tB tr:ae}{M:O->Prop}(hH:RH (λk=>w.heap.size<=k\/k=bB) g (λb=>(gd a m c tB tr).getD b .gone) w)(h0:g 0=γ ⟨bB,0,cB⟩)(h1:g 1=γ bL)(n:∀i b,g i=γ b->i<2)(hm0:0<m)(hm:m<=2^40)(hMb:¬M bB)(hML:¬M bL.n)(htab:aY M w):SeqStopsK (cd ζ) nn θ 218 #[.pointer (γ ⟨bB,0,ζ⟩)] (λx:Fin m=>[ms (a x) (a ((x+1)%m))].toArray) (ia w M) (λxs=>xs=oE m) (λ_=>True) m w:=by
 intro l f Jx W hW hJ hJx hY hJ0;have ltB:bB<w.heap.size:=hH.lt 0 _ h0;have ltL:bL.n<w.heap.size:=hH.lt 1 _ h1;have B:∀X:υ,w.heap.size<=X.heap.size->X.heap[bB]?=w.heap[bB]?->X.heap[bL.n]?=w.heap[bL.n]?->ia w M w X->RH (MI X bB) g (λb=>(gd a m c tB tr).getD b .gone) X:=by
  intro X hs e1 e2 S;refine⟨λi=>(hH.br i).of_block λk t _=>?_,hH.sep,λi b hw U=>?_,λi b U=>eE (hH.lt i b U) hs,apv htab hH.eC S⟩
  ·have:=n i k t
   rcases(by omega:i=0\/i=1)with rfl|rfl
   ·rw[h0]at t;cases t;exact e1
   ·rw[h1]at t;cases t;exact e2
  ·have:=n i b U
   rcases(by omega:i=0\/i=1)with rfl|rfl
   ·rw[h0]at U;cases U;exact .inr rfl
   ·simp[AB.wr]at hw
 have nuEq:∀j,Le g j->(∀i b,j i=γ b->i<2)->j=g:=by
  intro j hle hd
  funext i
  rcases(by omega:i=0\/i=1\/2<=i)with rfl|rfl|hi
  ·rw[h0,hle _ _ h0]
  ·rw[h1,hle _ _ h1]
  ·cases e:j i with
   |none=>
    cases e':g i with
    |none=>rfl
    |some b=>have:=n i b e';omega
   |some b=>have:=hd i b e;omega
 have L:=Rd (hH.br 0) h0 h1 hm0
 --own steps:new blocks alone
 have grown:∀{X u:υ}{T:E AV}{A:aV},X.heap[bB]?=w.heap[bB]?->SR (MI X bB) X g T (gd a m c tB tr) A u g->X.grownBy u ζ:=by
  intro X u T A hX y;refine⟨y.fr.os,y.fr.tape,y.fr.output,y.fr.size,λk t _=>?_⟩;by_cases e:k=bB
  ·subst e
   rw[Rd (y.heap.br 0) h0 h1 hm0,hX,L]
  ·exact y.fr.block k t λh=>by
    rcases h with h|h
    ·omega
    ·exact e h
 have hpos:∀T (A:aV) X u j,SR (MI X bB) X g T (gd a m c tB tr) A u j->j=g:=λT A X u j h=>nuEq j h.le λi b U=>by simpa[gd]using h.b6 i b U
 --at the loop's head
 let HD:O->aV->υ->Prop:=λi A X=>A.defers=[]/\SR (MI X bB) X g (jM l m c i) (gd a m c tB tr) A X g/\f ((oE m).take i) X/\X.heap[bB]?=w.heap[bB]?/\X.heap[bL.n]?=w.heap[bL.n]?/\W.heap.size<=X.heap.size/\ia w M w X
 have hWsz:=hW.size;have e1W:W.heap[bB]?=w.heap[bB]?:=hW.block bB ltB;have e2W:W.heap[bL.n]?=w.heap[bL.n]?:=hW.block bL.n ltL;have hkW:ia w M w W:=⟨hW.size,λk o t _ ho=>(hW.block k t).trans ho⟩
 --what an own piece of code leaves
 have own:∀{X u:υ}{T T':E AV}{A A':aV}{j:Nu}{i:O},W.heap.size<=X.heap.size->X.heap[bB]?=w.heap[bB]?->X.heap[bL.n]?=w.heap[bL.n]?->f ((oE m).take i) X->ia w M w X->SR (MI X bB) X g T (gd a m c tB tr) A u j->
   f ((oE m).take i) u/\u.heap[bB]?=w.heap[bB]?/\u.heap[bL.n]?=w.heap[bL.n]?/\W.heap.size<=u.heap.size/\ia w M w u/\SR (MI u bB) u g T (gd a m c tB tr) A u g:=by
  intro X u T T' A A' j i hs g1 g2 hj S y;have:=hpos _ _ _ _ _ y;subst this;have hg:=grown g1 y;have k1:=(hg.block bB (by omega) (by simp)).trans g1;have k2:=(hg.block bL.n (by omega) (by simp)).trans g2;exact⟨hJ _ _ _ ζ hj hg (λr e=>by cases e),k1,k2,cD hs hg.size,S.trans (UJ hg),⟨y.tmps,B u (by have:=hg.size;omega) k1 k2 (S.trans (UJ hg)),Fr.refl _ _,y.b6,y.len,Le.refl _⟩⟩
 refine callsIn_of_wp func218 abJ trivial ?_;have hvr:ax g [.v (yv l),.ptr 0 1 0 0] [yv l,.pointer (γ ⟨bB,0,ζ⟩)]:=by simp only[ax,VR,aa,bo];exact⟨_,h0,by simp⟩
 have hst:=qw (M:=MI W bB) (fn:=DU) hvr (B W hWsz e1W e2W hkW) (λi b U=>by simpa[gd]using n i b U);have fin:∀(A:aV)(X:υ),A.defers=[]->((f (oE m) X)\/∃N,Jx N X)->bodyPost θ DU (λe W'=>(∃v,e=.returned v)/\((∃xs,xs=oE m/\f xs W')\/(∃N,True/\Jx N W'))) .ret A X:=by
  intro A X hd hx;refine⟨hd,_,results_none rfl _ _ _,⟨_,rfl⟩,?_⟩;rcases hx with hx|⟨N,hx⟩
  ·exact .inl ⟨_,rfl,hx⟩
  ·exact .inr ⟨N,trivial,hx⟩
 refine jw (ku (lI (nn:=nn) bt mixed enters ζ [] 100 M9 (by kernel_rfl) (MI W bB) W g (λk t=>.inl t) _ _ _ (λe T' R=>e=.normal/\T'=jM l m c 0/\R=gd a m c tB tr) _ W g (by rw[show[AV.v (yv l),.ptr 0 1 0 0]++ez ((DU).ntmps-[AV.v (yv l),.ptr 0 1 0 0].length) (AV.v aX)=[.v (yv l),.ptr 0 1 0 0]++ez 24 (.v aX)from rfl,anQ];exact⟨rfl,rfl,rfl⟩) hst rfl) ?_);intro e A X hp;obtain⟨e',T',R,j,rfl,⟨rfl,rfl,rfl⟩,y,hd⟩:=L7 hp n;obtain⟨j1,k1,k2,k3,k4,C⟩:=own (T':=[]) (A':=A) (i:=0) (aR _) e1W e2W (by simpa using hJ0) hkW y;show(Code.block 0 (.loop u6)).wpIn (cd ζ) nn θ _ A X
 refine wpIn_block (wpIn_loop (λA X=>∃i,i<=m/\HD i A X) (λA _=>m-(intOf (A.tmps.getD 7 aX)).toNat) ⟨0,eF _,hd,C,j1,k1,k2,k3,k4⟩ ?_);clear y hd C j1 k1 k2 k3 k4 hp hst hvr;rintro A X ⟨i,him,hd,y,hj,g1,g2,g3,g4⟩;have mu:∀{i:O}{A:aV}{X X0:υ},SR (MI X0 bB) X0 g (jM l m c i) (gd a m c tB tr) A X g->(intOf (A.tmps.getD 7 aX)).toNat=i:=by intro i A X X0 h;have:=h.tmps 7;rw[show(jM l m c i).getD 7 .dead=.v (ι i)from by kernel_rfl]at this;simp only[VR]at this;rw[this];simp[intOf]
 have hmu:=mu y;rw[ait];refine jw (ku (lI (nn:=nn) bt mixed enters ζ [] 100 M_ (by kernel_rfl) (MI X bB) X g (λk t=>.inl t) _ _ _ (λe T' R=>e=.normal/\T'=(jM l m c i).set 8 (.v (.bool (ο ((i:Z)<m))))/\R=gd a m c tB tr) _ X g (by rw[anR];exact⟨rfl,rfl,rfl⟩) y hd) ?_);rintro e A1 X1 ⟨e',T',R,j,rfl,⟨rfl,rfl,rfl⟩,C,hd1⟩;obtain⟨hj1,g11,g12,g13,g14,C⟩:=own (T':=[]) (A':=A) g3 g1 g2 hj g4 C;have hc8:A1.eval (.tmp 8)=.bool (ο ((i:Z)<m)):=by have:=C.tmps 8;rw[show((jM l m c i).set 8 (.v (.bool (ο ((i:Z)<m))))).getD 8 .dead=.v (.bool (ο ((i:Z)<m)))from by kernel_rfl]at this;simp only[VR]at this;exact this
 show(v5 (.cond (.tmp 8) .skip (.exit 0)) _).wpIn (cd ζ) nn θ _ A1 X1
 refine jw (wpIn_cond hc8 ?_);rcases(nG i m).symm with hge|hlt
 · --the end
   rw[bi (by simp;omega)];refine wpIn_exit ?_;have:i=m:=by omega
   subst this;simp only[Exit.then,Exit.inBlock,if_true];refine fin A1 X1 hd1 (.inl ?_);rw[oH (by simp)]at hj1;exact hj1
 ·rw[aP (by simp;omega)]
  refine wpIn_skip ?_;show(v5 (.block 1 _) _).wpIn (cd ζ) nn θ _ A1 X1
  refine jw (wpIn_block (jw ?_))
  --region 2,and the head of region 3
  have hW1:Go.Proofs.YtlmbkhplhkdhlaaGreatDoor.W (i+1)=((i+1:O):Z):=by rw[kL (by omega) (by omega)];omega
  have hnx:(Go.Proofs.YtlmbkhplhkdhlaaGreatDoor.W (i+1)).tmod m=(((i+1)%m:O):Z):=by rw[hW1];exact(Int.ofNat_tmod _ _).symm
  have hml:(i+1)%m<m:=r7 _ hm0;have hr2:=anS l m c i (ο ((i:Z)<m)) a tB tr;rw[hnx]at hr2;have hr2:(Xo ((jM l m c i).set 8 (.v (.bool (ο ((i:Z)<m))))) (gd a m c tB tr)).ok (λe T' R=>e=.normal/\T'=((jM l m c i).set 12 (.v (yv l))).set 22 (.v (ms (a i) (a ((i+1)%m))))/\R=gd a m c tB tr):=by
   rw[hr2];have ok:aJ [ο ((i:Z)<m),ο (0+i<m),!ο ((m:Z)=0),ο ((0:Z)<=(((i+1)%m:O):Z)),ο ((((i+1)%m:O):Z)<m),ο (0+(((i+1)%m:O):Z).toNat<m)]=ε:=by simp only[F,ah,aa,aB,it,sd,cY];refine⟨by omega,by omega,by omega,by omega,by omega,by omega⟩
   refine(ag ok ⟨?_⟩).out;simp only[cY,bF];exact⟨rfl,rfl,rfl⟩
  refine ku (lI (nn:=nn) bt mixed enters ζ [] 100 M' (by kernel_rfl) (MI X1 bB) X1 g (λk t=>.inl t) _ _ _ _ _ X1 g hr2 C hd1) ?_;rintro e A2 X2 ⟨e',T2,H2,ν2,rfl,hk2,s,hd2⟩;cases e' with
  |exit id=>exact hk2.elim
  |ret=>exact hk2.elim
  |normal=>
   obtain⟨es,T3,H3,hrun,z⟩:=xj hk2;rcases(kZ z).symm with⟨_,z⟩|⟨hdr,z⟩
   ·exact z.elim
   show(v5 (.region 3 GD ε) _).wpIn (cd ζ) nn θ _ A2 X2
   refine jw (wpIn_region_any mixed ?_);rw[show GD=opsL.toArray by simp[opsL]];have hS2':SR (MI X1 bB) X1 g T2 H2 A2 {X2 with drawn:=X2.drawn+1} ν2:=⟨s.tmps,⟨λi=>(s.heap.br i).of_block λ_ _ _=>rfl,s.heap.sep,s.heap.own,s.heap.lt,s.heap.eC⟩,s.fr.drew,s.b6,s.len,s.le⟩;rw[show opsL.toArray.size=opsL.length by simp];refine abk (k:=11) bt (λk t=>.inl t) hrun (by rw[UX];decide) adS (by simpa using hdr) apz ?_ hS2' ?_
   ·rintro⟨A9,X9,⟨v,hv⟩,_⟩
    cases hv
   ·intro D X3 ν3 hS3 hd3
    unfold eH at z;split at z
    ·rename_i p hwk
     obtain⟨_,hp1,hp2⟩:=z;have hS4:=nt hwk hS3 n;rw[hp1,hp2]at hS4;obtain⟨hj3,g31,g32,g33,g34,H⟩:=own (T':=[]) (A':=A) g13 g11 g12 hj1 g14 hS4;have hx12:D.eval (.tmp 12)=yv l:=by have:=H.tmps 12;rw[show(((jM l m c i).set 12 (.v (yv l))).set 22 (.v (ms (a i) (a ((i+1)%m))))).getD 12 .dead=.v (yv l)from by kernel_rfl]at this;simp only[VR]at this;exact this
     have hx22:D.eval (.tmp 22)=ms (a i) (a ((i+1)%m)):=by have:=H.tmps 22;rw[show(((jM l m c i).set 12 (.v (yv l))).set 22 (.v (ms (a i) (a ((i+1)%m))))).getD 22 .dead=.v (ms (a i) (a ((i+1)%m)))from by kernel_rfl]at this;simp only[VR]at this;exact this
     have hyl:=hY ((oE m).take i) ⟨i,hlt⟩ X3 hj3 (by simp;omega);have htake:(oE m).take (i+1)=(oE m).take i++[⟨i,hlt⟩]:=by rw[List.take_add_one];simp[hlt]
     have hsz3:24<D.tmps.size:=by
      have:=H.len;have e:(((jM l m c i).set 12 (.v (yv l))).set 22 (.v (ms (a i) (a ((i+1)%m))))).length=26:=by kernel_rfl
      omega
     rw[UX];refine wpAnyIn_all (fuel:=1) amd (by simp) λq hq=>?_
     obtain rfl:q=11:=by simpa using hq
     refine OC alE alH alG hx12 hx22 hyl ?_;rintro e G (⟨rfl,hj4,I⟩|⟨rfl,hjx⟩)
     ·refine⟨.bool ε,rfl,wpAnyIn_all (fuel:=0) WF (by simp) λq hq=>?_⟩
      obtain rfl:q=12:=by simpa using hq
      rw[Wl];have P:(D.put (γ 23) (.bool ε)).eval (.tmp 23)=.bool ε:=by
       show(D.put (γ 23) (.bool ε)).tmps.getD 23 aX=_
       rw[vt (λd e=>by cases e;show(23:O)<_;omega)];simp
      refine Mu Wg Wk Wj P ⟨WG,?_⟩;rw[Wi];have hsz4:w.heap.size<=G.heap.size:=by have:=I.1;omega
      have k1:G.heap[bB]?=w.heap[bB]?:=by rw[L];exact I.2 bB _ ltB hMb (g31.trans L)
      have k2:G.heap[bL.n]?=w.heap[bL.n]?:=by
       cases ho:w.heap[bL.n]?with
       |none=>rw[Array.getElem?_eq_none_iff]at ho;omega
       |some o=>exact I.2 bL.n o ltL hML (g32.trans ho)
      have hS6:SR (MI G bB) G g _ (gd a m c tB tr) D G g:=⟨H.tmps,B G hsz4 k1 k2 (g34.trans I),Fr.refl _ _,H.b6,H.len,Le.refl _⟩;have hS7:=SR.put (dst:=γ 23) (x:=.v (.bool ε)) (v:=.bool ε) hS6 (by kernel_rfl) (Le.refl _) (by simp only[VR]) hS6.heap hS6.fr hS6.b6;have hS8:=SR.put (dst:=γ 24) (x:=.v (.bool η)) (v:=.bool η) hS7 (by kernel_rfl) (Le.refl _) (by simp only[VR]) hS7.heap hS7.fr hS7.b6;have Q:((D.put (γ 23) (.bool ε)).put (γ 24) (.bool (!ε))).eval (.tmp 24)=.bool η:=by
       show((D.put (γ 23) (.bool ε)).put (γ 24) (.bool (!ε))).tmps.getD 24 aX=_
       rw[vt (λd e=>by cases e;rw[Cv];exact hsz3)];simp
      show(Dm (.tmp 24) .ret .skip).wpIn (cd ζ) nn θ _ _ G
      refine wpIn_cond_false Q (wpIn_skip ?_);show Cz.wpIn (cd ζ) nn θ _ _ G
      have hd8:((D.put (γ 23) (.bool ε)).put (γ 24) (.bool (!ε))).defers=[]:=by rw[ke,ke];exact hd3.trans hd2
      refine ku (lI (nn:=nn) bt mixed enters ζ [] 100 Cz (by kernel_rfl) (MI G bB) G g (λk t=>.inl t) _ _ _ (λe T' R=>e=.normal/\T'=jM l m c (i+1)/\R=gd a m c tB tr) _ G g (by
       have:=anT l m c i η (ms (a i) (a ((i+1)%m))) a tB tr;rw[hW1]at this;show(a0 θ g0 100 K Cz (((((jM l m c i).set 12 (.v (yv l))).set 22 (.v (ms (a i) (a ((i+1)%m))))).set 23 (.v (.bool ε))).set 24 (.v (.bool η))) (gd a m c tB tr) (eH (cx [0,1,5,6,7] [] []) 2)).ok _
       rw[this];exact⟨rfl,rfl,rfl⟩) hS8 hd8) ?_
      intro e A6 X6 hp6;obtain⟨e',T',R,j,rfl,⟨rfl,rfl,rfl⟩,hS9,hd9⟩:=L7 hp6 n;obtain⟨j9,k91,k92,k93,k94,hS9⟩:=own (T':=[]) (A':=A) (i:=i+1) (by have:=I.1;omega) k1 k2 (by rw[htake];exact hj4) (g34.trans I) hS9;refine⟨⟨i+1,by omega,hd9,hS9,j9,k91,k92,k93,k94⟩,?_⟩;rw[mu hS9,hmu];omega
     ·refine⟨.bool η,rfl,wpAnyIn_all (fuel:=0) WF (by simp) λq hq=>?_⟩
      obtain rfl:q=12:=by simpa using hq
      rw[Wl];have P:(D.put (γ 23) (.bool η)).eval (.tmp 23)=.bool η:=by
       show(D.put (γ 23) (.bool η)).tmps.getD 23 aX=_
       rw[vt (λd e=>by cases e;show(23:O)<_;omega)];simp
      refine Mu Wg Wk Wj P ⟨WG,?_⟩;rw[Wi];have Q:((D.put (γ 23) (.bool η)).put (γ 24) (.bool (!η))).eval (.tmp 24)=.bool ε:=by
       show((D.put (γ 23) (.bool η)).put (γ 24) (.bool (!η))).tmps.getD 24 aX=_
       rw[vt (λd e=>by cases e;rw[Cv];exact hsz3)];simp
      have hd8:((D.put (γ 23) (.bool η)).put (γ 24) (.bool (!η))).defers=[]:=by rw[ke,ke];exact hd3.trans hd2
      show(Dm (.tmp 24) .ret .skip).wpIn (cd ζ) nn θ _ _ G
      exact wpIn_cond_true Q (wpIn_ret (fin _ G hd8 (.inr ⟨_,hjx⟩)))
    ·exact z.elim
def Uz:E τ->κ
 |[.int .i64 _,.int .i64 _,.int .i64 _,.int .i64 _,.int .i64 _,.int .i64 _,.int .i64 _,.int .i64 _]=>ε
 |_=>η
def bh(g:O->E τ):O->O->Z:=λj k=>intOf ((g j).getD k aX)
def hU(m:O)(g:O->E τ):κ:=(dH m).all λj=>Uz (g j)
def kv{m:O}{g:O->E τ}(h:hU m g=ε)(j:O)(a:j<m):g j=fS (bh g) j:=by
 have:=bX.1 h j (by simpa using a);simp only[fS,bh,ι];unfold Uz at this;split at this
 ·rename_i e;rw[e];rfl
 ·cases this
def sx{m:O}{a:O->O->Z}{g:O->E τ}(h:∀j,j<m->g j=fS a j):hU m g=ε:=bX.2 λj b=>by rw[h j (by simpa using b)];rfl
def rfA:a9->a9| .rangeFunc _ _ a _=>a|c=>c
def rfB:a9->a9| .rangeFunc _ _ _ b=>b|c=>c
def an6{nn:O}{W:υ}{d:Nu}{TT:E AV}{HH H':E AB}{a1:aV}{L:E τ}{a:O->O->Z}{m ib il:O}{tB tr:ae}(f:SR (dv W d HH) W d TT HH a1 W d)(g:ax d [.ptr ib 0 0 0] L)(s:HH.getD ib .gone=.cells [.sl il 8 0 0 m ζ] tB)(t:HH.getD il .gone=.row η m 8 (fS a) tr)(N:ib≠il)(P:0<m)(hm:m<=2^40)(Q:∀i,(H'.getD i .gone).wr=ε->(HH.getD i .gone).wr=ε/\i≠ib):SeqStopsK (cd ζ) nn θ 218 L.toArray (λx:Fin m=>[ms (a x) (a ((x+1)%m))].toArray) (ia W (dv W d H')) (λxs=>xs=oE m) (λ_=>True) m W:=by
 cases L with
 |nil=>simp only[ax]at g
 |cons y ys=>
  cases ys with
  |cons=>simp only[ax]at g;exact g.2.elim
  |nil=>
   simp only[ax,VR,aa]at g;obtain⟨b,B,rfl⟩:=g;have C:=f.heap.br ib;simp only[s]at C;obtain⟨b',l,e1,R,e3,D⟩:=C;rw[B]at e1;cases e1;cases l with
   |nil=>simp only[ax]at D
   |cons z zs=>
    cases zs with
    |cons=>simp only[ax]at D;exact D.2.elim
    |nil=>
     simp only[ax,VR,aa]at D;obtain⟨p,c,rfl,_,h3,h4⟩:=D;obtain⟨u,G,h6⟩:=h4 (by omega)
     let S:Nu:=λi=>match i with|0=>γ b|1=>γ u|_=>ζ
     have T:RH (λk=>W.heap.size<=k\/k=b.n) S (λi=>(gd a m c tB tr).getD i .gone) W:=by
      have H:=f.heap.br il;simp only[t]at H;have I:=f.heap.sep ib il b u N (by rw[s];rfl) (by rw[t];rfl) B G;refine⟨λi=>?_,λi j v b2 U w hl o h2=>?_,λi v w o=>?_,λi v o=>?_,f.heap.eC.mono λk _ h=>h.elim .inl λe=>.inr ⟨ib,b,by rw[s];rfl,B,e.symm⟩⟩
      ·match i with
       |0=>refine⟨b,_,rfl,R,e3,?_⟩;simp only[ax,VR,aa];exact⟨p,c,rfl,λc' h=>by cases h;rfl,h3,λ_=>⟨u,rfl,h6⟩⟩
       |1=>
        rcases H with⟨_,h0,_⟩|⟨bb,l,t',fz,g1,g2⟩
        ·omega
        ·rw[G]at g1
         cases g1;exact .inr ⟨u,l,t',fz,rfl,g2⟩
       |n+2=>trivial
      ·match i,j with
       |0,1=>cases o;cases h2;exact I
       |1,_=>simp[AB.wr]at w
       |0,0=>exact(U rfl).elim
       |0,n+2=>cases h2
       |n+2,_=>cases o
      ·match i with
       |0=>cases o;exact .inr rfl
       |1=>simp[AB.wr]at w
       |n+2=>cases o
      ·match i with
       |0=>cases o;exact f.heap.lt ib b B
       |1=>cases o;exact f.heap.lt il u G
       |n+2=>cases o
     have ltB:=f.heap.lt ib b B;have ltL:=f.heap.lt il u G;have X:=an7 (nn:=nn) (M:=dv W d H') (bB:=b.n) (cB:=b.c) (bL:=u) (a:=a) (c:=c) (tB:=tB) (tr:=tr) T (by show γ b=_;rw[show b=⟨b.n,0,b.c⟩ by rw[<-R]]) rfl (λi v o=>by
      match i with
      |0=>omega
      |1=>omega
      |n+2=>cases o) P hm ?_ ?_ (f.heap.eC.mono λk _ h=>h.elim .inl λ⟨i,v,w,q,e⟩=>.inr ⟨i,v,(Q i w).1,q,e⟩)
     ·rw[R]
      exact X
     ·rintro(hk|⟨i,v,w,q,e⟩)
      ·omega
      ·obtain⟨r,A⟩:=Q i w
       exact f.heap.sep i ib v b A r (by rw[s];rfl) q B e
     ·rintro(hk|⟨i,v,w,q,e⟩)
      ·omega
      ·obtain⟨r,A⟩:=Q i w
       refine f.heap.sep i il v u (λe=>?_) r (by rw[t];rfl) q G e;subst e;rw[t]at r;simp[AB.wr]at r
def aeI{f:bq}{fn:cA}(a:θ.funcs[f]?=γ fn)(b:fn.body.isSome=ε):∀args w,(g_ f args).run θ w=.ok (.enter f args) w:=λargs w=>enters f fn a b args w
def kF(a:ω)(j:O):κ:=pn (a j) (-100) 100
def kb(a:ω)(n:O):κ:=(dH n).all λj=>kF a j
def MB{a:O->O->Z}{n j:O}(h:kb a n=ε)(b:j<n):kF a j=ε:=bX.1 h j (by simpa using b)
def VD{a:O->O->Z}{n:O}(h:kb a n=ε)(b:kF a n=ε):kb a (n+1)=ε:=by unfold kb;rw[HK,gC];simp only[gl,jR,iM,aM];exact⟨h,b⟩
def VC{a:O->O->Z}{n j:O}(c:j<n)(b:kF a j=η):kb a n=η:=by
 cases h:kb a n with
 |false=>rfl
 |true=>rw[MB h c]at b;cases b
structure PV where
 m:O
 n:O
 g:O->E τ
 t:ae
abbrev yS(m:O):AV:=.sl 0 8 0 0 m ζ
def lg(s:PV):E AB:=[.row η s.m 8 (fS (bh s.g)) s.t]
def tj(s:PV):E κ:=[ai s.n s.m,hU s.m s.g,ο (s.m<=2^38)]
abbrev Mg:Ex->E O:=cx [0,3] [0] [2]
def EU:E AV->E AB->χ PV
 |[.sl 0 8 0 0 m ζ,.v (.int .i64 0)],[.row η n 8 g t]=>γ ⟨m,n,g,t⟩
 |_,_=>ζ
def NV(s:PV)(i:O):E (O×AV):=[(0,yS s.m),(3,.v (ι i))]
def Cm(s:PV)(a:dx):ao:=cond (kb (bh s.g) s.m) (a .normal (aw 0 19 [(0,yS s.m)]) (lg s)) (a .ret (aw 0 19 [(2,.v (.bool η))]) (lg s))
def anp(s:PV)(i:O):a0 θ re 100 K (a4 0 Pv) (aw 0 19 (NV s i)) (lg s) (eH Mg 1)=cond (ο ((i:Z)<s.m)) (Ω [ο ((i:Z)<s.m),ο (0+i<s.m)] (cond (!kF (bh s.g) (0+i)) (.out .ret (aw 0 19 [(2,.v (.bool η))]) (lg s)) (.out .normal (aw 0 19 [(0,yS s.m),(3,.v (ι (W (i+1))))]) (lg s)))) (.out (.exit 0) (aw 0 19 [(0,yS s.m)]) (lg s)):=by kernel_rfl
def GN{s:PV}(a:aJ (tj s)=ε):s.n=s.m/\(∀j,j<s.m->s.g j=fS (bh s.g) j)/\s.m<=2^38:=by simp only[tj,F,aB]at a;exact⟨ci a.1,kv a.2.1,a.2.2.1⟩
def apg:cp θ 1 (.block 0 (.loop (a4 0 Pv))) (rz 19 [0,3] EU tj Cm):=by
 refine Vj Bf (n:=100) (m:=1) (lv:=Mg) (Λ:=K) NV (λs _=>lg s) (λs i=>kb (bh s.g) i=ε) (λs=>s.m) rfl (cT _ _ _) (aR _) ?_ ?_
 ·intro k H s e h
  unfold EU at e;split at e
  ·rename_i m n g t
   cases e;obtain⟨b,c,l⟩:=GN h;simp only at b c l;subst b;exact⟨[.row η n 8 g t],by kernel_rfl,.cons (Ξ.row c) .nil,rfl⟩
  ·cases e
 ·intro s a Q h f i j o
  obtain⟨_,_,r⟩:=GN h;show aC (a0 θ re 100 K (a4 0 Pv) (aw 0 19 (NV s i)) (lg s) (eH Mg 1)) _
  rw[anp,bF];refine ay (λb=>?_) λb=>?_
  ·have b:=aL b
   have d:i<s.m:=by omega
   refine ag (by simp only[F,ah,aa,aB];omega) (ay (λc=>?_) λc=>?_)
   ·refine Φ ⟨_,ab.refl _,?_⟩
    rw[Cm,VC d (by simpa using c)]at f;exact f
   ·refine Φ ⟨d,?_,ab.refl _,VD j (by simpa using c)⟩
    rw[kL (x:=(i:Z)+1) (by omega) (by omega)];rfl
  ·have b:=cE b
   have:i=s.m:=by omega
   subst this;refine Φ ⟨_,ab.refl _,?_⟩;rw[aP rfl];rw[Cm,j]at f;exact f
def gu(a:ω)(m:O):κ:=kb a m&&aD m 1 48
def D4:E SA->χ FR
 |[.row m g]=>γ {val:=.v (.bool (gu (bh g) m)),ap:=[hU m g,ο (m<=2^38)]}
 |_=>ζ
def nc:E Md:=[.rd 8 75]
def alt:au θ 112 (am nc D4):=by
 refine Mo (n:=100) (Λ:=bJ 0 (rz 19 [0,3] EU tj Cm)) Bf func112 rfl λi o c h=>?_
 unfold D4 at c;split at c
 ·rename_i m g
  cases c;simp only[F]at h;obtain⟨d,k,_⟩:=h;refine⟨[.row η m 8 (fS (bh g)) 75],.cons (Ξ.row λj b=>kv d j b) .nil,cz (by kernel_rfl) apg,?_⟩;have e:ad θ re (bJ 0 (rz 19 [0,3] EU tj Cm)) 100 Pv (hZ 0 nc [.row m g]) [.row η m 8 (fS (bh g)) 75] (af 1)
   =Ω [ai m m,hU m (fS (bh g)),ο (m<=2^38)] (cond (kb (bh g) m) (.out .ret [.v (.bool (aD m 1 48))] [.row η m 8 (fS (bh g)) 75]) (.out .ret [.v (.bool η)] [.row η m 8 (fS (bh g)) 75])):=by kernel_rfl
  rw[show([AB.row η m 8 (fS (bh g)) 75]).length=1 from rfl,e];refine ag (by simp only[F,ah,sx (m:=m) (a:=bh g) λj _=>rfl,k,h_,and_self]) (ay (λf=>?_) λf=>?_)
  ·refine Φ ⟨_,rfl,?_,.cons (Ξ.row λj b=>(kv d j b).symm) .nil⟩
   rw[gu,f];rfl
  ·refine Φ ⟨_,rfl,?_,.cons (Ξ.row λj b=>(kv d j b).symm) .nil⟩
   rw[gu,f];rfl
 ·cases c
def mW(a:ω)(m:O):Z:=match(dH m).find? λj=> !kF a j with
 |some j=>(j:Z)
 |none=> -1
def abE(a:ω)(m:O):ο (mW a m>=0)= !kb a m:=by
 unfold mW kb;cases h:(dH m).find? λj=> !kF a j with
 |none=>
  have:(dH m).all (λj=>kF a j)=ε:=by rw[bX];intro j b;have:=wi.1 h j b;simpa using this
  rw[this];rfl
 |some j=>
  have c:=List.find?_some h;have d:=List.mem_of_find?_eq_some h;have:(dH m).all (λj=>kF a j)=η:=by
   cases e:(dH m).all (λj=>kF a j)with
   |false=>rfl
   |true=>have:=bX.1 e j d;simp[this]at c
  rw[this];simp
def abD{a:O->O->Z}{m i:O}(h:kb a i=ε)(b:i<m)(c:kF a i=η):mW a m=i:=by
 have:(dH m).find? (λj=> !kF a j)=γ i:=by rw[List.find?_range_eq_some];refine⟨by simp[c],by simpa using b,λj d=>?_⟩;simp[MB h d]
 rw[mW,this]
def abF{a:O->O->Z}{m:O}(h:kb a m=ε):mW a m= -1:=by
 have:(dH m).find? (λj=> !kF a j)=ζ:=by rw[wi];intro j b;simp[MB h (by simpa using b)]
 rw[mW,this]
abbrev Fy:τ:=.func (.func 217) ⟨[]⟩ ⟨[]⟩
abbrev Mh:Ex->E O:=cx [0,1,7,8] [] [4]
def As:E AV->E AB->χ (PV×O×bq)
 |[.sl 0 8 0 0 m ζ,.v (.func (.func f) ⟨[]⟩ ⟨[]⟩),.v (.int .i64 (.ofNat k)),.v (.int .i64 0)],[.row η n 8 g t]=>γ (⟨m,n,g,t⟩,k,f)
 |_,_=>ζ
def NW(s:PV×O×bq)(i:O):E (O×AV):=[(0,yS s.1.m),(1,.v Fy),(7,.v (ι s.1.m)),(8,.v (ι i))]
def yz(s:PV×O×bq):E κ:=ai s.2.2 217::ai s.2.1 s.1.m::tj s.1
def yl(s:PV×O×bq)(a:dx):ao:=cond (kb (bh s.1.g) s.1.m) (a .normal (aw 0 19 []) (lg s.1)) (a .ret (aw 0 19 [(4,.v (ι (mW (bh s.1.g) s.1.m)))]) (lg s.1))
noncomputable abbrev xn:cA:=f249
def anq(s:PV×O×bq)(i:O):a0 θ re 100 K (a4 0 xn) (aw 0 19 (NW s i)) (lg s.1) (eH Mh 1)=cond (ο ((i:Z)<s.1.m)) (Ω [ο ((i:Z)<s.1.m),ο (0+i<s.1.m)] (cond (!kF (bh s.1.g) (0+i)) (.out .ret (aw 0 19 [(4,.v (ι i))]) (lg s.1)) (.out .normal (aw 0 19 [(0,yS s.1.m),(1,.v Fy),(7,.v (ι s.1.m)),(8,.v (ι (W (i+1))))]) (lg s.1)))) (.out (.exit 0) (aw 0 19 []) (lg s.1)):=by kernel_rfl
def aph:cp θ 1 (.block 0 (.loop (a4 0 xn))) (rz 19 [0,1,7,8] As yz yl):=by
 refine Vj Bf (n:=100) (m:=1) (lv:=Mh) (Λ:=K) NW (λs _=>lg s.1) (λs i=>kb (bh s.1.g) i=ε) (λs=>s.1.m) rfl (cT _ _ _) (aR _) ?_ ?_
 ·intro q H s l e
  unfold As at l;split at l
  ·rename_i m f k n g t
   cases l;simp only[yz,F (b:=ai _ _)]at e;obtain⟨o,c,e⟩:=e;have o:=ci o;have c:=ci c;obtain⟨d,h,r⟩:=GN (s:=⟨m,n,g,t⟩) (by simpa only[tj,F]using e);simp only at d h r;subst d o c;exact⟨[.row η _ 8 g t],by kernel_rfl,.cons (Ξ.row h) .nil,rfl⟩
  ·cases l
 ·intro s a Q e c i p u
  simp only[yz,F (b:=ai _ _)]at e;obtain⟨_,_,y⟩:=GN (s:=s.1) (by simpa only[tj,F]using e.2.2);show aC (a0 θ re 100 K (a4 0 xn) (aw 0 19 (NW s i)) (lg s.1) (eH Mh 1)) _
  rw[anq,bF];refine ay (λd=>?_) λd=>?_
  ·have d:=aL d
   have j:i<s.1.m:=by omega
   refine ag (by simp only[F,ah,aa,aB];omega) (ay (λh=>?_) λh=>?_)
   ·refine Φ ⟨_,ab.refl _,?_⟩
    rw[yl,VC j (by simpa using h),abD p j (by simpa using h)]at c;exact c
   ·refine Φ ⟨j,?_,ab.refl _,VD p (by simpa using h)⟩
    rw[kL (x:=(i:Z)+1) (by omega) (by omega)];rfl
  ·have d:=cE d
   have:i=s.1.m:=by omega
   subst this;refine Φ ⟨_,ab.refl _,?_⟩;rw[aP rfl];rw[yl,p]at c;exact c
def Is:E SA->χ FR
 |[.row m g,.v (.func (.func f) ⟨[]⟩ ⟨[]⟩)]=>γ {val:=.v (ι (mW (bh g) m)),ap:=[ai f 217,hU m g,ο (m<=2^38)]}
 |_=>ζ
def Gm:E Md:=[.rd 8 75,.val]
def akr:au θ 249 (am Gm Is):=by
 refine Mo (n:=100) (Λ:=bJ 0 (rz 19 [0,1,7,8] As yz yl)) Bf (fn:=xn) func249 rfl λl q c i=>?_
 unfold Is at c;split at c
 ·rename_i m g f
  cases c;simp only[F]at i;obtain⟨d,h,o,_⟩:=i;have d:=ci d;subst d;refine⟨[.row η m 8 (fS (bh g)) 75],.cons (Ξ.row λj b=>kv h j b) .nil,cz (by kernel_rfl) aph,?_⟩;have e:ad θ re (bJ 0 (rz 19 [0,1,7,8] As yz yl)) 100 xn (hZ 0 Gm [.row m g,.v Fy]) [.row η m 8 (fS (bh g)) 75] (af 1)
   =Ω [ai m m,ai m m,hU m (fS (bh g)),ο (m<=2^38)] (cond (kb (bh g) m) (.out .ret [.v (ι (-1))] [.row η m 8 (fS (bh g)) 75]) (.out .ret [.v (ι (mW (bh g) m))] [.row η m 8 (fS (bh g)) 75])):=by kernel_rfl
  rw[show([AB.row η m 8 (fS (bh g)) 75]).length=1 from rfl];show aC (ad θ re (bJ 0 (rz 19 [0,1,7,8] As yz yl)) 100 xn (hZ 0 Gm [.row m g,.v Fy]) [.row η m 8 (fS (bh g)) 75] (af 1)) _
  rw[e];refine ag (by simp only[F,ah,sx (m:=m) (a:=bh g) λj _=>rfl,o,h_,and_self]) (ay (λk=>?_) λk=>?_)
  ·refine Φ ⟨_,rfl,?_,.cons (Ξ.row λj b=>(kv h j b).symm) .nil⟩
   rw[abF k]
  ·exact Φ ⟨_,rfl,rfl,.cons (Ξ.row λj b=>(kv h j b).symm) .nil⟩
 ·cases c
def TD:aE:=ext re 249 (am Gm Is)
def ags:aK θ TD:=az Bf akr
def als:au θ 151 (am nc D4):=by
 refine Mo (n:=100) (Λ:=K) ags func151 rfl λi p c h=>?_
 unfold D4 at c;split at c
 ·rename_i m g
  cases c;simp only[F]at h;obtain⟨d,k,_⟩:=h;refine⟨[.row η m 8 (fS (bh g)) 75],.cons (Ξ.row λj b=>kv d j b) .nil,dq _,?_⟩;have e:ad θ TD K 100 f151 (hZ 0 nc [.row m g]) [.row η m 8 (fS (bh g)) 75] (af 1)
   =cond (aD m 1 48) (Ω [Θ (0+m) m,hU m (λq=>fS (bh g) (0+q)),ο (m<=2^38)] (.out .ret [.v (.bool (bif ο (mW (bh λq=>fS (bh g) (0+q)) m>=0)then η else ε))] [.row η m 8 (fS (bh g)) 75])) (.out .ret [.v (.bool η)] [.row η m 8 (fS (bh g)) 75]):=by kernel_rfl
  rw[show([AB.row η m 8 (fS (bh g)) 75]).length=1 from rfl,e];have l:mW (bh λq=>fS (bh g) (0+q)) m=mW (bh g) m:=by
   have:(λj=> !kF (bh λq=>fS (bh g) (0+q)) j)=λj=> !kF (bh g) j:=by
    funext j
    show(!kF (bh g) (0+j))=_
    rw[bF]
   unfold mW;rw[this]
  rw[l,abE];refine ay (λf=>?_) λf=>?_
  ·refine ag ?_ (Φ ⟨_,rfl,?_,.cons (Ξ.row λj b=>(kv d j b).symm) .nil⟩)
   ·simp only[F,ah,bF,aa]
    exact⟨by simp,sx (a:=bh g) λj _=>rfl,k⟩
   ·rw[gu,f]
    cases kb (bh g) m<;>rfl
  ·refine Φ ⟨_,rfl,?_,.cons (Ξ.row λj b=>(kv d j b).symm) .nil⟩
   rw[gu,f,gP]
 ·cases c
def ai6{i m:O}(a:i<m)(b:m<=2^38):(a7.wrap ((i:Z)+1)).tmod m=(((i+1)%m:O):Z):=by
 have:a7.wrap ((i:Z)+1)=((i+1:O):Z):=by rw[show a7.wrap ((i:Z)+1)=W ((i:Z)+1)from rfl,kL (by omega) (by omega)];omega
 rw[this];exact(Int.ofNat_tmod _ _).symm
abbrev w4(s:aQ):O->Z:=v4 (s 0) (s 1) (s 2) (s 3)
structure PB where
 m:O
 m':O
 k:O
 gb:O->E τ
 n:O
 g:O->E τ
 t:ae
def E8(a:Z->Z->Z->κ):E τ->χ (τ×E κ)
 |[.int .i64 n,.int .i64 l,.int .i64 h]=>γ (.bool (a n l h),[])
 |_=>ζ
def Bd(a:Z->Z->Z->κ):aE:=ext (ext g0 134 (aS (E8 a))) 109 (aS (E8 a))
def arR(a:Z->Z->Z->κ)(s:aQ):let b:=(-10000000:Z);let c:=(10000000:Z);let d:=[vB η];ad θ (Bd a) K 100 f220 ([gX s].map .v) [] ed
 =bif a (s 0) b c then bif a (s 1) b c then bif a (s 2) b c then rO [AV.v (.bool (a (s 3) b c))] []else rO d []else rO d []else rO d []:=by intros;kernel_rfl
def arU(a:Z->Z->Z->κ)(s:aQ):let b:=(-10000000:Z);let c:=(10000000:Z);let d:=[vB η];ad θ (Bd a) K 100 f176 ([gX s].map .v) [] ed
 =bif a (s 0) b c then bif a (s 1) b c then bif a (s 2) b c then rO [AV.v (.bool (a (s 3) b c))] []else rO d []else rO d []else rO d []:=by intros;kernel_rfl
def xp(e:(O->Z)->κ):E τ->χ (τ×E κ)
 |[.agg ⟨[.int .i64 a,.int .i64 b,.int .i64 c,.int .i64 d]⟩]=>γ (.bool (e (v4 a b c d)),[])
 |_=>ζ
def A_(a:(O->Z)->κ)(_:(O->Z)->Z)(_:Z->κ):aE:=ext (ext g0 220 (aS (xp a))) 176 (aS (xp a))
def arb(a:(O->Z)->κ)(sg:(O->Z)->Z)(ob:Z->κ)(s:aQ):ad θ (A_ a sg ob) K 100 f155 [.v (gX s)] [] (af 0)=bif !a (w4 s)then rO [AV.Ψ [AV.agg [vI 0,vI 0,vI 0,vI 0],vB η]] []else rO [AV.Ψ [AV.agg [vI (s 0),vI (s 1),vI (s 2),vI (s 3)],vB ε]] []:=by kernel_rfl
def arc(a:(O->Z)->κ)(sg:(O->Z)->Z)(ob:Z->κ)(s:aQ):ad θ (A_ a sg ob) K 100 f115 [.v (gX s)] [] (af 0)=bif !a (w4 s)then rO [AV.Ψ [AV.agg [vI 0,vI 0,vI 0,vI 0],vB η]] []else rO [AV.Ψ [AV.agg [vI (s 0),vI (s 1),vI (s 2),vI (s 3)],vB ε]] []:=by kernel_rfl
def gN(s:aQ):κ:=bif aD (s 0) (-10000000) 10000000 then bif aD (s 1) (-10000000) 10000000 then bif aD (s 2) (-10000000) 10000000 then aD (s 3) (-10000000) 10000000 else η else η else η
def apk{s:O->Z}:gN s=ε↔JJ 10000000 s:=by
 unfold gN JJ;constructor
 ·intro h k e
  cases a:aD (s 0) (-10000000) 10000000 with
  |false=>rw[a]at h;cases h
  |true=>
   cases b:aD (s 1) (-10000000) 10000000 with
   |false=>rw[a,b]at h;cases h
   |true=>
    cases c:aD (s 2) (-10000000) 10000000 with
    |false=>rw[a,b,c]at h;cases h
    |true=>
     rw[a,b,c]at h;have a:=b9.1 a;have b:=b9.1 b;have c:=b9.1 c;have d:=b9.1 (show aD (s 3) (-10000000) 10000000=ε from h);rcases(by omega:k=0\/k=1\/k=2\/k=3)with rfl|rfl|rfl|rfl
     ·exact a
     ·exact b
     ·exact c
     ·exact d
 ·intro h
  rw[b9.2 (h 0 (by omega)),b9.2 (h 1 (by omega)),b9.2 (h 2 (by omega)),b9.2 (h 3 (by omega))];rfl
def iY(s:aQ):O->Z:=λk=>bif gN s then s k else 0
def sA(s:aQ):E AV:=[.v (ι (s 0)),.v (ι (s 1)),.v (ι (s 2)),.v (ι (s 3))]
def wK(md:(O->Z)->O->Z)(e:(O->Z)->κ):E SA->χ FR
 |[.v (.agg ⟨[.int .i64 a,.int .i64 b,.int .i64 c,.int .i64 d]⟩)]=>γ {val:=.Ψ [.agg (sA (md (v4 a b c d))),.v (.bool (e (v4 a b c d)))]}
 |_=>ζ
def Sf:E8 aD=sP:=by funext l;unfold E8 sP;rfl
def To:aK θ (Bd aD):=az (az bt (Sf▸MS)) (Sf▸VX)
def Ya(s:aQ):Good (bif aD (s 0) (-10000000) 10000000 then bif aD (s 1) (-10000000) 10000000 then bif aD (s 2) (-10000000) 10000000 then rv (.bool (aD (s 3) (-10000000) 10000000))else rv (.bool η)else rv (.bool η)else rv (.bool η)) (.bool (gN s)):=by unfold gN;cases aD (s 0) (-10000000) 10000000<;>cases aD (s 1) (-10000000) 10000000<;>cases aD (s 2) (-10000000) 10000000<;>exact one rfl
def ald:au θ 220 (aS (xp gN)):=by
 refine en (n:=100) To func220 rfl λf v g e h=>?_
 unfold xp at e;split at e
 ·rename_i a b c d
  cases e;show Good (ad θ (Bd aD) K 100 f220 ([gX (v4 a b c d)].map .v) [] ed) _
  rw[arR];exact Ya _
 ·cases e
def ale:au θ 176 (aS (xp gN)):=by
 refine en (n:=100) To func176 rfl λf v g e h=>?_
 unfold xp at e;split at e
 ·rename_i a b c d
  cases e;show Good (ad θ (Bd aD) K 100 f176 ([gX (v4 a b c d)].map .v) [] ed) _
  rw[arU];exact Ya _
 ·cases e
def S_:aK θ (A_ gN NG Lq):=az (az bt ald) ale
def akH:au θ 155 (am [.val] (wK iY gN)):=by
 refine bY S_ func155 rfl λf i e j=>?_
 unfold wK at e;split at e
 ·rename_i a b c d
  cases e;refine⟨[],K,100,.nil,dq _,?_⟩;show aC (ad θ (A_ gN NG Lq) K 100 f155 [.v (gX (v4 a b c d))] [] (af 0)) _
  rw[arb];generalize g:v4 a b c d=s;have h:w4 s=s:=by rw[<-g];rfl
  rw[h];refine ay (λq=>Φ ⟨_,rfl,?_,.nil⟩) λq=>Φ ⟨_,rfl,?_,.nil⟩
  ·rw[it]at q
   show _=[AV.Ψ [.agg (sA (iY s)),.v (.bool (gN s))]]
   unfold iY;rw[q];rfl
  ·rw[nC]at q
   show _=[AV.Ψ [.agg (sA (iY s)),.v (.bool (gN s))]]
   unfold iY;rw[q];rfl
 ·cases e
def akI:au θ 115 (am [.val] (wK iY gN)):=by
 refine bY S_ func115 rfl λf i e j=>?_
 unfold wK at e;split at e
 ·rename_i a b c d
  cases e;refine⟨[],K,100,.nil,dq _,?_⟩;show aC (ad θ (A_ gN NG Lq) K 100 f115 [.v (gX (v4 a b c d))] [] (af 0)) _
  rw[arc];generalize g:v4 a b c d=s;have h:w4 s=s:=by rw[<-g];rfl
  rw[h];refine ay (λq=>Φ ⟨_,rfl,?_,.nil⟩) λq=>Φ ⟨_,rfl,?_,.nil⟩
  ·rw[it]at q
   show _=[AV.Ψ [.agg (sA (iY s)),.v (.bool (gN s))]]
   unfold iY;rw[q];rfl
  ·rw[nC]at q
   show _=[AV.Ψ [.agg (sA (iY s)),.v (.bool (gN s))]]
   unfold iY;rw[q];rfl
 ·cases e
def xl(al:(O->Z)->(O->Z)->O->Z):E τ->χ (τ×E κ)
 |[.agg ⟨[.int .i64 a,.int .i64 b,.int .i64 c,.int .i64 d,.int .i64 e,.int .i64 f,.int .i64 g,.int .i64 h]⟩,.agg ⟨[.int .i64 i,.int .i64 j,.int .i64 k,.int .i64 l,.int .i64 m,.int .i64 n,.int .i64 o,.int .i64 p]⟩]=>γ (gX (al (v8 a b c d e f g h) (v8 i j k l m n o p)),[])
 |_=>ζ
section
section
variable (up:(O->Z)->κ) (al cr:(O->Z)->(O->Z)->O->Z) (sg:(O->Z)->Z) (b:ω) (bf:aQ) (m:O)
end
end
def aop:∀(n:O)(x y:Z),x.natAbs<=n->x*x=2*(y*y)->x=0/\y=0:=by
 have zero:∀y:Z,0=2*(y*y)->y=0:=λy h=>by
  have:y*y=0:=by omega
  rcases OW.1 this with h|h<;>exact h
 intro n;induction n with
 |zero=>
  intro x y e h;have:x=0:=by omega
  subst this;exact⟨rfl,zero y (by simpa using h)⟩
 |succ n f=>
  intro x y e h;rcases(by omega:x%2=0\/x%2=1)with g|g
  ·have a:x=2*(x/2):=by omega
   generalize x/2=k at a;subst a;have m:y*y=2*(k*k):=by grind
   rcases(by omega:y%2=0\/y%2=1)with i|i
   ·have b:y=2*(y/2):=by omega
    generalize y/2=l at b;subst b;have c:k*k=2*(l*l):=by grind
    by_cases j:k=0
    ·subst j
     have:=zero l (by simpa using c);subst this;exact⟨rfl,rfl⟩
    ·have:=f k l (by omega) c
     omega
   ·exfalso
    have d:y=2*(y/2)+1:=by omega
    generalize y/2=l at d;subst d;have:(2*l+1)*(2*l+1)=2*(2*(l*l)+2*l)+1:=by grind
    omega
  ·exfalso
   have a:x=2*(x/2)+1:=by omega
   generalize x/2=k at a;subst a;have:(2*k+1)*(2*k+1)=2*(2*(k*k)+2*k)+1:=by grind
   omega
def anx{x y:Z}(h:x*x=2*(y*y)):x=0/\y=0:=aop _ x y (aR _) h
def UM{x y u v:Z}(b:x*u+2*(y*v)=0)(c:x*v+y*u=0):(x=0/\y=0)\/(u=0/\v=0):=by
 have e:(x*x-2*(y*y))*u=0:=by
  have:(x*x-2*(y*y))*u=x*(x*u+2*(y*v)) -2*y*(x*v+y*u):=by grind
  rw[this,b,c];simp
 have f:(x*x-2*(y*y))*v=0:=by
  have:(x*x-2*(y*y))*v=x*(x*v+y*u) -y*(x*u+2*(y*v)):=by grind
  rw[this,b,c];simp
 by_cases d:x*x-2*(y*y)=0
 ·exact .inl (anx (by omega))
 ·rcases OW.1 e with h|h
  ·exact(d h).elim
  ·rcases OW.1 f with a|a
   ·exact(d a).elim
   ·exact .inr ⟨h,a⟩
def Vl(x:Z):x%3=0/\(x*x)%3=0\/x%3≠0/\(x*x)%3=1:=by
 rcases(by omega:x%3=0\/x%3=1\/x%3=2)with h|h|h
 ·left
  have e:x=3*(x/3):=by omega
  generalize x/3=k at e;subst e;refine⟨h,?_⟩;have:3*k*(3*k)=3*(3*(k*k)):=by grind
  omega
 ·right
  have e:x=3*(x/3)+1:=by omega
  generalize x/3=k at e;subst e;refine⟨by omega,?_⟩;have:(3*k+1)*(3*k+1)=3*(3*(k*k)+2*k)+1:=by grind
  omega
 ·right
  have e:x=3*(x/3)+2:=by omega
  generalize x/3=k at e;subst e;refine⟨by omega,?_⟩;have:(3*k+2)*(3*k+2)=3*(3*(k*k)+4*k+1)+1:=by grind
  omega
def al6{x y z:Z}(h:x*y=3*z):x%3=0\/y%3=0:=by
 rcases(by omega:x%3=0\/x%3=1\/x%3=2)with b|b|b
 ·exact .inl b
 all_goals rcases(by omega:y%3=0\/y%3=1\/y%3=2)with a|a|a
 ·exact .inr a
 ·exfalso
  have e:x=3*(x/3)+1:=by omega
  have f:y=3*(y/3)+1:=by omega
  generalize x/3=k at e;generalize y/3=l at f;subst e f;have:(3*k+1)*(3*l+1)=3*(3*(k*l)+k+l)+1:=by grind
  omega
 ·exfalso
  have e:x=3*(x/3)+1:=by omega
  have f:y=3*(y/3)+2:=by omega
  generalize x/3=k at e;generalize y/3=l at f;subst e f;have:(3*k+1)*(3*l+2)=3*(3*(k*l)+2*k+l)+2:=by grind
  omega
 ·exact .inr a
 ·exfalso
  have e:x=3*(x/3)+2:=by omega
  have f:y=3*(y/3)+1:=by omega
  generalize x/3=k at e;generalize y/3=l at f;subst e f;have:(3*k+2)*(3*l+1)=3*(3*(k*l)+k+2*l)+2:=by grind
  omega
 ·exfalso
  have e:x=3*(x/3)+2:=by omega
  have f:y=3*(y/3)+2:=by omega
  generalize x/3=k at e;generalize y/3=l at f;subst e f;have:(3*k+2)*(3*l+2)=3*(3*(k*l)+2*k+2*l+1)+1:=by grind
  omega
def UI{a b c d:Z}(f:a*a+2*(b*b)=3*(c*c+2*(d*d)))(e:a*b=3*(c*d)):a%3=0/\b%3=0:=by have g:=Vl a;have h:=Vl b;have i:=al6 e;omega
def XM(x:Z):0<=x*x:=by
 rcases Int.le_total 0 x with h|h
 ·exact Ds h h
 ·have:=Ds (a:= -x) (b:= -x) (by omega) (by omega)
  grind
def XN{x:Z}(h:x*x=0):x=0:=by rcases OW.1 h with h|h<;>exact h
def ahk:∀(n:O)(a b c d:Z),a.natAbs+b.natAbs<=n->a*a+2*(b*b)=3*(c*c+2*(d*d))->a*b=3*(c*d)->a=0/\b=0/\c=0/\d=0:=by
 intro n;have e:∀c d:Z,(0:Z)=3*(c*c+2*(d*d))->c=0/\d=0:=λc d h=>by have f:=XM c;have j:=XM d;exact⟨XN (by omega),XN (by omega)⟩
 induction n with
 |zero=>
  intro a b c d p f j;have:a=0:=by omega
  have:b=0:=by omega
  subst a b;have:=e c d (by simpa using f);exact⟨rfl,rfl,this.1,this.2⟩
 |succ n q=>
  intro a b c d p f j;by_cases r:a=0/\b=0
  ·obtain⟨rfl,rfl⟩:=r
   have:=e c d (by simpa using f);exact⟨rfl,rfl,this.1,this.2⟩
  ·obtain⟨w,x⟩:=UI f j
   have k:a=3*(a/3):=by omega
   have l:b=3*(b/3):=by omega
   generalize a/3=g at k;generalize b/3=i at l;subst k l;have s:c*c+2*(d*d)=3*(g*g+2*(i*i)):=by grind
   have t:c*d=3*(g*i):=by grind
   obtain⟨y,z⟩:=UI s t;have m:c=3*(c/3):=by omega
   have o:d=3*(d/3):=by omega
   generalize c/3=u at m;generalize d/3=v at o;subst m o;have:=q g i u v (by omega) (by grind) (by grind);omega
def W6{a b c d:Z}(e:a*a+2*(b*b) -3*(c*c) -6*(d*d)=0)(f:2*(a*b) -6*(c*d)=0):a=0/\b=0/\c=0/\d=0:=
 ahk _ a b c d (aR _) (by omega) (by omega)
structure Sd where
 a:Z
 b:Z
 c:Z
 d:Z
namespace Sd
def ext{x y:Sd}(a:x.a=y.a)(b:x.b=y.b)(c:x.c=y.c)(d:x.d=y.d):x=y:=by cases x;cases y;simp_all
instance:Add Sd:=⟨λs t=>⟨s.a+t.a,s.b+t.b,s.c+t.c,s.d+t.d⟩⟩
instance:Sub Sd:=⟨λs t=>⟨s.a-t.a,s.b-t.b,s.c-t.c,s.d-t.d⟩⟩
instance:Neg Sd:=⟨λs=>⟨-s.a,-s.b,-s.c,-s.d⟩⟩
instance:Mul Sd:=⟨λs t=>⟨s.a*t.a+2*(s.b*t.b)+3*(s.c*t.c)+6*(s.d*t.d),s.a*t.b+s.b*t.a+3*(s.c*t.d+s.d*t.c),s.a*t.c+s.c*t.a+2*(s.b*t.d+s.d*t.b),s.a*t.d+s.d*t.a+s.b*t.c+s.c*t.b⟩⟩
instance agX:NatCast Sd:=⟨λn=>⟨n,0,0,0⟩⟩
instance agZ (n:O):OfNat Sd n:=⟨⟨n,0,0,0⟩⟩
instance:IntCast Sd:=⟨λn=>⟨n,0,0,0⟩⟩
def pw(s:Sd):O->Sd
 |0=>1
 |n+1=>pw s n*s
instance:HPow Sd O Sd:=⟨pw⟩
instance agY:SMul O Sd:=⟨λn s=>(n:Sd)*s⟩
instance ag0:SMul Z Sd:=⟨λn s=>(n:Sd)*s⟩
@[simp] theorem auf(s t:Sd):(s+t).a=s.a+t.a:=rfl
@[simp] theorem aug(s t:Sd):(s+t).b=s.b+t.b:=rfl
@[simp] theorem auh(s t:Sd):(s+t).c=s.c+t.c:=rfl
@[simp] theorem aui(s t:Sd):(s+t).d=s.d+t.d:=rfl
@[simp] theorem auM(s t:Sd):(s-t).a=s.a-t.a:=rfl
@[simp] theorem auN(s t:Sd):(s-t).b=s.b-t.b:=rfl
@[simp] theorem auO(s t:Sd):(s-t).c=s.c-t.c:=rfl
@[simp] theorem auP(s t:Sd):(s-t).d=s.d-t.d:=rfl
@[simp] theorem auA(s:Sd):(-s).a= -s.a:=rfl
@[simp] theorem auB(s:Sd):(-s).b= -s.b:=rfl
@[simp] theorem auC(s:Sd):(-s).c= -s.c:=rfl
@[simp] theorem auD(s:Sd):(-s).d= -s.d:=rfl
@[simp] theorem aus(s t:Sd):(s*t).a=s.a*t.a+2*(s.b*t.b)+3*(s.c*t.c)+6*(s.d*t.d):=rfl
@[simp] theorem aut(s t:Sd):(s*t).b=s.a*t.b+s.b*t.a+3*(s.c*t.d+s.d*t.c):=rfl
@[simp] theorem auu(s t:Sd):(s*t).c=s.a*t.c+s.c*t.a+2*(s.b*t.d+s.d*t.b):=rfl
@[simp] theorem auv(s t:Sd):(s*t).d=s.a*t.d+s.d*t.a+s.b*t.c+s.c*t.b:=rfl
@[simp] theorem auI(n:O):(Pl n:Sd).a=n:=rfl
@[simp] theorem auJ(n:O):(Pl n:Sd).b=0:=rfl
@[simp] theorem auK(n:O):(Pl n:Sd).c=0:=rfl
@[simp] theorem auL(n:O):(Pl n:Sd).d=0:=rfl
@[simp] theorem z_a:(0:Sd).a=0:=rfl
@[simp] theorem z_b:(0:Sd).b=0:=rfl
@[simp] theorem z_c:(0:Sd).c=0:=rfl
@[simp] theorem z_d:(0:Sd).d=0:=rfl
@[simp] theorem o_a:(1:Sd).a=1:=rfl
@[simp] theorem o_b:(1:Sd).b=0:=rfl
@[simp] theorem o_c:(1:Sd).c=0:=rfl
@[simp] theorem o_d:(1:Sd).d=0:=rfl
@[simp] theorem f_a:(4:Sd).a=4:=rfl
@[simp] theorem f_b:(4:Sd).b=0:=rfl
@[simp] theorem f_c:(4:Sd).c=0:=rfl
@[simp] theorem f_d:(4:Sd).d=0:=rfl
@[simp] theorem auw(n:O):(n:Sd).a=n:=rfl
@[simp] theorem aux(n:O):(n:Sd).b=0:=rfl
@[simp] theorem auy(n:O):(n:Sd).c=0:=rfl
@[simp] theorem auz(n:O):(n:Sd).d=0:=rfl
@[simp] theorem aun(n:Z):(n:Sd).a=n:=rfl
@[simp] theorem auo(n:Z):(n:Sd).b=0:=rfl
@[simp] theorem aup(n:Z):(n:Sd).c=0:=rfl
@[simp] theorem auq(n:Z):(n:Sd).d=0:=rfl
def zs(i:Z)(s:Sd):i • s=(i:Sd)*s:=rfl
abbrev amu{c:Type->Type}(_:c Dyadic)(α:Type):Type:=c α
instance:amu Dyadic.instCommRing Sd where
 natCast:=agX
 ofNat:=agZ
 nsmul:=agY
 zsmul:=ag0
 npow:=inferInstance
 add_zero s:=by apply ext<;>simp
 add_comm s t:=by apply ext<;>simp<;>grind
 add_assoc s t u:=by apply ext<;>simp<;>grind
 mul_assoc s t u:=by apply ext<;>simp<;>grind
 mul_one s:=by apply ext<;>simp
 one_mul s:=by apply ext<;>simp
 left_distrib s t u:=by apply ext<;>simp<;>grind
 right_distrib s t u:=by apply ext<;>simp<;>grind
 zero_mul s:=by apply ext<;>simp
 mul_zero s:=by apply ext<;>simp
 pow_zero s:=rfl
 pow_succ s n:=rfl
 ofNat_succ n:=by apply ext<;>simp
 neg_add_cancel s:=by apply ext<;>simp<;>grind
 sub_eq_add_neg s t:=by apply ext<;>simp<;>grind
 neg_zsmul i s:=by simp only[zs];apply ext<;>simp<;>grind
 zsmul_natCast_eq_nsmul n s:=by apply ext<;>rfl
 intCast_neg i:=by apply ext<;>simp
 mul_comm s t:=by apply ext<;>simp<;>grind
def b6{s t:Sd}(h:s*t=0):s=0\/t=0:=by
 have e:(s*t).a=0:=by rw[h];rfl
 have f:(s*t).b=0:=by rw[h];rfl
 have g:(s*t).c=0:=by rw[h];rfl
 have i:(s*t).d=0:=by rw[h];rfl
 obtain⟨A,B,C,D⟩:=s;obtain⟨a,b,G,H⟩:=t;simp at e f g i;have j:(A*A+2*(B*B) -3*(C*C) -6*(D*D))*a+2*((2*(A*B) -6*(C*D))*b)=0:=by grind
 have k:(A*A+2*(B*B) -3*(C*C) -6*(D*D))*b+(2*(A*B) -6*(C*D))*a=0:=by grind
 have l:(A*A+2*(B*B) -3*(C*C) -6*(D*D))*G+2*((2*(A*B) -6*(C*D))*H)=0:=by grind
 have m:(A*A+2*(B*B) -3*(C*C) -6*(D*D))*H+(2*(A*B) -6*(C*D))*G=0:=by grind
 rcases UM j k with⟨c,d⟩|⟨rfl,rfl⟩
 ·obtain⟨rfl,rfl,rfl,rfl⟩:=W6 c d
  exact .inl rfl
 ·rcases UM l m with⟨c,d⟩|⟨rfl,rfl⟩
  ·obtain⟨rfl,rfl,rfl,rfl⟩:=W6 c d
   exact .inl rfl
  ·exact .inr rfl
end Sd
def ae0:xl (λp q=>p8 (ep (jl p) q))=AN:=by funext a;unfold xl AN;rfl
abbrev k0(p q:aQ):O->Z:=p8 (ep (jl p) q)
def Jn(a:(O->O->Z)->O->κ):E SA->χ FR
 |[.row m g]=>γ {val:=.v (.bool (a (bh g) m)),ap:=[hU m g,ο (m<=2^38)]}
 |_=>ζ
def aly:au θ 151 (am nc (Jn gu)):=als
def ass{a:O->O->Z}{m:O}(h:gu a m=ε):0<m/\m<=48:=by simp only[gu,aM]at h;have:=b9.1 h.2;omega
noncomputable def ut:a9:=(wx).body.getD .skip
noncomputable def JC:a9:=gM ut
noncomputable def JD:a9:=gM (db ut)
noncomputable def JE:a9:=gM (db (db ut))
noncomputable def JB:a9:=gM (gM (db (db (db ut))))
noncomputable def JF:a9:=db (db (db (db ut)))
noncomputable def Jz:a9:=rfA (uu (db (gM (db (db (db ut))))))
noncomputable def JA:a9:=rfB (uu (db (gM (db (db (db ut))))))
def abA:(wx).body=γ (kC [JC,JD,JE] (.seq (.seq JB (.block 0 (.rangeFunc (.tmp 11) #[12] Jz JA))) JF)):=by kernel_rfl
def Kh(pl:(O->Z)->(O->Z)->O->Z):E τ->χ (τ×E κ)
 |[.agg ⟨[.int .i64 a,.int .i64 b,.int .i64 c,.int .i64 d]⟩,.agg ⟨[.int .i64 e,.int .i64 f,.int .i64 g,.int .i64 h]⟩]=>γ (gX (pl (v4 a b c d) (v4 e f g h)),[])
 |_=>ζ
def o5(a:(O->O->Z)->O->κ)(cr:(O->Z)->(O->Z)->O->Z)(pl:(O->Z)->(O->Z)->O->Z)(md:(O->Z)->O->Z)(b:(O->Z)->κ):aE:=
 ext (ext (ext (ext g0 151 (am nc (Jn a))) 154 (aS (xl cr))) 153 (aS (Kh pl))) 155 (am [.val] (wK md b))
abbrev sH(s:aQ):AB:=.cells [.v (ι (s 0)),.v (ι (s 1)),.v (ι (s 2)),.v (ι (s 3))] 89
abbrev p4(a:ω)(m:O)(t:ae)(s:aQ):E AB:=[.row η m 8 (cM a) t,sH λ_=>0,sH s]
abbrev asi:E AV:=aw 0 24 [(2,.ptr 1 0 0 0),(4,.ptr 2 0 0 0),(11,.fn 218 [.ptr 3 0 0 0])]
def al5(c:(O->O->Z)->O->κ)(cr:(O->Z)->(O->Z)->O->Z)(pl:(O->Z)->(O->Z)->O->Z)(md:(O->Z)->O->Z)(e:(O->Z)->κ)(a:ω)(m:O):let b:=AV.dead;let d:=AB.cells [vI 0,vI 0,vI 0,vI 0] 89;fc θ (o5 c cr pl md e) 100 ([JC,JD,JE]++[JB]) ([.sl 0 8 0 0 m ζ]++ez ((wx).ntmps-1) (.v aX)) [.row η m 8 (cM a) 75] (eH (cx [2,4,11] [] []) 1)
 =Ω [Θ (0+m) m,hU m λq=>cM a (0+q),ο (m<=274877906944)] (bif !c (bh λq=>cM a (0+q)) m then ao.err else ao.out .normal [b,b,AV.ptr 1 0 0 0,b,AV.ptr 2 0 0 0,b,b,b,b,b,b,AV.fn 218 [AV.ptr 3 0 0 0],b,b,b,b,b,b,b,b,b,b,b,b] [AB.row η m 8 (cM a) 75,d,d,AB.cells [AV.sl 0 8 0 0 m ζ] 85]):=by intros;kernel_rfl
abbrev Dc:E AV:=aw 0 24 [(2,.ptr 1 0 0 0),(4,.ptr 2 0 0 0)]
abbrev o9(a:ω)(m:O)(t:ae)(s:aQ):E AB:=p4 a m t s++[.gone]
def amB(d:(O->O->Z)->O->κ)(cr:(O->Z)->(O->Z)->O->Z)(pl:(O->Z)->(O->Z)->O->Z)(md:(O->Z)->O->Z)(e:(O->Z)->κ)(a:ω)(m:O)(t:ae)(s:aQ)(j:O):let c:=(w4 (cr (w8 (a j)) (w8 (a ((j+1)%m)))));let b:=AV.dead;a0 θ (o5 d cr pl md e) 100 K Jz (jG [12] [ms (a j) (a ((j+1)%m))] Dc) (o9 a m t s) (mT θ (o5 d cr pl md e) 100 JA 4)
 =ao.out .normal [b,b,b,b,b,b,b,b,b,b,b,b,b,b,b,b,b,b,b,b,b,b,b,b] [AB.row η m 8 (cM a) t,AB.cells [vI 0,vI 0,vI 0,vI 0] 89,AB.cells [vI (pl (w4 s) c 0),vI (pl (w4 s) c 1),vI (pl (w4 s) c 2),vI (pl (w4 s) c 3)] 89,AB.gone]:=by intros;kernel_rfl
def aeD(c:(O->O->Z)->O->κ)(cr:(O->Z)->(O->Z)->O->Z)(pl:(O->Z)->(O->Z)->O->Z)(md:(O->Z)->O->Z)(b:(O->Z)->κ)(a:ω)(m:O)(t:ae)(s:aQ):behind θ (o5 c cr pl md b) 100 wx 0 JF (af 1) .normal Dc (o9 a m t s)=rO [AV.Ψ [AV.agg [vI (md (w4 s) 0),vI (md (w4 s) 1),vI (md (w4 s) 2),vI (md (w4 s) 3)],AV.v (.bool (b (w4 s)))]] [AB.row η m 8 (cM a) t]:=by kernel_rfl
def aqa(b:(O->O->Z)->O->κ)(cr:(O->Z)->(O->Z)->O->Z)(pl:(O->Z)->(O->Z)->O->Z)(md:(O->Z)->O->Z)(c:(O->Z)->κ)(a:ω)(m:O):ad θ (o5 b cr pl md c) K 100 wx [.sl 0 8 0 0 m ζ] [.row η m 8 (cM a) 75] (af 1)=Ω [Θ (0+m) m,hU m λq=>cM a (0+q),ο (m<=274877906944),!b (bh λq=>cM a (0+q)) m] (rO [AV.Ψ [AV.agg [vI 0,vI 0,vI 0,vI 0],vB η]] [AB.row η m 8 (cM a) 75]):=by kernel_rfl
noncomputable abbrev AI:cA:=f56
def Kk(a:(O->Z)->Z->(O->Z)->O->Z):E τ->χ (τ×E κ)
 |[.agg ⟨[.int .i64 b,.int .i64 c,.int .i64 d,.int .i64 e]⟩,.int .i64 n,.agg ⟨[.int .i64 f,.int .i64 g,.int .i64 h,.int .i64 i]⟩]=>γ (gX (a (v4 b c d e) n (v4 f g h i)),[])
 |_=>ζ
def SY(cr:(O->Z)->(O->Z)->O->Z)(a:(O->Z)->Z->(O->Z)->O->Z):aE:=ext (ext g0 114 (aS (xl cr))) 113 (aS (Kk a))
abbrev By:Ex->E O:=cx [0,2,4,5] [2,4] [2,3]
abbrev CP(m i:O):E AV:=[.sl 0 8 0 0 m ζ,.ptr 1 0 0 0,.ptr 2 0 0 0,.v (ι i)]
def amC(cr:(O->Z)->(O->Z)->O->Z)(c:(O->Z)->Z->(O->Z)->O->Z)(a:ω)(m:O)(t:ae)(s:aQ)(i:O):let b:=(m:Z);let d:=(↑i:Z);let h:=AB.cells [vI 0,vI 0,vI 0,vI 0] 89;let e:=(1:Z);let j:=AB.row η m 8 (cM a) t;let f:=(aj .i64 (d+e));let g:=(w4 (cr (w8 (a (0+a5 d))) (w8 (a (0+a5 (mK f b))))));a0 θ (SY cr c) 100 K (a4 0 AI) (aw 0 36 ((By .normal).zip (CP m i))) (p4 a m t s) (cJ 36 By 1)
 =bif ο (d<b)then Ω [ο (d<b),ο (0+a5 d<m),!ο (b=(0:Z)),ο ((0:Z)<=mK f b),ο (mK f b<b),ο (0+a5 (mK f b)<m)] (ao.out .normal [AV.sl 0 8 0 0 m ζ,AV.ptr 1 0 0 0,AV.ptr 2 0 0 0,vI f] [j,h,AB.cells [vI (c (w4 s) e g 0),vI (c (w4 s) e g 1),vI (c (w4 s) e g 2),vI (c (w4 s) e g 3)] 89])else ao.out (Ex.exit 0) [AV.ptr 1 0 0 0,AV.ptr 2 0 0 0] [j,h,AB.cells [vI (s 0),vI (s 1),vI (s 2),vI (s 3)] 89]:=by intros;kernel_rfl
noncomputable abbrev LD(a:ω)(m:O)(t:ae)(s:aQ):O->χ Sum:=bJ 0 (bD 36 (By .normal) 1 (CP m 0) (p4 a m t λ_=>0) (λb=>b .normal (aw 0 36 [(2,.ptr 1 0 0 0),(4,.ptr 2 0 0 0)]) (p4 a m t s)))
def KR(a:(O->O->Z)->O->κ)(md:(O->Z)->O->Z)(b:(O->Z)->κ):aE:=ext (ext g0 112 (am nc (Jn a))) 115 (am [.val] (wK md b))
def aqf(d:(O->O->Z)->O->κ)(md:(O->Z)->O->Z)(e:(O->Z)->κ)(a:ω)(m:O)(s:aQ):let b:=AB.row η m 8 (cM a) 75;let c:=[vI 0,vI 0,vI 0,vI 0];ad θ (KR d md e) (LD a m 75 s) 100 AI [.sl 0 8 0 0 m ζ] [.row η m 8 (cM a) 75] (af 1)
 =Ω [Θ (0+m) m,hU m λq=>cM a (0+q),ο (m<=274877906944)] (bif !d (bh λq=>cM a (0+q)) m then rO [AV.Ψ [AV.agg c,vB η]] [b]else Ω [cw ([AV.sl 0 8 0 0 m ζ,AV.ptr 1 0 0 0,AV.ptr 2 0 0 0,vI 0]=CP m 0/\ab [b,AB.cells c 89,AB.cells c 89] (p4 a m 75 λ_=>(0:Z)))] (rO [AV.Ψ [AV.agg [vI (md (w4 s) 0),vI (md (w4 s) 1),vI (md (w4 s) 2),vI (md (w4 s) 3)],AV.v (.bool (e (w4 s)))]] [b])):=by intros;kernel_rfl
def rI(p q:aQ):O->Z:=λk=>W (p k+q k)
def N3(p:aQ)(n:Z)(q:aQ):O->Z:=λk=>W (p k+W (n*q k))
def ae4:Kh rI=AO:=by funext l;unfold Kh AO;rfl
def ae5:Kk N3=AM:=by funext l;unfold Kk AM;rfl
def aeZ:xl k0=AJ:=by funext a;unfold xl AJ;rfl
def sy(a:ω)(m:O)(s:aQ)(j:O):O->Z:=rI (w4 s) (w4 (k0 (w8 (a j)) (w8 (a ((j+1)%m)))))
def kR(a:ω)(m i:O):O->Z:=(dH i).foldl (sy a m) (λ_=>0)
def abq(a:ω)(m i:O):kR a m (i+1)=sy a m (kR a m i) i:=by unfold kR;rw[HK,zz];rfl
def abp(a:ω)(m:O):kR a m 0=λ_=>0:=by simp only[kR,List.range_zero,List.foldl_nil]
def iG(a:ω)(m:O):κ:=gu a m&&gN (w4 (kR a m m))
def hV(a:ω)(m:O):O->Z:=λk=>bif gu a m then iY (w4 (kR a m m)) k else 0
def wG(a:(O->O->Z)->O->O->Z)(b:(O->O->Z)->O->κ):E SA->χ FR
 |[.row m g]=>γ {val:=.Ψ [.agg (sA (a (bh g) m)),.v (.bool (b (bh g) m))],ap:=[hU m g,ο (m<=2^38)]}
 |_=>ζ
def D5(r:κ):E SA->χ FR
 |[.row m g]=>γ {val:=.Ψ [.agg (sA (hV (bh g) m)),.v (.bool (iG (bh g) m))],ap:=[hU m g,ο (m<=2^38),gu (bh g) m==r]}
 |_=>ζ
def SP:aK θ (o5 gu k0 rI iY gN):=az (az (az (az bt aly) (aeZ▸VL)) (ae4▸V6)) akH
def aiE(m:O):(oE m).map Dp=dH m:=by
 apply O4
 ·simp
 ·intro i a b
  simp
def ajC:au θ 82 (am nc (D5 ε)):=by
 refine nk enters aaK rfl λy G d p=>?_
 unfold D5 at d;split at d
 ·rename_i m g
  cases d;simp only[F]at p;obtain⟨r,s,z,_⟩:=p;have H:=aL s;have c:=ks.1 z;obtain⟨f,_⟩:=ass c;have A:hU m (cM (bh g))=ε:=sx (a:=bh g) λ_ _=>rfl
  refine⟨[.row η m 8 (cM (bh g)) 75],.cons (Ξ.row λj k=>kv r j k) .nil,?_⟩;refine acL (α:=Fin m) (n:=100) (nn:=0) SP mixed enters aaK abA (by kernel_rfl) (by kernel_rfl) (by kernel_rfl) (by kernel_rfl) (by kernel_rfl) (lvp:=cx [2,4,11] [] []) (TT:=asi) (HH:=p4 (bh g) m 75 (λ_=>0)++[.cells [.sl 0 8 0 0 m ζ] 85])
   (encs:=λx=>[ms (bh g x) (bh g ((x+1)%m))]) (S:=λu=>u=oE m) (Sp:=λ_=>True) (N:=m) ?_ (gf:=218) (cs:=[.ptr 3 0 0 0]) (by kernel_rfl) Dc (by kernel_rfl) (Vg (live:=[2,4]) (by kernel_rfl)) (λ_=>η) (λb=>o9 (bh g) m 75 ((b.map Dp).foldl (sy (bh g) m) (λ_=>0))) (λ_ _=>[]) rfl (λi=>?_)
   (aeI func218 rfl) (λW C U X D c=>?_) (λ_=>rfl) (by decide) (λb x w=>?_) (λu l=>?_) (λe b _ h=>by cases h)
  ·show(fc θ (o5 gu k0 rI iY gN) 100 ([JC,JD,JE]++[JB]) ([.sl 0 8 0 0 m ζ]++ez ((wx).ntmps-1) (.v aX)) [.row η m 8 (cM (bh g)) 75] (eH (cx [2,4,11] [] []) 1)).ok _
   rw[al5];simp only[bF];refine(ag ?_ (cL ?_ (Φ ⟨rfl,rfl,rfl⟩))).out
   ·simp only[F,ah,aa]
    exact⟨by simp,A,s⟩
   ·rw[show gu (bh λq=>cM (bh g) q) m=ε from c]
    rfl
  ·rcases(by omega:i=0\/i=1\/i=2\/i=3\/4<=i)with rfl|rfl|rfl|rfl|h
   iterate 3 exact .inl rfl
   ·exact .inr rfl
   ·right
    simp[o9,cq,h]
  ·refine an6 D c (ib:=3) (il:=0) rfl rfl (by decide) f (by omega) λi o=>?_
   rcases(by omega:i=0\/i=1\/i=2\/i=3\/4<=i)with rfl|rfl|rfl|rfl|h
   ·simp[o9,AB.wr]at o
   ·exact⟨rfl,by decide⟩
   ·exact⟨rfl,by decide⟩
   ·simp[o9,AB.wr]at o
   ·simp[o9,cq,h,AB.wr]at o
  ·suffices h:aC (a0 θ (o5 gu k0 rI iY gN) 100 K Jz (jG [12] [ms (bh g x) (bh g ((x+1)%m))] Dc) (o9 (bh g) m 75 ((b.map Dp).foldl (sy (bh g) m) (λ_=>0))) (mT θ (o5 gu k0 rI iY gN) 100 JA 4)) (Jr (λ_=>η) (λb:E (Fin m)=>o9 (bh g) m 75 ((b.map Dp).foldl (sy (bh g) m) (λ_=>0))) (λ_ _=>[]) (b++[x]))from h.out
   rw[amB gu k0 rI iY gN (bh g) m 75 _ x];refine Φ ?_;show ab _ (o9 (bh g) m 75 (((b++[x]).map Dp).foldl (sy (bh g) m) (λ_=>0)))
   rw[iN,zz];exact ab.refl _
  ·subst l
   show(behind θ (o5 gu k0 rI iY gN) 100 wx 0 JF (af 1) .normal Dc (o9 (bh g) m 75 (((oE m).map Dp).foldl (sy (bh g) m) (λ_=>0)))).ok _
   rw[aeD,aiE];refine⟨_,rfl,?_,.cons (Ξ.row λj k=>(kv r j k).symm) .nil⟩;show _=[AV.Ψ [.agg (sA (hV (bh g) m)),.v (.bool (iG (bh g) m))]]
   unfold hV iG;rw[c];rfl
 ·cases d
def ajA:au θ 82 (am nc (D5 η)):=by
 refine bY SP aaK rfl λh n b d=>?_
 unfold D5 at b;split at b
 ·rename_i m g
  cases b;simp only[F]at d;obtain⟨e,i,k,_⟩:=d;have f:=ks.1 k;have l:hU m (cM (bh g))=ε:=sx (a:=bh g) λ_ _=>rfl
  refine⟨[.row η m 8 (cM (bh g)) 75],K,100,.cons (Ξ.row λj c=>kv e j c) .nil,dq _,?_⟩;show aC (ad θ (o5 gu k0 rI iY gN) K 100 wx [.sl 0 8 0 0 m ζ] [.row η m 8 (cM (bh g)) 75] (af 1)) _
  rw[aqa];simp only[bF];refine ag ?_ (Φ ⟨_,rfl,?_,.cons (Ξ.row λj c=>(kv e j c).symm) .nil⟩)
  ·simp only[F,ah,aa]
   exact⟨by simp,l,i,by rw[show gu (bh λq=>cM (bh g) q) m=η from f];rfl⟩
  ·show _=[AV.Ψ [.agg (sA (hV (bh g) m)),.v (.bool (iG (bh g) m))]]
   unfold hV iG;rw[f];rfl
 ·cases b
def ajz:au θ 82 (am nc (wG hV iG)):=by
 refine aol ajC ajA λf h a b=>?_
 unfold wG at a;split at a
 ·rename_i m g
  cases a;simp only[F]at b;obtain⟨c,d,_⟩:=b;cases e:gu (bh g) m with
  |true=>exact .inl ⟨[hU m g,ο (m<=2^38),gu (bh g) m==ε],rfl,by simp only[F,ah,aa];exact⟨c,d,by rw[e];rfl⟩⟩
  |false=>exact .inr ⟨[hU m g,ο (m<=2^38),gu (bh g) m==η],rfl,by simp only[F,ah,aa];exact⟨c,d,by rw[e];rfl⟩⟩
 ·cases a
def Q5(a:ω)(m:O)(s:aQ)(j:O):O->Z:=N3 (w4 s) 1 (w4 (k0 (w8 (a j)) (w8 (a ((j+1)%m)))))
def asx(f:aQ):∀k,k<4->w4 f k=f k:=λk a=>by rcases(by omega:k=0\/k=1\/k=2\/k=3)with rfl|rfl|rfl|rfl<;>rfl
def abs(a:ω)(m:O)(s:aQ)(j:O):∀k,k<4->Q5 a m s j k=sy a m s j k:=λk b=>by
 show W (w4 s k+W (1*w4 (k0 (w8 (a j)) (w8 (a ((j+1)%m)))) k))=W (w4 s k+w4 (k0 (w8 (a j)) (w8 (a ((j+1)%m)))) k)
 rw[Int.one_mul,asx (k0 (w8 (a j)) (w8 (a ((j+1)%m)))) k b];have:=nr (Gb (ep (jl (w8 (a j))) (w8 (a ((j+1)%m)))) k);rw[show W (k0 (w8 (a j)) (w8 (a ((j+1)%m))) k)=k0 (w8 (a j)) (w8 (a ((j+1)%m))) k from kL this.1 this.2]
def afP:aK θ (SY k0 N3):=az (az bt (ae0▸VY)) (ae5▸VW)
def ac1{f g:O->Z}(h:∀k,k<4->f k=g k):sH f=sH g:=by
 show AB.cells _ _=AB.cells _ _
 rw[h 0 (by omega),h 1 (by omega),h 2 (by omega),h 3 (by omega)]
def aoF(a:ω)(m:O)(t:ae)(f:m<=2^38):cp θ 1 (.block 0 (.loop (a4 0 AI))) (bD 36 (By .normal) 1 (CP m 0) (p4 a m t λ_=>0) (λb=>b .normal (aw 0 36 [(2,.ptr 1 0 0 0),(4,.ptr 2 0 0 0)]) (p4 a m t (kR a m m)))):=by
 have h:=dQ (m0:=1) (N:=36) (id:=0) (c:=a4 0 AI) (out:=λb=>b .normal (aw 0 36 [(2,.ptr 1 0 0 0),(4,.ptr 2 0 0 0)]) (p4 a m t (kR a m m))) afP (n:=100) (m:=1) (lv:=By) (λi=>CP m i) (λi=>p4 a m t (kR a m i)) (λ_=>True) m (λ_=>K) (du rfl rfl rfl) (aR _) trivial λb Q j i _ k=>⟨cT _ _ _,?_⟩
 ·rw[abp]at h
  exact h
 rw[amC];refine ay (λd=>?_) λd=>?_
 ·have d:=aL d
  have e:i<m:=by omega
  have l:=r7 (i+1) (show 0<m by omega);rw[ai6 e f];simp only[cY,bF];rw[bR (x:=(i:Z)+1) (by omega)];refine ag ?_ (Φ ⟨i+1,⟨rfl,e,trivial⟩,rfl,?_⟩)
  ·simp only[F,ah,aa,aB,it,sd]
   omega
  ·show ab [AB.row η m 8 (cM a) t,sH λ_=>0,sH (Q5 a m (kR a m i) i)] [AB.row η m 8 (cM a) t,sH λ_=>0,sH (kR a m (i+1))]
   rw[abq,ac1 (abs a m (kR a m i) i)];exact ab.refl _
 ·have d:=cE d
  have:i=m:=by omega
  subst this;refine Φ ⟨_,ab.refl _,?_⟩;rw[aP rfl];exact j
def afO:aK θ (KR gu iY gN):=az (az bt alt) akI
def ajB:au θ 56 (am nc (wG hV iG)):=by
 refine bY afO func56 rfl λh k c e=>?_
 unfold wG at c;split at c
 ·rename_i m g
  cases c;simp only[F]at e;obtain⟨d,f,_⟩:=e;have i:hU m (cM (bh g))=ε:=sx (a:=bh g) λ_ _=>rfl
  refine⟨[.row η m 8 (cM (bh g)) 75],LD (bh g) m 75 (kR (bh g) m m),100,.cons (Ξ.row λj b=>kv d j b) .nil,cz (by kernel_rfl) (aoF (bh g) m 75 (aL f)),?_⟩;show aC (ad θ (KR gu iY gN) (LD (bh g) m 75 (kR (bh g) m m)) 100 AI [.sl 0 8 0 0 m ζ] [.row η m 8 (cM (bh g)) 75] (af 1)) _
  rw[aqf];simp only[bF];refine ag (by simp only[F,ah,aa];exact⟨by simp,i,f⟩) (ay (λq=>Φ ⟨_,rfl,?_,.cons (Ξ.row λj b=>(kv d j b).symm) .nil⟩) λq=>ag ?_ (Φ ⟨_,rfl,?_,.cons (Ξ.row λj b=>(kv d j b).symm) .nil⟩))
  ·rw[it]at q
   have q:gu (bh g) m=η:=q;show _=[AV.Ψ [.agg (sA (hV (bh g) m)),.v (.bool (iG (bh g) m))]]
   unfold hV iG;rw[q];rfl
  ·rw[F]
   exact⟨cg ⟨rfl,ab.refl _⟩,rfl⟩
  ·rw[nC]at q
   have q:gu (bh g) m=ε:=q;show _=[AV.Ψ [.agg (sA (hV (bh g) m)),.v (.bool (iG (bh g) m))]]
   unfold hV iG;rw[q];rfl
 ·cases c
abbrev iS(L:E Wh)(x:Z):O->Z:=dP (Y L) x L.length
abbrev sJ(L:E Wh)(x:Z):κ:=dp (Y L) x L.length
def pO(a:aQ):E Z:=[a 0,a 1,a 2,a 3,a 4,a 5,a 6,a 7]
def mw(L:E Wh)(r:E ψ):χ (E Wh×E ψ):=bif cP 1 r&&sJ L (aI r 0)then γ (L,fL (pO (iS L (aI r 0))))else ζ
abbrev F9(L:E Wh)(x g:Z):Z:=jA (gh (w8 (iS L x))) (gg (w8 (iS L x))) g
abbrev F_(L:E Wh)(x g:Z):Z:=jB (gh (w8 (iS L x))) (gg (w8 (iS L x))) g
abbrev Bh(L:E Wh)(x g:Z):κ:=j3 (gh (w8 (iS L x))) (gg (w8 (iS L x))) g
def mj(L:E Wh)(r:E ψ):χ (E Wh×E ψ):=bif cP 2 r&&(sJ L (aI r 0)&&Bh L (aI r 0) (aI r 1))then γ (L,fL [F9 L (aI r 0) (aI r 1),F_ L (aI r 0) (aI r 1)])else ζ
abbrev gW(L:E Wh)(x:Z):E Cy:=fy (ξ (J (Y L))) L.length x
abbrev CC(L:E Wh)(x:Z):κ:=er (ξ (J (Y L))) L.length x
abbrev mV(T:E Cy):O->Z:=hV (bh (cM (jY T))) T.length
abbrev Aa(T:E Cy):κ:=iG (bh (cM (jY T))) T.length
def ma(L:E Wh)(r:E ψ):χ (E Wh×E ψ):=bif cP 1 r&&(CC L (aI r 0)&&Aa (gW L (aI r 0)))then γ (L,fL [mV (gW L (aI r 0)) 0,mV (gW L (aI r 0)) 1,mV (gW L (aI r 0)) 2,mV (gW L (aI r 0)) 3])else ζ
def qU(L:E Wh)(_:E ψ):χ (E Wh×E ψ):=bif fD L then γ (L,bc (eY L))else ζ
abbrev lu(n:Z):Prop:= -1000000000000<=n/\n<=1000000000000
def J1{f:O->O->Z}{n:Z}{m:O}(h:dp f n m=ε){k:O}(a:k<8):lu (dP f n m k):=by
 have e:dP f n m=eA f n m:=by unfold dP;rw[h];rfl
 rw[e];unfold dp at h;rw[aM]at h;have:=vG.1 h.2 k a;rw[Aq _ k a]at this;omega
def wU{a:O->O->Z}{m:O}(h:iG a m=ε){k:O}(b:k<4):lu (hV a m k):=by
 have c:=h;unfold iG at h;rw[aM]at h;have e:hV a m k=w4 (kR a m m) k:=by unfold hV iY;rw[h.1,h.2];rfl
 rw[e];have:=apk.1 h.2 k b;omega
def F8(a b:O)(g:Z):lu (jA a b g)/\lu (jB a b g):=by have:=agA a b g;omega
def iX{n:Z}(h:lu n):ο (-9223372036854775807<=n/\n<=9223372036854775807)=ε:=bA (by omega)
def gD{n:Z}(h:lu n):(bc n).length<=20:=LA n (by omega) (by omega)
def apS(x y:Z):fL [x,y]=bc x++([32]++bc y):=by simp[fL,iD]
def apQ(x y z t:Z):fL [x,y,z,t]=bc x++([32]++(bc y++([32]++(bc z++([32]++bc t))))):=by simp[fL,iD]
def apP(a:aQ):fL (pO a)=bc (a 0)++([32]++(bc (a 1)++([32]++(bc (a 2)++([32]++(bc (a 3)++([32]++(bc (a 4)++([32]++(bc (a 5)++([32]++(bc (a 6)++([32]++bc (a 7)))))))))))))):=by simp[fL,pO,iD]
def aie:mJ:=⟨λ|284=>160|129=>226|317=>225|318=>227|n=>n,λ|53=>106|3=>3|212=>228|0=>0|4=>4|46=>193|5=>5|9=>9|n=>n,λ|17=>2|n=>n⟩
def aid:Go.Proofs.LaysM.n284 θ aie:=by repeat' (first|kernel_rfl|(intros;kernel_rfl)|decide|constructor)
def ah4:mJ:=⟨λ|285=>161|n=>n,λ|37=>32|53=>106|3=>3|4=>4|51=>64|9=>9|5=>5|0=>0|n=>n,λ|n=>n⟩
def ah3:Go.Proofs.Lays.n285 θ ah4:=by repeat' (first|kernel_rfl|(intros;kernel_rfl)|decide|constructor)
def aih:mJ:=⟨λ|283=>159|n=>n,λ|3=>3|9=>9|4=>4|n=>n,λ|n=>n⟩
def aig:Go.Proofs.Lays.n283 θ aih:=by repeat' (first|kernel_rfl|(intros;kernel_rfl)|decide|constructor)
def agD(w:υ)(T:ae)(a:O)(hs:a<=24):Holds (λ(b:ψ)=>jf .u8 (b.toNat:Z)) (w.alloc (.cells Dw T)) w.heap.size 0 (r4 a (0:ψ)):=λj c=>by
 have d:j<a:=by simpa using c
 refine⟨?_,World.frozen?_alloc_new _ _ _ _⟩;rw[World.cell?_alloc_new,Lib.zeros24_at _ (by omega),wB _ j c];simp
def afc(w:υ)(o:Obj)(c:aU ψ)(k:O):∃os,(putRow (λ(b:ψ)=>jf .u8 (b.toNat:Z)) (w.alloc o) w.heap.size 0 c).drewN k=HW (w.drewN k) os:=by rw[alloc_eq_grow];obtain⟨a,_,e⟩:=putRow_grow_new (λ(b:ψ)=>jf .u8 (b.toNat:Z)) w #[o] w.heap.size 0 c (aR _);exact⟨a,by rw[e];rfl⟩
def acw(u:O)(y:u<4294967296)(w:υ)(f:Lib.TabIs θ w "internal/strconv.uint64pow10" .u64 Lib.pow10Tab):aH θ 156 #[.int .u64 u,.int .i64 10] w λe w'=>e=.returned (.string ⟨(gB u).toArray⟩)/\∃k os,w'=HW (w.drewN k) os:=by
 have mixed:=mixed;by_cases t:u<100
 ·have m:=Any.internal_strconv_small aig u t
  go_enter func156,ntmps156
  go_wp2_with (go_at_call 159;refine(m _).mono ?_;rintro e w' ⟨rfl,rfl⟩)
  go_ret
  exact⟨rfl,0,#[],by simp[World.drewN_zero]⟩
 ·have g:1<=u:=by omega
  have a:u<18446744073709551616:=by omega
  have n:wc u<=20:=by have:=Lib.numDigits_eq u g a;split at this<;>omega
  have i:θ.arrayLen 169=24:=by kernel_rfl
  have s:∀W,(Instr.sliceAt 169 (.pointer (γ ⟨w.heap.size,0,ζ⟩)) ζ (γ (ι (wc u:Z))) ζ).run θ W=.ok (.slice (γ ⟨w.heap.size,0,ζ⟩) (wc u) 24) W:=λW=>by rw[run_sliceAt_array_h W 169 ⟨w.heap.size,0,ζ⟩ (by kernel_rfl) .i64 (wc u:Z) (by omega) (by rw[i];omega)];go_simp
  have d:=agD w 169 (wc u) (by omega);have c:=Any.internal_strconv_formatBase10 ah3 w.heap.size 0 24 u (r4 (wc u) 0) (w.alloc (.cells Dw 169)) d (by rw[OJ];exact Lib.lt_pow_nDigits u) a (by rw[OJ];omega);rw[OJ]at c;have o:=λW h=>Any.internal_strconv_numDigits aid u g a W h
  have p:=Lib.hid d;clear d i
  go_enter func156,ntmps156
  go_wp2_with (go_at_call 160;refine(o _ (Lib.tabIs_alloc f _)).mono ?_;rintro e w' ⟨rfl,rfl⟩)
  go_at_call 161
  refine c.mono ?_;rintro e w' ⟨rfl,k,z,l,rfl,q⟩;have v:(convert 32 9 (.slice (γ ⟨w.heap.size,0,ζ⟩) (wc u) 24)).run θ ((putRow (λ(b:ψ)=>jf .u8 (b.toNat:Z)) (w.alloc (.cells Dw 169)) w.heap.size 0 l).drewN k)=.ok (.string ⟨(gB u).toArray⟩) ((putRow (λ(b:ψ)=>jf .u8 (b.toNat:Z)) (w.alloc (.cells Dw 169)) w.heap.size 0 l).drewN k):=by
   have h:=run_convert_bytes_back (P:=θ) ((putRow (λ(b:ψ)=>jf .u8 (b.toNat:Z)) (w.alloc (.cells Dw 169)) w.heap.size 0 l).drewN k) 32 9 5 ⟨w.heap.size,0,ζ⟩ 24 (gB u) (by kernel_rfl) (by kernel_rfl) (by kernel_rfl) (λj r=>by rw[Lib.row_is_numeral q j r,Lib.add_plain,World.cell?_drewN];exact cell?_putRow (λ(b:ψ)=>jf .u8 (b.toNat:Z)) _ w.heap.size 0 _ l p.out (by rw[q.size,OJ]) j (by rw[q.size];rw[HB]at r;exact r))
   rw[HB]at h;exact h
  go_wp2
  go_ret
  obtain⟨os,x⟩:=afc w (.cells Dw 169) l k;exact⟨rfl,k,os,x⟩
def act(u:O)(a:u<4294967296)(w:υ)(b:aY (aq w) w):aH θ 84 #[.int .u64 u,.int .i64 10] w λe w'=>e=.returned (.string ⟨(gB u).toArray⟩)/\Fr (λ_=>False) w w':=by
 have mixed:=mixed;have h:=acw u a w (Yk b)
 go_enter func84,ntmps84
 go_wp2_with (go_at_call 156;refine h.mono ?_;rintro e w' ⟨rfl,k,c,rfl⟩)
 go_ret
 exact⟨rfl,SG w k c⟩
def EM:E AV->χ (E Z)
 |[]=>γ []
 | .v (.int .i64 n)::l=>(EM l).map (n::·)
 |_=>ζ
def NS(b:E Z->ρ)(c:E Z->κ):Spec:=λa H _=>match a with
 |[.sl i 1 0 0 n _]=>(match H.getD i .gone with
  | .cells d _=>(match EM d with
   |some l=>cond (ai n l.length) (γ {val:=.v (.string (b l)),rd:=[i],ap:=[c l,Θ n 16,Δ 0 n]}) ζ
   |none=>ζ)
  |_=>ζ)
 |_=>ζ
def sZ(l:E Z):κ:=l.all λn=>ο (-9223372036854775808<=n)&&ο (n<=9223372036854775807)
def Rw{ν:Nu}:∀{cs:E AV}{l:E Z}{vs:E τ},EM cs=γ l->ax ν cs vs->vs=l.map ι
 |[],l,vs,h,a=>by
  cases h;cases vs with
  |nil=>rfl
  |cons=>exact a.elim
 |c::cs,l,vs,h,a=>by
  unfold EM at h;split at h
  ·rename_i b
   cases b
  ·rename_i n d b
   cases b;obtain⟨i,e,rfl⟩:=Option.map_eq_some_iff.1 h;cases vs with
   |nil=>exact a.elim
   |cons v vs=>obtain⟨f,g⟩:=a;rw[Rw e g,vV f];rfl
  ·cases h
def alo:au θ 75 (NS gZ sZ):=by
 refine⟨λargs w=>enters 75 f75 Tryz.func75 rfl args w,λS H g δ M m w a N s y T A P o=>?_⟩;unfold NS at a;split at a
 case h_2=>cases a
 rename_i i n c;split at a
 case h_2=>cases a
 rename_i cs t U;split at a
 case h_2=>cases a
 rename_i l W;cases B:ai n l.length with
 |false=>rw[B]at a;cases a
 |true=>
 rw[B,aZ]at a;cases a;have X:=ci B;simp only[F,ah,aa,aT,bS]at N;obtain⟨h1,h2,h0⟩:=N
 match m,s with
 |[x],s=>
  simp only[ax,VR,aa]at s;obtain⟨p,c',rfl,_,h4,h5⟩:=s;have d:=y i (mN.2 rfl);rw[U]at d;obtain⟨b,vs,g1,g2,Q,g4⟩:=d;have C:=Rw W g4;have D:∀q,Fr (aq w) w q->∃v G,Ending.returned (.string (gZ l))=.returned v/\ef M G g {val:=.v (.string (gZ l)),rd:=[i],put:=[],new:=[],ap:=[sZ l,Θ n 16,Δ 0 n]} w q v:=λq f=>⟨_,M,rfl,Le.refl _,λi h h'=>aO h h',by simp only[VR],by intro i b d;simp[eO]at d,by intro j b d;simp at d,f.os,f.tape,f.output,f.size,λk u _=>f.block k u (fY.2 u),by intro j b r;simp at r,by intro j j' b b' _ r;simp at r⟩
  have I:aY (aq w) w:=o.mono λk _ u=>.inl u
  have L:∀z∈l,-9223372036854775808<=z/\z<=9223372036854775807:=λz hz=>by have:=bX.1 h1 z hz;rw[aM,aB,aB]at this;exact this
  obtain⟨b',R,rfl⟩:=h5 (by omega);rw[g1]at R;cases R;have:=EK l b.n (b.o+(0*1+0)) c' w I (by omega) (by omega) (cm.1 Q).1 L λj r=>by rw[oU Q,C,g2];simp[r]
  rw[<-X]at this;refine this.mono ?_;rintro e q ⟨rfl,hf⟩;exact D q hf
noncomputable def p9:O->a9->a9
 |0,c=>c
 |n+1,c=>p9 n (rx c)
noncomputable def iK:O->a9->E a9
 |0,_=>[]
 |n+1,c=>pb c::iK n (rx c)
noncomputable def eb(n:O)(c:a9):aU a6:=UG (pb (p9 n c))
noncomputable def ie(n k:O)(c:a9):a6:=(eb n c).toList.getD k default
def AZ(a:Z->ρ->κ)(b:ρ->O->Z):aE:=ext (ext g0 68 (am [.val,.val] (zW a b))) 74 (aS I5)
def uS(a:Z->ρ->κ)(b:ρ->O->Z)(c:(O->O->Z)->Z->O->O->Z)(d:(O->O->Z)->Z->O->κ)(e:E Z->ρ)(f:E Z->κ):aE:=ext (ext (AZ a b) 78 (am dy (pK c d))) 75 (NS e f)
def lJ(a:Z->ρ->κ)(b:ρ->O->Z)(c:(O->O->Z)->Z->O->O->Z)(d:(O->O->Z)->Z->O->κ)(e:E Z->ρ)(R M:(O->Z)->O)(f:(O->Z)->κ)(g h:O->O->Z->Z)(gk:O->O->Z->κ):aE:=ext (ext (ext (ext (AZ a b) 78 (am dy (pK c d))) 79 (am [.val] (um R M f))) 80 (aS (wJ g h gk))) 75 (am [.rd 1 3] (El e))
def mi(a:Z->ρ->κ)(b:ρ->O->Z)(c:E Z->ρ)(d:(O->O->Z)->O->Z->κ)(rt:(O->O->Z)->O->Z->E Cy)(e:(O->O->Z)->O->O->Z)(f:(O->O->Z)->O->κ):aE:=ext (ext (ext (AZ a b) 81 (G8 dy (Jy d rt))) 82 (am nc (wG e f))) 75 (am [.rd 1 3] (El c))
def IY(a:Z->ρ):E τ->χ (τ×E κ)
 |[.int .u64 n,.int .i64 b]=>γ (.string (a n),[ο (0<=n),ο (n<4294967296),ο (b=10)])
 |_=>ζ
def uU(a:Z->ρ->κ)(b:ρ->O->Z)(c:E Wh->Z)(d:E Wh->κ)(e:Z->ρ):aE:=ext (ext (AZ a b) 83 (am bP (wH c d))) 84 (aS (IY e))
noncomputable abbrev E_:cA:=f31
noncomputable def n_:a9:=E_.body.getD .skip
def ap2(d:Z->ρ->κ)(e:ρ->O->Z)(a:(O->O->Z)->Z->O->O->Z)(g:(O->O->Z)->Z->O->κ)(h:E Z->ρ)(i:E Z->κ)(s:ρ)(n j:O)(f:ω):let b:=(ξ λq=>J f (0+q));let c:=(e s 0);let k:=[a b c n 0,a b c n 1,a b c n 2,a b c n 3,a b c n 4,a b c n 5,a b c n 6,a b c n 7];ad θ (uS d e a g h i) K 100 E_ [.ptr 0 1 0 0,.v (.string s)] (dI n j f) (af 2)
 =Ω [d (1:Z) s,Δ (aW s) 4294967281,Θ (0+n) n,ak n λq=>J f (0+q),ο (n<=274877906944),g b c n,i k] (rO [AV.v (.string (h k))] [AB.cells [AV.sl 1 9 0 0 n (γ j)] 30,AB.row η n 9 (J f) 112]):=by intros;kernel_rfl
def ap3(a:Z->ρ->κ)(b:ρ->O->Z)(d:(O->O->Z)->Z->O->O->Z)(c:(O->O->Z)->Z->O->κ)(e:E Z->ρ)(g:E Z->κ)(s:ρ)(n h:O)(f:ω):fc θ (uS a b d c e g) 100 (iK 2 n_) ([.ptr 0 1 0 0,.v (.string s)]++ez 22 (.v aX)) (dI n h f) (λ_ T H=>fv θ (uS a b d c e g) (λ_ _ _ _=>.err) (eb 2 n_).toList ((eb 2 n_).toList.take 1) T H λT' H'=>.out .normal ((#[.tmp 19]:aU cS).toList.map (bN T')) (H'.take 2))=Ω [a (1:Z) s,Δ (aW s) 4294967281,Θ (0+n) n,ak n λq=>J f (0+q),ο (n<=274877906944)] (ao.out .normal [AV.v (.bool (c (ξ λq=>J f (0+q)) (b s 0) n))] [AB.cells [AV.sl 1 9 0 0 n (γ h)] 30,AB.row η n 9 (J f) 112]):=by kernel_rfl
noncomputable abbrev xm:cA:=f32
noncomputable def eN:a9:=xm.body.getD .skip
def apY(g:Z->ρ->κ)(c:ρ->O->Z)(h:(O->O->Z)->Z->O->O->Z)(i:(O->O->Z)->Z->O->κ)(k:E Z->ρ)(R M:(O->Z)->O)(l:(O->Z)->κ)(d e:O->O->Z->Z)(gk:O->O->Z->κ)(s:ρ)(n m:O)(f:ω):let o:=(ξ λq=>J f (0+q));let b:=(c s 1);let a:=(w8 (h o (c s 0) n));ad θ (lJ g c h i k R M l d e gk) K 100 xm [.ptr 0 1 0 0,.v (.string s)] (dI n m f) (af 2)
 =Ω [g (2:Z) s,Δ (aW s) 4294967281,Θ (0+n) n,ak n λq=>J f (0+q),ο (n<=274877906944),i o (c s 0) n,l a,gk (R a) (M a) b,List.all (dH 2) λj=>xL [ι (bif ai j 0 then d (R a) (M a) b else e (R a) (M a) b)]] (rO [AV.v (.string (k (rr (λx=>[ι (bif ai x 0 then d (R a) (M a) b else e (R a) (M a) b)]) 2)))] [AB.cells [AV.sl 1 9 0 0 n (γ m)] 30,AB.row η n 9 (J f) 112]):=by intros;kernel_rfl
def apZ(a:Z->ρ->κ)(b:ρ->O->Z)(c:(O->O->Z)->Z->O->O->Z)(d:(O->O->Z)->Z->O->κ)(e:E Z->ρ)(R M:(O->Z)->O)(g:(O->Z)->κ)(h i:O->O->Z->Z)(gk:O->O->Z->κ)(s:ρ)(n j:O)(f:ω):fc θ (lJ a b c d e R M g h i gk) 100 (iK 1 eN) ([.ptr 0 1 0 0,.v (.string s)]++ez 48 (.v aX)) (dI n j f) (λ_ T H=>fv θ (lJ a b c d e R M g h i gk) (λ_ _ _ _=>.err) (eb 1 eN).toList ((eb 1 eN).toList.take 1) T H λT' H'=>.out .normal ((#[.tmp 12,.const (ι 2)]:aU cS).toList.map (bN T')) (H'.take 2))=ao.out .normal [AV.v (.string s),vI 2] [AB.cells [AV.sl 1 9 0 0 n (γ j)] 30,AB.row η n 9 (J f) 112]:=by kernel_rfl
def ap0(a:Z->ρ->κ)(b:ρ->O->Z)(d:(O->O->Z)->Z->O->O->Z)(c:(O->O->Z)->Z->O->κ)(e:E Z->ρ)(R M:(O->Z)->O)(g:(O->Z)->κ)(h i:O->O->Z->Z)(gk:O->O->Z->κ)(s:ρ)(n j:O)(f:ω):fc θ (lJ a b d c e R M g h i gk) 100 (iK 3 eN) ([.ptr 0 1 0 0,.v (.string s)]++ez 48 (.v aX)) (dI n j f) (λ_ T H=>fv θ (lJ a b d c e R M g h i gk) (λ_ _ _ _=>.err) (eb 3 eN).toList ((eb 3 eN).toList.take 1) T H λT' H'=>.out .normal ((#[.tmp 25]:aU cS).toList.map (bN T')) (H'.take 2))=Ω [a (2:Z) s,Δ (aW s) 4294967281,Θ (0+n) n,ak n λq=>J f (0+q),ο (n<=274877906944)] (ao.out .normal [AV.v (.bool (c (ξ λq=>J f (0+q)) (b s 0) n))] [AB.cells [AV.sl 1 9 0 0 n (γ j)] 30,AB.row η n 9 (J f) 112]):=by kernel_rfl
def ap1(b:Z->ρ->κ)(a:ρ->O->Z)(c:(O->O->Z)->Z->O->O->Z)(d:(O->O->Z)->Z->O->κ)(h:E Z->ρ)(R M:(O->Z)->O)(e:(O->Z)->κ)(i j:O->O->Z->Z)(gk:O->O->Z->κ)(s:ρ)(n k:O)(f:ω):let l:=(ξ λq=>J f (0+q));let g:=(w8 (c l (a s 0) n));fc θ (lJ b a c d h R M e i j gk) 100 (iK 7 eN) ([.ptr 0 1 0 0,.v (.string s)]++ez 48 (.v aX)) (dI n k f) (λ_ T H=>fv θ (lJ b a c d h R M e i j gk) (λ_ _ _ _=>.err) (eb 7 eN).toList ((eb 7 eN).toList.take 1) T H λm o=>.out .normal ((#[.tmp 42]:aU cS).toList.map (bN m)) (o.take 2))
 =Ω [b (2:Z) s,Δ (aW s) 4294967281,Θ (0+n) n,ak n λq=>J f (0+q),ο (n<=274877906944),d l (a s 0) n,e g] (ao.out .normal [AV.v (.bool (gk (R g) (M g) (a s 1)))] [AB.cells [AV.sl 1 9 0 0 n (γ k)] 30,AB.row η n 9 (J f) 112]):=by intros;kernel_rfl
noncomputable abbrev xk:cA:=f33
noncomputable def eM:a9:=xk.body.getD .skip
def apT(g:Z->ρ->κ)(e:ρ->O->Z)(h:E Z->ρ)(i:(O->O->Z)->O->Z->κ)(rt:(O->O->Z)->O->Z->E Cy)(b:(O->O->Z)->O->O->Z)(k:(O->O->Z)->O->κ)(s:ρ)(n l:O)(f:ω):let m:=(ξ λq=>J f (0+q));let d:=(rt m n (e s 0));let c:=(bh λq=>cM (jY d) (0+q));let a:=(b_ d);ad θ (mi g e h i rt b k) K 100 xk [.ptr 0 1 0 0,.v (.string s)] (dI n l f) (af 2)
 =Ω [g (1:Z) s,Δ (aW s) 4294967281,Θ (0+n) n,ak n λq=>J f (0+q),ο (n<=274877906944),i m n (e s 0),Θ (0+b_ d) a,hU a λq=>cM (jY d) (0+q),ο (b_ d<=274877906944),k c a,List.all (dH 4) λj=>xL [ι (bif ai j 0 then b c a 0 else bif ai j 1 then b c a 1 else bif ai j 2 then b c a 2 else b c a 3)]] (rO [AV.v (.string (h (rr (λx=>[ι (bif ai x 0 then b c a 0 else bif ai x 1 then b c a 1 else bif ai x 2 then b c a 2 else b c a 3)]) 4)))] [AB.cells [AV.sl 1 9 0 0 n (γ l)] 30,AB.row η n 9 (J f) 112]):=by intros;kernel_rfl
def Yc(s:ρ):E AV:=(([.ptr 0 1 0 0,.v (.string s)]:E AV)++ez 38 (AV.v aX)).set 4 Az
def apU(c:Z->ρ->κ)(d:ρ->O->Z)(e:E Z->ρ)(g:(O->O->Z)->O->Z->κ)(rt:(O->O->Z)->O->Z->E Cy)(h:(O->O->Z)->O->O->Z)(i:(O->O->Z)->O->κ)(s:ρ)(n b:O)(f:ω):let a:=AV.v aX;a0 θ (mi c d e g rt h i) 100 K (pb eM) ([.ptr 0 1 0 0,.v (.string s)]++ez 38 (.v aX)) (dI n b f) pc
 =ao.out .normal [AV.ptr 0 1 0 0,AV.v (.string s),a,a,AV.v (.string (a8 (bj []))),a,a,a,a,a,a,a,a,a,a,a,a,a,a,a,a,a,a,a,a,a,a,a,a,a,a,a,a,a,a,a,a,a,a,a] (dI n b f):=by intros;kernel_rfl
def apV(b:Z->ρ->κ)(c:ρ->O->Z)(d:E Z->ρ)(e:(O->O->Z)->O->Z->κ)(rt:(O->O->Z)->O->Z->E Cy)(g:(O->O->Z)->O->O->Z)(h:(O->O->Z)->O->κ)(s:ρ)(n a:O)(f:ω):(j0 θ (mi b c d e rt g h) (eb 1 eM).toList ((eb 1 eM).toList.take 5) (Yc s) (dI n a f) [] λT' H' tr=>cond (jx (eb 1 eM).toList tr.reverse&&(uB 5 (eb 1 eM).toList&&GO [0,1] tr.reverse)) (.out .normal T' H') .err)=ao.out .normal [AV.ptr 0 1 0 0,AV.v (.string s),AV.v aX,AV.v aX,Az,AV.v aX,AV.v aX,AV.v aX,AV.v aX,AV.v aX,AV.ptr 0 1 0 0,AV.ptr 0 1 0 0,AV.ptr 0 1 0 0,AV.sl 1 9 0 0 n (γ a),AV.v (.string s),AV.v aX,AV.v aX,AV.v aX,AV.v aX,AV.v aX,AV.v aX,AV.v aX,AV.v aX,AV.v aX,AV.v aX,AV.v aX,AV.v aX,AV.v aX,AV.v aX,AV.v aX,AV.v aX,AV.v aX,AV.v aX,AV.v aX,AV.v aX,AV.v aX,AV.v aX,AV.v aX,AV.v aX,AV.v aX] (dI n a f):=by kernel_rfl
def apW(a:Z->ρ->κ)(b:ρ->O->Z)(d:E Z->ρ)(c:(O->O->Z)->O->Z->κ)(rt:(O->O->Z)->O->Z->E Cy)(e:(O->O->Z)->O->O->Z)(g:(O->O->Z)->O->κ)(s:ρ)(n h:O)(f:ω):fc θ (mi a b d c rt e g) 100 (iK 2 eM) ([.ptr 0 1 0 0,.v (.string s)]++ez 38 (.v aX)) (dI n h f) (λ_ T H=>fv θ (mi a b d c rt e g) (λ_ _ _ _=>.err) (eb 2 eM).toList ((eb 2 eM).toList.take 1) T H λT' H'=>.out .normal ((#[.tmp 21]:aU cS).toList.map (bN T')) (H'.take 2))=Ω [a (1:Z) s,Δ (aW s) 4294967281,Θ (0+n) n,ak n λq=>J f (0+q),ο (n<=274877906944)] (ao.out .normal [AV.v (.bool (c (ξ λq=>J f (0+q)) n (b s 0)))] [AB.cells [AV.sl 1 9 0 0 n (γ h)] 30,AB.row η n 9 (J f) 112]):=by kernel_rfl
def apX(c:Z->ρ->κ)(b:ρ->O->Z)(h:E Z->ρ)(d:(O->O->Z)->O->Z->κ)(rt:(O->O->Z)->O->Z->E Cy)(i:(O->O->Z)->O->O->Z)(e:(O->O->Z)->O->κ)(s:ρ)(n j:O)(f:ω):let k:=(ξ λq=>J f (0+q));let a:=(rt k n (b s 0));let g:=(b_ a);fc θ (mi c b h d rt i e) 100 (iK 4 eM) ([.ptr 0 1 0 0,.v (.string s)]++ez 38 (.v aX)) (dI n j f) (λ_ T H=>fv θ (mi c b h d rt i e) (λ_ _ _ _=>.err) (eb 4 eM).toList ((eb 4 eM).toList.take 1) T H λl m=>.out .normal ((#[.tmp 28]:aU cS).toList.map (bN l)) (m.take 2))
 =Ω [c (1:Z) s,Δ (aW s) 4294967281,Θ (0+n) n,ak n λq=>J f (0+q),ο (n<=274877906944),d k n (b s 0),Θ (0+b_ a) g,hU g λq=>cM (jY a) (0+q),ο (b_ a<=274877906944)] (ao.out .normal [AV.v (.bool (e (bh λq=>cM (jY a) (0+q)) g))] [AB.cells [AV.sl 1 9 0 0 n (γ j)] 30,AB.row η n 9 (J f) 112]):=by intros;kernel_rfl
noncomputable abbrev Fc:cA:=f34
noncomputable def oa:a9:=Fc.body.getD .skip
def ap8(g:Z->ρ->κ)(h:ρ->O->Z)(a:E Wh->Z)(c:E Wh->κ)(d:Z->ρ)(s:ρ)(n e:O)(f:ω):let b:=(V (ξ λq=>J f (0+q)) n);ad θ (uU g h a c d) K 100 Fc [.ptr 0 1 0 0,.v (.string s)] (dI n e f) (af 2)
 =Ω [Θ (0+n) n,ak n λq=>J f (0+q),ο (n<=274877906944),c b,ο ((0:Z)<=aj .u64 (a b)),ο (aj .u64 (a b)<(4294967296:Z))] (rO [AV.v (.string (d (aj .u64 (a b))))] [AB.cells [AV.sl 1 9 0 0 n (γ e)] 30,AB.row η n 9 (J f) 112]):=by intros;kernel_rfl
def ap9(b:Z->ρ->κ)(c:ρ->O->Z)(d:E Wh->Z)(a:E Wh->κ)(e:Z->ρ)(s:ρ)(n g:O)(f:ω):fc θ (uU b c d a e) 100 (iK 2 oa) ([.ptr 0 1 0 0,.v (.string s)]++ez 18 (.v aX)) (dI n g f) (λ_ T H=>fv θ (uU b c d a e) (λ_ _ _ _=>.err) (eb 2 oa).toList ((eb 2 oa).toList.take 1) T H λT' H'=>.out .normal ((#[.tmp 15]:aU cS).toList.map (bN T')) (H'.take 2))=Ω [Θ (0+n) n,ak n λq=>J f (0+q),ο (n<=274877906944)] (ao.out .normal [AV.v (.bool (a (V (ξ λq=>J f (0+q)) n)))] [AB.cells [AV.sl 1 9 0 0 n (γ g)] 30,AB.row η n 9 (J f) 112]):=by kernel_rfl
section
section
variable {P:aF} {ops:aU a6} {Q:Exit->aV->υ->Prop} {md:DR} {S:υ->Prop}
def kN(P:aF)(md:DR)(ops:aU a6)(Q:Exit->aV->υ->Prop)(d:E O)(S:υ->Prop):O->aU κ->aV->υ->Prop
 |0,c,a,w=>l7 md ops c=[]/\Q .normal a w
 |f+1,c,a,w=>(l7 md ops c=[]->Q .normal a w)/\∀i∈l7 md ops c,wpOp P ops Q i (λg e=>(d.elem i=ε->S e)/\kN P md ops Q d S f (c.setIfInBounds i ε) g e) a w
def Zf{d:E O}:∀(f:O)(c:aU κ)(a:aV)(w:υ),kN P md ops Q d S f c a w->wpAny P md ops Q f c a w
 |0,_,_,_,h=>h
 |f+1,_,_,_,h=>⟨h.1,λi e=>wpOp_mono (λg j k=>Zf f _ g j k.2) (h.2 i e)⟩
def Y3(md:DR)(ops:aU a6)(i:O)(B:E O):κ:=B.all λj=>match ops[j]?with
 |some o=>o.after.toList.any λe=>l6 md e&&(ai e.on i||B.elem e.on)
 |none=>η
def Zd{n B:E O}{S2:υ->Prop}{i:O}{A:a6}{v:τ}(hi:ops[i]?=γ A)(s:∀(j:O)(o:a6) cs b,ops[j]?=γ o->o.op≠ .select cs b)(hQ:∀c a w,Q (.panic c) (a.put A.dst v) w->Q (.panic c) a w)(D:n.elem i=η)(hB:Y3 md ops i B=ε):∀(fuel:O)(d:aU κ)(a:aV)(w:υ),(∀j x,ops[j]?=γ x->j≠i->d.getD j ε=η->(∀e∈x.after,l6 md e=ε->e.on≠i)->A.apart ops x=ε)->(∀j∈B,d.getD j η=η)->(∀w' j,j∉B->j≠i->d.getD j ε=η->(n.elem j=ε->S w')->S2 w')->i∈l7 md ops d->YieldsIf P ops S2 A v a->S2 w->kN P md ops Q n S fuel (d.setIfInBounds i ε) (a.put A.dst v) w->kN P md ops Q n S (fuel+1) d a w:=by
 intro fuel;induction fuel with
 |zero=>
  intro d a w _ _ _ y U hS H;refine⟨λh=>(by rw[h]at y;cases y),λj X=>?_⟩;by_cases f:j=i
  ·subst f
   exact U.wpOp hi hS ⟨λh=>(by rw[D]at h;cases h),H⟩
  ·have:=ready_mono X f
   rw[H.1]at this;cases this
 |succ fuel ih=>
  intro d a w q G L y U hS H;refine⟨λh=>(by rw[h]at y;cases y),λj X=>?_⟩;by_cases f:j=i
  ·subst f
   exact U.wpOp hi hS ⟨λh=>(by rw[D]at h;cases h),H⟩
  ·have h1:=H.2 j (ready_mono X f)
   obtain⟨p,x,r,t⟩:=mem_ready.1 X;have M:d.getD i η=η:=by
    have h0:=(mem_ready.1 y).1;rcases nG i d.size with h'|h'
    ·simp[h']at h0⊢;exact h0
    ·simp[Hn h']at h0⊢
   have N:∀e∈x.after,l6 md e=ε->e.on≠i:=λe he hb heq=>by have h1:=t e he hb;rw[heq,M]at h1;cases h1
   have R:j∉B:=λhm=>by
    have h2:=bX.1 hB j hm;rw[r]at h2;obtain⟨e,he,u⟩:=List.any_eq_true.1 h2;rw[aM,oA]at u;have h4:=t e (by simpa using he) u.1;rcases u.2 with h5|h5
    ·rw[ci h5,M]at h4
     cases h4
    ·rw[G e.on (by simpa using h5)]at h4
     cases h4
   have h2:=wpOp_putIf r (q j x r f p N) (λcs b=>s i A cs b hi) (λcs b=>s j x cs b r) hQ U h1;refine wpOp_mono (λa' w' u=>⟨u.2.1,ih (d.setIfInBounds j ε) a' w' (λk ok C z g T=>q k ok C z ?_ T) (λk C=>?_) (λw'' k C z g hh=>L w'' k C z ?_ hh) (ready_mono y (Ne.symm f)) u.1 (L w' j R f p u.2.1) ?_⟩) h2
   ·by_cases l:j=k
    ·subst l;exact p
    ·rw[wA ε l]at g;exact g
   ·by_cases l:j=k
    ·subst l;exact aO C R
    ·rw[wA η l];exact G k C
   ·by_cases l:j=k
    ·subst l;exact p
    ·rw[wA ε l]at g;exact g
   ·rw[Array.setIfInBounds_comm _ _ f]
    exact u.2.2
def asU{e:E O}{i:O}{f:a6}{v:τ}{fuel:O}{d:aU κ}{a:aV}{w:υ}(k:ops[i]?=γ f)(hs:aax ops=ε)(g:(aaw md ops d i&&(l7 md ops d).contains i&& !e.elem i)=ε)(l:∀c a w,Q (.panic c) (a.put f.dst v) w->Q (.panic c) a w)(n:Yields P ops f v a)(h:kN P md ops Q e S fuel (d.setIfInBounds i ε) (a.put f.dst v) w):kN P md ops Q e S (fuel+1) d a w:=by simp only[aM,it]at g;exact Zd (B:=[]) (S2:=λ_=>True) k (at4 hs) l g.2 rfl fuel d a w (at3 k g.1.1) (λj o=>by cases o) (λ_ _ _ _ _ _=>trivial) (by simpa using g.1.2) n.yieldsIf trivial h
def ck{e:E O}(i:O)(v:τ){f:a6}{fuel:O}{d:aU κ}{a:aV}{w:υ}(h:kN P md ops Q e S fuel (d.setIfInBounds i ε) (a.put f.dst v) w)(g:ops[i]?=γ f:=by rfl)(hs:aax ops=ε:=by kernel_rfl)(j:(aaw md ops d i&&(l7 md ops d).contains i&& !e.elem i)=ε:=by kernel_rfl)(k:∀c a w,Q (.panic c) (a.put f.dst v) w->Q (.panic c) a w:=by exact λ_ _ _ h=>h)(l:Yields P ops f v a:=by first|exact .inl ⟨by rfl,λ_=>rfl⟩|exact .inl ⟨by rfl,λ_=>by simp[go_sem,dl]⟩):kN P md ops Q e S (fuel+1) d a w:=
 asU g hs j k l h
def amm(ops:aU a6)(c B:E O)(i:O)(a:aU κ):κ:=(dH ops.size).all λj=>B.elem j||(ai j i||(a.getD j ε||c.elem j))
def pt{e:E O}(B:E O){i:O}{k:a6}{v:τ}{fuel:O}{d:aU κ}{a:aV}{w:υ}(r:ops[i]?=γ k)(z:d.size=ops.size)(hs:aax ops=ε)(l:(aaw md ops d i&&(l7 md ops d).contains i&& !e.elem i)=ε)(n:(Y3 md ops i B&&amm ops e B i d&&B.all λj=> !d.getD j η)=ε)(t:∀c a w,Q (.panic c) (a.put k.dst v) w->Q (.panic c) a w)(u:YieldsIf P ops S k v a)(x:S w)(h:kN P md ops Q e S fuel (d.setIfInBounds i ε) (a.put k.dst v) w):kN P md ops Q e S (fuel+1) d a w:=by
 simp only[aM,it]at l n;refine Zd (B:=B) (S2:=S) r (at4 hs) t l.2 n.1.1 fuel d a w (at3 r l.1.1) (λj o=>?_) (λC j p q g y=>?_) (by simpa using l.1.2) u x h
 ·have:=bX.1 n.2 j o
  simpa using this
 ·have o:j<ops.size:=by
   rcases nG j d.size with s|s
   ·omega
   ·simp[Hn s]at g
  have:=bX.1 n.1.2 j (mM.2 o);simp only[oA]at this;rcases this with f|f|f|f
  ·exact aO (by simpa using f) p
  ·exact aO (ci f) q
  ·rw[g]at f;cases f
  ·exact y f
def gq{d:E O}{f k:O}{o:a6}{c:aU κ}{a:aV}{w:υ}(n:l7 md ops c=[k])(q:ops[k]?=γ o)(r:nK o (zQ ops a.tmps)=ε)(h:∀e:aV->υ->Prop,Shut (∀g w',(d.elem k=ε->S w')->kN P md ops Q d S f (c.setIfInBounds k ε) g w'->e g w')->nJ P o a w e Q):kN P md ops Q d S (f+1) c a w:=by
 refine⟨λj=>(by rw[n]at j;cases j),λi p=>?_⟩;rw[n]at p;have l:i=k:=by simpa using p
 subst l;refine wpOp_step q λe s=>?_
 rw[aP r];exact h e λg w' j t=>s g w' ⟨j,t⟩
def z_{d:E O}{f:O}{c:aU κ}{a:aV}{w:υ}(e:l7 md ops c=[])(h:Q .normal a w):kN P md ops Q d S f c a w:=by
 cases f with
 |zero=>exact⟨e,h⟩
 |succ f=>exact⟨λ_=>h,λi g=>by rw[e]at g;cases g⟩
def pu{id:O}(c:E O)(S:υ->Prop){a:aV}{w:υ}(d:P.follows .mixedOrders=ε)(h:kN P .any ops Q c S ops.size (r4 ops.size η) a w.drew):(Code.region id ops ε).wp P Q a w:=
 wp_region_any d (Zf _ _ _ _ h)
end
end
def FW(a:(O->Z)->κ)(R M:(O->Z)->O)(b:(O->Z)->κ):aE:=ext (ext g0 145 (aS (m2 a))) 146 (aS (Fm R M b))
def arM(b:(O->Z)->κ)(R M:(O->Z)->O)(c:(O->Z)->κ)(a:aQ):ad θ (FW b R M c) K 100 f79 [.v (dn a)] [] (af 0)=bif !b (w8 a)then rO [AV.Ψ [AV.v (Value.complex bQ 0 0),vB η]] []else Ω [c (w8 a)] (rO [AV.Ψ [AV.v (Value.complex bQ (R (w8 a)) (M (w8 a))),vB ε]] []):=by kernel_rfl
def agh:aK θ (FW (λv=>bz (bC v)) gh gg fT):=by unfold FW;rw[pW];exact az (az bt Cg) V3
def ak8:au θ 79 (am [.val] (um gh gg fT)):=by
 refine bY agh func79 rfl λk l i m=>?_
 unfold um at i;split at i
 ·rename_i a b c d e f g h
  cases i;refine⟨[],K,100,.nil,dq _,?_⟩;show aC (ad θ (FW (λv=>bz (bC v)) gh gg fT) K 100 f79 [.v (dn (v8 a b c d e f g h))] [] (af 0)) _
  rw[arM];refine ay (λq=>?_) λq=>?_
  ·have q:fT (v8 a b c d e f g h)=η:=by have j:(!fT (v8 a b c d e f g h))=ε:=q;simpa using j
   refine Φ ⟨_,rfl,?_,.nil⟩;rw[gh,gg,q];rfl
  ·have q:fT (v8 a b c d e f g h)=ε:=by have j:(!fT (v8 a b c d e f g h))=η:=q;simpa using j
   refine ag (by rw[F];exact⟨q,rfl⟩) (Φ ⟨_,rfl,?_,.nil⟩);rw[q];rfl
 ·cases i
abbrev rl(x:Z):Cy:=⟨x,0,0,0,0,0,0,0⟩
def amw{x:Z}:∀k,k<8->(rl x).f k=if k=0 then x else 0:=lf rfl rfl rfl rfl rfl rfl rfl rfl
def WQ{x:Z}(h: -1000<=x/\x<=1000):fb 2000000000000 (rl x).f:=λk a=>by rw[amw k a];split<;>omega
def jg(f:bq)(S:E Wh->E ψ->χ (E Wh×E ψ)):Prop:=
 ∀{D:O}{L:E Wh}(s:ρ){w:υ},dM D L w->aY (cj w D) w->bH L->s.size<=1000->aH θ f #[.pointer (γ ⟨D,0,ζ⟩),.string s] w (de D L (S L s.data.toList) w)
def Nk{a b d:Z}{c:κ}(h:fJ a b c d=ε):bH (gy a b c d):=by
 have g:kg a b c d=ε:=by unfold fJ at h;rw[aM]at h;exact h.1
 obtain⟨j,k⟩:=yK g;rw[k]at h;rw[j];unfold kg aD at g;simp only[aM,aB]at g;obtain⟨⟨m,n⟩,⟨o,p⟩,_,q,r⟩:=g;have f:∀x y s t:Z,(-1000<=x/\x<=1000)->(-1000<=y/\y<=1000)->mc 2000000000000 [⟨s,rl x⟩,⟨t,rl y⟩]:=λx y s t i l w e=>by
  rcases dw.1 e with rfl|e
  ·exact WQ i
  ·rcases dw.1 e with rfl|e
   ·exact WQ l
   ·cases e
 have e:∀x:Z,-1000<=x/\x<=1000->aj a7 x=x:=λx i=>kL (by omega) (by omega)
 refine(zf ?_ h).1;unfold pi;cases c with
 |true=>rw[aZ,e (a-b) (by omega)];exact f _ _ _ _ (by omega) (by omega)
 |false=>rw[a_,e (a+b) (by omega),e (0-d) (by omega)];exact f _ _ _ _ (by omega) (by omega)
def ade:jg 21 (mA ε):=λ{D L} s {w} d f _ g=>by
 have mixed:=mixed;have a:=Rs ε s d f (by omega) λ_ _ _ h=>Nk h
 clear d f g;cases h:mA ε L s.data.toList with
 |none=>
  rw[h]at a;clear h
  go_enter func21,ntmps21
  go_wp2_with (go_at_call 66;refine a.mono ?_;rintro e i b;obtain⟨rfl,c⟩:=b.qk)
  exact⟨rfl,c⟩
 |some x=>
  rw[h]at a;clear h
  go_enter func21,ntmps21
  go_wp2_with (go_at_call 66;refine a.mono ?_;rintro e i b;obtain⟨rfl,c⟩:=b.po)
  go_ret
  exact c
def adh:jg 22 (mA η):=λ{D L} s {w} d f _ g=>by
 have mixed:=mixed;have a:=Rs η s d f (by omega) λ_ _ _ h=>Nk h
 clear d f g;cases h:mA η L s.data.toList with
 |none=>
  rw[h]at a;clear h
  go_enter func22,ntmps22
  go_wp2_with (go_at_call 66;refine a.mono ?_;rintro e i b;obtain⟨rfl,c⟩:=b.qk)
  exact⟨rfl,c⟩
 |some x=>
  rw[h]at a;clear h
  go_enter func22,ntmps22
  go_wp2_with (go_at_call 66;refine a.mono ?_;rintro e i b;obtain⟨rfl,c⟩:=b.po)
  go_ret
  exact c
def vC(L:E Wh)(_:E ψ):χ (E Wh×E ψ):=γ (L,(fM L).data.toList)
def dL{L:E Wh}(h:bH L):L.length<=12:=by have:=rU h;unfold aG at this;rw[aM,aB]at this;exact this.1
def acS{v:τ}{L:E Wh}{w:υ}(b:bl w v L)(a:bH L)(c:aY (aq w) w):aH θ 73 #[v] w (f_ w (.tuple #[.string (fM L),.bool ε])):=by have e:am bP (uj fM yI) [.sl 0 9 0 0 L.length ζ] [.row η L.length 9 (J (Y L)) 112] 1=γ {val:=.Ψ [.v (.string (fM (ex L))),.v (.bool (yI (ex L)))],rd:=[0],ap:=Θ (0+L.length) L.length::(lN L++[])}:=rfl;rw[ic,tN a]at e;exact YN akc [] b e rfl (mr (dL a) _) rfl rfl c
def adm:jg 28 vC:=λ{D L} s {w} b h d _=>by
 have mixed:=mixed;obtain⟨p,n,c,i,j⟩:=id b;have k:=acS j d h.nw;have m:w.cell? ⟨D,0,ζ⟩=γ (.slice p n c):=by rw[gR w D 0 #[.slice p n c] _ (0,0) i];rfl
 have e:(⟨(fM L).data.toList.toArray⟩:ρ)=fM L:=pR rfl;have g:∀a,Fr (aq w) w a->de D L (vC L s.data.toList) w (.returned (.string (fM L))) a:=λa f=>e▸de.CF b d f
 clear h i j e d b
 go_enter func28,ntmps28
 go_wp2_with (first|(go_at_call 73;refine k.mono ?_;rintro e a ⟨rfl,l⟩)|(go_at_call 74;refine(td _).mono ?_;rintro e o ⟨rfl,rfl⟩))
 go_ret
 exact g _ l
def CH(_:E Wh)(r:E ψ):χ (E Wh×E ψ):=bif dF ⟨r.toArray⟩then γ (bZ ⟨r.toArray⟩,[111,107])else ζ
def uP(L:E Wh)(_:E ψ):χ (E Wh×E ψ):=γ (L,bc (jy L))
def vq(L:E Wh)(_:E ψ):χ (E Wh×E ψ):=γ (L,bc (jH L))
def zc(s:ρ):bH (bZ s):=by
 unfold bZ;cases dF s with
 |true=>exact vR _
 |false=>exact xO
def Wv{h:O->Z}{n:O}(a:∀i,i<n-> -2000<=h i/\h i<=2000):0<=iz h n/\iz h n<=2000:=yy a n (aR _)
def KE{L:E Wh}(h:bH L):0<=jy L/\jy L<=2000:=by rw[jy,tN h,aZ,zb h];exact Wv λi a=>Av h a
def MX{L:E Wh}(h:bH L):0<=jH L/\jH L<=2000:=by
 rw[jH,tN h,aZ,zb h];exact Wv λi a=>by
  have:=vS h a;show-2000<=Y L i 0/\Y L i 0<=2000
  omega
def Rq{f:bq}{v:E Wh->Z}(h:au θ f (am bP (nN v))){x:τ}{L:E Wh}{w:υ}(a:bl w x L)(b:bH L)(c:aY (aq w) w):aH θ f #[x] w (f_ w (ι (v L))):=by have e:am bP (nN v) [.sl 0 9 0 0 L.length ζ] [.row η L.length 9 (J (Y L)) 112] 1=γ {val:=.v (ι (v (ex L))),rd:=[0],ap:=Θ (0+L.length) L.length::(lN L++[])}:=rfl;rw[ic]at e;exact YN h [] a e rfl (mr (dL b) _) rfl rfl c
def YC(n:Z):fL [n]=bc n:=by simp[fL,iD,Lib.joinTail]
def Rr(n:Z)(w:υ)(b:aY (aq w) w)(h: -9223372036854775808<=n/\n<=9223372036854775807):aH θ 75 #[.slice (γ ⟨w.heap.size,0,ζ⟩) 1 1] (w.alloc (.cells #[ι n] 3)) (f_ (w.alloc (.cells #[ι n] 3)) (.string ⟨(bc n).toArray⟩)):=by
 have f:Fr (aq w) w (w.alloc (.cells #[ι n] 3)):=eR (fk w _ ζ) λk e=>by cases e
 have:=EK [n] w.heap.size 0 1 _ (b.fh f) (by simp) (aR _) (by simp) (λx c=>by rw[mN.1 c];exact h) (λj a=>by
  have a:j=0:=by simp at a;exact a
  subst a;unfold pI;simp only;rw[World.alloc_heap_new];rfl)
 rw[YC]at this;exact this
def adl:jg 18 CH:=λ{D L} s {w} g i _ m=>by
 have mixed:=mixed;have c:=JP s i.nw;have j:∀(a:υ)(v:τ),Fr (aq w) w a->bl a v (bZ s)->aH θ 62 #[.pointer (γ ⟨D,0,ζ⟩),v,.bool ε] a (de D L (γ (bZ s,[111,107])) w):=λa v f h=>(sF (g.fr f) (T:=bZ s) (b:=ε) (λ_=>h) λ_=>zc s).mono λe p h=>h.after f
 have k:=λa (f:Fr (aq w) w a)=>de.die (L:=L) g f
 unfold CH;rw[show(a8 s.data.toList.toArray)=s from pR rfl];clear g i m;cases d:dF s with
 |false=>
  rw[d]at c;clear d j
  go_enter func18,ntmps18
  go_wp2_with (go_at_call 63;refine c.mono ?_;rintro e a ⟨rfl,l⟩)
  exact⟨rfl,k _ l⟩
 |true=>
  rw[d]at c;clear d k
  go_enter func18,ntmps18
  go_wp2_with (first|(go_at_call 63;refine c.mono ?_;rintro e a ⟨⟨v,rfl,q⟩,l⟩)|(go_at_call 62;refine(j _ _ ‹_› ‹_›).mono ?_;rintro e r n;obtain⟨rfl,o⟩:=n.po))
  go_ret
  exact o
def ada:jg 29 uP:=λ{D L} s {w} g h b _=>by
 have mixed:=mixed;obtain⟨p,n,c,j,l⟩:=id g;have m:=Rq akh l b h.nw;have v:w.cell? ⟨D,0,ζ⟩=γ (.slice p n c):=by rw[gR w D 0 #[.slice p n c] _ (0,0) j];rfl
 have o:=KE b;have q:=λ(a:υ)(f:Fr (aq w) w a)=>Rr (jy L) a (h.nw.fh f) (by omega)
 have i:∀a d,Fr (aq w) w a->Fr (aq (a.alloc (.cells #[ι (jy L)] 3))) (a.alloc (.cells #[ι (jy L)] 3)) d->de D L (uP L s.data.toList) w (.returned (.string ⟨(bc (jy L)).toArray⟩)) d:=λa d f r=>de.CF g b (dh (dh f (eR (fk a _ ζ) λk e=>by cases e)) r)
 clear h j l b g o;generalize jy L=x at*
 go_enter func29,ntmps29
 go_wp2_with (first|(go_at_call 76;refine m.mono ?_;rintro e a ⟨rfl,t⟩)|(go_at_call 75;refine(q _ ‹_›).mono ?_;rintro e d ⟨rfl,u⟩))
 go_ret
 exact i _ _ t u
def adi:jg 30 vq:=λ{D L} s {w} g h b _=>by
 have mixed:=mixed;obtain⟨p,n,c,j,l⟩:=id g;have m:=Rq akP l b h.nw;have v:w.cell? ⟨D,0,ζ⟩=γ (.slice p n c):=by rw[gR w D 0 #[.slice p n c] _ (0,0) j];rfl
 have o:=MX b;have q:=λ(a:υ)(f:Fr (aq w) w a)=>Rr (jH L) a (h.nw.fh f) (by omega)
 have i:∀a d,Fr (aq w) w a->Fr (aq (a.alloc (.cells #[ι (jH L)] 3))) (a.alloc (.cells #[ι (jH L)] 3)) d->de D L (vq L s.data.toList) w (.returned (.string ⟨(bc (jH L)).toArray⟩)) d:=λa d f r=>de.CF g b (dh (dh f (eR (fk a _ ζ) λk e=>by cases e)) r)
 clear h j l b g o;generalize jH L=x at*
 go_enter func30,ntmps30
 go_wp2_with (first|(go_at_call 77;refine m.mono ?_;rintro e a ⟨rfl,t⟩)|(go_at_call 75;refine(q _ ‹_›).mono ?_;rintro e d ⟨rfl,u⟩))
 go_ret
 exact i _ _ t u
def acu(a:TypeInfo)(z:τ)(b:θ.info? 112=γ a)(h:a.zero=γ z)(i:0<a.size)(j:a.bytes<=256)(n:O)(w:υ)(p:0<n)(c:n<=549755813888):aH θ 199 #[.slice ζ 0 0,.int .i64 n] w λe w'=>e=.returned (.slice (γ ⟨w.heap.size,0,ζ⟩) 0 (lC w n 0 112))/\w'=w.drew.alloc (.cells (py z.cells n++py z.cells (lC w n 0 112-n)) 112):=by
 have d:θ.underlying 24=γ (.slice 112):=by kernel_rfl
 have m:θ.underlying 3=γ (.int .i64):=by kernel_rfl
 have q:θ.underlying 4=γ .bool:=by kernel_rfl
 have r:=fC d;have u:=fC m;have v:=fC q;have mixed:=mixed;have x:¬((n:Z)<0):=by omega
 have y:sk ((0:Z) -0)=0:=by unfold sk;omega
 have s:sk (((0:O):Z) -((0:O):Z))=0:=by unfold sk;omega
 have A:sk ((n:Z) -0)=n:=by unfold sk;omega
 have B:(n:Z)>0:=by omega
 have t:∀w,(Go.sizeOf 112).run θ w=.ok a.size w:=λw=>by simp[Go.sizeOf,typeInfo,b]
 have f:n*a.bytes<=281474976710656:=by have:n*a.bytes<=549755813888*256:=pD c j;omega
 have g:∀k,(Builtin.append_ #[24,3] k #[.slice ζ 0 0,.int .i64 (n:Z)]).run θ w=_:=λk=>Lib.run_append_nil_zeros (P:=θ) w 24 3 k 112 a z .i64 .i64 d m b h n p i (by omega) f
 have l:n<=lC w n 0 112:=Qm w _ _ _;obtain⟨G,o⟩:∃G,G=lC w n 0 112:=⟨_,rfl⟩;rw[<-o]at g l⊢;clear o f
 go_enter P1,ntmps199
 go_wp2_with (at_builtin;refine Lib.wpList_append_run _ rfl _ _ _ _ rfl _ _ rfl rfl _ _ (g _) ?_)
 all_goals (go_ret;exact⟨rfl,rfl⟩)
def acv(w:υ):aH θ 199 #[.slice ζ 0 0,.int .i64 0] w λe w'=>e=.returned (.slice ζ 0 0)/\w'=w:=by
 have a:θ.underlying 24=γ (.slice 112):=by kernel_rfl
 have b:θ.underlying 3=γ (.int .i64):=by kernel_rfl
 have c:θ.underlying 4=γ .bool:=by kernel_rfl
 have d:=fC a;have g:=fC b;have h:=fC c;have mixed:=mixed;have i:sk ((0:Z) -0)=0:=by unfold sk;omega
 have f:sk (((0:O):Z) -((0:O):Z))=0:=by unfold sk;omega
 go_enter P1,ntmps199
 go_wp2
 go_ret
 exact⟨rfl,rfl⟩
noncomputable def Y_:κ:=match θ.info? 112 with
 |some i=>(match i.zero with
  |some z=>ai i.size 9&&Θ i.bytes 256&&ai z.cells.size 9
  |none=>η)
 |none=>η
def asQ:Y_=ε:=by kernel_rfl
def asO:∃i z,θ.info? 112=γ i/\i.zero=γ z/\i.size=9/\i.bytes<=256/\z.cells.size=9:=by
 have h:=asQ;unfold Y_ at h;split at h
 ·rename_i i a
  split at h
  ·rename_i z b
   simp only[aM]at h;exact⟨i,z,a,b,ci h.1.1,Nat.le_of_ble_eq_true h.1.2,ci h.2⟩
  ·cases h
 ·cases h
def Ln:Spec:=λb _ a=>match b with
 |[.v (.slice ζ 0 0),.v (.int .i64 n)]=>γ {val:=.own a 0,new:=[.row ε 0 9 (λ_=>[]) 112],ap:=[ο (0<n),ο (n<=549755813888)]}
 |_=>ζ
def Lm:Spec:=λa _ _=>match a with
 |[.v (.slice ζ 0 0),.v (.int .i64 n)]=>γ {val:=.v (.slice ζ 0 0),ap:=[ο (n=0)]}
 |_=>ζ
def akp:au θ 199 Ln:=by
 refine⟨λargs w=>enters 199 f199 P1 rfl args w,λr H b I s d w h p g L t a q _=>?_⟩;unfold Ln at h;split at h
 ·rename_i n
  simp only[ar]at h;subst h;simp only[aJ,gl,jR,iM,id,aM,aB]at p;obtain⟨u,v⟩:=p
  match d,g with
  |[x,y],g=>
   simp only[ax,VR]at g;obtain⟨rfl,rfl,_⟩:=g;obtain⟨m,rfl⟩:∃m:O,n=m:=⟨n.toNat,by omega⟩;obtain⟨i,z,A,B,M,C,D⟩:=asO;have k:=Qm w m 0 112;have f:lC w m 0 112<=maxLen:=grownCap_le_maxLen w m 0 112 (by simp only[maxLen];omega);refine(acu i z A B (by omega) C m w (by omega) (by omega)).mono λe N l=>?_
   obtain⟨l,rfl⟩:=l;refine⟨_,jO s b ⟨w.heap.size,0,lC w m 0 112⟩,l,?_⟩;refine ef.ye (c:=lC w m 0 112) (o:=.cells _ 112) (by simpa using a 0 (by simp)) rfl rfl rfl rfl rfl rfl ?_ ?_
   ·simp only[VR]
    exact⟨_,jr _ _ _,rfl⟩
   ·refine .inr ⟨_,(py z.cells m++py z.cells (lC w m 0 112-m)).toList,112,(0,0),jr _ _ _,?_,λ_=>⟨rfl,rfl,rfl,?_,f⟩,eF _,λj P=>by omega⟩
    ·show(w.heap.push _)[w.heap.size]?=_
     rw[al9,Array.toArray_toList]
    ·generalize lC w m 0 112=G at k
     simp only[lx,Array.size_append,size_zeroCells,D];clear u v f;omega
 ·cases h
def akq:au θ 199 Lm:=by
 refine⟨λargs w=>enters 199 f199 P1 rfl args w,λj H f m k a w h g b o l c i _=>?_⟩;unfold Lm at h;split at h
 ·rename_i n
  simp only[ar]at h;subst h;simp only[aJ,gl,jR,iM,id,aB]at g;subst g
  match a,b with
  |[x,y],b=>
   simp only[ax,VR]at b;obtain⟨rfl,rfl,_⟩:=b;refine(acv w).mono λe p d=>?_
   obtain⟨d,rfl⟩:=d;refine⟨_,k,d,?_⟩;exact ef.same (by simp only[VR]) rfl rfl
 ·cases h
noncomputable abbrev E4:cA:=f125
abbrev Lp(m n:O)(f h:ω):E AB:=[.cells [.sl 1 9 0 0 m ζ,.sl 2 9 0 0 n ζ] 24,.row η m 9 (J f) 112,.row η n 9 (J h) 112]
noncomputable abbrev S7:aE:=ext g0 199 Ln
def aqq(m n:O)(f h:ω):let a:=(0+m);let b:=(0:Z);let c:=(0+m+n);let d:=(aj .i64 (b+(m:Z))+(↑n:Z));ad θ S7 K 100 E4 [.sl 0 1 0 0 2 (γ 2)] (Lp m n f h) (af 3)
 =bif ο (aj .i64 (b+(m:Z))<b)then ao.err else bif ο (aj .i64 d<b)then ao.err else Ω [ο (b<aj .i64 d),ο (aj .i64 d<=(549755813888:Z)),Θ a 549755813888,Θ a m,Θ a a,Θ c 549755813888,Θ (0+n) n] (rO [AV.own 3 c] [AB.cells [AV.sl 1 9 0 0 m ζ,AV.sl 2 9 0 0 n ζ] 24,AB.row η m 9 (J f) 112,AB.row η n 9 (J h) 112,AB.row ε c 9 (λq=>[ι (bif Δ q a then f (0+(q-0)) 0 else h (0+(q-a)) 0),ι (bif Δ q a then f (0+(q-0)) 1 else h (0+(q-a)) 1),ι (bif Δ q a then f (0+(q-0)) 2 else h (0+(q-a)) 2),ι (bif Δ q a then f (0+(q-0)) 3 else h (0+(q-a)) 3),ι (bif Δ q a then f (0+(q-0)) 4 else h (0+(q-a)) 4),ι (bif Δ q a then f (0+(q-0)) 5 else h (0+(q-a)) 5),ι (bif Δ q a then f (0+(q-0)) 6 else h (0+(q-a)) 6),ι (bif Δ q a then f (0+(q-0)) 7 else h (0+(q-a)) 7),ι (bif Δ q a then f (0+(q-0)) 8 else h (0+(q-a)) 8)]) 112]):=by intros;kernel_rfl
abbrev xJ(f h:O->E τ):E AB:=[.cells [.sl 1 0 0 0 0 ζ,.sl 2 0 0 0 0 ζ] 24,.row η 0 9 f 112,.row η 0 9 h 112]
noncomputable abbrev S4:aE:=ext g0 199 Lm
def aql(f h:O->E τ):ad θ S4 K 100 E4 [.sl 0 1 0 0 2 (γ 2)] (xJ f h) (af 3)=rO [AV.v (dk ζ 0 0)] [AB.cells [AV.sl 1 0 0 0 0 ζ,AV.sl 2 0 0 0 0 ζ] 24,AB.row η 0 9 f 112,AB.row η 0 9 h 112]:=by kernel_rfl
def sq.gone{b:AB}{H H':E AB}(h:ab H H'):sq (b::H) (.gone::H')where
 len:=by rw[cn,cn,h.length]
 rh:=λ{M o w} k=>by
  refine⟨λi=>?_,λi j c l d a f e m=>?_,λi c a e=>?_,k.lt,k.eC⟩
  ·cases i with
   |zero=>trivial
   |succ i=>exact(h.get i).br (k.br (i+1))
  ·cases i with
   |zero=>cases a
   |succ i=>
    cases j with
    |zero=>cases f
    |succ j=>exact k.sep (i+1) (j+1) c l d (by show(H.getD i .gone).wr=ε;rw[<-(h.get i).marks.1];exact a) (by show(H.getD j .gone).live=ε;rw[<-(h.get j).marks.2];exact f) e m
  ·cases i with
   |zero=>cases a
   |succ i=>exact k.own (i+1) c (by show(H.getD i .gone).wr=ε;rw[<-(h.get i).marks.1];exact a) e
def iR(m:O)(f h:ω):O->O->Z:=λq k=>bif Δ q m then f q k else h (q-m) k
def IG:E AV->E AB->χ HR
 |[.sl 0 1 0 0 2 (γ 2)],[.cells [.sl 1 9 0 0 m ζ,.sl 2 9 0 0 n ζ] 24,.row η a 9 g 112,.row η b 9 h 112]=>
  γ {val:=.own 3 (m+n),out:=[.gone,.row η a 9 g 112,.row η b 9 h 112],new:=[.row ε (m+n) 9 (J (iR m (ξ g) (ξ h))) 112],
      ap:=[ai a m,ai b n,ak m g,ak n h,ο (m<=2^38),ο (n<=2^38),ο (0<m+n)]}
 |_,_=>ζ
def VK:au θ 125 (da [η,ε,ε] IG):=by
 refine NP (az bt akp) func125 rfl λt H w d k=>?_
 unfold IG at d;split at d
 ·rename_i m n b g e h
  cases d;simp only[F]at k;obtain⟨f,i,l,o,p,q,r,_⟩:=k;have f:=ci f;have i:=ci i;subst f;subst i;have p:=aL p;have q:=aL q;have r:=aL r;refine⟨Lp b e (ξ g) (ξ h),K,100,ab.imp (.cons (Ξ.refl _) (.cons (Ξ.row λj a=>aN l j a) (.cons (Ξ.row λj a=>aN o j a) .nil))),λc _=>cT _ _ _,?_⟩;show aC (ad θ S7 K 100 E4 [.sl 0 1 0 0 2 (γ 2)] (Lp b e (ξ g) (ξ h)) (af 3)) _
  rw[aqq];have u:aj .i64 ((0:Z)+(b:Z))=b:=by rw[O0];omega
  have v:aj .i64 ((b:Z)+(e:Z))=(b:Z)+(e:Z):=by rw[O0];omega
  rw[u,v];refine cL (by simp) (cL (by simp only[sd];omega) (ag ?_ (Φ ⟨_,rfl,λ_ _ _ _ _ s=>by rw[bF]at s;exact s,?_⟩)))
  ·simp only[F,ah,aa,aB,aT]
   omega
  ·rw[bF]
   refine sq.gone (.cons (Ξ.row λj a=>(aN l j a).symm) (.cons (Ξ.row λj a=>(aN o j a).symm) (.cons (Ξ.row λj a=>?_) .nil)));simp only[J,iR,bF,Nat.sub_zero]
 ·cases d
def IF:E AV->E AB->χ HR
 |[.sl 0 1 0 0 2 (γ 2)],[.cells [.sl 1 9 0 0 m ζ,.sl 2 9 0 0 n ζ] 24,.row η a 9 g 112,.row η b 9 h 112]=>
  γ {val:=.v (.slice ζ 0 0),out:=[.gone,.row η a 9 g 112,.row η b 9 h 112],
      ap:=[ai a m,ai b n,ai m 0,ai n 0]}
 |_,_=>ζ
def QS{ν:Nu}{i:O}{y:τ}(h:VR ν (.sl i 9 0 0 0 ζ) y):VR ν (.sl i 0 0 0 0 ζ) y:=by simp only[VR,DM]at h⊢;exact h
def agG(g h:O->E τ):sq [.cells [.sl 1 9 0 0 0 ζ,.sl 2 9 0 0 0 ζ] 24,.row η 0 9 g 112,.row η 0 9 h 112] (xJ g h)where
 len:=rfl
 rh:=λ{M v w} k=>by
  have d:∀i,((xJ g h).getD i .gone).wr=(([.cells [.sl 1 9 0 0 0 ζ,.sl 2 9 0 0 0 ζ] 24,.row η 0 9 g 112,.row η 0 9 h 112]:E AB).getD i .gone).wr:=λi=>by cases i<;>rfl
  have f:∀i,((xJ g h).getD i .gone).live=(([.cells [.sl 1 9 0 0 0 ζ,.sl 2 9 0 0 0 ζ] 24,.row η 0 9 g 112,.row η 0 9 h 112]:E AB).getD i .gone).live:=λi=>by cases i<;>rfl
  refine⟨λi=>?_,λi j b m a c n=>k.sep i j b m a (by rw[<-d];exact c) (by rw[<-f];exact n),λi b c=>k.own i b (by rw[<-d];exact c),k.lt,k.eC⟩;cases i with
  |zero=>
   obtain⟨b,l,o,p,q,r⟩:=k.br 0;refine⟨b,l,o,p,q,?_⟩
   match l,r with
   |[x,y],⟨s,t,_⟩=>exact⟨QS s,QS t,trivial⟩
  |succ i=>exact k.br (i+1)
def ajH:au θ 125 (da [η,ε,ε] IF):=by
 refine NP (az bt akq) func125 rfl λj H l a i=>?_
 unfold IF at a;split at a
 ·rename_i m n o g p h
  cases a;simp only[F]at i;obtain⟨b,d,e,f,_⟩:=i;have b:=ci b;have d:=ci d;have e:=ci e;have f:=ci f;subst b;subst d;subst e;subst f;refine⟨xJ g h,K,100,agG g h,λc _=>cT _ _ _,?_⟩;show aC (ad θ S4 K 100 E4 [.sl 0 1 0 0 2 (γ 2)] (xJ g h) (af 3)) _
  rw[aql];exact Φ ⟨_,rfl,λ_ _ _ _ _ k=>k,sq.gone (ab.refl _)⟩
 ·cases a
def EL(d:O->(O->O->Z)->(O->O->Z)->O->O->Z):Spec:=λc H a=>
 match Dh [η,ε,ε] c H with
 |some ([b,e,f],[.sl 0 1 0 0 2 (γ 2)],[.cells [.sl 1 9 0 0 m ζ,.sl 2 9 0 0 n ζ] 24,.row η i 9 g 112,.row η j 9 h 112])=>γ {val:=.sl a 9 0 0 (m+n) ζ,rd:=[b,e,f],put:=[(b,.gone)],new:=[.row η (m+n) 9 (J (d m (ξ g) (ξ h))) 112],ap:=[ai i m,ai j n,ak m g,ak n h,ο (m<=2^38),ο (n<=2^38)]}
 |_=>ζ
def VJ:au θ 125 (EL iR):=by
 refine⟨VK.1,λq H a δ P r w B W X hr C o s t=>?_⟩;unfold EL at B;split at B
 case h_2=>cases B
 rename_i b i1 i2 m n m1 g n1 h u;simp only[ar]at B;subst B;simp only[F]at W;obtain⟨L,M,h3,h4,h5,h6,_⟩:=W;rcases pB (m+n)with N|N
 ·have hm:m=0:=by omega
  have hn:n=0:=by omega
  subst hm;subst hn;have y:da [η,ε,ε] IF q H a=γ {val:=.v (.slice ζ 0 0),rd:=[b,i1,i2],put:=[(b,.gone)],new:=[],ap:=[ai m1 0,ai n1 0,ai 0 0,ai 0 0]}:=by unfold da;rw[u];rfl
  refine(ajH.2 q H a _ P r w y (by simp only[F,ah,aa];exact⟨L,M,rfl,rfl⟩) X hr C (λj c=>aO c (cN _)) s (t.call λx D=>by first|exact D|cases D)).mono ?_;rintro e w' ⟨v,f,rfl,d⟩;have p:f a=ζ:=by
   have N:P a=ζ:=o 0 (nI);cases u:f a with
   |none=>rfl
   |some b=>have:=d.b6 a N (by rw[u];simp);simp at this
  have U:VR f (.sl a 9 0 0 (0+0) ζ) v:=by have:=d.val;simp only[VR]at this⊢;exact⟨ζ,0,this,λc' z=>(by cases z),aR _,λhc=>aO hc (nF 0)⟩
  refine⟨v,f,rfl,d.le,λi L M=>?_,U,d.put,λj b c=>?_,d.os,d.tape,d.output,d.size,d.block,λj b c u=>?_,λj j' b b' hne c G=>?_⟩
  ·have:=d.b6 i L M
   simp at this;omega
  ·match j with
   |0=>simp only[kn,ar]at c;subst c;exact .inl ⟨rfl,rfl,p⟩
   |j+1=>simp at c
  ·have c:j<1:=c
   have:j=0:=by omega
   subst this;rw[iu,p]at u;cases u
  ·have c:j<1:=c
   have G:j'<1:=G;omega
 ·have y:da [η,ε,ε] IG q H a=γ {val:=.own a (m+n),rd:=[b,i1,i2],put:=[(b,.gone)],new:=[.row ε (m+n) 9 (J (iR m (ξ g) (ξ h))) 112],ap:=[ai m1 m,ai n1 n,ak m g,ak n h,ο (m<=2^38),ο (n<=2^38),ο (0<m+n)]}:=by unfold da;rw[u];rfl
  refine(VK.2 q H a _ P r w y (by simp only[F,ah,aa];exact⟨L,M,h3,h4,h5,h6,bA N⟩) X hr C o s (t.call λx D=>by first|exact D|cases D)).mono ?_;rintro e w' ⟨v,f,rfl,d⟩;have I:=d.new 0 _ rfl;rcases I with⟨A,_,_⟩|⟨k,l,t',fz,A,e2,_,e4,e5⟩
  ·cases A
  refine⟨v,f,rfl,d.le,d.b6,?_,d.put,λj b c=>?_,d.os,d.tape,d.output,d.size,d.block,d.fresh,d.apart⟩
  ·have:=d.val
   simp only[VR]at this⊢;obtain⟨bb,g1,rfl⟩:=this;rw[iu]at A;rw[g1]at A;cases A;exact⟨_,_,rfl,λc' z=>(by cases z),e4,λ_=>⟨k,g1,by simp⟩⟩
  ·match j with
   |0=>simp only[kn,ar]at c;subst c;exact .inr ⟨k,l,t',fz,A,e2,λh=>(by cases h),e4,e5⟩
   |j+1=>simp at c
def K9(a:E Wh->κ)(d:E Wh->E Wh)(b c:E Wh->κ)(e:O->(O->O->Z)->(O->O->Z)->O->O->Z):aE:=ext (kA a d b c) 125 (EL e)
def K8(a:E Wh->κ)(b c:E Wh->κ)(d:O->(O->O->Z)->(O->O->Z)->O->O->Z):aE:=ext (fx a b c) 125 (EL d)
abbrev o_(m:O)(f:ω)(n:O)(h:ω):E AB:=[.row η m 9 (J f) 112,.row η n 9 (J h) 112]
def arQ(a:E Wh->κ)(e:E Wh->E Wh)(b c:E Wh->κ)(i:O->(O->O->Z)->(O->O->Z)->O->O->Z)(m:O)(f:ω)(n:O)(h:ω):let j:=[AV.Ψ [AV.v (dk ζ 0 0),vB η]];let k:=(i m (ξ (J f)) (ξ (J h)));let l:=AB.row η m 9 (J f) 112;let o:=AB.row η n 9 (J h) 112;let d:=(V (ξ λq=>J k (0+q)) (m+n));let p:=[l,o];let g:=(b_ (e d));ad θ (K9 a e b c i) K 100 PI [.sl 0 9 0 0 m ζ,.sl 1 9 0 0 n ζ] (o_ m f n h) (af 2)
 =Ω [Θ (0+m) m,ak m λq=>J f (0+q),ο (m<=549755813888)] (bif !a (V (ξ λq=>J f (0+q)) m)then rO j p else Ω [Θ (0+n) n,ak n λq=>J h (0+q),ο (n<=549755813888)] (bif !a (V (ξ λq=>J h (0+q)) n)then rO j p else Ω [ai m m,ai n n,ak m (J f),ak n (J h),ο (m<=274877906944),ο (n<=274877906944),Θ (0+(m+n)) (m+n),ak (m+n) λq=>J k (0+q),ο (m+n<=274877906944),c d,b d] (rO [AV.Ψ [AV.sl 2 9 0 0 g (γ g),vB ε]] [l,o,AB.row ε g 9 (J (Y (e d))) 112]))):=by intros;kernel_rfl
def arN(a:E Wh->κ)(b c:E Wh->κ)(g:O->(O->O->Z)->(O->O->Z)->O->O->Z)(m:O)(f:ω)(n:O)(h:ω):let d:=[AB.row η m 9 (J f) 112,AB.row η n 9 (J h) 112];let e:=[AV.Ψ [AV.v (dk ζ 0 0),vB η]];let i:=(g m (ξ (J f)) (ξ (J h)));let j:=(V (ξ λq=>J i (0+q)) (m+n));ad θ (K8 a b c g) K 100 PI [.sl 0 9 0 0 m ζ,.sl 1 9 0 0 n ζ] (o_ m f n h) (af 2)
 =Ω [Θ (0+m) m,ak m λq=>J f (0+q),ο (m<=549755813888)] (bif !a (V (ξ λq=>J f (0+q)) m)then rO e d else Ω [Θ (0+n) n,ak n λq=>J h (0+q),ο (n<=549755813888)] (bif !a (V (ξ λq=>J h (0+q)) n)then rO e d else Ω [ai m m,ai n n,ak m (J f),ak n (J h),ο (m<=274877906944),ο (n<=274877906944),Θ (0+(m+n)) (m+n),ak (m+n) λq=>J i (0+q),ο (m+n<=274877906944),c j,!b j] (rO e d))):=by intros;kernel_rfl
def Ma(m n:O)(f h:ω):V (iR m f h) (m+n)=V f m++V h n:=by
 simp only[V,List.range_add,iN,List.map_map]
 congr 1
 ·refine wk λj a=>?_
  have:Δ j m=ε:=by simpa[bS]using a
  have e:iR m f h j=f j:=by
   funext k
   simp only[iR,this,aZ]
  rw[e]
 ·refine wk λj _=>?_
  have:Δ (m+j) m=η:=by
   cases b:Δ (m+j) m with
   |false=>rfl
   |true=>rw[bS]at b;omega
  have e:iR m f h (m+j)=h j:=by
   funext k
   simp only[iR,this,a_,Nat.add_sub_cancel_left]
  simp only[Function.comp_apply];rw[e]
def qx(A B:E Wh):κ:=aG A&&aG B
def qC(A B:E Wh):κ:=qx A B&&bg (A++B)
def za(A B:E Wh):E Wh:=bv (A++B)
def C8(A B:E Wh):E Wh:=bif qx A B then bv (A++B)else[]
def agj:aK θ (K9 aG bv bg dS iR):=az sW VJ
def agi:aK θ (K8 aG bg dS iR):=az sV VJ
def Ui{A B:E Wh}(a:aG A=ε)(b:aG B=ε):n8 (A++B):=λw c=>by
 rcases List.mem_append.1 c with h|h
 ·exact tJ a h
 ·exact tJ b h
def alc:au θ 64 (am kB (wO qC za)):=by
 refine bY agj func64 rfl λo u b h=>?_
 unfold wO at b;split at b
 ·rename_i m c n d
  cases b;simp only[F]at h;obtain⟨i,k,p,q,l,_⟩:=h;have v:=aL p;have w:=aL q;rw[qC,qx,aM,aM]at l;obtain⟨⟨f,g⟩,r⟩:=l;have s:=kd f;have t:=kd g;rw[ch]at s t;refine⟨o_ m (ξ c) n (ξ d),K,100,.cons (Ξ.row λj a=>aN i j a) (.cons (Ξ.row λj a=>aN k j a) .nil),dq _,?_⟩;show aC (ad θ (K9 aG bv bg dS iR) K 100 PI [.sl 0 9 0 0 m ζ,.sl 1 9 0 0 n ζ] (o_ m (ξ c) n (ξ d)) (af 2)) _
  rw[arQ,bV,bV,bV,cb,cb,cb];have e:V (iR m (ξ (J (ξ c))) (ξ (J (ξ d)))) (m+n)=V (ξ c) m++V (ξ d) n:=Ma m n _ _;rw[e];refine ag (by simp only[F,ah,aa,aB,aT,bw,bo];omega) (cL (by rw[f];rfl) (ag (by simp only[F,ah,aa,aB,aT,bw,bo];omega) (cL (by rw[g];rfl) (ag ?_ (Φ ⟨_,rfl,rfl,.cons (Ξ.row λj a=>(aN i j a).symm) (.cons (Ξ.row λj a=>(aN k j a).symm) (ab.refl _))⟩)))));simp only[F,ah,aa,bw];exact⟨h_ m,h_ n,trivial,trivial,bA (by omega),bA (by omega),by simp,trivial,bA (by omega),cg (Ui f g),r⟩
 ·cases b
def ala:au θ 64 (am kB (wM qC)):=by
 refine bY agi func64 rfl λr z f k=>?_
 unfold wM at f;split at f
 ·rename_i m a n b
  cases f;simp only[F]at k;obtain⟨l,o,s,t,p,_⟩:=k;have A:=aL s;have B:=aL t;have c:aC (.out .ret [eQ] (o_ m (ξ a) n (ξ b))) (dV (bI kB [.row m a,.row n b] []) {val:=eQ,ap:=[ak m a,ak n b,ο (m<=2^38),ο (n<=2^38),!qC (V (ξ a) m) (V (ξ b) n)]}):=
   Φ ⟨_,rfl,rfl,.cons (Ξ.row λj d=>(aN l j d).symm) (.cons (Ξ.row λj d=>(aN o j d).symm) .nil)⟩
  refine⟨o_ m (ξ a) n (ξ b),K,100,.cons (Ξ.row λj d=>aN l j d) (.cons (Ξ.row λj d=>aN o j d) .nil),dq _,?_⟩;show aC (ad θ (K8 aG bg dS iR) K 100 PI [.sl 0 9 0 0 m ζ,.sl 1 9 0 0 n ζ] (o_ m (ξ a) n (ξ b)) (af 2)) _
  rw[arN,bV,bV,bV,cb,cb,cb];have e:V (iR m (ξ (J (ξ a))) (ξ (J (ξ b)))) (m+n)=V (ξ a) m++V (ξ b) n:=Ma m n _ _;rw[e];refine ag (by simp only[F,ah,aa,aB,aT,bw,bo];omega) (ay (λ_=>c) λq=>ag (by simp only[F,ah,aa,aB,aT,bw,bo];omega) (ay (λ_=>c) λw=>ag ?_ c));have g:aG (V (ξ a) m)=ε:=by have h:(!aG (V (ξ a) m))=η:=q;simpa using h
  have i:aG (V (ξ b) n)=ε:=by have h:(!aG (V (ξ b) n))=η:=w;simpa using h
  have x:=kd g;have y:=kd i;rw[ch]at x y;rw[qC,qx,g,i]at p;simp only[F,ah,aa,bw];exact⟨h_ m,h_ n,trivial,trivial,bA (by omega),bA (by omega),by simp,trivial,bA (by omega),cg (Ui g i),p⟩
 ·cases f
abbrev gO:E Wh->E Wh->κ:=qC
abbrev iA:E Wh->E Wh->E Wh:=C8
def XQ{A B:E Wh}(h:gO A B=ε):C8 A B=za A B:=by rw[gO,qC,aM]at h;rw[C8,h.1];rfl
abbrev uJ:AV:=.fn 135 [.ptr 1 0 0 0]
abbrev rj(m:O)(f:ω)(t:ae)(x:Z)(n:O)(h:ω):E AB:=[.row η m 9 (J f) t,.cells [.v (ι x)] 3,.row ε n 9 (J h) 112]
abbrev yX(m n i:O):E AV:=[uJ,.own 2 n,.sl 0 9 0 0 m ζ,.v (ι m),.v (ι i)]
def amF(d:(O->Z)->O->Z)(e:(O->Z)->Z->O->Z)(m:O)(f:ω)(t:ae)(x:Z)(n:O)(h:ω)(i:O):let b:=(↑i:Z);let c:=AB.row η m 9 (J f) t;let a:=(0+a5 b);a0 θ (sU d e) 100 K (a4 0 dd) (aw 0 32 ((fG .normal).zip (yX m n i))) (rj m f t x n h) (cJ 32 fG 2)
 =bif ο (b<(m:Z))then Ω [ο (b<(m:Z)),ο (0+a5 b<m),Θ n n,Θ (n+1) 549755813888] (ao.out .normal [AV.fn (135:bq) [AV.ptr 1 0 0 0],AV.own 2 (n+1),AV.sl 0 9 0 0 m ζ,vI (m:Z),vI (aj .i64 (b+(1:Z)))] [c,AB.cells [vI x] 3,AB.row ε (n+1) 9 (λq=>[ι (bif Δ q n then h q 0 else aj .i64 (x*f a 0)),ι (bif Δ q n then h q 1 else f a 1),ι (bif Δ q n then h q 2 else f a 2),ι (bif Δ q n then h q 3 else f a 3),ι (bif Δ q n then h q 4 else f a 4),ι (bif Δ q n then h q 5 else f a 5),ι (bif Δ q n then h q 6 else f a 6),ι (bif Δ q n then h q 7 else f a 7),ι (bif Δ q n then h q 8 else f a 8)]) 112])else ao.out (Ex.exit 0) [AV.own 2 n] [c,AB.cells [vI x] 3,AB.row ε n 9 (J h) 112]:=by intros;kernel_rfl
noncomputable abbrev xR(m:O)(f:ω)(t:ae)(x:Z)(n:O)(h:ω):O->χ Sum:=bJ 0 (bD 32 (fG .normal) 2 (yX m 0 0) (rj m f t x 0 (Y [])) (λa=>a .normal (aw 0 32 [(6,.own 2 n)]) (rj m f t x n h)))
def asc(a:E Wh->κ)(e:E Wh->E Wh)(b c:E Wh->κ)(m:O)(f:ω)(t:ae)(x:Z)(n:O)(h:ω):let d:=(V (ξ (J h)) n);let g:=AB.row η m 9 (J f) t;let i:=(b_ (e d));let j:=AB.cells [vI x] 3;ad θ (kA a e b c) (xR m f t x n h) 100 dd [.sl 0 9 0 0 m ζ,uJ] [.row η m 9 (J f) t,.cells [.v (ι x)] 3] (af 2)
 =Ω [Θ (0+m) m,ak m λq=>J f (0+q),ο (m<=549755813888)] (bif !a (V (ξ λq=>J f (0+q)) m)then rO [AV.Ψ [AV.v (dk ζ 0 0),vB η]] [g,j]else Ω [ο ((m:Z)<=(1099511627776:Z)),cw ([AV.fn (135:bq) [AV.ptr 1 0 0 0],AV.own 2 0,AV.sl 0 9 0 0 m ζ,vI (m:Z),vI 0]=yX m 0 0/\ab [g,j,AB.row ε 0 9 (λ_=>[ι 0,ι 0,ι 0,ι 0,ι 0,ι 0,ι 0,ι 0,ι 0]) 112] (rj m f t x 0 (Y []))),Θ n n,ak n (J h),ο (n<=274877906944),c d,b d] (rO [AV.Ψ [AV.sl 2 9 0 0 i (γ i),vB ε]] [g,j,AB.row ε i 9 (J (Y (e d))) 112])):=by intros;kernel_rfl
def ari(a:E Wh->κ)(b c:E Wh->κ)(m:O)(f:ω)(t:ae)(x:Z)(n:O)(h:ω):let g:=[AV.Ψ [AV.v (dk ζ 0 0),vB η]];let d:=AB.row η m 9 (J f) t;let e:=AB.cells [vI x] 3;let i:=(V (ξ (J h)) n);ad θ (fx a b c) (xR m f t x n h) 100 dd [.sl 0 9 0 0 m ζ,uJ] [.row η m 9 (J f) t,.cells [.v (ι x)] 3] (af 2)
 =Ω [Θ (0+m) m,ak m λq=>J f (0+q),ο (m<=549755813888)] (bif !a (V (ξ λq=>J f (0+q)) m)then rO g [d,e]else Ω [ο ((m:Z)<=(1099511627776:Z)),cw ([AV.fn (135:bq) [AV.ptr 1 0 0 0],AV.own 2 0,AV.sl 0 9 0 0 m ζ,vI (m:Z),vI 0]=yX m 0 0/\ab [d,e,AB.row ε 0 9 (λ_=>[ι 0,ι 0,ι 0,ι 0,ι 0,ι 0,ι 0,ι 0,ι 0]) 112] (rj m f t x 0 (Y []))),Θ n n,ak n (J h),ο (n<=274877906944),c i,!b i] (rO g [d,e])):=by intros;kernel_rfl
def aqS(a:E Wh->κ)(b c:E Wh->κ)(m:O)(f:ω)(t:ae)(x:Z):ad θ (fx a b c) (bJ 0 ej) 100 dd [.sl 0 9 0 0 m ζ,uJ] [.row η m 9 (J f) t,.cells [.v (ι x)] 3] (af 2)=Ω [Θ (0+m) m,ak m λq=>J f (0+q),ο (m<=549755813888)] (bif !a (V (ξ λq=>J f (0+q)) m)then rO [AV.Ψ [AV.v (dk ζ 0 0),vB η]] [AB.row η m 9 (J f) t,AB.cells [vI x] 3]else Ω [ο ((m:Z)<=(1099511627776:Z))] ao.err):=by kernel_rfl
def kV(x:Z)(w:Wh):Wh:=⟨aj a7 (x*w.s),w.r⟩
abbrev qc:Z->E Wh->E Wh:=λx L=>L.map (kV x)
def Up(x:Z){L:E Wh}(h:aG L=ε):n8 (L.map (kV x)):=by intro c a;obtain⟨w,b,rfl⟩:=List.mem_map.1 a;exact(tJ h b:mY w.r)
def XT(m:O)(f:ω)(t:ae)(x:Z)(j:m<=2^38)(d:∀w∈V f m,n7 w.r.f=ε):cp θ 2 (.block 0 (.loop (a4 0 dd))) (bD 32 (fG .normal) 2 (yX m 0 0) (rj m f t x 0 (Y [])) (λa=>a .normal (aw 0 32 [(6,.own 2 m)]) (rj m f t x m (Y ((V f m).map (kV x)))))):=by
 refine dQ xA (n:=100) (m:=2) (lv:=fG) (λi=>yX m i i) (λi=>rj m f t x i (Y ((V f i).map (kV x)))) (λ_=>True) m (λ_=>K) (du rfl rfl rfl) (aR _) trivial λa Q e i l g=>⟨cT _ _ _,?_⟩
 rw[amF];refine ay (λb=>?_) λb=>?_
 ·have b:=aL b
  have c:i<m:=by omega
  rw[cY,bF,bR (x:=(i:Z)+1) (by omega)];refine ag (by simp only[F,ah,aa,aB,aT];omega) (Φ ⟨i+1,⟨rfl,c,trivial⟩,rfl,?_⟩);show ab _ (rj m f t x (i+1) (Y ((V f (i+1)).map (kV x))))
  rw[gw,iN];refine(.cons (Ξ.refl _) (.cons (Ξ.refl _) (.cons (Ξ.row λq h=>?_) .nil)));exact nT _ ((kV x) (bm (f i))) i (by rw[cC,ch]) q h
 ·have b:=cE b
  have:i=m:=by omega
  subst this;refine Φ ⟨_,ab.refl _,?_⟩;rw[aP rfl];exact e
def Eb(b:E Wh->κ)(c:E Wh->E Wh)(d:E Wh->κ)(a:Z->E Wh->E Wh):E AV->E AB->χ HR
 |[.sl 0 9 0 0 m ζ,.fn 135 [.ptr 1 0 0 0]],[.row η n 9 g t,.cells [.v (.int .i64 x)] 3]=>γ {val:=.Ψ [.sl 2 9 0 0 (c (a x (V (ξ g) m))).length (γ (c (a x (V (ξ g) m))).length),.v (.bool ε)],out:=[.row η n 9 g t,.cells [.v (.int .i64 x)] 3],new:=fR (c (a x (V (ξ g) m))),ap:=[ai n m,ak m g,ο (m<=2^38),b (V (ξ g) m)&&d (a x (V (ξ g) m))]}
 |_,_=>ζ
def D7(a:E Wh->κ)(b:E Wh->κ)(c:Z->E Wh->E Wh):E AV->E AB->χ HR
 |[.sl 0 9 0 0 m ζ,.fn 135 [.ptr 1 0 0 0]],[.row η n 9 g t,.cells [.v (.int .i64 x)] 3]=>γ {val:=eQ,out:=[.row η n 9 g t,.cells [.v (.int .i64 x)] 3],ap:=[ai n m,ak m g,ο (m<=2^38),!(a (V (ξ g) m)&&b (c x (V (ξ g) m)))]}
 |_,_=>ζ
def ajP:au θ 129 (da [ε] (Eb aG bv bg qc)):=by
 refine lV sW pE rfl λk H s b f=>?_
 unfold Eb at b;split at b
 ·rename_i m n g t x
  cases b;simp only[F]at f;obtain⟨c,h,l,i,_⟩:=f;have c:=ci c;subst c;have o:=aL l;rw[aM]at i;obtain⟨d,p⟩:=i;have e:=Up x d;have q:=XT n (ξ g) t x o (λw r=>nq d r);refine⟨[.row η n 9 (J (ξ g)) t,.cells [.v (ι x)] 3],xR n (ξ g) t x n (Y ((V (ξ g) n).map (kV x))),100,.cons (Ξ.row λj a=>aN h j a) (.cons rfl .nil),cz (by kernel_rfl) q,?_⟩;show aC (ad θ (kA aG bv bg dS) (xR n (ξ g) t x n (Y ((V (ξ g) n).map (kV x)))) 100 dd [.sl 0 9 0 0 n ζ,uJ] [.row η n 9 (J (ξ g)) t,.cells [.v (ι x)] 3] (af 2)) _
  rw[asc,bV,cb,fo ((V (ξ g) n).map (kV x)) n (by rw[cC,ch])];refine ag (by simp only[F,ah,aa,aB,aT,bw,bo];omega) (cL (by rw[d];rfl) (ag ?_ (Φ ⟨rfl,.cons (Ξ.row λj a=>(aN h j a).symm) (.cons rfl (ab.refl _))⟩)));simp only[F,ah,aa,bw];exact⟨bA (by omega),cg ⟨rfl,(.cons (Ξ.refl _) (.cons (Ξ.refl _) (.cons (Ξ.row λj a=>aO a (cN _)) .nil)))⟩,by simp,trivial,bA (by omega),cg e,p⟩
 ·cases b
def ajJ:au θ 129 (da [ε] (D7 aG bg qc)):=by
 refine lV sV pE rfl λk H u c h=>?_
 unfold D7 at c;split at c
 ·rename_i m n g t x
  cases c;simp only[F]at h;obtain⟨e,d,l,i,_⟩:=h;have e:=ci e;subst e;have o:=aL l;cases b:aG (V (ξ g) n)with
  |false=>
   have p:cp θ 2 (.block 0 (.loop (a4 0 dd))) ej:=nZ;refine⟨[.row η n 9 (J (ξ g)) t,.cells [.v (ι x)] 3],bJ 0 ej,100,.cons (Ξ.row λj a=>aN d j a) (.cons rfl .nil),cz (by kernel_rfl) p,?_⟩;show aC (ad θ (fx aG bg dS) (bJ 0 ej) 100 dd [.sl 0 9 0 0 n ζ,uJ] [.row η n 9 (J (ξ g)) t,.cells [.v (ι x)] 3] (af 2)) _
   rw[aqS,bV,cb];exact ag (by simp only[F,ah,aa,aB,aT,bw,bo];omega) (eS (by rw[b];rfl) (Φ ⟨rfl,.cons (Ξ.row λj a=>(aN d j a).symm) (.cons rfl .nil)⟩))
  |true=>
  rw[b,dD]at i;have q:bg ((V (ξ g) n).map (kV x))=η:=by simpa using i
  have f:=Up x b;have r:=XT n (ξ g) t x o (λw s=>nq b s);refine⟨[.row η n 9 (J (ξ g)) t,.cells [.v (ι x)] 3],xR n (ξ g) t x n (Y ((V (ξ g) n).map (kV x))),100,.cons (Ξ.row λj a=>aN d j a) (.cons rfl .nil),cz (by kernel_rfl) r,?_⟩;show aC (ad θ (fx aG bg dS) (xR n (ξ g) t x n (Y ((V (ξ g) n).map (kV x)))) 100 dd [.sl 0 9 0 0 n ζ,uJ] [.row η n 9 (J (ξ g)) t,.cells [.v (ι x)] 3] (af 2)) _
  rw[ari,bV,cb,fo ((V (ξ g) n).map (kV x)) n (by rw[cC,ch])];refine ag (by simp only[F,ah,aa,aB,aT,bw,bo];omega) (cL (by rw[b];rfl) (ag ?_ (Φ ⟨rfl,.cons (Ξ.row λj a=>(aN d j a).symm) (.cons rfl .nil)⟩)));simp only[F,ah,aa,bw];exact⟨bA (by omega),cg ⟨rfl,(.cons (Ξ.refl _) (.cons (Ξ.refl _) (.cons (Ξ.row λj a=>aO a (cN _)) .nil)))⟩,by simp,trivial,bA (by omega),cg f,by rw[q];rfl⟩
 ·cases c
def ny(x:Z)(L:E Wh):κ:=aD x (-20) 20&&(aG L&&bg (L.map (kV x)))
def IQ(a:Z->E Wh->κ)(b:E Wh->E Wh)(c:Z->E Wh->E Wh):E SA->χ FR
 |[.row m g,.v (.int .i64 x)]=>γ {val:=js (b (c x (V (ξ g) m))),new:=fR (b (c x (V (ξ g) m))),ap:=[ak m g,ο (m<=2^38),a x (V (ξ g) m)]}
 |_=>ζ
def IJ(a:Z->E Wh->κ):E SA->χ FR
 |[.row m g,.v (.int .i64 x)]=>γ {val:=eQ,ap:=[ak m g,ο (m<=2^38),!a x (V (ξ g) m)]}
 |_=>ζ
def aqH(a:E Wh->κ)(c:E Wh->E Wh)(b:E Wh->κ)(g:Z->E Wh->E Wh)(m:O)(f:ω)(x:Z):let h:=AB.row η m 9 (J f) 112;let i:=(V (ξ (J f)) m);let d:=(g x i);let e:=(b_ (c d));ad θ (ext fm 129 (da [ε] (Eb a c b g))) K 100 PL [.sl 0 9 0 0 m ζ,.v (ι x)] [.row η m 9 (J f) 112] (af 1)
 =bif !aD x (-20:Z) (20:Z)then rO [AV.Ψ [AV.v (dk ζ 0 0),vB η]] [h]else Ω [ai m m,ak m (J f),ο (m<=274877906944),a i&&b d] (rO [AV.Ψ [AV.sl 1 9 0 0 e (γ e),vB ε]] [h,AB.row ε e 9 (J (Y (c d))) 112]):=by intros;kernel_rfl
def aqz(a:E Wh->κ)(b:E Wh->κ)(c:Z->E Wh->E Wh)(m:O)(f:ω)(x:Z):let d:=[AV.Ψ [AV.v (dk ζ 0 0),vB η]];let e:=[AB.row η m 9 (J f) 112];let g:=(V (ξ (J f)) m);ad θ (ext fm 129 (da [ε] (D7 a b c))) K 100 PL [.sl 0 9 0 0 m ζ,.v (ι x)] [.row η m 9 (J f) 112] (af 1)
 =bif !aD x (-20:Z) (20:Z)then rO d e else Ω [ai m m,ak m (J f),ο (m<=274877906944),!(a g&&b (c x g))] (rO d e):=by intros;kernel_rfl
def aj8:au θ 70 (am dy (IQ ny bv qc)):=by
 refine bY (az jz ajP) func70 rfl λh n a d=>?_
 unfold IQ at a;split at a
 ·rename_i m g x
  cases a;simp only[F]at d;obtain⟨e,i,b,_⟩:=d;have k:=aL i;refine⟨[.row η m 9 (J (ξ g)) 112],K,100,.cons (Ξ.row λj c=>aN e j c) .nil,dq _,?_⟩;show aC (ad θ (ext fm 129 (da [ε] (Eb aG bv bg qc))) K 100 PL [.sl 0 9 0 0 m ζ,.v (ι x)] [.row η m 9 (J (ξ g)) 112] (af 1)) _
  rw[aqH];rw[ny,aM]at b;obtain⟨f,b⟩:=b;have l:=b9.1 f;exact cL (by rw[f];rfl) (ag (by simp only[F,ah,aa,h_,bw,cb,bo];exact⟨bA k,b⟩) (Φ ⟨_,rfl,rfl,.cons (Ξ.row λj c=>(aN e j c).symm) (ab.refl _)⟩))
 ·cases a
def aj3:au θ 70 (am dy (IJ ny)):=by
 refine bY (az jz ajJ) func70 rfl λh n b d=>?_
 unfold IJ at b;split at b
 ·rename_i m g x
  cases b;simp only[F]at d;obtain⟨c,i,e,_⟩:=d;have k:=aL i;refine⟨[.row η m 9 (J (ξ g)) 112],K,100,.cons (Ξ.row λj a=>aN c j a) .nil,dq _,?_⟩;show aC (ad θ (ext fm 129 (da [ε] (D7 aG bg qc))) K 100 PL [.sl 0 9 0 0 m ζ,.v (ι x)] [.row η m 9 (J (ξ g)) 112] (af 1)) _
  rw[aqz];cases f:aD x (-20) 20 with
  |false=>exact eS rfl (Φ ⟨_,rfl,rfl,.cons (Ξ.row λj a=>(aN c j a).symm) .nil⟩)
  |true=>rw[ny,f,dD]at e;have l:=b9.1 f;exact cL rfl (ag (by simp only[F,ah,aa,h_,bw,cb,bo];exact⟨bA k,e⟩) (Φ ⟨_,rfl,rfl,.cons (Ξ.row λj a=>(aN c j a).symm) .nil⟩))
 ·cases b
def Ry{x:Z}{w:Wh}:kV x w=dZ x 0 0 η w:=by
 have a:(aj a7 ((0:Z)+aj a7 (0*w.s))%24).toNat=0:=by rw[Int.zero_mul];rfl
 rw[kV,dZ,a];rfl
def yF(x:Z)(L:E Wh):κ:=aD x (-20) 20&&gS x 0 0 η L
def tF(x:Z)(L:E Wh):E Wh:=bif aD x (-20) 20 then fQ x 0 0 η L else[]
def dY(base:O)(rd:E O)(T:E Wh)(ob:E κ):Delta:={val:=.Ψ [.sl base 9 0 0 T.length (γ T.length),.v (.bool ε)],rd:=rd,put:=[],new:=fR T,ap:=ob}
def dN(rd:E O)(ob:E κ):Delta:={val:=.Ψ [.v (.slice ζ 0 0),.v (.bool η)],rd:=rd,put:=[],new:=[],ap:=ob}
def atf{L:E Wh}(a:nx L=ε):yB L=ε/\tB L=bv (qb L):=by
 have hM:L.map (dZ (-1) 0 0 η)=qb L:=p_ λw _=>Rx.symm
 rw[nx,aM]at a;obtain⟨b,c⟩:=Ay (sp:=(-1)) (tn:=0) (la:=0) (mir:=η) (by rw[iH,a.1];rfl) hM a.2;exact⟨c,b⟩
def ajb{L:E Wh}(a:nx L=η):yB L=η:=by
 have hM:L.map (dZ (-1) 0 0 η)=qb L:=p_ λw _=>Rx.symm
 obtain⟨e,c⟩:=Ax (sp:=(-1)) (tn:=0) (la:=0) (mir:=η) (L:=L) λb=>by rw[iH,aM]at b;rw[hM];rw[nx,b.1,dD]at a;exact a
 exact c
def abV{v:τ}{L:E Wh}{w:υ}(g:bl w v L)(h:bH L)(i:aY (aq w) w):aH θ 71 #[v] w (eX w (yB L) (tB L)):=by
 cases a:nx L with
 |true=>obtain⟨l,m⟩:=atf a;rw[l,m];have e:am bP (IP nx bv qb) [.sl 0 9 0 0 L.length ζ] [.row η L.length 9 (J (Y L)) 112] 1=γ (dY 1 [0] (bv (qb (ex L))) (Θ (0+L.length) L.length::(lN L++[nx (ex L)]))):=rfl;rw[ic]at e;refine(mZ aj7 [] g e ((mr (dL h) _).trans (by rw[a];rfl)) rfl rfl i).mono ?_;rintro e n ⟨x,c,rfl,d,j,k,f⟩;exact tG d (j 0 _ rfl) (λb o=>k 0 b (ft 0) o) f
 |false=>rw[ajb a];have e:am bP (II nx) [.sl 0 9 0 0 L.length ζ] [.row η L.length 9 (J (Y L)) 112] 1=γ (dN [0] (Θ (0+L.length) L.length::(lN L++[!nx (ex L)]))):=rfl;rw[ic]at e;refine(mZ aj2 [] g e ((mr (dL h) _).trans (by rw[a];rfl)) rfl rfl i).mono ?_;rintro e n ⟨x,c,rfl,d,j,k,f⟩;exact tH d f
def ati{L:E Wh}(a:nA L=ε):yM L=ε/\tM L=bv (qe L):=by
 have hM:L.map (dZ (-1) 0 0 ε)=qe L:=p_ λw _=>(RA w).symm
 rw[nA,aM]at a;obtain⟨b,c⟩:=Ay (sp:=(-1)) (tn:=0) (la:=0) (mir:=ε) (by rw[iH,a.1];rfl) hM a.2;exact⟨c,b⟩
def ajf{L:E Wh}(a:nA L=η):yM L=η:=by
 have hM:L.map (dZ (-1) 0 0 ε)=qe L:=p_ λw _=>(RA w).symm
 obtain⟨e,c⟩:=Ax (sp:=(-1)) (tn:=0) (la:=0) (mir:=ε) (L:=L) λb=>by rw[iH,aM]at b;rw[hM];rw[nA,b.1,dD]at a;exact a
 exact c
def abY{v:τ}{L:E Wh}{w:υ}(g:bl w v L)(h:bH L)(i:aY (aq w) w):aH θ 72 #[v] w (eX w (yM L) (tM L)):=by
 cases a:nA L with
 |true=>obtain⟨l,m⟩:=ati a;rw[l,m];have e:am bP (IT nA bv qe) [.sl 0 9 0 0 L.length ζ] [.row η L.length 9 (J (Y L)) 112] 1=γ (dY 1 [0] (bv (qe (ex L))) (Θ (0+L.length) L.length::(lN L++[nA (ex L)]))):=rfl;rw[ic]at e;refine(mZ aj_ [] g e ((mr (dL h) _).trans (by rw[a];rfl)) rfl rfl i).mono ?_;rintro e n ⟨x,c,rfl,d,j,k,f⟩;exact tG d (j 0 _ rfl) (λb o=>k 0 b (ft 0) o) f
 |false=>rw[ajf a];have e:am bP (IL nA) [.sl 0 9 0 0 L.length ζ] [.row η L.length 9 (J (Y L)) 112] 1=γ (dN [0] (Θ (0+L.length) L.length::(lN L++[!nA (ex L)]))):=rfl;rw[ic]at e;refine(mZ aj5 [] g e ((mr (dL h) _).trans (by rw[a];rfl)) rfl rfl i).mono ?_;rintro e n ⟨x,c,rfl,d,j,k,f⟩;exact tH d f
def atj{x:Z}{L:E Wh}(c:nB x L=ε):yT x L=ε/\tT x L=bv (qf x L):=by
 have hM:aD x 0 23=ε->aG L=ε->L.map (dZ 1 x 0 η)=qf x L:=λa b=>(p_ λw d=>(RB a (yi b d).1).symm)
 rw[nB,aM,aM]at c;obtain⟨a,b,e⟩:=c;obtain⟨f,g⟩:=Ay (sp:=1) (tn:=x) (la:=0) (mir:=η) (by rw[iH,b,a];rfl) (hM a b) e;exact⟨g,f⟩
def ajg{x:Z}{L:E Wh}(b:nB x L=η):yT x L=η:=by
 have hM:aD x 0 23=ε->aG L=ε->L.map (dZ 1 x 0 η)=qf x L:=λc d=>(p_ λw e=>(RB c (yi d e).1).symm)
 obtain⟨h,f⟩:=Ax (sp:=1) (tn:=x) (la:=0) (mir:=η) (L:=L) λa=>by rw[iH,aM,aM]at a;rw[hM (a.2.1) a.1];rw[nB,a.2.1,a.1,dD,dD]at b;exact b
 exact f
def ath{x:Z}{L:E Wh}(c:nz x L=ε):yL x L=ε/\tL x L=bv (qd x L):=by
 have hM:aD x 0 23=ε->aG L=ε->L.map (dZ 1 0 x η)=qd x L:=λa b=>(p_ λw d=>(Rz a (yi b d).1).symm)
 rw[nz,aM,aM]at c;obtain⟨a,b,e⟩:=c;obtain⟨f,g⟩:=Ay (sp:=1) (tn:=0) (la:=x) (mir:=η) (by rw[iH,b,a];rfl) (hM a b) e;exact⟨g,f⟩
def aje{x:Z}{L:E Wh}(b:nz x L=η):yL x L=η:=by
 have hM:aD x 0 23=ε->aG L=ε->L.map (dZ 1 0 x η)=qd x L:=λc d=>(p_ λw e=>(Rz c (yi d e).1).symm)
 obtain⟨h,f⟩:=Ax (sp:=1) (tn:=0) (la:=x) (mir:=η) (L:=L) λa=>by rw[iH,aM,aM]at a;rw[hM (a.2.2) a.1];rw[nz,a.2.2,a.1,dD,dD]at b;exact b
 exact f
def atg{x:Z}{L:E Wh}(a:ny x L=ε):yF x L=ε/\tF x L=bv (qc x L):=by
 have hM:L.map (dZ x 0 0 η)=qc x L:=p_ λw _=>Ry.symm
 rw[ny,aM,aM]at a;obtain⟨b,c,d⟩:=a;obtain⟨e,f⟩:=Ay (sp:=x) (tn:=0) (la:=0) (mir:=η) (by rw[iH,c];rfl) hM d;exact⟨by rw[yF,b,f];rfl,by rw[tF,b];exact e⟩
def ajd{x:Z}{L:E Wh}(b:ny x L=η):yF x L=η:=by
 have hM:L.map (dZ x 0 0 η)=qc x L:=p_ λw _=>Ry.symm
 cases a:aD x (-20) 20 with
 |false=>rw[yF,a];rfl
 |true=>
  obtain⟨f,d⟩:=Ax (sp:=x) (tn:=0) (la:=0) (mir:=η) (L:=L) λc=>by rw[iH,aM]at c;rw[hM];rw[ny,a,c.1,dD,dD]at b;exact b
  rw[yF,a,d];rfl
def ab1{v:τ}{L:E Wh}{w:υ}(x:Z)(g:bl w v L)(h:bH L)(i:aY (aq w) w):aH θ 67 #[v,ι x] w (eX w (yT x L) (tT x L)):=by
 cases a:nB x L with
 |true=>obtain⟨l,m⟩:=atj a;rw[l,m];have e:am dy (IV nB bv qf) [.sl 0 9 0 0 L.length ζ,.v (ι x)] [.row η L.length 9 (J (Y L)) 112] 1=γ (dY 1 [0] (bv (qf x (ex L))) (Θ (0+L.length) L.length::(lN L++[nB x (ex L)]))):=rfl;rw[ic]at e;refine(mZ aj' [ι x] g e ((mr (dL h) _).trans (by rw[a];rfl)) rfl rfl i).mono ?_;rintro e n ⟨x,c,rfl,d,j,k,f⟩;exact tG d (j 0 _ rfl) (λb o=>k 0 b (ft 0) o) f
 |false=>rw[ajg a];have e:am dy (IN nB) [.sl 0 9 0 0 L.length ζ,.v (ι x)] [.row η L.length 9 (J (Y L)) 112] 1=γ (dN [0] (Θ (0+L.length) L.length::(lN L++[!nB x (ex L)]))):=rfl;rw[ic]at e;refine(mZ aj6 [ι x] g e ((mr (dL h) _).trans (by rw[a];rfl)) rfl rfl i).mono ?_;rintro e n ⟨x,c,rfl,d,j,k,f⟩;exact tH d f
def abX{v:τ}{L:E Wh}{w:υ}(x:Z)(g:bl w v L)(h:bH L)(i:aY (aq w) w):aH θ 69 #[v,ι x] w (eX w (yL x L) (tL x L)):=by
 cases a:nz x L with
 |true=>obtain⟨l,m⟩:=ath a;rw[l,m];have e:am dy (IS nz bv qd) [.sl 0 9 0 0 L.length ζ,.v (ι x)] [.row η L.length 9 (J (Y L)) 112] 1=γ (dY 1 [0] (bv (qd x (ex L))) (Θ (0+L.length) L.length::(lN L++[nz x (ex L)]))):=rfl;rw[ic]at e;refine(mZ aj9 [ι x] g e ((mr (dL h) _).trans (by rw[a];rfl)) rfl rfl i).mono ?_;rintro e n ⟨x,c,rfl,d,j,k,f⟩;exact tG d (j 0 _ rfl) (λb o=>k 0 b (ft 0) o) f
 |false=>rw[aje a];have e:am dy (IK nz) [.sl 0 9 0 0 L.length ζ,.v (ι x)] [.row η L.length 9 (J (Y L)) 112] 1=γ (dN [0] (Θ (0+L.length) L.length::(lN L++[!nz x (ex L)]))):=rfl;rw[ic]at e;refine(mZ aj4 [ι x] g e ((mr (dL h) _).trans (by rw[a];rfl)) rfl rfl i).mono ?_;rintro e n ⟨x,c,rfl,d,j,k,f⟩;exact tH d f
def abW{v:τ}{L:E Wh}{w:υ}(x:Z)(g:bl w v L)(h:bH L)(i:aY (aq w) w):aH θ 70 #[v,ι x] w (eX w (yF x L) (tF x L)):=by
 cases a:ny x L with
 |true=>obtain⟨l,m⟩:=atg a;rw[l,m];have e:am dy (IQ ny bv qc) [.sl 0 9 0 0 L.length ζ,.v (ι x)] [.row η L.length 9 (J (Y L)) 112] 1=γ (dY 1 [0] (bv (qc x (ex L))) (Θ (0+L.length) L.length::(lN L++[ny x (ex L)]))):=rfl;rw[ic]at e;refine(mZ aj8 [ι x] g e ((mr (dL h) _).trans (by rw[a];rfl)) rfl rfl i).mono ?_;rintro e n ⟨x,c,rfl,d,j,k,f⟩;exact tG d (j 0 _ rfl) (λb o=>k 0 b (ft 0) o) f
 |false=>rw[ajd a];have e:am dy (IJ ny) [.sl 0 9 0 0 L.length ζ,.v (ι x)] [.row η L.length 9 (J (Y L)) 112] 1=γ (dN [0] (Θ (0+L.length) L.length::(lN L++[!ny x (ex L)]))):=rfl;rw[ic]at e;refine(mZ aj3 [ι x] g e ((mr (dL h) _).trans (by rw[a];rfl)) rfl rfl i).mono ?_;rintro e n ⟨x,c,rfl,d,j,k,f⟩;exact tH d f
def Aw{f:bq}{S:Spec}(h:au θ f S){δ:Delta}{w:υ}{v l:τ}{L c:E Wh}(z:bl w v L)(m:bl w l c)(A:S [.sl 0 9 0 0 L.length ζ,.sl 1 9 0 0 c.length ζ] [.row η L.length 9 (J (Y L)) 112,.row η c.length 9 (J (Y c)) 112] 2=γ δ)(B:aJ δ.ap=ε)(C:δ.put=[])(D:δ.rd=[0,1])(G:aY (aq w) w):aH θ f #[v,l] w λe w'=>∃x a,e=.returned x/\VR a δ.val x/\(∀(j:O) b,δ.new[j]?=γ b->BR a (2+j) b w')/\(∀(j:O) b,j<δ.new.length->a (2+j)=γ b->w.heap.size<=b.n/\b.n<w'.heap.size)/\Fr (aq w) w w':=by
 obtain⟨d,H,p,q⟩:=z.lt;obtain⟨k,I,r,s⟩:=m.lt;have t:(λi:O=>if i=0 then d 0 else if i=1 then k 0 else ζ:Nu) 0=d 0:=rfl;have u:(λi:O=>if i=0 then d 0 else if i=1 then k 0 else ζ:Nu) 1=k 0:=rfl;have M:∀i b,(λi:O=>if i=0 then d 0 else if i=1 then k 0 else ζ:Nu) i=γ b->i<2/\b.n<w.heap.size:=λi b g=>by
  simp only at g;split at g
  ·exact⟨by omega,(H _ _ g).2⟩
  ·split at g
   ·exact⟨by omega,(I _ _ g).2⟩
   ·cases g
 generalize(λi:O=>if i=0 then d 0 else if i=1 then k 0 else ζ:Nu)=n at*;refine h.down (ν:=n) A B C (vals:=[v,l]) ⟨?_,?_,trivial⟩ (λi o=>?_) M G
 ·simp only[VR]at p⊢
  rw[t];exact p
 ·simp only[VR]at r⊢
  rw[u];exact r
 ·rw[D]at o
  simp only[dw,kq,or_false]at o;rcases o with rfl|rfl
  ·show BR n 0 (.row η L.length 9 (J (Y L)) 112) w
   unfold BR at q⊢;rw[t];exact q
  ·show BR n 1 (.row η c.length 9 (J (Y c)) 112) w
   unfold BR at s⊢;rw[u];exact s
def Cb{A B:E Wh}(g:A.length<=12)(h:B.length<=12)(ob:E κ):aJ (Θ (0+A.length) A.length::(Θ (0+B.length) B.length::([ak A.length (λq=>J (Y A) (0+q)),ak B.length (λq=>J (Y B) (0+q)),ο (A.length<=2^38),ο (B.length<=2^38)]++ob)))=aJ ob:=by
 have a:Θ (0+A.length) A.length=ε:=by rw[aT];omega
 have b:Θ (0+B.length) B.length=ε:=by rw[aT];omega
 have c:ak A.length (λq=>J (Y A) (0+q))=ε:=by rw[bV];exact bw _ _
 have d:ak B.length (λq=>J (Y B) (0+q))=ε:=by rw[bV];exact bw _ _
 have e:ο (A.length<=2^38)=ε:=bA (by omega);have f:ο (B.length<=2^38)=ε:=bA (by omega);rw[a,b,c,d,e,f];rfl
def abZ{v i:τ}{A B:E Wh}{w:υ}(j:bl w v A)(a:bl w i B)(k:bH A)(c:bH B)(l:aY (aq w) w):aH θ 64 #[v,i] w (eX w (gO A B) (iA A B)):=by
 cases d:gO A B with
 |true=>rw[show iA A B=za A B from XQ d];have e:am kB (wO gO za) [.sl 0 9 0 0 A.length ζ,.sl 1 9 0 0 B.length ζ] [.row η A.length 9 (J (Y A)) 112,.row η B.length 9 (J (Y B)) 112] 2=γ (dY 2 [0,1] (za (ex A) (ex B)) (Θ (0+A.length) A.length::(Θ (0+B.length) B.length::([ak A.length (λq=>J (Y A) (0+q)),ak B.length (λq=>J (Y B) (0+q)),ο (A.length<=2^38),ο (B.length<=2^38)]++[gO (ex A) (ex B)])))):=rfl;rw[ic,ic]at e;refine(Aw alc j a e ((Cb (dL k) (dL c) _).trans (by rw[d];rfl)) rfl rfl l).mono ?_;rintro e o ⟨x,f,rfl,g,m,n,h⟩;exact tG g (m 0 _ rfl) (λb p=>n 0 b (ft 0) p) h
 |false=>have e:am kB (wM gO) [.sl 0 9 0 0 A.length ζ,.sl 1 9 0 0 B.length ζ] [.row η A.length 9 (J (Y A)) 112,.row η B.length 9 (J (Y B)) 112] 2=γ (dN [0,1] (Θ (0+A.length) A.length::(Θ (0+B.length) B.length::([ak A.length (λq=>J (Y A) (0+q)),ak B.length (λq=>J (Y B) (0+q)),ο (A.length<=2^38),ο (B.length<=2^38)]++[!gO (ex A) (ex B)])))):=rfl;rw[ic,ic]at e;refine(Aw ala j a e ((Cb (dL k) (dL c) _).trans (by rw[d];rfl)) rfl rfl l).mono ?_;rintro e o ⟨x,f,rfl,g,m,n,h⟩;exact tH g h
def ab0{v i:τ}{A B:E Wh}{w:υ}(j:bl w v A)(a:bl w i B)(k:bH A)(c:bH B)(l:aY (aq w) w):aH θ 65 #[v,i] w (eX w (fs A B) (iB A B)):=by
 cases d:fs A B with
 |true=>rw[show iB A B=vU A B from Yx d];have e:am kB (wO fs vU) [.sl 0 9 0 0 A.length ζ,.sl 1 9 0 0 B.length ζ] [.row η A.length 9 (J (Y A)) 112,.row η B.length 9 (J (Y B)) 112] 2=γ (dY 2 [0,1] (vU (ex A) (ex B)) (Θ (0+A.length) A.length::(Θ (0+B.length) B.length::([ak A.length (λq=>J (Y A) (0+q)),ak B.length (λq=>J (Y B) (0+q)),ο (A.length<=2^38),ο (B.length<=2^38)]++[fs (ex A) (ex B)])))):=rfl;rw[ic,ic]at e;refine(Aw aln j a e ((Cb (dL k) (dL c) _).trans (by rw[d];rfl)) rfl rfl l).mono ?_;rintro e o ⟨x,f,rfl,g,m,n,h⟩;exact tG g (m 0 _ rfl) (λb p=>n 0 b (ft 0) p) h
 |false=>have e:am kB (wM fs) [.sl 0 9 0 0 A.length ζ,.sl 1 9 0 0 B.length ζ] [.row η A.length 9 (J (Y A)) 112,.row η B.length 9 (J (Y B)) 112] 2=γ (dN [0,1] (Θ (0+A.length) A.length::(Θ (0+B.length) B.length::([ak A.length (λq=>J (Y A) (0+q)),ak B.length (λq=>J (Y B) (0+q)),ο (A.length<=2^38),ο (B.length<=2^38)]++[!fs (ex A) (ex B)])))):=rfl;rw[ic,ic]at e;refine(Aw alk j a e ((Cb (dL k) (dL c) _).trans (by rw[d];rfl)) rfl rfl l).mono ?_;rintro e o ⟨x,f,rfl,g,m,n,h⟩;exact tH g h
def qY{sp tn la:Z}{mir:κ}{L:E Wh}(a: -20<=sp/\sp<=20)(h:gS sp tn la mir L=ε):bH (fQ sp tn la mir L):=(aew a h).2.2.2.1
def fd(w:υ):Fr (aq w) w w.drew:=⟨rfl,rfl,rfl,aR _,λ_ _ _=>rfl⟩
def xc{w d:υ}{D j:O}{x:τ}(h:w.cell? ⟨D,j,ζ⟩=γ x)(f:Fr (aq w) w d):d.cell? ⟨D,j,ζ⟩=γ x:=by
 have b:D<w.heap.size:=by
  rcases nG D w.heap.size with c|c
  ·exact c
  ·unfold pI at h
   simp only at h;rw[Hn c]at h;cases h
 exact(World.cell?_of_block (a:=⟨D,j,ζ⟩) (f.block D b (fY.2 b))).trans h
def Ye{x:Z}{L:E Wh}(h:yF x L=ε):bH (tF x L):=by unfold yF at h;rw[aM]at h;have a:=b9.1 h.1;unfold tF;rw[h.1];exact qY (by omega) h.2
def De(L:E Wh)(r:E ψ):χ (E Wh×E ψ):=bif cP 1 r&&yT (aI r 0) L then γ (tT (aI r 0) L,[111,107])else ζ
def adq:jg 23 De:=λ{D L} s {w} m C G S=>by
 have mixed:=mixed;obtain⟨p,n,c,H,I⟩:=id m;have M:w.drew.cell? ⟨D,0,ζ⟩=γ (.slice p n c):=by rw[gR w.drew D 0 #[.slice p n c] _ (0,0) H];rfl
 have d:=xa s 1 (by omega) w.drew (C.nw.fh (fd w)) (by omega);have U:=λj (f:Fr (aq w.drew) w.drew j)=>de.die (L:=L) m ((fd w).trans f)
 have o:=λ(x:Z) j (f:Fr (aq w.drew) w.drew j)=>ab1 x (I.below ((fd w).trans f)) G ((C.nw.fh ((fd w).trans f)))
 have r:∀(x:Z)(j u:υ)(v:τ),Fr (aq w.drew) w.drew j->Fr (aq j) j u->(yT x L=ε->bl u v (tT x L))->aH θ 62 #[.pointer (γ ⟨D,0,ζ⟩),v,.bool (yT x L)] u (de D L (bif yT x L then γ (tT x L,[111,107])else ζ) w):=λx j u v f g h=>(sF (m.fr (dh ((fd w).trans f) g)) h (λh=>qY (by omega) h)).mono λe l h=>h.after (dh ((fd w).trans f) g)
 unfold De;cases y:cP 1 s.data.toList with
 |false=>
  rw[y]at d;rw[ly,a_];clear o r m I G S H y C
  go_enter func23,ntmps23
  go_wp2
  rename_i K0 z;refine pu [6,7,8] (λl=>l.cell? ⟨D,0,ζ⟩=γ (.slice p n c)) (by kernel_rfl) ?_;refine ck 0 (.pointer (γ ⟨D,0,ζ⟩)) ?_;refine ck 5 (.string s) ?_;refine ck 1 (.pointer (γ ⟨D,0,ζ⟩)) ?_;refine ck 2 (.pointer (γ ⟨D,0,ζ⟩)) ?_;refine ck 3 (.pointer (γ ⟨D,0,ζ⟩)) ?_;refine pt [9,10,11,12,13] (i:=4) (v:=.slice p n c) rfl rfl (by kernel_rfl) (by kernel_rfl) (by kernel_rfl) (λ_ _ _ h=>h) (kr ⟨by rfl,λW N=>by simp[go_sem,dl,N]⟩) M ?_;simp only[jb,l4];refine gq (k:=6) (by kernel_rfl) rfl rfl (λa b=>?_);go_simp;refine d.mono ?_;rintro e j ⟨P,A⟩;obtain rfl:=P;exact⟨rfl,U _ A⟩
 |true=>
  have X:=λ(l:υ)(g:O) h=>Mw (w:=l) (g:=g) (t:=3) y h 0 (by omega)
  rw[y]at d;rw[dD];generalize aI s.data.toList 0=x at*
  replace o:=o x
  replace r:=r x
  generalize yT x L=q at*;generalize tT x L=T at*;clear m I G S H y C U
  go_enter func23,ntmps23
  go_wp2
  rename_i K0 z;refine pu [6,7,8] (λl=>l.cell? ⟨D,0,ζ⟩=γ (.slice p n c)) (by kernel_rfl) ?_;refine ck 0 (.pointer (γ ⟨D,0,ζ⟩)) ?_;refine ck 5 (.string s) ?_;refine ck 1 (.pointer (γ ⟨D,0,ζ⟩)) ?_;refine ck 2 (.pointer (γ ⟨D,0,ζ⟩)) ?_;refine ck 3 (.pointer (γ ⟨D,0,ζ⟩)) ?_;refine pt [9,10,11,12,13] (i:=4) (v:=.slice p n c) rfl rfl (by kernel_rfl) (by kernel_rfl) (by kernel_rfl) (λ_ _ _ h=>h) (kr ⟨by rfl,λW N=>by simp[go_sem,dl,N]⟩) M ?_;simp only[jb,l4];refine gq (k:=6) (by kernel_rfl) rfl rfl (λa b=>?_);go_simp;refine d.mono ?_;rintro e j ⟨⟨g,hg1,P,B⟩,A⟩;obtain rfl:=P;have c1:=X _ _ B;have Q:=xc M A;clear X B d;refine b.out _ _ (λ_=>Q) ?_;clear b a;refine gq (k:=7) (by kernel_rfl) rfl rfl (λa b=>?_);go_simp;refine b.out _ _ (λ_=>Q) ?_;clear b a;refine gq (k:=8) (by kernel_rfl) rfl rfl (λa b=>?_);go_simp;refine b.out _ _ (λ_=>Q) ?_;clear b a;refine gq (k:=9) (by kernel_rfl) rfl rfl (λa b=>?_);go_simp;refine(o _ A).mono ?_;rintro e u ⟨v,rfl,h2,f2⟩;refine b.out _ _ (λh=>aO h (by decide)) ?_;clear b a o;refine ck 10 v ?_;refine ck 11 (.bool q) ?_;simp only[jb,l4];refine gq (k:=12) (by kernel_rfl) rfl rfl (λa b=>?_);go_simp;refine(r _ _ v A f2 h2).mono ?_;rintro e w3 h3;cases q with
  |false=>obtain⟨rfl,R⟩:=h3.qk;exact⟨rfl,R⟩
  |true=>
   obtain⟨rfl,R⟩:=h3.po;refine b.out _ _ (λh=>aO h (by decide)) ?_;clear b a r;refine ck 13 (.string tf) ?_;refine z_ (by kernel_rfl) ?_;go_simp;apply z
   go_wp2
   go_ret
   exact R
def Bq(L:E Wh)(r:E ψ):χ (E Wh×E ψ):=bif cP 1 r&&yL (aI r 0) L then γ (tL (aI r 0) L,[111,107])else ζ
def adf:jg 24 Bq:=λ{D L} s {w} m C G S=>by
 have mixed:=mixed;obtain⟨p,n,c,H,I⟩:=id m;have M:w.drew.cell? ⟨D,0,ζ⟩=γ (.slice p n c):=by rw[gR w.drew D 0 #[.slice p n c] _ (0,0) H];rfl
 have d:=xa s 1 (by omega) w.drew (C.nw.fh (fd w)) (by omega);have U:=λj (f:Fr (aq w.drew) w.drew j)=>de.die (L:=L) m ((fd w).trans f)
 have o:=λ(x:Z) j (f:Fr (aq w.drew) w.drew j)=>abX x (I.below ((fd w).trans f)) G ((C.nw.fh ((fd w).trans f)))
 have r:∀(x:Z)(j u:υ)(v:τ),Fr (aq w.drew) w.drew j->Fr (aq j) j u->(yL x L=ε->bl u v (tL x L))->aH θ 62 #[.pointer (γ ⟨D,0,ζ⟩),v,.bool (yL x L)] u (de D L (bif yL x L then γ (tL x L,[111,107])else ζ) w):=λx j u v f g h=>(sF (m.fr (dh ((fd w).trans f) g)) h (λh=>qY (by omega) h)).mono λe l h=>h.after (dh ((fd w).trans f) g)
 unfold Bq;cases y:cP 1 s.data.toList with
 |false=>
  rw[y]at d;rw[ly,a_];clear o r m I G S H y C
  go_enter func24,ntmps24
  go_wp2
  rename_i K0 z;refine pu [6,7,8] (λl=>l.cell? ⟨D,0,ζ⟩=γ (.slice p n c)) (by kernel_rfl) ?_;refine ck 0 (.pointer (γ ⟨D,0,ζ⟩)) ?_;refine ck 5 (.string s) ?_;refine ck 1 (.pointer (γ ⟨D,0,ζ⟩)) ?_;refine ck 2 (.pointer (γ ⟨D,0,ζ⟩)) ?_;refine ck 3 (.pointer (γ ⟨D,0,ζ⟩)) ?_;refine pt [9,10,11,12,13] (i:=4) (v:=.slice p n c) rfl rfl (by kernel_rfl) (by kernel_rfl) (by kernel_rfl) (λ_ _ _ h=>h) (kr ⟨by rfl,λW N=>by simp[go_sem,dl,N]⟩) M ?_;simp only[jb,l4];refine gq (k:=6) (by kernel_rfl) rfl rfl (λa b=>?_);go_simp;refine d.mono ?_;rintro e j ⟨P,A⟩;obtain rfl:=P;exact⟨rfl,U _ A⟩
 |true=>
  have X:=λ(l:υ)(g:O) h=>Mw (w:=l) (g:=g) (t:=3) y h 0 (by omega)
  rw[y]at d;rw[dD];generalize aI s.data.toList 0=x at*
  replace o:=o x
  replace r:=r x
  generalize yL x L=q at*;generalize tL x L=T at*;clear m I G S H y C U
  go_enter func24,ntmps24
  go_wp2
  rename_i K0 z;refine pu [6,7,8] (λl=>l.cell? ⟨D,0,ζ⟩=γ (.slice p n c)) (by kernel_rfl) ?_;refine ck 0 (.pointer (γ ⟨D,0,ζ⟩)) ?_;refine ck 5 (.string s) ?_;refine ck 1 (.pointer (γ ⟨D,0,ζ⟩)) ?_;refine ck 2 (.pointer (γ ⟨D,0,ζ⟩)) ?_;refine ck 3 (.pointer (γ ⟨D,0,ζ⟩)) ?_;refine pt [9,10,11,12,13] (i:=4) (v:=.slice p n c) rfl rfl (by kernel_rfl) (by kernel_rfl) (by kernel_rfl) (λ_ _ _ h=>h) (kr ⟨by rfl,λW N=>by simp[go_sem,dl,N]⟩) M ?_;simp only[jb,l4];refine gq (k:=6) (by kernel_rfl) rfl rfl (λa b=>?_);go_simp;refine d.mono ?_;rintro e j ⟨⟨g,hg1,P,B⟩,A⟩;obtain rfl:=P;have c1:=X _ _ B;have Q:=xc M A;clear X B d;refine b.out _ _ (λ_=>Q) ?_;clear b a;refine gq (k:=7) (by kernel_rfl) rfl rfl (λa b=>?_);go_simp;refine b.out _ _ (λ_=>Q) ?_;clear b a;refine gq (k:=8) (by kernel_rfl) rfl rfl (λa b=>?_);go_simp;refine b.out _ _ (λ_=>Q) ?_;clear b a;refine gq (k:=9) (by kernel_rfl) rfl rfl (λa b=>?_);go_simp;refine(o _ A).mono ?_;rintro e u ⟨v,rfl,h2,f2⟩;refine b.out _ _ (λh=>aO h (by decide)) ?_;clear b a o;refine ck 10 v ?_;refine ck 11 (.bool q) ?_;simp only[jb,l4];refine gq (k:=12) (by kernel_rfl) rfl rfl (λa b=>?_);go_simp;refine(r _ _ v A f2 h2).mono ?_;rintro e w3 h3;cases q with
  |false=>obtain⟨rfl,R⟩:=h3.qk;exact⟨rfl,R⟩
  |true=>
   obtain⟨rfl,R⟩:=h3.po;refine b.out _ _ (λh=>aO h (by decide)) ?_;clear b a r;refine ck 13 (.string tf) ?_;refine z_ (by kernel_rfl) ?_;go_simp;apply z
   go_wp2
   go_ret
   exact R
def AQ(L:E Wh)(r:E ψ):χ (E Wh×E ψ):=bif cP 1 r&&yF (aI r 0) L then γ (tF (aI r 0) L,[111,107])else ζ
def ac':jg 25 AQ:=λ{D L} s {w} m C G S=>by
 have mixed:=mixed;obtain⟨p,n,c,H,I⟩:=id m;have M:w.drew.cell? ⟨D,0,ζ⟩=γ (.slice p n c):=by rw[gR w.drew D 0 #[.slice p n c] _ (0,0) H];rfl
 have d:=xa s 1 (by omega) w.drew (C.nw.fh (fd w)) (by omega);have U:=λj (f:Fr (aq w.drew) w.drew j)=>de.die (L:=L) m ((fd w).trans f)
 have o:=λ(x:Z) j (f:Fr (aq w.drew) w.drew j)=>abW x (I.below ((fd w).trans f)) G ((C.nw.fh ((fd w).trans f)))
 have r:∀(x:Z)(j u:υ)(v:τ),Fr (aq w.drew) w.drew j->Fr (aq j) j u->(yF x L=ε->bl u v (tF x L))->aH θ 62 #[.pointer (γ ⟨D,0,ζ⟩),v,.bool (yF x L)] u (de D L (bif yF x L then γ (tF x L,[111,107])else ζ) w):=λx j u v f g h=>(sF (m.fr (dh ((fd w).trans f) g)) h (λh=>Ye h)).mono λe l h=>h.after (dh ((fd w).trans f) g)
 unfold AQ;cases y:cP 1 s.data.toList with
 |false=>
  rw[y]at d;rw[ly,a_];clear o r m I G S H y C
  go_enter func25,ntmps25
  go_wp2
  rename_i K0 z;refine pu [6,7,8] (λl=>l.cell? ⟨D,0,ζ⟩=γ (.slice p n c)) (by kernel_rfl) ?_;refine ck 0 (.pointer (γ ⟨D,0,ζ⟩)) ?_;refine ck 5 (.string s) ?_;refine ck 1 (.pointer (γ ⟨D,0,ζ⟩)) ?_;refine ck 2 (.pointer (γ ⟨D,0,ζ⟩)) ?_;refine ck 3 (.pointer (γ ⟨D,0,ζ⟩)) ?_;refine pt [9,10,11,12,13] (i:=4) (v:=.slice p n c) rfl rfl (by kernel_rfl) (by kernel_rfl) (by kernel_rfl) (λ_ _ _ h=>h) (kr ⟨by rfl,λW N=>by simp[go_sem,dl,N]⟩) M ?_;simp only[jb,l4];refine gq (k:=6) (by kernel_rfl) rfl rfl (λa b=>?_);go_simp;refine d.mono ?_;rintro e j ⟨P,A⟩;obtain rfl:=P;exact⟨rfl,U _ A⟩
 |true=>
  have X:=λ(l:υ)(g:O) h=>Mw (w:=l) (g:=g) (t:=3) y h 0 (by omega)
  rw[y]at d;rw[dD];generalize aI s.data.toList 0=x at*
  replace o:=o x
  replace r:=r x
  generalize yF x L=q at*;generalize tF x L=T at*;clear m I G S H y C U
  go_enter func25,ntmps25
  go_wp2
  rename_i K0 z;refine pu [6,7,8] (λl=>l.cell? ⟨D,0,ζ⟩=γ (.slice p n c)) (by kernel_rfl) ?_;refine ck 0 (.pointer (γ ⟨D,0,ζ⟩)) ?_;refine ck 5 (.string s) ?_;refine ck 1 (.pointer (γ ⟨D,0,ζ⟩)) ?_;refine ck 2 (.pointer (γ ⟨D,0,ζ⟩)) ?_;refine ck 3 (.pointer (γ ⟨D,0,ζ⟩)) ?_;refine pt [9,10,11,12,13] (i:=4) (v:=.slice p n c) rfl rfl (by kernel_rfl) (by kernel_rfl) (by kernel_rfl) (λ_ _ _ h=>h) (kr ⟨by rfl,λW N=>by simp[go_sem,dl,N]⟩) M ?_;simp only[jb,l4];refine gq (k:=6) (by kernel_rfl) rfl rfl (λa b=>?_);go_simp;refine d.mono ?_;rintro e j ⟨⟨g,hg1,P,B⟩,A⟩;obtain rfl:=P;have c1:=X _ _ B;have Q:=xc M A;clear X B d;refine b.out _ _ (λ_=>Q) ?_;clear b a;refine gq (k:=7) (by kernel_rfl) rfl rfl (λa b=>?_);go_simp;refine b.out _ _ (λ_=>Q) ?_;clear b a;refine gq (k:=8) (by kernel_rfl) rfl rfl (λa b=>?_);go_simp;refine b.out _ _ (λ_=>Q) ?_;clear b a;refine gq (k:=9) (by kernel_rfl) rfl rfl (λa b=>?_);go_simp;refine(o _ A).mono ?_;rintro e u ⟨v,rfl,h2,f2⟩;refine b.out _ _ (λh=>aO h (by decide)) ?_;clear b a o;refine ck 10 v ?_;refine ck 11 (.bool q) ?_;simp only[jb,l4];refine gq (k:=12) (by kernel_rfl) rfl rfl (λa b=>?_);go_simp;refine(r _ _ v A f2 h2).mono ?_;rintro e w3 h3;cases q with
  |false=>obtain⟨rfl,R⟩:=h3.qk;exact⟨rfl,R⟩
  |true=>
   obtain⟨rfl,R⟩:=h3.po;refine b.out _ _ (λh=>aO h (by decide)) ?_;clear b a r;refine ck 13 (.string tf) ?_;refine z_ (by kernel_rfl) ?_;go_simp;apply z
   go_wp2
   go_ret
   exact R
def FM:aK θ (AZ e8 fq):=az (az bt MN) akL
def Tb:aK θ (uS e8 fq dP dp gZ sZ):=az (az FM Gy) alo
def FP:aK θ (lJ e8 fq dP dp gZ gh gg fT jA jB j3):=az (az (az (az FM Gy) ak8) akn) V_
def FE:aK θ (mi e8 fq gZ er fy hV iG):=az (az (az FM ajy) ajz) V_
def ac5(L:E Wh):0<=eY L/\eY L<4294967296:=by
 unfold eY;cases fD L with
 |false=>simp
 |true=>
  show 0<=jF _ _ _/\jF _ _ _<4294967296
  unfold jF;rw[IntKind.wrap_u32];omega
def uQ(n:Z):ρ:=⟨(gB n.toNat).toArray⟩
def akk:au θ 84 (aS (IY uQ)):=by
 refine nl (λargs w=>enters 84 f84 func84 rfl args w) λh x i a c w d=>?_
 unfold IY at a;split at a
 ·rename_i n b
  cases a;simp only[F,ah,aa,aB]at c;obtain⟨f,j,rfl⟩:=c;obtain⟨k,rfl⟩:=tQ f;refine(act k (by omega) w d).mono ?_;rintro e l ⟨rfl,g⟩;exact⟨rfl,g⟩
 ·cases a
def Tm:aK θ (uU e8 fq eY fD uQ):=az (az FM ajU) akk
def xh(args:aU τ)(w:υ):(g_ 74 args).run θ w=.ok (.enter 74 args) w:=enters _ _ Tryz.func74 rfl args w
def R3(args:aU τ)(w:υ):(g_ 68 args).run θ w=.ok (.enter 68 args) w:=enters _ _ Tryz.func68 rfl args w
def Gw{L:E Wh}(h:L.length<=12):Θ (0+L.length) L.length=ε/\ak L.length (J (Y L))=ε/\ο (L.length<=274877906944)=ε:=⟨by rw[aT];omega,bw _ _,bA (by omega)⟩
def agI{l:E Z}(h:∀n∈l,lu n):sZ l=ε:=bX.2 λn a=>by have:=h n a;rw[aM,aB,aB];omega
def xM{n:Z}(h:lu n):xL [ι n]=ε:=by
 show(ο (-9223372036854775808<=n)&&ο (n<=9223372036854775807))=ε
 rw[aM,aB,aB];omega
def W9(h:ω):(λq=>cM h (0+q))=cM h:=by funext q;rw[bF]
def alY{D:O}{L:E Wh}(s:ρ){w:υ}(d:dM D L w)(e:aY (cj w D) w)(f:bH L)(hs:s.size<=1000)(a:cP 1 s.data.toList=ε):aH θ 31 #[.pointer (γ ⟨D,0,ζ⟩),.string s] w (de D L (mw L s.data.toList) w):=by
 have b:Δ s.size 4294967281=ε:=by rw[bS];omega
 obtain⟨g,i,j⟩:=Gw (dL f);have l:e8 1 s=ε:=a;unfold mw;rw[a,dD];cases h:sJ L (aI s.data.toList 0)with
 |false=>
  refine uA (vs:=[.string s]) (us:=[.bool η]) Tb aaD (by kernel_rfl:E_.body=γ (kC (iK 2 n_) (.seq (.region 2 (eb 2 n_) η) (p9 3 n_)))) (k:=1) (o:=ie 2 1 n_) (by kernel_rfl) (by kernel_rfl) (by kernel_rfl:(ie 2 1 n_).op=.call ⟨.value (.func 74),#[.tmp 19],rV (ie 2 1 n_)⟩) xh yd d e λc=>?_
  show(fc θ (uS e8 fq dP dp gZ sZ) 100 (iK 2 n_) ([.ptr 0 1 0 0,.v (.string s)]++ez 22 (.v aX)) (dI L.length c (Y L)) (λ_ T H=>fv θ (uS e8 fq dP dp gZ sZ) (λ_ _ _ _=>.err) (eb 2 n_).toList ((eb 2 n_).toList.take 1) T H λp q=>.out .normal ((#[.tmp 19]:aU cS).toList.map (bN p)) (q.take 2))).ok _
  rw[ap3];simp only[bV,nW];refine(ag (by simp only[F,ah,aa,g,i,j,b,l]) ⟨?_⟩).out;exact⟨by show[AV.v (.bool (dp (Y L) (aI s.data.toList 0) L.length))]=_;rw[show dp (Y L) (aI s.data.toList 0) L.length=η from h];rfl,rfl⟩
 |true=>
  refine EV (vs:=[.string s]) Tb aaD d e f λc=>?_
  show(ad θ (uS e8 fq dP dp gZ sZ) K 100 E_ [.ptr 0 1 0 0,.v (.string s)] (dI L.length c (Y L)) (af 2)).ok _
  rw[ap2];simp only[bV,nW,qW];have r:sZ (pO (iS L (aI s.data.toList 0)))=ε:=agI λn a=>by unfold pO at a;simp only[dw,kq,or_false]at a;rcases a with rfl|rfl|rfl|rfl|rfl|rfl|rfl|rfl<;>exact J1 h (by omega)
  refine(ag ?_ ⟨?_⟩).out
  ·simp only[F,ah,aa,g,i,j,b,l,bo]
   exact⟨h,r⟩
  ·exact⟨rfl,rfl,rfl⟩
def adc{D:O}{L:E Wh}(s:ρ){w:υ}(f:dM D L w)(g:aY (cj w D) w)(q:bH L)(hs:s.size<=1000):aH θ 32 #[.pointer (γ ⟨D,0,ζ⟩),.string s] w (de D L (mj L s.data.toList) w):=by
 have a:Δ s.size 4294967281=ε:=by rw[bS];omega
 obtain⟨i,l,m⟩:=Gw (dL q);unfold mj;cases r:cP 2 s.data.toList with
 |false=>
  refine uA (vs:=[.string s]) (us:=[.string s,ι (2:O)]) FP P4 (by kernel_rfl:xm.body=γ (kC (iK 1 eN) (.seq (.region 1 (eb 1 eN) η) (p9 2 eN)))) (k:=1) (o:=ie 1 1 eN) (by kernel_rfl) (by kernel_rfl) (by kernel_rfl:(ie 1 1 eN).op=.call ⟨.value (.func 68),#[.tmp 12,.const (ι 2)],rV (ie 1 1 eN)⟩) R3 (Mx (by omega) (by omega) r) f g λc=>?_
  show(fc θ (lJ e8 fq dP dp gZ gh gg fT jA jB j3) 100 (iK 1 eN) ([.ptr 0 1 0 0,.v (.string s)]++ez 48 (.v aX)) (dI L.length c (Y L)) (λ_ T H=>fv θ (lJ e8 fq dP dp gZ gh gg fT jA jB j3) (λ_ _ _ _=>.err) (eb 1 eN).toList ((eb 1 eN).toList.take 1) T H λb d=>.out .normal ((#[.tmp 12,.const (ι 2)]:aU cS).toList.map (bN b)) (d.take 2))).ok _
  rw[apZ];exact⟨rfl,rfl⟩
 |true=>
 have p:e8 2 s=ε:=r;rw[dD];cases h:sJ L (aI s.data.toList 0)with
 |false=>
  refine uA (vs:=[.string s]) (us:=[.bool η]) FP P4 (by kernel_rfl:xm.body=γ (kC (iK 3 eN) (.seq (.region 3 (eb 3 eN) η) (p9 4 eN)))) (k:=1) (o:=ie 3 1 eN) (by kernel_rfl) (by kernel_rfl) (by kernel_rfl:(ie 3 1 eN).op=.call ⟨.value (.func 74),#[.tmp 25],rV (ie 3 1 eN)⟩) xh yd f g λc=>?_
  show(fc θ (lJ e8 fq dP dp gZ gh gg fT jA jB j3) 100 (iK 3 eN) ([.ptr 0 1 0 0,.v (.string s)]++ez 48 (.v aX)) (dI L.length c (Y L)) (λ_ T H=>fv θ (lJ e8 fq dP dp gZ gh gg fT jA jB j3) (λ_ _ _ _=>.err) (eb 3 eN).toList ((eb 3 eN).toList.take 1) T H λb d=>.out .normal ((#[.tmp 25]:aU cS).toList.map (bN b)) (d.take 2))).ok _
  rw[ap0];simp only[bV,nW];refine(ag (by simp only[F,ah,aa,i,l,m,a,p]) ⟨?_⟩).out;exact⟨by show[AV.v (.bool (dp (Y L) (aI s.data.toList 0) L.length))]=_;rw[show dp (Y L) (aI s.data.toList 0) L.length=η from h];rfl,rfl⟩
 |true=>
 have e:=ER h;rw[dD];cases u:Bh L (aI s.data.toList 0) (aI s.data.toList 1)with
 |false=>
  refine uA (vs:=[.string s]) (us:=[.bool η]) FP P4 (by kernel_rfl:xm.body=γ (kC (iK 7 eN) (.seq (.region 7 (eb 7 eN) η) (p9 8 eN)))) (k:=1) (o:=ie 7 1 eN) (by kernel_rfl) (by kernel_rfl) (by kernel_rfl:(ie 7 1 eN).op=.call ⟨.value (.func 74),#[.tmp 42],rV (ie 7 1 eN)⟩) xh yd f g λc=>?_
  show(fc θ (lJ e8 fq dP dp gZ gh gg fT jA jB j3) 100 (iK 7 eN) ([.ptr 0 1 0 0,.v (.string s)]++ez 48 (.v aX)) (dI L.length c (Y L)) (λ_ T H=>fv θ (lJ e8 fq dP dp gZ gh gg fT jA jB j3) (λ_ _ _ _=>.err) (eb 7 eN).toList ((eb 7 eN).toList.take 1) T H λb d=>.out .normal ((#[.tmp 42]:aU cS).toList.map (bN b)) (d.take 2))).ok _
  rw[ap1];simp only[bV,nW,qW];refine(ag ?_ ⟨?_⟩).out
  ·simp only[F,ah,aa,i,l,m,a,p,bo]
   exact⟨h,e⟩
  ·refine⟨?_,rfl⟩
   show[AV.v (.bool (Bh L (aI s.data.toList 0) (aI s.data.toList 1)))]=_
   rw[u];rfl
 |true=>
  refine EV (vs:=[.string s]) FP P4 f g q λc=>?_
  show(ad θ (lJ e8 fq dP dp gZ gh gg fT jA jB j3) K 100 xm [.ptr 0 1 0 0,.v (.string s)] (dI L.length c (Y L)) (af 2)).ok _
  rw[apY];simp only[bV,nW,qW];refine(ag ?_ ⟨?_⟩).out
  ·have v:=(F8 (gh (w8 (iS L (aI s.data.toList 0)))) (gg (w8 (iS L (aI s.data.toList 0)))) (aI s.data.toList 1))
   simp only[F,ah,aa,i,l,m,a,p,bo];refine⟨h,e,u,bX.2 λj x=>?_⟩;have:j=0\/j=1:=by have:=mM.1 x;omega
   rcases this with rfl|rfl
   ·exact xM v.1
   ·exact xM v.2
  ·exact⟨rfl,rfl,rfl⟩
def ac9{D:O}{L:E Wh}(s:ρ){w:υ}(g:dM D L w)(i:aY (cj w D) w)(u:bH L)(hs:s.size<=1000):aH θ 33 #[.pointer (γ ⟨D,0,ζ⟩),.string s] w (de D L (ma L s.data.toList) w):=by
 have b:Δ s.size 4294967281=ε:=by rw[bS];omega
 obtain⟨l,m,n⟩:=Gw (dL u);unfold ma;cases v:cP 1 s.data.toList with
 |false=>
  refine adY (vs:=[.string s]) (us:=[.string s,ι (1:O)]) FE P5 (by kernel_rfl:xk.body=γ (.seq (pb eM) (.seq (.region 1 (eb 1 eM) ε) (p9 2 eM)))) (k:=5) (o:=ie 1 5 eM) (by kernel_rfl) (by kernel_rfl) (by kernel_rfl:(ie 1 5 eM).op=.call ⟨.value (.func 68),#[.tmp 14,.const (ι 1)],rV (ie 1 5 eM)⟩) R3 (by kernel_rfl) (Mx (by omega) (by omega) v) g i (Yc s) (λc=>?_) λc=>?_
  ·show(a0 θ (mi e8 fq gZ er fy hV iG) 100 K (pb eM) ([.ptr 0 1 0 0,.v (.string s)]++ez 38 (.v aX)) (dI L.length c (Y L)) pc).ok _
   rw[apU];exact⟨rfl,rfl,rfl⟩
  ·rw[apV]
   rfl
 |true=>
 have q:e8 1 s=ε:=v;rw[dD];cases h:CC L (aI s.data.toList 0)with
 |false=>
  refine uA (vs:=[.string s]) (us:=[.bool η]) FE P5 (by kernel_rfl:xk.body=γ (kC (iK 2 eM) (.seq (.region 2 (eb 2 eM) η) (p9 3 eM)))) (k:=1) (o:=ie 2 1 eM) (by kernel_rfl) (by kernel_rfl) (by kernel_rfl:(ie 2 1 eM).op=.call ⟨.value (.func 74),#[.tmp 21],rV (ie 2 1 eM)⟩) xh yd g i λc=>?_
  show(fc θ (mi e8 fq gZ er fy hV iG) 100 (iK 2 eM) ([.ptr 0 1 0 0,.v (.string s)]++ez 38 (.v aX)) (dI L.length c (Y L)) (λ_ T H=>fv θ (mi e8 fq gZ er fy hV iG) (λ_ _ _ _=>.err) (eb 2 eM).toList ((eb 2 eM).toList.take 1) T H λr t=>.out .normal ((#[.tmp 21]:aU cS).toList.map (bN r)) (t.take 2))).ok _
  rw[apW];simp only[bV];refine(ag (by simp only[F,ah,aa,l,m,n,b,q]) ⟨?_⟩).out;refine⟨?_,rfl⟩;show[AV.v (.bool (CC L (aI s.data.toList 0)))]=_
  rw[h];rfl
 |true=>
 rw[dD];have y:hU (gW L (aI s.data.toList 0)).length (cM (jY (gW L (aI s.data.toList 0))))=ε:=sx (a:=jY (gW L (aI s.data.toList 0))) λ_ _=>rfl
 have A:(gW L (aI s.data.toList 0)).length<=24:=WX _ _ _;have e:Θ (0+(gW L (aI s.data.toList 0)).length) (gW L (aI s.data.toList 0)).length=ε:=by rw[aT];omega
 have f:ο ((gW L (aI s.data.toList 0)).length<=274877906944)=ε:=bA (by omega);cases d:Aa (gW L (aI s.data.toList 0))with
 |false=>
  refine uA (vs:=[.string s]) (us:=[.bool η]) FE P5 (by kernel_rfl:xk.body=γ (kC (iK 4 eM) (.seq (.region 4 (eb 4 eM) η) (p9 5 eM)))) (k:=1) (o:=ie 4 1 eM) (by kernel_rfl) (by kernel_rfl) (by kernel_rfl:(ie 4 1 eM).op=.call ⟨.value (.func 74),#[.tmp 28],rV (ie 4 1 eM)⟩) xh yd g i λc=>?_
  show(fc θ (mi e8 fq gZ er fy hV iG) 100 (iK 4 eM) ([.ptr 0 1 0 0,.v (.string s)]++ez 38 (.v aX)) (dI L.length c (Y L)) (λ_ T H=>fv θ (mi e8 fq gZ er fy hV iG) (λ_ _ _ _=>.err) (eb 4 eM).toList ((eb 4 eM).toList.take 1) T H λr t=>.out .normal ((#[.tmp 28]:aU cS).toList.map (bN r)) (t.take 2))).ok _
  rw[apX];simp only[bV,W9];refine(ag ?_ ⟨?_⟩).out
  ·simp only[F,ah,aa,l,m,n,b,q,bo]
   exact⟨h,e,y,f⟩
  ·refine⟨?_,rfl⟩
   show[AV.v (.bool (Aa (gW L (aI s.data.toList 0))))]=_
   rw[d];rfl
 |true=>
  refine EV (vs:=[.string s]) FE P5 g i u λc=>?_
  show(ad θ (mi e8 fq gZ er fy hV iG) K 100 xk [.ptr 0 1 0 0,.v (.string s)] (dI L.length c (Y L)) (af 2)).ok _
  rw[apT];simp only[bV,W9];refine(ag ?_ ⟨?_⟩).out
  ·simp only[F,ah,aa,l,m,n,b,q,bo]
   refine⟨h,e,y,f,d,bX.2 λj z=>?_⟩;have:j=0\/j=1\/j=2\/j=3:=by have:=mM.1 z;omega
   rcases this with rfl|rfl|rfl|rfl
   ·exact xM (wU d (k:=0) (by omega))
   ·exact xM (wU d (k:=1) (by omega))
   ·exact xM (wU d (k:=2) (by omega))
   ·exact xM (wU d (k:=3) (by omega))
  ·exact⟨rfl,rfl,rfl⟩
def ado{D:O}{L:E Wh}(s:ρ){w:υ}(b:dM D L w)(d:aY (cj w D) w)(e:bH L)(hs:s.size<=1000):aH θ 34 #[.pointer (γ ⟨D,0,ζ⟩),.string s] w (de D L (qU L s.data.toList) w):=by
 have j:Δ s.size 4294967281=ε:=by rw[bS];omega
 obtain⟨f,g,i⟩:=Gw (dL e);unfold qU;have a:=ac5 L;have l:aj atD (eY L)=eY L:=by rw[IntKind.wrap_u64];omega
 cases h:fD L with
 |false=>
  refine uA (vs:=[.string s]) (us:=[.bool η]) Tm func34 (by kernel_rfl:Fc.body=γ (kC (iK 2 oa) (.seq (.region 2 (eb 2 oa) η) (p9 3 oa)))) (k:=1) (o:=ie 2 1 oa) (by kernel_rfl) (by kernel_rfl) (by kernel_rfl:(ie 2 1 oa).op=.call ⟨.value (.func 74),#[.tmp 15],rV (ie 2 1 oa)⟩) xh yd b d λc=>?_
  show(fc θ (uU e8 fq eY fD uQ) 100 (iK 2 oa) ([.ptr 0 1 0 0,.v (.string s)]++ez 18 (.v aX)) (dI L.length c (Y L)) (λ_ T H=>fv θ (uU e8 fq eY fD uQ) (λ_ _ _ _=>.err) (eb 2 oa).toList ((eb 2 oa).toList.take 1) T H λn p=>.out .normal ((#[.tmp 15]:aU cS).toList.map (bN n)) (p.take 2))).ok _
  rw[ap9];simp only[bV,fo];refine(ag (by simp only[F,ah,aa,f,g,i]) ⟨?_⟩).out;refine⟨?_,rfl⟩;show[AV.v (.bool (fD L))]=_
  rw[h];rfl
 |true=>
  have q:uQ (eY L)=⟨(bc (eY L)).toArray⟩:=by unfold uQ;obtain⟨k,r⟩:=tQ a.1;rw[r,cY,Lib.itoa_nonneg]
  refine EV (vs:=[.string s]) (t:=bc (eY L)) Tm func34 b d e λc=>?_
  show(ad θ (uU e8 fq eY fD uQ) K 100 Fc [.ptr 0 1 0 0,.v (.string s)] (dI L.length c (Y L)) (af 2)).ok _
  rw[ap8];simp only[bV,fo,l];refine(ag ?_ ⟨?_⟩).out
  ·simp only[F,ah,aa,f,g,i,bo,aB]
   exact⟨h,a.1,a.2⟩
  ·exact⟨by rw[q],rfl,rfl⟩
section
section
variable {P:aF} {ops:aU a6} {Q:Exit->aV->υ->Prop} {md:DR} {S:υ->Prop}
def abj{d:E O}{f k k2:O}{o n:a6}{c:aU κ}{a:aV}{w:υ}(t:l7 md ops c=[k,k2])(v:ops[k]?=γ o)(x:nK o (zQ ops a.tmps)=ε)(p:ops[k2]?=γ n)(q:nK n (zQ ops a.tmps)=ε)(h:∀e:aV->υ->Prop,Shut (∀g w',(d.elem k=ε->S w')->kN P md ops Q d S f (c.setIfInBounds k ε) g w'->e g w')->nJ P o a w e Q)(l:∀e:aV->υ->Prop,Shut (∀g w',(d.elem k2=ε->S w')->kN P md ops Q d S f (c.setIfInBounds k2 ε) g w'->e g w')->nJ P n a w e Q):kN P md ops Q d S (f+1) c a w:=by
 refine⟨λj=>(by rw[t]at j;cases j),λi u=>?_⟩;rw[t]at u;have r:i=k\/i=k2:=by simpa using u
 rcases r with rfl|rfl
 ·refine wpOp_step v λe s=>?_
  rw[aP x];exact h e λg w' j l=>s g w' ⟨j,l⟩
 ·refine wpOp_step p λe s=>?_
  rw[aP q];exact l e λg w' j l=>s g w' ⟨j,l⟩
end
def alX{D:O}{L:E Wh}(s:ρ){w:υ}(q:dM D L w)(z:aY (cj w D) w)(hs:s.size<=1000)(A:cP 1 s.data.toList=η):aH θ 31 #[.pointer (γ ⟨D,0,ζ⟩),.string s] w (de D L ζ w):=by
 have mixed:=mixed;obtain⟨p,n,c,B,M⟩:=id q;have C:w.drew.cell? ⟨D,0,ζ⟩=γ (.slice p n c):=by rw[gR w.drew D 0 #[.slice p n c] _ (0,0) B];rfl
 have d:=Mx (n:=1) (by omega) (show s.size<4294967281 by omega) A;have j:∀W,Fr (aq w.drew) w.drew W->aH θ 68 #[.string s,.int .i64 1] W λe r=>e=oX/\Fr (aq W) W r:=λW f=>d W (z.nw.fh ((fd w).trans f))
 have G:=λt (f:Fr (aq w.drew) w.drew t)=>de.die (L:=L) q ((fd w).trans f)
 have g:∀o:Obj,Fr (aq w.drew) w.drew (w.drew.alloc o):=λo=>eR (fk w.drew o ζ) λk e=>by cases e
 have u:∀o:Obj,(w.drew.alloc o).cell? ⟨D,0,ζ⟩=γ (.slice p n c):=λo=>xc C (g o)
 clear q M hs B A z d
 go_enter aaD,ntmps31
 go_wp2
 rename_i T N;refine pu [5,6,7,12] (λr=>r.cell? ⟨D,0,ζ⟩=γ (.slice p n c)) (by kernel_rfl) ?_;refine ck 0 (.pointer (γ ⟨D,0,ζ⟩)) ?_;refine ck 4 (.string s) ?_;refine ck 1 (.pointer (γ ⟨D,0,ζ⟩)) ?_;refine ck 2 (.pointer (γ ⟨D,0,ζ⟩)) ?_;refine pt [8,9,10,11,13,14] (i:=3) (v:=.slice p n c) rfl rfl (by kernel_rfl) (by kernel_rfl) (by kernel_rfl) (λ_ _ _ h=>h) (kr ⟨by rfl,λW R=>by simp[go_sem,dl,R]⟩) C ?_;simp only[jb,l4];refine abj (k:=5) (k2:=12) (by kernel_rfl) rfl rfl rfl rfl (λa l=>?_) λa l=>?_
 ·go_simp
  refine(j _ (Fr.refl _ _)).mono ?_;rintro e t ⟨x,y⟩;obtain rfl:=x;exact⟨rfl,G _ y⟩
 ·go_simp
  refine l.out _ _ (λ_=>u _) ?_;clear l a;refine gq (k:=5) (by kernel_rfl) rfl rfl (λa l=>?_);go_simp;refine(j _ (g _)).mono ?_;rintro e t ⟨x,y⟩;obtain rfl:=x;exact⟨rfl,G _ (dh (g _) y)⟩
def adk:jg 31 mw:=λ{D L} s {w} c d f e=>by
 cases a:cP 1 s.data.toList with
 |true=>exact alY s c d f e a
 |false=>unfold mw;rw[a];exact alX s c d e a
def adb:jg 32 mj:=λ{_ _} s {_} a c d e=>adc s a c d e
def ac8:jg 33 ma:=λ{_ _} s {_} a c d e=>ac9 s a c d e
def adn:jg 34 qU:=λ{_ _} s {_} a c d e=>ado s a c d e
end
def k8(s:ρ)(i:O):κ:= !(ο (48<=ce s i)&&ο (ce s i<=57))
def ka(s:ρ):O->Z
 |0=>0
 |i+1=>10*ka s i+(ce s i-48)
def lL(s:ρ):s.data.toList.length=s.size:=by rw[lx];rfl
def Ai(s:ρ){i:O}(h:i<s.data.toList.length):ce s i=((s.data.toList[i]).toNat:Z):=by
 unfold ce;have a:i<s.data.size:=by simpa using h
 rw[cY,wB s.data i a];simp
def ad0(s:ρ):bU (k8 s) s.size=s.data.toList.all iT:=by
 rw[kk,qi,bX];have e:∀i (h:i<s.data.toList.length),k8 s i= !iT s.data.toList[i]:=λi h=>by
  unfold k8 iT;rw[Ai s h]
  congr 2
  ·rw[kk,aB,aB];omega
  ·rw[kk,aB,aB];omega
 constructor
 ·intro h b d
  obtain⟨i,c,rfl⟩:=List.mem_iff_getElem.1 d;have:=h i (by rw[<-lL];exact c);rw[e i c]at this;simpa using this
 ·intro h i c
  have a:i<s.data.toList.length:=by rw[lL];exact c
  rw[e i a,h _ (ko a)];rfl
def Vv(s:ρ):∀i:O,i<=s.size->ka s i=i_ (s.data.toList.take i)
 |0,_=>rfl
 |i+1,h=>by
  have a:i<s.data.toList.length:=by rw[lL];omega
  rw[List.take_succ_eq_append_getElem a];unfold ka i_;rw[zz,Vv s i (by omega),Ai s a];rfl
def ai'(s:ρ):ka s s.size=i_ s.data.toList:=by rw[Vv s _ (aR _),oH (by rw[lL];exact aR _)]
def Mr(s:ρ):∀i:O,bU (k8 s) i=ε->0<=ka s i/\ka s i<10^i
 |0,_=>by simp[ka]
 |i+1,h=>by rw[qi]at h;obtain⟨b,c⟩:=Mr s i (qi.2 λj d=>h j (by omega));have a:=h i (ft i);unfold k8 at a;simp only[nC,aM,aB]at a;have e:(10:Z)^(i+1)=10^i*10:=Int.pow_succ _ _;unfold ka;omega
def lm(s:ρ):κ:=ο ((s.size:Z)>0)&&(ce s 0==45)
def dJ(s:ρ):ρ:=bif lm s then s.extract 1 s.size else s
def RZ(s:ρ)(k:O):(s.extract k s.size).data.toList=s.data.toList.drop k:=by rw[ByteArray.data_extract,Array.toList_extract,List.extract_eq_take_drop,oH (by rw[List.length_drop,lL];exact aR _)]
def Vk(s:ρ):(lm s=ε/\∃l,s.data.toList=45::l/\(dJ s).data.toList=l)\/(lm s=η/\dJ s=s/\∀l,s.data.toList≠45::l):=by
 cases h:lm s with
 |true=>
  refine .inl ⟨rfl,?_⟩;unfold dJ;rw[h,aZ,RZ];unfold lm at h;rw[aM,aB]at h;have c:=lL s
  match e:s.data.toList with
  |[]=>rw[e]at c;have:=h.1;simp at c;omega
  |b::l=>
   have d:(0:O)<s.data.toList.length:=by rw[e];simp
   have a:=Ai s d;simp only[e,wj]at a;have f:ce s 0=45:=by simpa using h.2
   have g:b=45:=by
    apply H7.1;have:(b.toNat:Z)=45:=by rw[<-f];exact a.symm
    have i:(45:ψ).toNat=45:=rfl;omega
   exact⟨l,by rw[g],rfl⟩
 |false=>
  refine .inr ⟨rfl,by unfold dJ;rw[h];rfl,λl e=>?_⟩;have d:(0:O)<s.data.toList.length:=by rw[e];simp
  have a:=Ai s d;simp only[e,wj]at a;have f:(ce s 0==45)=ε:=by rw[ks];exact a
  have c:=lL s;rw[e,cn]at c;unfold lm at h;rw[f,bA (by omega)]at h;cases h
def ad1(s:ρ):uC s.data.toList=(aD s.size 1 4&&bU (k8 s) s.size):=by
 unfold uC;rw[ad0,lL];have e:(λb:ψ=>ο (48<=b.toNat)&&ο (b.toNat<=57))=iT:=rfl;rw[e]
 congr 1
 unfold aD
 congr 1
 ·rw[kk,aB,aB];omega
 ·rw[kk,aB,aB];omega
def kE(s:ρ):κ:=aD (dJ s).size 1 4&&bU (k8 (dJ s)) (dJ s).size
def jP(s:ρ):Z:=bif kE s then bif lm s then-ka (dJ s) (dJ s).size else ka (dJ s) (dJ s).size else 0
def Gx(s:ρ):kE s=pf s.data.toList:=by
 unfold kE;rw[<-ad1];rcases Vk s with⟨_,l,a,b⟩|⟨_,a,b⟩
 ·rw[b,a]
  rfl
 ·rw[a]
  generalize s.data.toList=L at*;unfold pf;split
  ·rename_i l
   exact aO rfl (b l)
  ·rfl
def asw(s:ρ)(h:pf s.data.toList=ε):jP s=kD s.data.toList:=by
 unfold jP;rw[Gx,h,aZ,ai'];rcases Vk s with⟨a,l,b,c⟩|⟨a,b,c⟩
 ·rw[a,c,b]
  rfl
 ·rw[a,b,a_]
  generalize s.data.toList=L at*;unfold kD;split
  ·rename_i l
   exact aO rfl (c l)
  ·rfl
abbrev BL:Ex->E O:=cx [0,4,5,6] [4,5] [2,3]
abbrev vN(u:ρ)(m:κ)(n i:Z):E AV:=[.v (.string u),.v (.bool m),.v (ι n),.v (ι i)]
def am3(u:ρ)(m:κ)(n i:Z):let b:=(↑(aW u):Z);let c:=[vI 0,vB η];let a:=[ο ((0:Z)<=i),ο (i<b)];a0 θ m4 200 K (a4 0 Pt) (aw 0 50 ((BL .normal).zip (vN u m n i))) [] (cJ 50 BL 0)
 =bif ο (i<b)then Ω a (bif ο (ce u i<(48:Z))then rO c []else Ω a (bif ο (ce u i> (57:Z))then rO c []else Ω a (ao.out .normal [AV.v (.string u),AV.v (.bool m),vI (aj .i64 (aj .i64 ((10:Z)*n)+aj .i64 (aj .u8 (ce u i-(48:Z))))),vI (aj .i64 (i+(1:Z)))] [])))else ao.out (Ex.exit 0) [AV.v (.bool m),vI n] []:=by intros;kernel_rfl
noncomputable abbrev LV(u:ρ)(m z c:κ)(n:Z):O->χ Sum:=bJ 0 (bD 50 (BL .normal) 0 (vN u m 0 0) [] (λa=>cond z (cond c (a .normal (aw 0 50 [(4,.v (.bool m)),(5,.v (ι n))]) []) (a .ret (aw 0 50 [(2,.v (ι 0)),(3,.v (.bool η))]) [])) .err))
def aro(s u:ρ)(m z c:κ)(n:Z):let b:=(↑(aW s):Z);let a:=(0:Z);let g:=(Hr s 1 (a5 b));let h:=AV.v (.bool (ce s a==(45:Z)));let d:=(1:Z);let i:=vB η;let e:=[AV.Ψ [vI 0,i]];let f:=(bif c then bif m then rO [AV.Ψ [vI (aj .i64 (a-n)),vB ε]] []else rO [AV.Ψ [vI n,vB ε]] []else rO e []);ad θ m4 (LV u m z c n) 200 Pt [.v (.string s)] [] (af 0)
 =bif ο (b>a)then Ω [ο (a<b)] (bif ce s a==(45:Z)then Ω [ο (d<=b),ο (b<=b)] (bif !aD (↑(aW g):Z) d (4:Z)then rO e []else Ω [cw ([AV.v (.string g),h,vI 0,vI 0]=vN u m a a/\ab [] []),z] f)else bif !aD b d (4:Z)then rO e []else Ω [cw ([AV.v (.string s),h,vI 0,vI 0]=vN u m a a/\ab [] []),z] f)else bif !aD b d (4:Z)then rO e []else Ω [cw ([AV.v (.string s),i,vI 0,vI 0]=vN u m a a/\ab [] []),z] f:=by intros;kernel_rfl
def I7(a:ρ->Z)(b:ρ->κ):E SA->χ FR
 |[.v (.string s)]=>γ {val:=.Ψ [.v (ι (a s)),.v (.bool (b s))]}
 |_=>ζ
def FQ(a:ρ->Z->O->ρ)(b:ρ->Z->O)(c:ρ->Z)(d:ρ->κ):aE:=ext (ext g0 93 (am [.val,.val] (Eg a b))) 102 (am [.val] (I7 c d))
abbrev BM:Ex->E O:=cx [1,6,7,8] [1,7] [4,5]
abbrev CW(k:Z)(m n:O)(i:Z):E AV:=[.v (ι k),.own 0 m,.own 1 n,.v (ι i)]
abbrev Bm(m:O)(q:O->ρ)(n:O)(x:aQ):E AB:=[.row ε m 1 (λj=>[.string (q j)]) 9,.row ε n 1 (pj x) 3]
def am4(e:ρ->Z->O->ρ)(f:ρ->Z->O)(b:ρ->Z)(c:ρ->κ)(k:Z)(m:O)(q:O->ρ)(n:O)(x:aQ)(i:Z):let d:=[AB.row ε n 1 (pj x) 3];a0 θ (FQ e f b c) 200 K (a4 0 PH) (aw 0 40 ((BM .normal).zip (CW k m n i))) (Bm m q n x) (cJ 40 BM 0)
 =bif ο (i<(m:Z))then Ω [ο ((0:Z)<=i),ο (i<(m:Z)),ο (a5 i<m)] (bif !c (q (a5 i))then rO [AV.own 0 n,vB η] d else Ω [Θ n n,Θ (n+1) 549755813888] (ao.out .normal [vI k,AV.own 0 m,AV.own 1 (n+1),vI (aj .i64 (i+(1:Z)))] [AB.row ε m 1 (λj=>[cZ (q j)]) 9,AB.row ε (n+1) 1 (λa=>[ι (bif Δ a n then x a else b (q (a5 i)))]) 3]))else ao.out (Ex.exit 0) [vI k,AV.own 0 n] d:=by intros;kernel_rfl
noncomputable abbrev LW(k:Z)(m:O)(q:O->ρ)(x:aQ)(c:κ)(p:O):O->χ Sum:=bJ 0 (bD 40 (BM .normal) 0 (CW k m 0 0) (Bm m q 0 x) (λa=>cond c (a .normal (aw 0 40 [(1,.v (ι k)),(7,.own 0 m)]) [.row ε m 1 (pj x) 3]) (a .ret (aw 0 40 [(4,.own 0 p),(5,.v (.bool η))]) [.row ε p 1 (pj x) 3])))
def arp(b:ρ->Z->O->ρ)(a:ρ->Z->O)(d:ρ->Z)(e:ρ->κ)(s:ρ)(k:Z)(m:O)(q:O->ρ)(x:aQ)(c:κ)(p:O):ad θ (FQ b a d e) (LW k m q x c p) 200 PH [.v (.string s),.v (ι k)] [] (af 0)=Ω [Δ (aW s) 4294967281,cw ([vI k,AV.own 0 (a s (32:Z)),AV.own 1 0,vI 0]=CW k m 0 (0:Z)/\ab [AB.row ε (a s (32:Z)) 1 (λj=>[cZ (b s (32:Z) j)]) 9,AB.row ε 0 1 (λ_=>[]) 3] (Bm m q 0 x))] (bif c then rO [AV.Ψ [AV.own 0 m,AV.v (.bool ((m:Z)==k))]] [AB.row ε m 1 (pj x) 3]else rO [AV.Ψ [AV.own 0 p,vB η]] [AB.row ε p 1 (pj x) 3]):=by kernel_rfl
def jN(b:ψ):κ:=b==117||(b==100||(b==110||(b==101||(b==115||(b==119||b==116)))))
def gU:E ψ->κ
 |[b]=>jN b
 |_=>η
def bT:E ψ->O
 |[a,b]=>bif a==114&&(ο (49<=b.toNat)&&ο (b.toNat<=57))then b.toNat-48 else 0
 |_=>0
def Mf(w:E ψ):bT w<=9:=by
 unfold bT;split
 ·rename_i a b
  cases h:a==114&&(ο (49<=b.toNat)&&ο (b.toNat<=57))with
  |true=>simp only[aM,aB]at h;rw[aZ];omega
  |false=>exact eF _
 ·exact eF _
def Me(a b:ψ):bT [a,b]=bif a==114&&(ο (49<=b.toNat)&&ο (b.toNat<=57))then b.toNat-48 else 0:=rfl
def aiu:∀{l:E ψ},bT l≠0->∃b,l=[114,b]/\49<=b.toNat/\b.toNat<=57/\bT l=b.toNat-48
 |[],h=>aO rfl h
 |[_],h=>aO rfl h
 |_::_::_::_,h=>aO rfl h
 |[a,b],h=>by
  rw[Me]at h⊢;cases q:a==114&&(ο (49<=b.toNat)&&ο (b.toNat<=57))with
  |true=>have c:=q;simp only[aM,aB,ks]at c;exact⟨b,by rw[c.1],c.2.1,c.2.2,rfl⟩
  |false=>rw[q]at h;exact aO rfl h
def aiv{a b:ψ}(h:bT [a,b]=0):¬a.toNat=114\/(a=114/\(b.toNat<49\/(49<=b.toNat/\57<b.toNat))):=by
 rw[Me]at h;by_cases c:a=114
 ·subst c
  refine .inr ⟨rfl,?_⟩;by_cases d:49<=b.toNat
  ·by_cases f:b.toNat<=57
   ·rw[bA d,bA f]at h
    have h:b.toNat-48=0:=h;omega
   ·exact .inr ⟨d,by omega⟩
  ·exact .inl (by omega)
 ·exact .inl λe=>c (H7.1 e)
def rep(k:O)(T:E ψ):E ψ:=(ez k T).flatten
def yJ(k:O)(T:E ψ):(rep k T).length=k*T.length:=by
 unfold rep;induction k with
 |zero=>simp
 |succ k a=>rw[List.replicate_succ,List.flatten_cons,cv,a,aao];omega
def amk(k:O)(T:E ψ):rep (k+1) T=rep k T++T:=by unfold rep;rw[List.replicate_succ',List.flatten_append];simp
def WL{k:O}{T:E ψ}(c:k≠0)(b:T≠ []):rep k T≠ []:=λh=>by have a:=yJ k T;rw[h,gm]at a;have d:=List.length_pos_iff.2 b;rcases aam.1 a.symm with h|h<;>omega
def flat:O->κ->E (E ψ)->E ψ->χ (E ψ×E (E ψ))
 |0,_,_,_=>ζ
 |_+1,c,[],a=>bif c then ζ else γ (a,[])
 |n+1,c,w::r,a=>
  bif gU w then(bif Θ (a.length+w.length) 500 then flat n c r (a++w)else ζ)
  else bif w==[93]then(bif c&& !a.isEmpty then γ (a,r)else ζ)
  else bif ai (bT w) 0 then ζ
  else match flat n ε r []with
   |none=>ζ
   |some (b,d)=>bif Θ (a.length+bT w*b.length) 500 then flat n c d (a++rep (bT w) b)else ζ
def Sy{P:E ψ->Prop}(q:P [])(s:∀w out,gU w=ε->P out->P (out++w))(t:∀k d out,d≠ []->P d->P out->P (out++rep k d)):∀(n:O)(br:κ)(ws:E (E ψ))(out T:E ψ)(r:E (E ψ)),P out->flat n br ws out=γ (T,r)->P T/\r.length<=ws.length/\(br=ε->T≠ []/\r.length<ws.length):=by
 intro n;induction n with
 |zero=>intro br ws out T r _ h;cases h
 |succ n j=>
  intro br ws out T r i h
  match ws with
  |[]=>
   unfold flat at h;cases br with
   |true=>cases h
   |false=>cases h;exact⟨i,aR _,λh=>by cases h⟩
  |w::ws=>
   unfold flat at h;rw[cn];cases l:gU w with
   |true=>
    rw[l,aZ]at h;cases g:Θ (out.length+w.length) 500 with
    |false=>rw[g]at h;cases h
    |true=>rw[g,aZ]at h;obtain⟨a,b,c⟩:=j _ _ _ _ _ (s w out l i) h;exact⟨a,by omega,λf=>⟨(c f).1,by have:=(c f).2;omega⟩⟩
   |false=>
    rw[l,a_]at h;cases o:w==[93]with
    |true=>
     rw[o,aZ]at h;cases f:br&& !out.isEmpty with
     |false=>rw[f]at h;cases h
     |true=>rw[f]at h;cases h;rw[aM]at f;refine⟨i,by omega,λ_=>⟨λe=>?_,by omega⟩⟩;subst e;exact aO f.2 (by decide)
    |false=>
     rw[o,a_]at h;cases p:ai (bT w) 0 with
     |true=>rw[p]at h;cases h
     |false=>
      rw[p,a_]at h;cases m:flat n ε ws []with
      |none=>rw[m]at h;cases h
      |some x=>
       obtain⟨d,y⟩:=x;rw[m]at h;simp only at h;obtain⟨u,z,v⟩:=j _ _ _ _ _ q m;cases g:Θ (out.length+bT w*d.length) 500 with
       |false=>rw[g]at h;cases h
       |true=>rw[g,aZ]at h;obtain⟨a,b,c⟩:=j _ _ _ _ _ (t (bT w) d out (v rfl).1 u i) h;exact⟨a,by omega,λf=>⟨(c f).1,by have:=(c f).2;omega⟩⟩
def Fw{n:O}{br:κ}{ws:E (E ψ)}{out T:E ψ}{r:E (E ψ)}(h:flat n br ws out=γ (T,r)):r.length<=ws.length/\(br=ε->T≠ []/\r.length<ws.length):=
 (Sy (P:=λ_=>True) trivial (λ_ _ _ _=>trivial) (λ_ _ _ _ _ _=>trivial) n br ws out T r trivial h).2
def afs:∀(n m:O)(br:κ)(ws:E (E ψ))(out:E ψ),ws.length<n->ws.length<m->flat n br ws out=flat m br ws out:=by
 intro n;induction n with
 |zero=>intro m br ws out h;omega
 |succ n a=>
  intro m br ws out c d
  match m with
  |0=>omega
  |m+1=>
   match ws with
   |[]=>rfl
   |w::ws=>
    rw[cn]at c d;unfold flat;rw[a m br ws (out++w) (by omega) (by omega),a m ε ws [] (by omega) (by omega)];cases e:flat m ε ws []with
    |none=>rfl
    |some x=>obtain⟨b,f⟩:=x;have:=(Fw e).1;simp only;rw[a m br f _ (by omega) (by omega)]
def aft:∀(n:O)(br:κ)(ws:E (E ψ))(out T:E ψ)(r:E (E ψ)),flat n br ws out=γ (T,r)->r<:+ws:=by
 intro n;induction n with
 |zero=>intro br ws out T r h;cases h
 |succ n c=>
  intro br ws out T r h
  match ws with
  |[]=>
   unfold flat at h;cases br with
   |true=>cases h
   |false=>cases h;exact List.suffix_refl _
  |w::ws=>
   unfold flat at h;cases e:gU w with
   |true=>
    rw[e,aZ]at h;cases a:Θ (out.length+w.length) 500 with
    |false=>rw[a]at h;cases h
    |true=>rw[a,aZ]at h;exact(c _ _ _ _ _ h).trans (DE _ _)
   |false=>
    rw[e,a_]at h;cases f:w==[93]with
    |true=>
     rw[f,aZ]at h;cases g:br&& !out.isEmpty with
     |false=>rw[g]at h;cases h
     |true=>rw[g]at h;cases h;exact DE _ _
    |false=>
     rw[f,a_]at h;cases i:ai (bT w) 0 with
     |true=>rw[i]at h;cases h
     |false=>
      rw[i,a_]at h;cases d:flat n ε ws []with
      |none=>rw[d]at h;cases h
      |some x=>
       obtain⟨b,j⟩:=x;rw[d]at h;simp only at h;cases a:Θ (out.length+bT w*b.length) 500 with
       |false=>rw[a]at h;cases h
       |true=>rw[a,aZ]at h;exact((c _ _ _ _ _ h).trans (c _ _ _ _ _ d)).trans (DE _ _)
def fl(br:κ)(ws:E (E ψ))(out:E ψ):χ (E ψ×E (E ψ)):=flat (ws.length+1) br ws out
def afp(br:κ)(out:E ψ):fl br [] out=bif br then ζ else γ (out,[]):=rfl
def Fv(br:κ)(w:E ψ)(r:E (E ψ))(out:E ψ):fl br (w::r) out=bif gU w then(bif Θ (out.length+w.length) 500 then fl br r (out++w)else ζ)else bif w==[93]then(bif br&& !out.isEmpty then γ (out,r)else ζ)else bif ai (bT w) 0 then ζ else match fl ε r []with
   |none=>ζ
   |some (a,b)=>bif Θ (out.length+bT w*a.length) 500 then fl br b (out++rep (bT w) a)else ζ:=by
 unfold fl;rw[cn];show flat ((r.length+1)+1) br (w::r) out=_
 rw[flat];cases c:flat (r.length+1) ε r []with
 |none=>rfl
 |some x=>obtain⟨a,b⟩:=x;have:=(Fw c).1;simp only;rw[afs (r.length+1) (b.length+1) br b _ (by omega) (by omega)]
def Sv{br:κ}{w:E ψ}{r:E (E ψ)}{out:E ψ}(h:gU w=ε):fl br (w::r) out=bif Θ (out.length+w.length) 500 then fl br r (out++w)else ζ:=by rw[Fv,h,aZ]
def KD{br:κ}{r:E (E ψ)}{out:E ψ}:fl br ([93]::r) out=bif br&& !out.isEmpty then γ (out,r)else ζ:=by rw[Fv];rfl
def afq{br:κ}{w:E ψ}{r:E (E ψ)}{out:E ψ}(h:gU w=η)(a:w≠ [93])(b:bT w=0):fl br (w::r) out=ζ:=by rw[Fv,h,a_,dT.2 a,a_,b];rfl
def afo{br:κ}{w:E ψ}{r:E (E ψ)}{out:E ψ}(h:gU w=η)(b:w≠ [93])(c:bT w≠0):fl br (w::r) out=match fl ε r []with
  |none=>ζ
  |some (a,d)=>bif Θ (out.length+bT w*a.length) 500 then fl br d (out++rep (bT w) a)else ζ:=by
 rw[Fv,h,a_,dT.2 b,a_];rw[show ai (bT w) 0=η from by cases e:ai (bT w) 0 with|false=>rfl|true=>exact aO (ci e) c];rfl
def Su{br:κ}{ws:E (E ψ)}{out T:E ψ}{r:E (E ψ)}(h:fl br ws out=γ (T,r)):r.length<=ws.length/\(br=ε->T≠ []/\r.length<ws.length):=Fw h
def afr{br:κ}{ws:E (E ψ)}{out T:E ψ}{r:E (E ψ)}(h:fl br ws out=γ (T,r)):r<:+ws:=aft _ _ _ _ _ _ h
def afn{br:κ}{ws:E (E ψ)}{T:E ψ}{r:E (E ψ)}(h:fl br ws []=γ (T,r)):T.all jN=ε:=by
 refine(Sy (P:=λl=>l.all jN=ε) rfl (λw a c d=>?_) (λk e a _ i d=>?_) _ br ws [] T r rfl h).1
 ·rw[gC,d,dD]
  match w,c with
  |[b],c=>rw[gl,show jN b=ε from c];rfl
 ·rw[gC,d,dD]
  refine bX.2 λx f=>?_
  unfold rep at f;obtain⟨l,j,g⟩:=List.mem_flatten.1 f;rw[(List.mem_replicate.1 j).2]at g;exact bX.1 i x g
def afu:∀(n:O)(br:κ)(ws:E (E ψ))(out T:E ψ)(r:E (E ψ)),out.length<=500->flat n br ws out=γ (T,r)->T.length<=500:=by
 intro n;induction n with
 |zero=>intro br ws out T r _ h;cases h
 |succ n c=>
  intro br ws out T r d h
  match ws with
  |[]=>
   unfold flat at h;cases br with
   |true=>cases h
   |false=>cases h;exact d
  |w::ws=>
   unfold flat at h;cases e:gU w with
   |true=>
    rw[e,aZ]at h;cases a:Θ (out.length+w.length) 500 with
    |false=>rw[a]at h;cases h
    |true=>rw[a,aZ]at h;rw[aT]at a;exact c _ _ _ _ _ (by rw[cv];exact a) h
   |false=>
    rw[e,a_]at h;cases f:w==[93]with
    |true=>
     rw[f,aZ]at h;cases g:br&& !out.isEmpty with
     |false=>rw[g]at h;cases h
     |true=>rw[g]at h;cases h;exact d
    |false=>
     rw[f,a_]at h;cases i:ai (bT w) 0 with
     |true=>rw[i]at h;cases h
     |false=>
      rw[i,a_]at h;cases j:flat n ε ws []with
      |none=>rw[j]at h;cases h
      |some x=>
       obtain⟨b,k⟩:=x;rw[j]at h;simp only at h;cases a:Θ (out.length+bT w*b.length) 500 with
       |false=>rw[a]at h;cases h
       |true=>rw[a,aZ]at h;rw[aT]at a;exact c _ _ _ _ _ (by rw[cv,yJ];exact a) h
def Sw{br:κ}{ws:E (E ψ)}{T:E ψ}{r:E (E ψ)}(h:fl br ws []=γ (T,r)):T.length<=500:=afu _ _ _ _ _ _ (eF _) h
def ns(b:ψ):O:=bif b==101 then 0 else bif b==110 then 1 else bif b==119 then 2 else 3
def ow(d:O):Z:=bif ai d 0 then 1 else bif ai d 2 then-1 else 0
def oz(d:O):Z:=bif ai d 1 then 1 else bif ai d 3 then-1 else 0
structure oP where
 x:Z
 y:Z
 t:O
def oi:oP:=⟨0,0,0⟩
def eP(p:oP)(b:ψ):oP:=
 bif b==117||b==100 then p else bif b==116 then⟨p.x,p.y,(p.t+1)%4⟩
 else⟨p.x+ow ((ns b+p.t)%4),p.y+oz ((ns b+p.t)%4),p.t⟩
def cU(l:E ψ):oP:=l.foldl eP oi
def Y5(d:O):(-1<=ow d/\ow d<=1)/\ -1<=oz d/\oz d<=1:=by unfold ow oz;cases ai d 0<;>cases ai d 2<;>cases ai d 1<;>cases ai d 3<;>decide
def Wu{p:oP}{b:ψ}{n:Z}(h:(-n<=p.x/\p.x<=n)/\(-n<=p.y/\p.y<=n)/\p.t<4):(-(n+1)<=(eP p b).x/\(eP p b).x<=n+1)/\(-(n+1)<=(eP p b).y/\(eP p b).y<=n+1)/\(eP p b).t<4:=by
 unfold eP;have:=Y5 ((ns b+p.t)%4);cases b==117||b==100 with
 |true=>simp only[aZ];omega
 |false=>
  cases b==116 with
  |true=>simp only[aZ,a_];omega
  |false=>simp only[a_];omega
def MV:∀(l:E ψ)(p:oP)(n:Z),((-n<=p.x/\p.x<=n)/\(-n<=p.y/\p.y<=n)/\p.t<4)->((-(n+l.length)<=(l.foldl eP p).x/\(l.foldl eP p).x<=n+l.length)/\(-(n+l.length)<=(l.foldl eP p).y/\(l.foldl eP p).y<=n+l.length)/\(l.foldl eP p).t<4)
 |[],p,n,h=>by simpa using h
 |b::l,p,n,h=>by have:=MV l (eP p b) (n+1) (Wu h);rw[List.foldl_cons,cn];omega
def MW(l:E ψ):(-(l.length:Z)<=(cU l).x/\(cU l).x<=l.length)/\(-(l.length:Z)<=(cU l).y/\(cU l).y<=l.length)/\(cU l).t<4:=by have:=MV l oi 0 (by decide);unfold cU;omega
abbrev BD:Ex->E O:=cx [0,3,4,5] [3] [2]
abbrev CT(s:ρ)(n:O)(a i:Z):E AV:=[.v (.string s),.own 0 n,.v (ι a),.v (ι i)]
def amN(s:ρ)(n:O)(ws:E ρ)(a i:Z):let b:=(↑(aW s):Z);let c:=vI (aj .i64 (i+(1:Z)));let d:=[AB.row ε n 1 (ey ws) 9];let e:=(ao.out .normal [AV.v (.string s),AV.own 0 (n+1),c,c] [AB.row ε (n+1) 1 (λq=>[cZ (bif Δ q n then et ws q else Hr s (a5 a) (a5 i))]) 9]);let f:=[ο ((0:Z)<=a),ο (a<=i),ο (i<=b),Θ n n,Θ (n+1) 549755813888];a0 θ g0 200 K (a4 0 PF) (aw 0 33 ((BD .normal).zip (CT s n a i))) (ml n ws) (cJ 33 BD 0)
 =bif ο (i<=b)then bif i==b then Ω f e else Ω [ο ((0:Z)<=i),ο (i<b)] (bif ce s i==(32:Z)then Ω f e else ao.out .normal [AV.v (.string s),AV.own 0 n,vI a,c] d)else ao.out (Ex.exit 0) [AV.own 0 n] d:=by intros;kernel_rfl
noncomputable abbrev LJ(s:ρ)(m:O)(ws:E ρ):O->χ Sum:=bJ 0 (bD 33 (BD .normal) 0 (CT s 0 0 0) (ml 0 []) (λa=>a .normal (aw 0 33 [(3,.own 0 m)]) (ml m ws)))
def aqv(s:ρ)(m:O)(ws:E ρ):ad θ g0 (LJ s m ws) 200 PF [.v (.string s)] [] (af 0)=Ω [cw ([AV.v (.string s),AV.own 0 0,vI 0,vI 0]=CT s 0 (0:Z) (0:Z)/\ab [AB.row ε 0 1 (λ_=>[]) 9] (ml 0 []))] (rO [AV.own 0 m] [AB.row ε m 1 (ey ws) 9]):=by kernel_rfl
def aoK(s:ρ)(hs:s.size<4294967281):cp θ 0 (.block 0 (.loop (a4 0 PF))) (bD 33 (BD .normal) 0 (CT s 0 0 0) (ml 0 []) (λa=>a .normal (aw 0 33 [(3,.own 0 (ev s 32).length)]) (ml (ev s 32).length (ev s 32)))):=by
 refine dQ bt (n:=200) (m:=0) (lv:=BD) (λi=>CT s (ca s 32 i).1.length ((ca s 32 i).2:O) i) (λi=>ml (ca s 32 i).1.length (ca s 32 i).1) (λ_=>True) (s.size+1) (λ_=>K) (du rfl rfl rfl) (aR _) trivial λa Q j i u k=>⟨cT _ _ _,?_⟩
 have l:=qV s 32 i;rw[amN];refine ay (λb=>?_) λb=>?_
 ·have b:=aL b
  have o:aj a7 ((i:Z)+1)=((i+1:O):Z):=by rw[bR (by omega)];omega
  rw[o,cY,cY];have g:(((i:Z)==(s.size:Z))||(ce s i==32))=ε->ca s 32 (i+1)=((ca s 32 i).1++[s.extract (ca s 32 i).2 i],i+1):=λh=>by rw[ca,ot,h];rfl
  have p:(((i:Z)==(s.size:Z))||(ce s i==32))=η->ca s 32 (i+1)=ca s 32 i:=λh=>by rw[ca,ot,h];rfl
  refine ay (λc=>?_) λc=>ag ?_ (ay (λd=>?_) λd=>?_)
  ·refine ag (by simp only[F,ah,aa,aB,aT];omega) (Φ ⟨i+1,⟨rfl,by omega,trivial⟩,?_⟩)
   have e:=g (by rw[c];rfl);simp only[e,cv,cn,gm];refine⟨trivial,.cons (Ξ.row λq f=>G0 _ _ _ rfl q f) .nil⟩
  ·have r:(i:Z)≠s.size:=by simpa using c
   simp only[F,ah,aa,aB];omega
  ·refine ag (by simp only[F,ah,aa,aB,aT];omega) (Φ ⟨i+1,⟨rfl,by omega,trivial⟩,?_⟩)
   have e:=g (by rw[d,Bool.or_true]);simp only[e,cv,cn,gm];refine⟨trivial,.cons (Ξ.row λq f=>G0 _ _ _ rfl q f) .nil⟩
  ·refine Φ ⟨i+1,⟨rfl,by omega,trivial⟩,?_⟩
   have e:=p (by rw[c,d];rfl);simp only[e];exact⟨trivial,ab.refl _⟩
 ·have b:=cE b
  have:i=s.size+1:=by omega
  subst this;refine Φ ⟨_,ab.refl _,?_⟩;rw[aP rfl];exact j
def nV(s:ρ)(j:O):ρ:=et (ev s 32) j
def kx(s:ρ):O:=(ev s 32).length
def IH(g:ρ->O->ρ)(n:ρ->O):E SA->χ FR
 |[.v (.string s)]=>γ {val:=.own 0 (n s),new:=[.row ε (n s) 1 (λj=>[.string (g s j)]) 9],ap:=[Δ s.size 4294967281]}
 |_=>ζ
def aj1:au θ 178 (am [.val] (IH nV kx)):=by
 refine bY bt func178 rfl λc e a b=>?_
 unfold IH at a;split at a
 ·rename_i s
  cases a;simp only[F,ah,aa,bS]at b;refine⟨[],LJ s (ev s 32).length (ev s 32),200,ab.refl _,cz (by kernel_rfl) (aoK s b),?_⟩;show aC (ad θ g0 (LJ s (ev s 32).length (ev s 32)) 200 PF [.v (.string s)] [] (af 0)) _
  rw[aqv];refine ag ?_ (Φ ⟨_,rfl,rfl,ab.refl _⟩);simp only[F,ah,aa];exact cg ⟨trivial,(.cons (Ξ.row λj d=>aO d (cN _)) .nil)⟩
 ·cases a
def vQ(s:ρ):κ:=gU s.data.toList
def mn(s:ρ):Z:=(bT s.data.toList:O)
def Ji(is:ρ->κ):E τ->χ (τ×E κ)
 |[.string s]=>γ (.bool (is s),[])
 |_=>ζ
def I3(a:ρ->Z):E τ->χ (τ×E κ)
 |[.string s]=>γ (ι (a s),[])
 |_=>ζ
def aq_(s:ρ):let a:=[vB ε];ad θ g0 K 100 f235 [.v (.string s)] [] ed
 =bif cK s (a8 (bj [(117:ψ)]))then rO a []else bif cK s (a8 (bj [(100:ψ)]))then rO a []else bif cK s (a8 (bj [(110:ψ)]))then rO a []else bif cK s (a8 (bj [(101:ψ)]))then rO a []else bif cK s (a8 (bj [(115:ψ)]))then rO a []else bif cK s (a8 (bj [(119:ψ)]))then rO a []else bif cK s (a8 (bj [(116:ψ)]))then rO a []else rO [vB η] []:=by intros;kernel_rfl
def ara(s:ρ):let b:=(↑(aW s):Z);let a:=(1:Z);let c:=[ο (a<b)];ad θ g0 K 100 f234 [.v (.string s)] [] ed
 =bif b != (2:Z)then rO [vI 0] []else Ω [ο ((0:Z)<b)] (bif ce s (0:Z)!= (114:Z)then rO [vI 0] []else Ω c (bif ο (ce s a<(49:Z))then rO [vI 0] []else Ω c (bif ο (ce s a> (57:Z))then rO [vI 0] []else Ω c (rO [vI (aj .i64 (aj .u8 (ce s a-(48:Z))))] [])))):=by intros;kernel_rfl
def J7(s:ρ)(l:E ψ):cK s (a8 (bj l))=ο (s.data.toList=l):=by unfold cK;rw[kk,aB,aB,qG,qG]
def aoC(l:E ψ):gU l=(ο (l=[117])||(ο (l=[100])||(ο (l=[110])||(ο (l=[101])||(ο (l=[115])||(ο (l=[119])||ο (l=[116]))))))):=by
 match l with
 |[]=>rfl
 |[b]=>
  have e:∀c:ψ,ο ([b]=[c])=(b==c):=λc=>by rw[kk,aB,ks];simp
  rw[e,e,e,e,e,e,e];rfl
 |_::_::_=>
  have e:∀(a b c:ψ)(l:E ψ),ο (a::b::l=[c])=η:=λa b c l=>eJ λh=>by simp at h
  rw[e,e,e,e,e,e,e];rfl
def V7:au θ 235 (aS (Ji vQ)):=by
 refine en (n:=100) bt func235 rfl λl x m d o=>?_
 unfold Ji at d;split at d
 ·rename_i s
  simp only[ar,cG]at d;obtain⟨rfl,rfl⟩:=d;have e:=aq_ s;simp only[eD,kp];rw[e];simp only[J7];unfold vQ;rw[aoC]
  suffices h:aC _ (nO (.bool (ο (s.data.toList=[117])||(ο (s.data.toList=[100])||(ο (s.data.toList=[110])||(ο (s.data.toList=[101])||(ο (s.data.toList=[115])||(ο (s.data.toList=[119])||ο (s.data.toList=[116])))))))))from⟨h.out⟩
  refine ay (λc=>Φ ⟨_,rfl,by rw[c];rfl⟩) λa=>?_
  refine ay (λc=>Φ ⟨_,rfl,by rw[a,c];rfl⟩) λb=>?_
  refine ay (λc=>Φ ⟨_,rfl,by rw[a,b,c];rfl⟩) λf=>?_
  refine ay (λc=>Φ ⟨_,rfl,by rw[a,b,f,c];rfl⟩) λg=>?_
  refine ay (λc=>Φ ⟨_,rfl,by rw[a,b,f,g,c];rfl⟩) λi=>?_
  refine ay (λc=>Φ ⟨_,rfl,by rw[a,b,f,g,i,c];rfl⟩) λj=>?_
  refine ay (λc=>Φ ⟨_,rfl,by rw[a,b,f,g,i,j,c];rfl⟩) λk=>Φ ⟨_,rfl,by rw[a,b,f,g,i,j,k];rfl⟩
 ·cases d
def air(s:ρ):(s.size=2/\∃a b:ψ,s.data.toList=[a,b]/\ce s 0=a.toNat/\ce s 1=b.toNat)\/(s.size≠2/\mn s=0):=by
 have c:s.data.toList.length=s.size:=by rw[lx];rfl
 by_cases h:s.size=2
 ·left
  refine⟨h,?_⟩
  match e:s.data.toList,c.trans h with
  |[a,b],_=>
   have d:s.data= #[a,b]:=by rw[<-Array.toList_inj,e]
   refine⟨a,b,rfl,?_,?_⟩
   ·unfold ce;rw[d];rfl
   ·unfold ce;rw[d];rfl
 ·right
  refine⟨h,?_⟩;unfold mn
  match e:s.data.toList with
  |[]=>rfl
  |[_]=>rfl
  |[_,_]=>rw[e]at c;exact aO c.symm h
  |_::_::_::_=>rfl
def VZ:au θ 234 (aS (I3 mn)):=by
 refine en (n:=100) bt func234 rfl λp x q d r=>?_
 unfold I3 at d;split at d
 ·rename_i s
  simp only[ar,cG]at d;obtain⟨rfl,rfl⟩:=d;have e:=ara s;simp only[eD,kp];rw[e]
  suffices h:aC _ (nO (ι (mn s)))from⟨h.out⟩
  rcases air s with⟨i,a,b,j,k,l⟩|⟨i,m⟩
  ·have o:mn s=((bif a==114&&(ο (49<=b.toNat)&&ο (b.toNat<=57))then b.toNat-48 else 0:O):Z):=by unfold mn;rw[j,Me]
   rw[o,k,l,i];refine cL rfl (ag rfl (ay (λc=>Φ ⟨_,rfl,?_⟩) λc=>ag rfl (ay (λf=>Φ ⟨_,rfl,?_⟩) λf=>ag rfl (ay (λg=>Φ ⟨_,rfl,?_⟩) λg=>ag rfl (Φ ⟨_,rfl,?_⟩)))))
   ·have c:¬(a.toNat:Z)=114:=by simpa using c
    rw[show(a==114)=η from dT.2 λe=>c (by rw[e];rfl)];rfl
   ·have f:=aL f
    rw[show ο (49<=b.toNat)=η from eJ (by omega),ly,gP];rfl
   ·have g:=aL g
    rw[show ο (b.toNat<=57)=η from eJ (by omega),gP,gP];rfl
   ·have c:(a.toNat:Z)=114:=by simpa using c
    have f:=cE f;have g:=cE g;rw[show(a==114)=ε from ks.2 (H7.1 (by rw[show(114:ψ).toNat=114 from rfl];omega)),show ο (49<=b.toNat)=ε from bA (by omega),show ο (b.toNat<=57)=ε from bA (by omega)];rw[IntKind.wrap_u8,bR (by omega)];show γ (ι (((b.toNat:Z) -48)%256))=γ (ι (((b.toNat-48:O)):Z))
    rw[show((b.toNat:Z) -48)%256=((b.toNat-48:O):Z) by omega]
  ·rw[m]
   refine eS ?_ (Φ ⟨_,rfl,rfl⟩);simpa using λh:(s.size:Z)=2=>i (by omega)
 ·cases d
structure zV where
 T:E ψ
 r:χ (E (E ψ))
 d:κ
def cO:O->κ->E (E ψ)->E ψ->zV
 |0,_,_,a=>⟨a,ζ,η⟩
 |_+1,b,[],a=>⟨a,bif b||a.isEmpty then ζ else γ [],ε⟩
 |n+1,b,w::r,a=>
  bif gU w then(bif Δ 500 (a.length+1)then⟨a++w,ζ,η⟩else cO n b r (a++w))
  else bif Δ 0 (bT w)then
   (match(cO n ε r []).r with
   |none=>⟨a,ζ,η⟩
   |some c=>bif Δ 500 ((cO n ε r []).T.length*bT w)then⟨a,ζ,η⟩
    else bif Δ 500 (a++rep (bT w) (cO n ε r []).T).length then⟨a++rep (bT w) (cO n ε r []).T,ζ,η⟩
    else cO n b c (a++rep (bT w) (cO n ε r []).T))
  else bif w==[93]&&(b&& !a.isEmpty)then⟨a,γ r,η⟩else⟨a,ζ,η⟩
def Fu:∀(n:O)(br:κ)(ws:E (E ψ))(out:E ψ)(r:E (E ψ)),(cO n br ws out).r=γ r->r<:+ws/\((cO n br ws out).d=ε->r=[]):=by
 intro n;induction n with
 |zero=>intro br ws out r h;cases h
 |succ n e=>
  intro br ws out r h
  match ws with
  |[]=>
   unfold cO at h⊢;cases g:br||out.isEmpty with
   |true=>rw[g]at h;cases h
   |false=>rw[g]at h;cases h;exact⟨List.suffix_refl _,λ_=>rfl⟩
  |w::ws=>
   unfold cO at h⊢;cases i:gU w with
   |true=>
    rw[i,aZ]at h;simp only[aZ];cases c:Δ 500 (out.length+1)with
    |true=>rw[c]at h;cases h
    |false=>rw[c,a_]at h;simp only[a_];obtain⟨a,b⟩:=e _ _ _ _ h;exact⟨a.trans (DE _ _),b⟩
   |false=>
    rw[i,a_]at h;simp only[a_];cases j:Δ 0 (bT w)with
    |true=>
     rw[j,aZ]at h;simp only[aZ];cases f:(cO n ε ws []).r with
     |none=>rw[f]at h;cases h
     |some l=>
      rw[f]at h;simp only at h⊢;cases c:Δ 500 ((cO n ε ws []).T.length*bT w)with
      |true=>rw[c]at h;cases h
      |false=>
       rw[c,a_]at h;simp only[a_];cases d:Δ 500 (out++rep (bT w) (cO n ε ws []).T).length with
       |true=>rw[d]at h;cases h
       |false=>rw[d,a_]at h;simp only[a_];obtain⟨a,b⟩:=e _ _ _ _ h;exact⟨(a.trans (e _ _ _ _ f).1).trans (DE _ _),b⟩
    |false=>
     rw[j,a_]at h;simp only[a_];cases k:w==[93]&&(br&& !out.isEmpty)with
     |true=>rw[k]at h;cases h;exact⟨DE _ _,λh=>by cases h⟩
     |false=>rw[k]at h;cases h
def afh:∀(n m:O)(br:κ)(ws:E (E ψ))(out:E ψ),ws.length<n->ws.length<m->cO n br ws out=cO m br ws out:=by
 intro n;induction n with
 |zero=>intro m br ws out h;omega
 |succ n a=>
  intro m br ws out b c
  match m with
  |0=>omega
  |m+1=>
   match ws with
   |[]=>rfl
   |w::ws=>
    rw[cn]at b c;unfold cO;rw[a m br ws (out++w) (by omega) (by omega),a m ε ws [] (by omega) (by omega)];cases d:(cO m ε ws []).r with
    |none=>rfl
    |some e=>have:=(Fu _ _ _ _ _ d).1.length_le;simp only;rw[a m br e _ (by omega) (by omega)]
def dE(br:κ)(ws:E (E ψ))(out:E ψ):zV:=cO (ws.length+1) br ws out
def afm(br:κ)(out:E ψ):dE br [] out=⟨out,bif br||out.isEmpty then ζ else γ [],ε⟩:=rfl
def afj(br:κ)(w:E ψ)(r:E (E ψ))(out:E ψ):dE br (w::r) out=bif gU w then(bif Δ 500 (out.length+1)then⟨out++w,ζ,η⟩else dE br r (out++w))else bif Δ 0 (bT w)then(match(dE ε r []).r with
   |none=>⟨out,ζ,η⟩
   |some a=>bif Δ 500 ((dE ε r []).T.length*bT w)then⟨out,ζ,η⟩
    else bif Δ 500 (out++rep (bT w) (dE ε r []).T).length then⟨out++rep (bT w) (dE ε r []).T,ζ,η⟩
    else dE br a (out++rep (bT w) (dE ε r []).T))else bif w==[93]&&(br&& !out.isEmpty)then⟨out,γ r,η⟩else⟨out,ζ,η⟩:=by
 unfold dE;rw[cn];show cO ((r.length+1)+1) br (w::r) out=_
 rw[cO];cases b:(cO (r.length+1) ε r []).r with
 |none=>rfl
 |some a=>have:=(Fu _ _ _ _ _ b).1.length_le;simp only;rw[afh (r.length+1) (a.length+1) br a _ (by omega) (by omega)]
def afl{br:κ}{ws:E (E ψ)}{out:E ψ}{r:E (E ψ)}(h:(dE br ws out).r=γ r):r<:+ws:=(Fu _ _ _ _ _ h).1
def Gg:∀{w:E ψ},gU w=ε->w.length=1
 |[_],_=>rfl
def afi:∀(n:O)(br:κ)(ws:E (E ψ))(out:E ψ),out.length<=500->(cO n br ws out).T.length<=1000/\((cO n br ws out).r.isSome=ε->(cO n br ws out).T.length<=500):=by
 intro n;induction n with
 |zero=>intro br ws out h;exact⟨by show out.length<=1000;omega,λh=>by cases h⟩
 |succ n c=>
  intro br ws out d
  match ws with
  |[]=>exact⟨by show out.length<=1000;omega,λ_=>d⟩
  |w::ws=>
   unfold cO;cases f:gU w with
   |true=>
    have i:=Gg f;simp only[aZ];cases a:Δ 500 (out.length+1)with
    |true=>simp only[aZ,cv];exact⟨by omega,λh=>by cases h⟩
    |false=>
     simp only[a_];have:¬500<out.length+1:=λh=>by rw[show Δ 500 (out.length+1)=ε from by rw[bS];exact h]at a;cases a
     exact c _ _ _ (by rw[cv];omega)
   |false=>
    simp only[a_];cases j:Δ 0 (bT w)with
    |true=>
     simp only[aZ];cases k:(cO n ε ws []).r with
     |none=>exact⟨by show out.length<=1000;omega,λh=>by cases h⟩
     |some l=>
      simp only;cases a:Δ 500 ((cO n ε ws []).T.length*bT w)with
      |true=>exact⟨by show out.length<=1000;omega,λh=>by cases h⟩
      |false=>
       simp only[a_];have g:¬500<(cO n ε ws []).T.length*bT w:=λh=>by rw[show Δ 500 ((cO n ε ws []).T.length*bT w)=ε from by rw[bS];exact h]at a;cases a
       cases b:Δ 500 (out++rep (bT w) (cO n ε ws []).T).length with
       |true=>simp only[aZ];refine⟨?_,λh=>by cases h⟩;rw[cv,yJ,r8];omega
       |false=>
        simp only[a_];have e:¬500<(out++rep (bT w) (cO n ε ws []).T).length:=λh=>by rw[show Δ 500 (out++rep (bT w) (cO n ε ws []).T).length=ε from by rw[bS];exact h]at b;cases b
        exact c _ _ _ (by omega)
    |false=>
     simp only[a_];cases w==[93]&&(br&& !out.isEmpty)with
     |true=>exact⟨by show out.length<=1000;omega,λ_=>d⟩
     |false=>exact⟨by show out.length<=1000;omega,λh=>by cases h⟩
def St(br:κ)(ws:E (E ψ)):(dE br ws []).T.length<=1000/\((dE br ws []).r.isSome=ε->(dE br ws []).T.length<=500):=afi _ _ _ _ (eF _)
def aff:∀(n:O)(br:κ)(ws:E (E ψ))(out:E ψ),(cO n br ws out).d=ε->(cO n br ws out).r=bif br||(cO n br ws out).T.isEmpty then ζ else γ []:=by
 intro n;induction n with
 |zero=>intro br ws out h;cases h
 |succ n c=>
  intro br ws out h
  match ws with
  |[]=>rfl
  |w::ws=>
   unfold cO at h⊢;cases d:gU w with
   |true=>
    rw[d]at h;simp only[aZ]at h⊢;cases a:Δ 500 (out.length+1)with
    |true=>rw[a]at h;cases h
    |false=>rw[a]at h;simp only[a_]at h⊢;exact c _ _ _ h
   |false=>
    rw[d]at h;simp only[a_]at h⊢;cases e:Δ 0 (bT w)with
    |true=>
     rw[e]at h;simp only[aZ]at h⊢;cases f:(cO n ε ws []).r with
     |none=>rw[f]at h;cases h
     |some i=>
      rw[f]at h;simp only at h⊢;cases a:Δ 500 ((cO n ε ws []).T.length*bT w)with
      |true=>rw[a]at h;cases h
      |false=>
       rw[a]at h;simp only[a_]at h⊢;cases b:Δ 500 (out++rep (bT w) (cO n ε ws []).T).length with
       |true=>rw[b]at h;cases h
       |false=>rw[b]at h;simp only[a_]at h⊢;exact c _ _ _ h
    |false=>
     rw[e]at h;simp only[a_]at h⊢;cases g:w==[93]&&(br&& !out.isEmpty)with
     |true=>rw[g]at h;cases h
     |false=>rw[g]at h;cases h
def KC{br:κ}{ws:E (E ψ)}{out:E ψ}(h:(dE br ws out).d=ε):(dE br ws out).r=bif br||(dE br ws out).T.isEmpty then ζ else γ []:=aff _ _ _ _ h
def afg:∀(n:O)(br:κ)(ws:E (E ψ))(out:E ψ),ws.length<n->out.length<=500->(br=η->ws≠ []\/out≠ [])->flat n br ws out=(cO n br ws out).r.map λr=>((cO n br ws out).T,r):=by
 intro n;induction n with
 |zero=>intro br ws out h;omega
 |succ n b=>
  intro br ws out k t l
  match ws with
  |[]=>
   unfold flat cO;cases br with
   |true=>rfl
   |false=>
    have h:=(l rfl).resolve_left λh=>h rfl
    cases out with
    |nil=>exact aO rfl h
    |cons=>rfl
  |w::ws=>
   rw[cn]at k;unfold flat cO;cases m:gU w with
   |true=>
    have c:=Gg m;simp only[aZ,c];by_cases d:out.length+1<=500
    ·rw[show Θ (out.length+1) 500=ε from by rw[aT];exact d,show Δ 500 (out.length+1)=η from by cases e:Δ 500 (out.length+1)with|false=>rfl|true=>rw[bS]at e;omega]
     simp only[aZ,a_];exact b _ _ _ (by omega) (by rw[cv];omega) λ_=>.inr λe=>by rw[ZX]at e;rw[e.2]at c;cases c
    ·rw[show Θ (out.length+1) 500=η from by cases e:Θ (out.length+1) 500 with|false=>rfl|true=>rw[aT]at e;omega,show Δ 500 (out.length+1)=ε from by rw[bS];omega]
     rfl
   |false=>
    simp only[a_];cases f:Δ 0 (bT w)with
    |true=>
     have a:bT w≠0:=by rw[bS]at f;omega
     have o:(w==[93])=η:=dT.2 λe=>a (by rw[e];rfl)
     rw[o,a_,show ai (bT w) 0=η from by cases e:ai (bT w) 0 with|false=>rfl|true=>exact aO (ci e) a];simp only[a_,aZ];rw[b ε ws [] (by omega) (eF _) (λh=>by cases h)];cases j:(cO n ε ws []).r with
     |none=>rfl
     |some u=>
      have g:(cO n ε ws []).T≠ []:=by have:=b ε ws [] (by omega) (eF _) (λh=>by cases h);rw[j]at this;exact((Fw this).2 rfl).1
      have p:=(Fu _ _ _ _ _ j).1.length_le;simp only[Option.map_some];have q:=yJ (bT w) (cO n ε ws []).T;have i:=WL a g;have s:=r8 (bT w) (cO n ε ws []).T.length;by_cases d:out.length+bT w*(cO n ε ws []).T.length<=500
      ·rw[show Θ (out.length+bT w*(cO n ε ws []).T.length) 500=ε from by rw[aT];exact d,show Δ 500 ((cO n ε ws []).T.length*bT w)=η from by cases e:Δ 500 ((cO n ε ws []).T.length*bT w)with|false=>rfl|true=>rw[bS]at e;omega,show Δ 500 (out++rep (bT w) (cO n ε ws []).T).length=η from by cases e:Δ 500 (out++rep (bT w) (cO n ε ws []).T).length with|false=>rfl|true=>rw[bS,cv]at e;omega]
       simp only[aZ,a_];exact b _ _ _ (by omega) (by rw[cv];omega) λ_=>.inr λe=>i (ZX.1 e).2
      ·rw[show Θ (out.length+bT w*(cO n ε ws []).T.length) 500=η from by cases e:Θ (out.length+bT w*(cO n ε ws []).T.length) 500 with|false=>rfl|true=>rw[aT]at e;omega]
       simp only[a_];cases Δ 500 ((cO n ε ws []).T.length*bT w)with
       |true=>rfl
       |false=>rw[show Δ 500 (out++rep (bT w) (cO n ε ws []).T).length=ε from by rw[bS,cv];omega];rfl
    |false=>
     have a:bT w=0:=by
      rcases pB (bT w)with h|h
      ·exact h
      ·rw[show Δ 0 (bT w)=ε from by rw[bS];exact h]at f;cases f
     rw[a];cases w==[93]with
     |true=>simp only[aZ,a_,dD];cases br&& !out.isEmpty<;>rfl
     |false=>rfl
def afk{br:κ}{ws:E (E ψ)}(h:br=η->ws≠ []):fl br ws []=(dE br ws []).r.map λr=>((dE br ws []).T,r):=afg _ _ _ _ (ft _) (eF _) λe=>.inl (h e)
def pN(a:O->(O->E τ)->Z->κ->O)(c:O->(O->E τ)->Z->κ->O->ρ)(d:O->(O->E τ)->Z->κ->Z)(e:O->(O->E τ)->Z->κ->κ):E SA->χ FR
 |[.row n g,.v (.int .i64 i),.v (.bool b)]=>γ {val:=.Ψ [.own 0 (a n g i b),.v (ι (d n g i b))],new:=[.row ε (a n g i b) 1 (λj=>[.string (c n g i b j)]) 9],ap:=[e n g i b]}
 |_=>ζ
abbrev rA:E Md:=[.rd 1 9,.val,.val]
def xD(is:ρ->κ)(a:ρ->Z)(b:O->(O->E τ)->Z->κ->O)(c:O->(O->E τ)->Z->κ->O->ρ)(d:O->(O->E τ)->Z->κ->Z)(e:O->(O->E τ)->Z->κ->κ):aE:=
 ext (ext (ext g0 235 (aS (Ji is))) 234 (aS (I3 a))) 177 (am rA (pN b c d e))
abbrev u7:Ex->E O:=cx [0,1,2,8] [1,2,8] [6,7]
abbrev BH:Ex->E O:=cx [0,2,8,10,11,12,13] [0,2,8,12] [6,7]
abbrev m7(n:O)(ws:E ρ)(m:O)(x:O->ρ):E AB:=[.row η n 1 (ey ws) 9,.row ε m 1 (λj=>[.string (x j)]) 9]
abbrev y6(n i:O)(b:κ)(m:O):E AV:=[.sl 0 1 0 0 n ζ,.v (ι i),.v (.bool b),.own 1 m]
abbrev uW(n:O)(ws:E ρ)(m:O)(x:O->ρ)(a:O)(b:O->ρ):E AB:=[.row η n 1 (ey ws) 9,.row ε m 1 (λj=>[.string (x j)]) 9,.row ε a 1 (λj=>[.string (b j)]) 9]
abbrev vL(n:O)(b:κ)(m:O)(k:Z)(a:O)(e:Z)(j:O):E AV:=[.sl 0 1 0 0 n ζ,.v (.bool b),.own 1 m,.v (ι k),.own 2 a,.v (ι e),.v (ι j)]
def amS(n:O)(ws:E ρ)(b:κ)(m:O)(x:O->ρ)(k:Z)(a:O)(c:O->ρ)(e:Z)(j:O):let d:=AB.row η n 1 (ey ws) 9;let f:=AV.sl 0 1 0 0 n ζ;a0 θ g0 200 K (a4 3 wv) (aw 0 91 ((BH .normal).zip (vL n b m k a e j))) (uW n ws m x a c) (cJ 91 BH 1)
 =bif ο ((↑j:Z)<k)then Ω [Θ m m,Θ (m+a) 549755813888,Θ a a] (ao.out .normal [f,AV.v (.bool b),AV.own 1 (m+a),vI k,AV.own 2 a,vI e,vI (aj .i64 ((↑j:Z)+(1:Z)))] [d,AB.row ε (m+a) 1 (λq=>[cZ (bif Δ q m then x q else c (q-m))]) 9,AB.row ε a 1 (λj=>[cZ (c j)]) 9])else ao.out (Ex.exit 3) [f,AV.v (.bool b),AV.own 1 m,vI e] [d,AB.row ε m 1 (λj=>[cZ (x j)]) 9]:=by intros;kernel_rfl
noncomputable abbrev LN(n:O)(ws:E ρ)(b:κ)(m:O)(x:O->ρ)(k:Z)(c:O)(f:O->ρ)(e:Z)(d:O)(g:O->ρ):O->χ Sum:=bJ 3 (bD 91 (BH .normal) 1 (vL n b m k c e 0) (uW n ws m x c f) (λa=>a .normal (aw 0 91 [(0,.sl 0 1 0 0 n ζ),(2,.v (.bool b)),(8,.own 1 d),(12,.v (ι e))]) (m7 n ws d g)))
def amT(is:ρ->κ)(u:ρ->Z)(A:O->(O->E τ)->Z->κ->O)(B:O->(O->E τ)->Z->κ->O->ρ)(w:O->(O->E τ)->Z->κ->Z)(C:O->(O->E τ)->Z->κ->κ)(n:O)(ws:E ρ)(i:O)(b:κ)(m:O)(x:O->ρ)(k:Z)(y:O)(D:O->ρ)(e:Z)(s:O)(G:O->ρ):let v:=AB.row η n 1 (ey ws) 9;let H:=[v,AB.row ε s 1 (λj=>[cZ (G j)]) 9];let I:=AB.row ε m 1 (λj=>[cZ (x j)]) 9;let r:=(↑i:Z);let g:=AV.sl 0 1 0 0 n ζ;let d:=AV.v (.bool b);let f:=AV.own 1 m;let h:=vI (-1:Z);let a:=(m+1);let l:=(500:Z);let o:=[v,I];let p:=(aj .i64 (r+(1:Z)));let L:=(0+a5 r);let t:=[f,h];let M:=[v,AB.row ε a 1 (λq=>[cZ (bif Δ q m then x q else et ws L)]) 9];let z:=(A n (λq=>ey ws (0+q)) p ε);let c:=(et ws L);a0 θ (xD is u A B w C) 200 (LN n ws b m x k y D e s G) (a4 0 wv) (aw 0 91 ((u7 .normal).zip (y6 n i b m))) (m7 n ws m x) (cJ 91 u7 1)
 =bif ο (r<(↑n:Z))then Ω [ο (r<(↑n:Z)),ο (0+a5 r<n)] (bif is c then Ω [Θ m m,Θ a 549755813888] (bif ο ((↑a:Z)>l)then rO [AV.own 1 a,h] M else ao.out .normal [g,vI p,d,AV.own 1 a] M)else bif ο (u c> (0:Z))then Ω [Θ (0+n) n,C n (λq=>ey ws (0+q)) p ε] (bif ο (w n (λq=>ey ws (0+q)) p ε<(0:Z))then rO t o else bif ο (aj .i64 ((↑z:Z)*u c)>l)then rO t o else Ω [cw ([g,d,f,vI (u c),AV.own 2 z,vI (w n (λq=>ey ws (0+q)) p ε),vI 0]=vL n b m k y e 0/\ab [v,I,AB.row ε z 1 (λj=>[cZ (B n (λq=>ey ws (0+q)) p ε j)]) 9] (uW n ws m x y D))] (bif ο ((↑s:Z)>l)then rO [AV.own 1 s,h] H else ao.out .normal [g,vI e,d,AV.own 1 s] H))else bif cK c (a8 (bj [(93:ψ)]))then bif b then bif ο ((m:Z)> (0:Z))then rO [f,vI p] o else rO t o else rO t o else rO t o)else ao.out (Ex.exit 0) [vI r,d,f] o:=by intros;kernel_rfl
noncomputable abbrev LO(n:O)(ws:E ρ)(d:O->ρ)(i:O)(b:κ)(c:κ)(m:O)(x:O->ρ)(e:Z):O->χ Sum:=bJ 0 (bD 91 (u7 .normal) 1 (y6 n i b 0) (m7 n ws 0 d) (λa=>cond c (a .normal (aw 0 91 [(1,.v (ι n)),(2,.v (.bool b)),(8,.own 1 m)]) (m7 n ws m x)) (a .ret (aw 0 91 [(6,.own 1 m),(7,.v (ι e))]) (m7 n ws m x))))
def aq0(is:ρ->κ)(h:ρ->Z)(k:O->(O->E τ)->Z->κ->O)(l:O->(O->E τ)->Z->κ->O->ρ)(o:O->(O->E τ)->Z->κ->Z)(p:O->(O->E τ)->Z->κ->κ)(n:O)(ws:E ρ)(d:O->ρ)(i:O)(b c:κ)(m:O)(x:O->ρ)(e:Z):let f:=[AV.Ψ [AV.own 1 m,vI (-1:Z)]];let g:=AB.row η n 1 (ey ws) 9;let a:=[g,AB.row ε m 1 (λj=>[cZ (x j)]) 9];ad θ (xD is h k l o p) (LO n ws d i b c m x e) 200 wv [.sl 0 1 0 0 n ζ,.v (ι i),.v (.bool b)] [.row η n 1 (ey ws) 9] (af 1)
 =Ω [cw ([AV.sl 0 1 0 0 n ζ,vI (↑i:Z),AV.v (.bool b),AV.own 1 0]=y6 n i b 0/\ab [g,AB.row ε 0 1 (λ_=>[]) 9] (m7 n ws 0 d))] (bif c then bif b then rO f a else bif (m:Z)==(0:Z)then rO f a else rO [AV.Ψ [AV.own 1 m,vI (↑n:Z)]] a else rO [AV.Ψ [AV.own 1 m,vI e]] a):=by intros;kernel_rfl
def c8(T:E ψ)(j:O):ρ:=⟨[T.getD j 0].toArray⟩
def We{A B:E ψ}{q:O}(_:q<A.length+B.length):(bif Δ q A.length then c8 A q else c8 B (q-A.length))=c8 (A++B) q:=by
 unfold c8;by_cases h:q<A.length
 ·rw[show Δ q A.length=ε from by rw[bS];exact h,aZ]
  rw[cq,cq,List.getElem?_append_left h]
 ·rw[show Δ q A.length=η from by cases e:Δ q A.length with|false=>rfl|true=>rw[bS]at e;omega,a_]
  rw[cq,cq,List.getElem?_append_right (by omega)]
def alC{A:E ψ}{w:ρ}{q:O}(a:w.data.toList.length=1)(d:q<A.length+1):(bif Δ q A.length then c8 A q else w)=c8 (A++w.data.toList) q:=by
 have b:w=c8 w.data.toList 0:=by
  match e:w.data.toList,a with
  |[c],_=>apply pR;rw[e];rfl
 have:=We (A:=A) (B:=w.data.toList) (q:=q) (by omega);rw[<-this];by_cases h:q<A.length
 ·rw[show Δ q A.length=ε from by rw[bS];exact h]
  rfl
 ·rw[show Δ q A.length=η from by cases e:Δ q A.length with|false=>rfl|true=>rw[bS]at e;omega,a_,a_,show q-A.length=0 by omega]
  exact b
abbrev cX(ws:E ρ):E (E ψ):=ws.map (·.data.toList)
def iq(n:O)(g:O->E τ)(i:Z)(b:κ):zV:=dE b ((cX (strs g n)).drop i.toNat) []
def pV(n:O)(r:χ (E (E ψ))):Z:=match r with
 |none=> -1
 |some r=>((n-r.length:O):Z)
def j_(n:O)(g:O->E τ)(i:Z)(b:κ):O:=(iq n g i b).T.length
def kz(n:O)(g:O->E τ)(i:Z)(b:κ)(j:O):ρ:=c8 (iq n g i b).T j
def ky(n:O)(g:O->E τ)(i:Z)(b:κ):Z:=pV n (iq n g i b).r
def jI(k n:O)(g:O->E τ)(i:Z)(_:κ):κ:=nP n g&&(Θ n 1000&&(ο (0<=i)&&(ο (i<=n)&&Δ (n-i.toNat) k)))
def N2{n:O}{ws:E ρ}(h:ws.length=n):strs (λq=>ey ws (0+q)) n=ws:=by
 subst h;apply O4
 ·simp[strs]
 ·intro i b a
  simp[strs,ey,et,y',a]
def abd(n:O)(ws:E ρ):nP n (λq=>ey ws (0+q))=ε:=bX.2 λ_ _=>rfl
def aoP(n:O)(ws:E ρ)(b:κ)(A B:E ψ)(k:O)(e:Z)(s:k<=9)(t:A.length<=500)(l:B.length<=1000):cp θ 1 (.block 3 (.loop (a4 3 wv))) (bD 91 (BH .normal) 1 (vL n b A.length k B.length e 0) (uW n ws A.length (c8 A) B.length (c8 B)) (λa=>a .normal (aw 0 91 [(0,.sl 0 1 0 0 n ζ),(2,.v (.bool b)),(8,.own 1 (A++rep k B).length),(12,.v (ι e))]) (m7 n ws (A++rep k B).length (c8 (A++rep k B))))):=by
 have h:A++rep 0 B=A:=by simp[rep]
 have d:(vL n b A.length k B.length e 0)=vL n b (A++rep 0 B).length k B.length e (0:O):=by rw[h]
 have f:uW n ws A.length (c8 A) B.length (c8 B)=uW n ws (A++rep 0 B).length (c8 (A++rep 0 B)) B.length (c8 B):=by rw[h]
 rw[d,f];refine dQ bt (n:=200) (m:=1) (lv:=BH) (λj=>vL n b (A++rep j B).length k B.length e j) (λj=>uW n ws (A++rep j B).length (c8 (A++rep j B)) B.length (c8 B)) (λ_=>True) k (λ_=>K) (du rfl rfl rfl) (aR _) trivial λa Q g j v o=>⟨cT _ _ _,?_⟩
 rw[amS];refine ay (λc=>?_) λc=>?_
 ·have c:=aL c
  have w:(A++rep j B).length<=10000:=by rw[cv,yJ];have:=pD (show j<=9 by omega) l;omega
  have i:A++rep (j+1) B=(A++rep j B)++B:=by rw[amk,List.append_assoc]
  have p:aj a7 ((j:Z)+1)=((j+1:O):Z):=by rw[bR (by omega)];omega
  rw[p];refine ag (by simp only[F,ah,aa,aT];omega) (Φ ⟨j+1,⟨rfl,by omega,trivial⟩,?_,?_⟩)
  ·simp only[i,cv]
  ·simp only[i,cv]
   refine .cons (Ξ.refl _) (.cons (Ξ.row λq r=>?_) (.cons (Ξ.refl _) .nil));have:=We (A:=A++rep j B) (B:=B) (q:=q) (by simpa using r);rw[cv]at this;rw[this]
 ·have c:=cE c
  have:j=k:=by omega
  subst this;refine Φ ⟨_,ab.refl _,?_⟩;rw[aP rfl];exact g
end
end Go.Proofs.YtlmbkhplhkdhlaaGreatDoor
