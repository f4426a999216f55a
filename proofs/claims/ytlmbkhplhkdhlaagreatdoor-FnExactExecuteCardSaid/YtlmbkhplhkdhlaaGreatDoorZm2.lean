/- Part 2 of the proof of FnExactExecuteCard. -/
import Derived.Test.YtlmbkhplhkdhlaaGreatDoorZm1
import Derived.Shelf.Strings.Cut
import Derived.Shelf.Strings.Split
import Derived.Shelf.Strconv.AtoiAll
import Derived.Shelf.Strings.Search3
import Derived.Laws.Strings
import Derived.LoopTactic
import Derived.Lib.ConvBytes
import Derived.Shelf.Small.Wraps
import Derived.OwnWalk
import Derived.Lib.ItoaLen
import Derived.LaidEql
import Derived.Stop.Asserts
import Derived.RowKitTokens
set_option maxRecDepth 100000
set_option maxHeartbeats 8000000
set_option linter.defProp false
set_option linter.unusedVariables false
set_option linter.unusedSimpArgs false
open Go renaming Act→aV,Addr→c9,Calls→aH,Code→a9,Ending→jt,Exit→dj,Func→cA,FuncId→bq,method→Hx,Oper→a6,Operand→cS,Program→aF,SeqStopsK→wu,TypeId→ae,Value→τ,World→υ,bodyPostM→wy,callFunc→g_,callsIn_wide→Qk,cell_of_row→gR,execOp→dl,grownBy_putObj'→sf,heap_alloc_new→aaT,loadVar→uc,maxLen→jv,resolve→kt,rounds_succ→oL,run_callFunc_extern→mR,run_endLoop→Qo,step→jU,storeVar→If,undef→aX,underlying→Ig,wpIn_block→zP,wpIn_cond_true→aaV,wpIn_mono→ku,wpIn_seq→jw,wpOp→lD,wpOpIn→uf,wpOps→sj,wpOpsIn_cons→ug,wp_loop_rounds→oM
open Go.Act renaming put→jb
open Go.Addr renaming add→zm
open Go.Proofs.Any renaming strings_Split→OF
open _root_ renaming Array→aU,Bool→κ,ByteArray→ρ,Int→Z,List→E,Nat→O,Option→χ,UInt8→ψ,absurd→aO,and_true→aa,beq_eq_false_iff_ne→dT,cond_false→a_,cond_true→aZ,decide_eq_false→eJ,decide_eq_true→bA,decide_eq_true_eq→aB,false_imp_iff→H_,getElem!_pos→wB,guard→pJ,if_false→sh,if_neg→bi,if_pos→aP,if_true→qN,implies_true→Ib,of_decide_eq_false→cE,of_decide_eq_true→aL,or_false→nM,true_and→bo
open Array renaming ext'→fV,getD_eq_getD_getElem?→qE,getElem?_eq_some_iff→cm,getElem?_modify→zn,length_toList→lx,mk→bj,toArray_toList→OK
open Go.RowKit.Below renaming heap_alloc→gj,heap_setCell→kj,refl→tO
open BitVec renaming ofInt→px,toNat→OL
open Bool renaming and_eq_true→aM,and_false→gP,eq_iff_iff→kk,false_and→ly,false_eq_true→r6,false_or→Hq,not_eq_false'→nC,not_eq_true'→it,not_true→zo,or_true→OM,true_and→dD,false→η,true→ε
open Go.Builtin renaming append_→qF
open ByteArray renaming empty→atv,extract→Hr,mk→a8,size→aW,size_extract→zp
open Go.ByteArray renaming toList_eq→qG
open Go.Code renaming block→Zv,cond→Dm,region→Ht,seq→v5
open Go.Deferred renaming ofValue→Dn
open Go.Exit renaming inBlock→oB
open Go.FloatKind renaming f32→bQ
open Function renaming comp→Hw
open Go.Shelf renaming Ren→mJ
open Ieee.Format renaming mul→atA,nearest→ZC,read→OR,word→ZD
open Ieee.Toward renaming cut→OS,even→Hy
open Ieee renaming signed→iC
open Go.Instr renaming makeSlice→ZG,typeAssert→zt
open Int renaming mul_nonneg→Ds,natAbs_tmod→ZL,one_mul→zu,pow_succ→OX,tdiv→eU,tmod→mK,toNat→a5,toNat_natCast→cY
open Go.IntKind renaming i64→a7,u32→OZ,u8→oC,wrap→aj
open Go.Lib renaming atoiAll→Du,bytesWorld→wb,countB→zv,countB_le→ZQ,cut→e_,decDigits→gB,extract_data→ZR,hasPrefix→O2,itoa→bc,join→iD,joinTail→lY,join_cons→tR,join_nil→ZT,splitB→zw,trimPrefix→wg
open List.Pairwise renaming filter→ZV,nil→wh
open List renaming all_append→gC,all_cons→gl,all_eq_true→bX,all_map→Dx,append_assoc→lZ,cons_append→oD,drop_drop→zx,drop_eq_getElem_cons→DA,forall_mem_cons→HF,getD_cons_succ→DB,getD_cons_zero→zB,getD_eq_getElem?_getD→cq,getD_nil→Z3,getElem?_append_left→km,getElem?_drop→pA,getElem?_eq_getElem→cV,getElem?_eq_none→l0,getElem?_eq_some_iff→eV,getElem?_take→mL,getElem?_toArray→tV,getElem_map→HI,getElem_mem→ko,length→b_,length_append→cv,length_cons→cn,length_drop→oF,length_map→cC,length_nil→gm,length_take→oG,map→Pd,map_append→iN,map_congr_left→wk,map_cons→eD,map_id→Pe,map_map→qH,map_nil→kp,mem_append→nD,mem_cons→dw,mem_cons_of_mem→lB,mem_cons_self→je,mem_filter→Z8,mem_iff_getElem?→HJ,mem_map→fX,mem_of_getElem?→g8,mem_range→mM,mem_singleton→mN,nil_append→mO,not_mem_nil→kq,range→dH,range'→tW,range'_succ→Z',replicate→ez,take_add_one→Pg,take_append_drop→aab,take_length→DF,take_of_length_le→oH,take_succ_eq_append_getElem→wl,toArray→qI
open List.cons renaming injEq→lA
open Nat renaming add_mul→fN,add_right_comm→Pj,add_zero→iu,beq→ai,ble→Θ,ble_eq→aT,blt→Δ,blt_eq→bS,eq_of_beq_eq_true→ci,eq_zero_or_pos→pB,gcd→zE,le_of_lt→HM,le_refl→aR,le_trans→cD,lt_of_lt_of_le→eE,lt_or_ge→nG,lt_succ_self→ft,mod_lt→r7,mul_lt_mul_of_pos_right→DK,mul_one→qJ,ne_of_lt→aan,not_le→fY,not_lt_zero→cN,pow_add→jT,pow_le_pow_right→oI,pow_succ→HO,pow_zero→zG,reduceAdd→zH,shiftLeft_eq→tZ,two_pow_pos→nH,zero_add→bF,zero_le→eF,zero_lt_one→nI
open Go.Obj.cells renaming injEq→qK
open Go.Oper renaming semAt_none→aaq,upon→wq,wp→nJ
open Option renaming getD_some→g9,map_eq_some_iff→dt,none→ζ,some→γ
open Option.some renaming inj→t_,injEq→ar
open Prod.mk renaming injEq→cG
open Go.Extern.ReflectliteType renaming abiMethod→aar,assignableTo→Po,elem→atY,implements_→atZ,method→at0,relation→DO,toType→at1,typeOf→Pp
open Go.Extern.ReflectliteValue renaming elem→aas,flagAddr→aat,isNil→aau,method→HU,methodAny→at2,mk→auU,parts→DP,set→aav,unpack→HV,valueError→DQ
open Go.Region renaming ready→l7,wanted→nK
open Go.Result renaming andThen→DS
open Go.Extern.Rtype renaming directlyAssignable→auc,kind→Pr
open Go.Sem renaming run_bind→fO
open Go.Proofs.Tryz renaming f142→Pz,f143→PA,f187→PG,f218→DU,f46→zN,f90→PP,f91→PQ,f93→PR,f94→PS,func122→PX,func134→PZ,func201→H4,func202→aaB,func243→P2,func269→aaC,func62→P7,func68→aaI,func75→aaJ,ntmps134→aaL,ntmps201→P',ntmps243→Qa,prog→θ,underlying38→r_
open UInt8 renaming ofNat→mQ
open Go.Value renaming int→jf,slice→dk,string→cZ
open Go.Value.slice renaming injEq→aue
open Go.World renaming alloc_heap_new→l8,cell?→pI,cell?_alloc_at→sb,cell?_alloc_lt→fu,cell?_of_block→nL,frozen?_alloc_old→H8,grownBy_alloc→fk,putObj→aaQ,putObj_heap_other→qM,putObj_heap_same→Qi,setCell→l9
open Decidable renaming decide→ο
open Go.Proofs.Tryz
namespace Go.Proofs.YtlmbkhplhkdhlaaGreatDoor
noncomputable section
open Go.RowKit Go.Shelf Go.ChangeShapes Go.WideShapes Go.ChangeAt Go.Deep Go.Extern.Stop Go.Stop Go.Extern
def ot(s:ρ)(c:Z)(i:O)(p:E ρ×O):E ρ×O:=bif ((i:Z)==(s.size:Z))||(ce s i==c)then(p.1++[s.extract p.2 i],i+1)else p
def ca(s:ρ)(c:Z):O->E ρ×O
 |0=>([],0)
 |i+1=>ot s c i (ca s c i)
def ev(s:ρ)(c:Z):E ρ:=(ca s c (s.size+1)).1
def qV(s:ρ)(c:Z):∀i:O,(ca s c i).1.length<=i/\(ca s c i).2<=i
 |0=>⟨aR _,aR _⟩
 |i+1=>by
  have h:=qV s c i;unfold ca ot;cases((i:Z)==(s.size:Z))||(ce s i==c)with
  |true=>simp only[aZ,cv,cn,gm];omega
  |false=>simp only[a_];omega
def G0(ws:E ρ)(x:ρ)(i:O)(a:ws.length=i):∀q,q<i+1->[cZ (bif Δ q i then et ws q else x)]=ey (ws++[x]) q:=λq b=>Yd ws x i a q b
def aoJ(s:ρ)(c:Z)(hs:s.size<4294967281):cp θ 0 (.block 0 (.loop (a4 0 PR))) (bD 36 (BC .normal) 0 (CS s c 0 0 0) (ml 0 []) (λa=>a .normal (aw 0 36 [(5,.own 0 (ev s c).length)]) (ml (ev s c).length (ev s c)))):=by
 refine dQ bt (n:=200) (m:=0) (lv:=BC) (λi=>CS s c (ca s c i).1.length ((ca s c i).2:O) i) (λi=>ml (ca s c i).1.length (ca s c i).1) (λ_=>True) (s.size+1) (λ_=>K) (du rfl rfl rfl) (aR _) trivial λa Q k i v l=>⟨cT _ _ _,?_⟩
 have o:=qV s c i;rw[amM];refine ay (λb=>?_) λb=>?_
 ·have b:=aL b
  have p:aj a7 ((i:Z)+1)=((i+1:O):Z):=by rw[bR (by omega)];omega
  rw[p,cY,cY];have j:(((i:Z)==(s.size:Z))||(ce s i==c))=ε->ca s c (i+1)=((ca s c i).1++[s.extract (ca s c i).2 i],i+1):=λh=>by rw[ca,ot,h];rfl
  have r:(((i:Z)==(s.size:Z))||(ce s i==c))=η->ca s c (i+1)=ca s c i:=λh=>by rw[ca,ot,h];rfl
  refine ay (λd=>?_) λd=>ag ?_ (ay (λf=>?_) λf=>?_)
  ·refine ag (by simp only[F,ah,aa,aB,aT];omega) (Φ ⟨i+1,⟨rfl,by omega,trivial⟩,?_⟩)
   have e:=j (by rw[d];rfl);simp only[e,cv,cn,gm];refine⟨trivial,.cons (Ξ.row λq g=>G0 _ _ _ rfl q g) .nil⟩
  ·have t:(i:Z)≠s.size:=by simpa using d
   simp only[F,ah,aa,aB];omega
  ·refine ag (by simp only[F,ah,aa,aB,aT];omega) (Φ ⟨i+1,⟨rfl,by omega,trivial⟩,?_⟩)
   have e:=j (by rw[f,OM]);simp only[e,cv,cn,gm];refine⟨trivial,.cons (Ξ.row λq g=>G0 _ _ _ rfl q g) .nil⟩
  ·refine Φ ⟨i+1,⟨rfl,by omega,trivial⟩,?_⟩
   have e:=r (by rw[d,f];rfl);simp only[e];exact⟨trivial,ab.refl _⟩
 ·have b:=cE b
  have:i=s.size+1:=by omega
  subst this;refine Φ ⟨_,ab.refl _,?_⟩;rw[aP rfl];exact k
def bG(s:ρ)(c:Z)(j:O):ρ:=et (ev s c) j
def cH(s:ρ)(c:Z):O:=(ev s c).length
def Eg(g:ρ->Z->O->ρ)(n:ρ->Z->O):E SA->χ FR
 |[.v (.string s),.v (.int .u8 c)]=>γ {val:=.own 0 (n s c),new:=[.row ε (n s c) 1 (λj=>[.string (g s c j)]) 9],ap:=[Δ s.size 4294967281]}
 |_=>ζ
def VM:au θ 93 (am [.val,.val] (Eg bG cH)):=by
 refine bY bt func93 rfl λd f a b=>?_
 unfold Eg at a;split at a
 ·rename_i s c
  cases a;simp only[F,ah,aa,bS]at b;refine⟨[],LI s c (ev s c).length (ev s c),200,ab.refl _,cz (by kernel_rfl) (aoJ s c b),?_⟩;show aC (ad θ g0 (LI s c (ev s c).length (ev s c)) 200 PR [.v (.string s),.v (.int .u8 c)] [] (af 0)) _
  rw[aqu];refine ag ?_ (Φ ⟨_,rfl,rfl,ab.refl _⟩);simp only[F,ah,aa];exact cg ⟨trivial,(.cons (Ξ.row λj e=>aO e (cN _)) .nil)⟩
 ·cases a
def dA(s:ρ):O->Z×Z
 |0=>(0,1)
 |i+1=>bif ai i 0&&(ce s i==45)then((dA s i).1,-1)else bif ο (48<=ce s i)&&ο (ce s i<=57)then(10*(dA s i).1+(ce s i-48),(dA s i).2)else dA s i
def iy(s:ρ):O:=min s.size 9
def i3(s:ρ):Z:=(dA s (iy s)).2*(dA s (iy s)).1
def Mv(s:ρ):∀i:O,(0<=(dA s i).1/\(dA s i).1<10^i)/\((dA s i).2=1\/(dA s i).2= -1)
 |0=>⟨by simp[dA],.inl rfl⟩
 |i+1=>by
  obtain⟨⟨a,d⟩,b⟩:=Mv s i;have e:(10:Z)^(i+1)=10^i*10:=OX _ _;have f:(0:Z)<=10^i:=by omega
  unfold dA;cases ai i 0&&(ce s i==45)with
  |true=>simp only[aZ];exact⟨⟨a,by omega⟩,.inr trivial⟩
  |false=>
   simp only[a_];cases c:ο (48<=ce s i)&&ο (ce s i<=57)with
   |true=>simp only[aM,aB]at c;simp only[aZ];exact⟨⟨by omega,by omega⟩,b⟩
   |false=>simp only[a_];exact⟨⟨a,by omega⟩,b⟩
def Rj(s:ρ)(i:Z):0<=ce s i/\ce s i<256:=by unfold ce;have:=(s.data[i.toNat]!).toNat_lt;omega
def WA{i:O}(h:i<9):(10:Z)^i<=100000000:=by
 have:i=0\/i=1\/i=2\/i=3\/i=4\/i=5\/i=6\/i=7\/i=8:=by omega
 rcases this with rfl|rfl|rfl|rfl|rfl|rfl|rfl|rfl|rfl<;>decide
def aoY(s:ρ):cp θ 0 (.block 0 (.loop (a4 0 PS))) (bD 47 (BK .normal) 0 (CV s 0 1 0) [] (λa=>a .normal (aw 0 47 [(3,.v (ι (dA s (iy s)).1)),(4,.v (ι (dA s (iy s)).2))]) [])):=by
 refine dQ bt (n:=200) (m:=0) (lv:=BK) (λi=>CV s (dA s i).1 (dA s i).2 i) (λ_=>[]) (λ_=>True) (iy s) (λ_=>K) (du rfl rfl rfl) (aR _) trivial λa Q w i D y=>⟨cT _ _ _,?_⟩
 have G:iy s=min s.size 9:=rfl;obtain⟨⟨H,I⟩,L⟩:=Mv s i;have M:=Rj s i;rw[am2];have z:i<iy s->aj a7 ((i:Z)+1)=((i+1:O):Z):=λh=>by rw[bR (by omega)];omega
 refine ay (λb=>ay (λd=>?_) λd=>?_) λb=>?_
 ·have b:=aL b
  have d:=aL d;have l:i<iy s:=by omega
  have g:=WA (i:=i) (by omega);rw[z l];have e:aJ [ο (0<=(i:Z)),ο ((i:Z)<(s.size:Z))]=ε:=by simp only[F,ah,aa,aB];omega
  have f:∀{R:Ex->E AV->E AB->Prop},(ai i 0&&(ce s i==45))=η->(∀p:Z×Z,dA s (i+1)=p->R .normal [.v (.string s),.v (ι p.1),.v (ι p.2),.v (ι ((i+1:O):Z))] [])->
    aC (bif ο (ce s i>=48)then Ω [ο (0<=(i:Z)),ο ((i:Z)<(s.size:Z))] (bif ο (ce s i<=57)then Ω [ο (0<=(i:Z)),ο ((i:Z)<(s.size:Z))] (.out .normal [.v (.string s),.v (ι (aj a7 (aj a7 (10*(dA s i).1)+aj a7 (aj oC (ce s i-48))))),.v (ι (dA s i).2),.v (ι ((i+1:O):Z))] [])else .out .normal [.v (.string s),.v (ι (dA s i).1),.v (ι (dA s i).2),.v (ι ((i+1:O):Z))] [])else .out .normal [.v (.string s),.v (ι (dA s i).1),.v (ι (dA s i).2),.v (ι ((i+1:O):Z))] []) R:=by
   intro R o q;refine ay (λr=>ag e (ay (λj=>ag e (Φ ?_)) λj=>Φ ?_)) λr=>Φ ?_
   ·have t:=aL r
    have A:=aL j;have B:aj oC (ce s i-48)=ce s i-48:=by rw[IntKind.wrap_u8];omega
    rw[B,bR (x:=10*(dA s i).1) (by omega),bR (x:=ce s i-48) (by omega),bR (x:=10*(dA s i).1+(ce s i-48)) (by omega)];refine q (10*(dA s i).1+(ce s i-48),(dA s i).2) ?_;rw[dA,o,show ο (48<=ce s i)=ε from bA t,j];rfl
   ·refine q (dA s i) ?_
    rw[dA,o,j,gP];rfl
   ·refine q (dA s i) ?_
    rw[dA,o,show ο (48<=ce s i)=η from r,ly];rfl
  refine ay (λu=>ag e (ay (λv=>Φ ?_) λv=>ag e (f ?_ λp g=>?_))) λu=>ag e (f ?_ λp g=>?_)
  ·have c:i=0:=by simpa using u
   refine⟨i+1,⟨rfl,by omega,trivial⟩,?_,ab.refl _⟩;have:dA s (i+1)=((dA s i).1,-1):=by rw[dA,v,show ai i 0=ε from by rw[c];rfl];rfl
   simp only[this]
  ·rw[v,gP]
  ·refine⟨i+1,⟨rfl,by omega,trivial⟩,?_,ab.refl _⟩
   simp only[g]
  ·have c:i≠0:=by simpa using u
   rw[show ai i 0=η from by cases i with|zero=>exact aO rfl c|succ k=>rfl];rfl
  ·refine⟨i+1,⟨rfl,by omega,trivial⟩,?_,ab.refl _⟩
   simp only[g]
 ·have b:=aL b
  have d:=cE d;have:i=iy s:=by omega
  refine Φ ⟨_,ab.refl _,?_⟩;rw[aP rfl,this];exact w
 ·have b:=cE b
  have:i=iy s:=by omega
  refine Φ ⟨_,ab.refl _,?_⟩;rw[aP rfl,this];exact w
def I6(f:ρ->Z):E SA->χ FR
 |[.v (.string s)]=>γ {val:=.v (ι (f s))}
 |_=>ζ
def aji(s:ρ): -1000000000<i3 s/\i3 s<1000000000:=by
 obtain⟨⟨b,c⟩,a⟩:=Mv s (iy s);have d:iy s<=9:=Nat.min_le_right _ _;have e:(10:Z)^iy s<=1000000000:=by
  rcases nG (iy s) 9 with h|h
  ·have:=WA h
   omega
  ·rw[show iy s=9 by omega]
   decide
 unfold i3;rcases a with h|h<;>rw[h]<;>omega
def akN:au θ 94 (am [.val] (I6 i3)):=by
 refine bY bt func94 rfl λb c a d=>?_
 unfold I6 at a;split at a
 ·rename_i s
  cases a;have e:=aji s;refine⟨[],LU s (dA s (iy s)).1 (dA s (iy s)).2,200,ab.refl _,cz (by kernel_rfl) (aoY s),?_⟩;show aC (ad θ g0 (LU s (dA s (iy s)).1 (dA s (iy s)).2) 200 PS [.v (.string s)] [] (af 0)) _
  rw[arn];refine ag ?_ (Φ ⟨.v (ι (i3 s)),rfl,?_,ab.refl _⟩)
  ·simp only[F,ah,aa]
   exact cg ⟨trivial,ab.refl _⟩
  ·rw[show(dA s (iy s)).2*(dA s (iy s)).1=i3 s from rfl,bR (by omega)]
 ·cases a
def Lr(n:Z):κ:=ο (-9223372036854775807<=n/\n<=9223372036854775807)
def af1:aK θ (AY bM Lr):=az bt Ch
def apl(c d e f g h i j k:Z):ba (ba (ba (ba (ba (ba (ba (ba (ba (ba (ba (ba (ba (ba (ba (ba (bM c) (a8 (bj [58]))) (bM d)) (a8 (bj [44]))) (bM e)) (a8 (bj [44]))) (bM f)) (a8 (bj [44]))) (bM g)) (a8 (bj [44]))) (bM h)) (a8 (bj [44]))) (bM i)) (a8 (bj [44]))) (bM j)) (a8 (bj [44]))) (bM k)=cR ⟨c,⟨d,e,f,g,h,i,j,k⟩⟩:=by have a:(a8 (bj [58]))=⟨[(58:ψ)].toArray⟩:=rfl;have b:(a8 (bj [44]))=⟨[(44:ψ)].toArray⟩:=rfl;simp only[bM,a,b,ux,cR,nv,tR];simp[lY]
def alf:au θ 166 (aS (Km cR e9)):=by
 refine en (n:=200) af1 func166 rfl λr x s a p=>?_
 unfold Km at a;split at a
 ·rename_i b c d e f g i j k
  simp only[ar,cG]at a;obtain⟨rfl,rfl⟩:=a;have q:e9 ⟨b,⟨c,d,e,f,g,i,j,k⟩⟩=ε:=by simpa[aJ]using p
  have o:=Cj q;simp only[HF,kq,H_,Ib,aa]at o;obtain⟨⟨t,u⟩,⟨v,w⟩,⟨y,z⟩,⟨A,B⟩,⟨C,D⟩,⟨G,H⟩,⟨I,L⟩,⟨M,N⟩,⟨P,Q⟩⟩:=o;have R:=nX (n:=b) (by omega) (by omega);have S:=nX (n:=c) (by omega) (by omega);have T:=nX (n:=d) (by omega) (by omega);have U:=nX (n:=e) (by omega) (by omega);have W:=nX (n:=f) (by omega) (by omega);have X:=nX (n:=g) (by omega) (by omega);have q6:=nX (n:=i) (by omega) (by omega);have q7:=nX (n:=j) (by omega) (by omega);have q8:=nX (n:=k) (by omega) (by omega);have l:(a8 (bj [58])).size=1:=rfl;have m:(a8 (bj [44])).size=1:=rfl
  suffices h:aC _ (nO (.string (cR ⟨b,⟨c,d,e,f,g,i,j,k⟩⟩)))from⟨h.out⟩
  show aC (ad θ (AY bM Lr) K 200 f166 [.v (.agg ⟨[ι b,ι c,ι d,ι e,ι f,ι g,ι i,ι j,ι k]⟩)] [] ed) _
  rw[arW];refine ag ?_ (Φ ⟨_,rfl,?_⟩)
  ·simp only[F,ah,aa,aT,Ak,l,m,Lr,aB]
   omega
  ·rw[apl]
   rfl
 ·cases a
def Tp:aK θ (FX cR e9):=az bt alf
def kP(f:ω)(i:O):ρ:=⟨(lX (V f i)).toArray⟩
def apD(L:E Wh)(w:Wh)(h:L≠ []):lX (L++[w])=lX L++[32]++nv w:=by
 cases L with
 |nil=>exact aO rfl h
 |cons x L=>simp only[lX,oD,eD,iN,kp,tR];simp[lY]
def abc(f:ω)(i:O)(h:0<i):ba (ba (kP f i) (a8 (bj [32]))) (cR (bm (f i)))=kP f (i+1):=by have a:(a8 (bj [32]))=⟨[(32:ψ)].toArray⟩:=rfl;rw[kP,kP,a,cR,ux,ux,gw,apD _ _ (λe=>by have:=congrArg b_ e;rw[ch]at this;simp at this;omega)]
def aba(f:ω):ba (kP f 0) (cR (bm (f 0)))=kP f 1:=by rw[kP,kP,cR,ux,gw];have a:lX (V f 0)=[]:=rfl;rw[a];simp[lX,V,Lib.join_one]
def abb{f:O->O->Z}{m i:O}(a:∀w∈V f m,e9 w=ε)(d:i<=m):(kP f i).size<=i*201:=by
 rw[kP,tb];have:=N' (L:=V f i) λw b=>by obtain⟨j,c,rfl⟩:=fX.1 b;exact a _ (fX.2 ⟨j,mM.2 (by have:=mM.1 c;omega),rfl⟩)
 rwa [ch]at this
def apa(m:O)(f:ω)(t:ae)(l:m<=12)(c:∀w∈V f m,e9 w=ε):cp θ 1 (.block 0 (.loop (a4 0 PP))) (bD 26 (BV .normal) 1 (C3 m ⟨#[]⟩ 0) (uX m f t) (λa=>a .normal (aw 0 26 [(3,.v (.string (kP f m)))]) (uX m f t))):=by
 refine dQ Tp (n:=100) (m:=1) (lv:=BV) (λi=>C3 m (kP f i) i) (λ_=>uX m f t) (λ_=>True) m (λ_=>K) (du rfl rfl rfl) (aR _) trivial λa Q j i p k=>⟨cT _ _ _,?_⟩
 rw[anh];refine ay (λd=>?_) λd=>?_
 ·have d:=aL d
  have b:i<m:=by omega
  have g:e9 (bm (f i))=ε:=c _ (g8 (nb f b));have q:=Hm g;have r:=abb c (i:=i) (by omega);have h:(a8 (bj [32])).size=1:=rfl;rw[cY,bF,bR (x:=(i:Z)+1) (by omega)];show aC (cond _ (Ω [_,_,_,e9 (bm (f i)),_] _) (Ω [_,_,e9 (bm (f i)),_] _)) _
  refine ay (λe=>?_) λe=>?_
  ·have e:=aL e
   refine ag ?_ (Φ ⟨i+1,⟨rfl,b,trivial⟩,?_,ab.refl _⟩)
   ·show aJ [_,_,_,_,Θ (_+(cR (bm (f i))).size) _]=ε
    simp only[F,ah,aa,aB,aT,Ak,h,g,bo];omega
   ·show[_,AV.v (.string (ba (ba (kP f i) _) (cR (bm (f i))))),_]=_
    rw[abc f i (by omega)];rfl
  ·have e:=cE e
   have:i=0:=by omega
   subst this;refine ag ?_ (Φ ⟨0+1,⟨rfl,b,trivial⟩,?_,ab.refl _⟩)
   ·show aJ [_,_,_,Θ (_+(cR (bm (f 0))).size) _]=ε
    simp only[F,ah,aa,aB,aT,g,bo];omega
   ·show[_,AV.v (.string (ba (kP f 0) (cR (bm (f 0))))),_]=_
    rw[aba f];rfl
 ·have d:=cE d
  have:i=m:=by omega
  subst this;refine Φ ⟨_,ab.refl _,?_⟩;rw[aP rfl];exact j
def alg:au θ 90 (am bP (un dB aG)):=by
 refine bY Tp func90 rfl λl o c f=>?_
 unfold un at c;split at c
 ·rename_i m g
  cases c;simp only[F]at f;obtain⟨d,h,_⟩:=f;have e:=MD h;have i:=kd h;rw[ch]at i;have k:(V (ξ g) m).length=m:=ch _ _;refine⟨[.row η m 9 (J (ξ g)) 112],L1 m (ξ g) 112 (kP (ξ g) m),100,.cons (Ξ.row λj b=>aN d j b) .nil,cz (by kernel_rfl) (apa m (ξ g) 112 i e),?_⟩;show aC (ad θ (FX cR e9) (L1 m (ξ g) 112 (kP (ξ g) m)) 100 PP [.sl 0 9 0 0 m ζ] [.row η m 9 (J (ξ g)) 112] (af 1)) _
  rw[arX];refine ay (λa=>?_) λa=>ag ?_ ?_
  ·have a:m=0:=by simpa using a
   subst a;exact Φ ⟨_,rfl,rfl,.cons (Ξ.row λj b=>(aN d j b).symm) .nil⟩
  ·rw[F]
   exact⟨cg ⟨rfl,ab.refl _⟩,rfl⟩
  ·have a:m≠0:=by simpa using a
   refine Φ ⟨_,rfl,?_,.cons (Ξ.row λj b=>(aN d j b).symm) .nil⟩;have:(V (ξ g) m).isEmpty=η:=by
    cases n:V (ξ g) m with
    |nil=>rw[n]at k;exact aO k.symm a
    |cons=>rfl
   rw[dB,this];rfl
 ·cases c
def afY:aK θ (FK eA sK (λv=>bz (bC v))):=by unfold FK;rw[aa1];exact az (az (az (az bt yj) MK) akE) akA
def atn(f:ω):(λq=>J f (0+q))=J f:=by
 funext q
 rw[bF]
def dp(f:ω)(n:Z)(m:O):κ:=aG (V f m)&&aD n 0 23&&bz (bC (eA f n m))
def dP(f:ω)(n:Z)(m:O):O->Z:=bif dp f n m then eA f n m else λ_=>0
def Ip:E SA->χ FR
 |[.row m g,.v (.int .i64 n)]=>γ {val:=.Ψ [.agg (fP (dP (ξ g) n m)),.v (.bool (dp (ξ g) n m))],ap:=[ak m g,ο (m<=2^38)]}
 |_=>ζ
def MF:au θ 52 (am dy Ip):=by
 refine bY afY func52 rfl λp x f i=>?_
 unfold Ip at f;split at f
 ·rename_i m g n
  cases f;simp only[F]at i;obtain⟨l,r,_⟩:=i;have y:=aL r;refine⟨[.row η m 9 (J (ξ g)) 112],K,100,.cons (Ξ.row λj h=>aN l j h) .nil,dq _,?_⟩;show aC (ad θ (FK eA sK (λv=>bz (bC v))) K 100 f52 [.sl 0 9 0 0 m ζ,.v (ι n)] [.row η m 9 (J (ξ g)) 112] (af 1)) _
  rw[aqw,atn,cb,ED];have a:∀(c:κ)(b:aQ),dp (ξ g) n m=c->fP b=fP (bif c then eA (ξ g) n m else λ_=>0)->aC (.out .ret [.Ψ [.agg (fP b),.v (.bool c)]] [.row η m 9 (J (ξ g)) 112])
    (dV (bI dy [.row m g,.v (ι n)] []) {val:=.Ψ [.agg (fP (dP (ξ g) n m)),.v (.bool (dp (ξ g) n m))],ap:=[ak m g,ο (m<=2^38)]}):=by
   rintro c b rfl u;refine Φ ⟨_,rfl,?_,.cons (Ξ.row λj h=>(aN l j h).symm) .nil⟩;rw[u];rfl
  have o:∀k:O,m<=k->aJ [Θ (0+m) m,ak m (J (ξ g)),ο (m<=k)]=ε:=λk w=>by simp only[F,ah,aa,aB,aT,bw,bo,bF,aR];exact w
  refine ag (o _ (by omega)) (ay (λq=>?_) λq=>?_)
  ·have q:aG (V (ξ g) m)=η:=by simpa using q
   exact a η (λ_=>0) (by unfold dp;rw[q];rfl) rfl
  ·have q:aG (V (ξ g) m)=ε:=by simpa using q
   refine ay (λd=>?_) λd=>?_
   ·have d:aD n 0 23=η:=by simpa using d
    exact a η (λ_=>0) (by unfold dp;rw[q,d];rfl) rfl
   ·have d:aD n 0 23=ε:=by simpa using d
    refine ag (o _ (by omega)) ?_;refine a (bz (bC (eA (ξ g) n m))) (sK (w8 (eA (ξ g) n m))) (by unfold dp;rw[q,d];rfl) ?_;have e:bC (w8 (eA (ξ g) n m))=bC (eA (ξ g) n m):=rfl;unfold sK;rw[e];cases bz (bC (eA (ξ g) n m))<;>rfl
 ·cases f
def KO(a:(O->Z)->Z->O->Z)(b:(O->Z)->(O->Z)->O->Z):aE:=ext (ext g0 131 (am [.val,.val] (Em a))) 192 (aS (q2 b))
abbrev Bw:Ex->E O:=cx [1,4,5,8,9,10] [4,5] [4]
abbrev CM(m:O)(n:Z)(i:O):E AV:=[.v (ι n),.ptr 1 0 0 0,.ptr 2 0 0 0,.sl 0 9 0 0 m ζ,.v (ι m),.v (ι i)]
def amz(g:(O->Z)->Z->O->Z)(b:(O->Z)->(O->Z)->O->Z)(m:O)(f:ω)(t:ae)(n:Z)(a:aQ)(i:O):let h:=AB.cells [vI 0,vI 0,vI 0,vI 0,vI 0,vI 0,vI 0,vI 0] 75;let e:=(↑i:Z);let j:=AB.row η m 9 (J f) t;let c:=(0+a5 e);let k:=(v8 (f c 1) (f c 2) (f c 3) (f c 4) (f c 5) (f c 6) (f c 7) (f c 8));let l:=(aj .i64 (n*f c 0));let d:=(w8 (g k l));a0 θ (KO g b) 100 K (a4 0 PA) (aw 0 25 ((Bw .normal).zip (CM m n i))) (lK m f t a) (cJ 25 Bw 1)
 =bif ο (e<(m:Z))then Ω [ο (e<(m:Z)),ο (0+a5 e<m),n7 k,aD l (-9223372036854775808:Z) (9223372036854775807:Z)] (ao.out .normal [vI n,AV.ptr 1 0 0 0,AV.ptr 2 0 0 0,AV.sl 0 9 0 0 m ζ,vI (m:Z),vI (aj .i64 (e+(1:Z)))] [j,h,AB.cells [vI (b (w8 a) d 0),vI (b (w8 a) d 1),vI (b (w8 a) d 2),vI (b (w8 a) d 3),vI (b (w8 a) d 4),vI (b (w8 a) d 5),vI (b (w8 a) d 6),vI (b (w8 a) d 7)] 75])else ao.out (Ex.exit 0) [AV.ptr 1 0 0 0,AV.ptr 2 0 0 0] [j,h,AB.cells [vI (a 0),vI (a 1),vI (a 2),vI (a 3),vI (a 4),vI (a 5),vI (a 6),vI (a 7)] 75]:=by intros;kernel_rfl
noncomputable abbrev LB(m:O)(f:ω)(t:ae)(n:Z)(b:aQ):O->χ Sum:=bJ 0 (bD 25 (Bw .normal) 1 (CM m n 0) (lK m f t λ_=>0) (λa=>a .normal (aw 0 25 [(4,.ptr 1 0 0 0),(5,.ptr 2 0 0 0)]) (lK m f t b)))
def ap_(m:O)(f:ω)(t:ae)(n:Z)(b:aQ):let a:=AB.cells [vI 0,vI 0,vI 0,vI 0,vI 0,vI 0,vI 0,vI 0] 75;let c:=AB.row η m 9 (J f) t;ad θ g0 (LB m f t n b) 100 PA [.sl 0 9 0 0 m ζ,.v (ι n)] [.row η m 9 (J f) t] (af 1)
 =Ω [cw ([vI n,AV.ptr 1 0 0 0,AV.ptr 2 0 0 0,AV.sl 0 9 0 0 m ζ,vI (m:Z),vI 0]=CM m n 0/\ab [c,a,a] (lK m f t λ_=>(0:Z)))] (rO [AV.agg [vI (b 0),vI (b 1),vI (b 2),vI (b 3),vI (b 4),vI (b 5),vI (b 6),vI (b 7)]] [c]):=by intros;kernel_rfl
def ID(a:(O->O->Z)->Z->O->O->Z)(b:E Wh->κ):E SA->χ FR
 |[.row m g,.v (.int .i64 n)]=>γ {val:=.agg (fP (a (ξ g) n m)),ap:=[ak m g,ο (m<=2^38),b (V (ξ g) m)]}
 |_=>ζ
def FL(b:(O->O->Z)->Z->O->O->Z)(a:E Wh->κ)(c:(O->Z)->κ):aE:=ext (ext (ext fm 143 (am dy (ID b a))) 123 (am bP (pM a))) 145 (aS (m2 c))
def aqx(a:(O->O->Z)->Z->O->O->Z)(c:E Wh->κ)(g:(O->Z)->κ)(m:O)(f:ω)(t:ae)(n:Z):let b:=(ξ λq=>J f (0+q));let e:=[AV.Ψ [AV.agg [vI 0,vI 0,vI 0,vI 0,vI 0,vI 0,vI 0,vI 0],vB η]];let d:=[AB.row η m 9 (J f) t];let h:=ak m λq=>J f (0+q);ad θ (FL a c g) K 100 f78 [.sl 0 9 0 0 m ζ,.v (ι n)] [.row η m 9 (J f) t] (af 1)
 =Ω [Θ (0+m) m,h,ο (m<=549755813888)] (bif !c (V b m)then rO e d else bif !aD n (0:Z) (23:Z)then rO e d else Ω [Θ (0+m) m,h,ο (m<=274877906944),c (V b m)] (bif !g (w8 (a b n m))then rO e d else rO [AV.Ψ [AV.agg [vI (a b n m 0),vI (a b n m 1),vI (a b n m 2),vI (a b n m 3),vI (a b n m 4),vI (a b n m 5),vI (a b n m 6),vI (a b n m 7)],vB ε]] d)):=by intros;kernel_rfl
def pK(a:(O->O->Z)->Z->O->O->Z)(b:(O->O->Z)->Z->O->κ):E SA->χ FR
 |[.row m g,.v (.int .i64 n)]=>γ {val:=.Ψ [.agg (fP (a (ξ g) n m)),.v (.bool (b (ξ g) n m))],ap:=[ak m g,ο (m<=2^38)]}
 |_=>ζ
def afJ:aK θ (KO zh qp):=by unfold KO;rw[Sb];exact az (az bt V') MP
def abw(f:ω)(n:Z)(i:O):eA f n (i+1)=qp (eA f n i) (zh (v8 (f i 1) (f i 2) (f i 3) (f i 4) (f i 5) (f i 6) (f i 7) (f i 8)) (aj a7 (n*f i 0))):=by
 funext k
 show W (eA f n i k+1*_)=W (eA f n i k+_)
 rw[zu]
def aoD(m:O)(f:ω)(t:ae)(n:Z)(h:m<=2^40)(d:∀w∈V f m,n7 w.r.f=ε):cp θ 1 (.block 0 (.loop (a4 0 PA))) (bD 25 (Bw .normal) 1 (CM m n 0) (lK m f t λ_=>0) (λa=>a .normal (aw 0 25 [(4,.ptr 1 0 0 0),(5,.ptr 2 0 0 0)]) (lK m f t (eA f n m)))):=by
 refine dQ afJ (n:=100) (m:=1) (lv:=Bw) (λi=>CM m n i) (λi=>lK m f t (eA f n i)) (λ_=>True) m (λ_=>K) (du rfl rfl rfl) (aR _) trivial λa Q e i k g=>⟨cT _ _ _,?_⟩
 rw[amz];refine ay (λb=>?_) λb=>?_
 ·have b:=aL b
  have c:i<m:=by omega
  rw[cY,bF,bR (x:=(i:Z)+1) (by omega)];refine ag ?_ (Φ ⟨i+1,⟨rfl,c,trivial⟩,rfl,?_⟩)
  ·simp only[F,ah,aa,aB]
   exact⟨by omega,by omega,d _ (g8 (nb f c)),b9.2 (nr _)⟩
  ·show ab _ (lK m f t (eA f n (i+1)))
   rw[abw];exact ab.refl _
 ·have b:=cE b
  have:i=m:=by omega
  subst this;refine Φ ⟨_,ab.refl _,?_⟩;rw[aP rfl];exact e
def ajD:au θ 143 (am dy (ID eA aG)):=by
 refine bY bt func143 rfl λe k a c=>?_
 unfold ID at a;split at a
 ·rename_i m g n
  cases a;simp only[F]at c;obtain⟨d,f,h,_⟩:=c;have l:=aL f;refine⟨[.row η m 9 (J (ξ g)) 112],LB m (ξ g) 112 n (eA (ξ g) n m),100,.cons (Ξ.row λj b=>aN d j b) .nil,cz (by kernel_rfl) (aoD m (ξ g) 112 n (by omega) λw i=>nq h i),?_⟩;show aC (ad θ g0 (LB m (ξ g) 112 n (eA (ξ g) n m)) 100 PA [.sl 0 9 0 0 m ζ,.v (ι n)] [.row η m 9 (J (ξ g)) 112] (af 1)) _
  rw[ap_];exact ag (by rw[F];exact⟨cg ⟨rfl,ab.refl _⟩,rfl⟩) (Φ ⟨_,rfl,rfl,.cons (Ξ.row λj b=>(aN d j b).symm) .nil⟩)
 ·cases a
def af0:aK θ (FL eA aG (λv=>bz (bC v))):=by unfold FL;rw[pW,so];exact az (az (az jz ajD) Ci) Cg
def Io:pK dP dp=Ip:=by
 funext l
 rfl
def Gy:au θ 78 (am dy (pK dP dp)):=by
 refine bY af0 func78 rfl λs z f p=>?_
 unfold pK at f;split at f
 ·rename_i m g n
  cases f;simp only[F]at p;obtain⟨r,t,_⟩:=p;have u:=aL t;refine⟨[.row η m 9 (J (ξ g)) 112],K,100,.cons (Ξ.row λj i=>aN r j i) .nil,dq _,?_⟩;show aC (ad θ (FL eA aG (λv=>bz (bC v))) K 100 f78 [.sl 0 9 0 0 m ζ,.v (ι n)] [.row η m 9 (J (ξ g)) 112] (af 1)) _
  rw[aqx,bV,cb,ED];have d:∀(c:κ)(b:aQ),dp (ξ g) n m=c->fP b=fP (bif c then eA (ξ g) n m else λ_=>0)->aC (.out .ret [.Ψ [.agg (fP b),.v (.bool c)]] [.row η m 9 (J (ξ g)) 112])
    (dV (bI dy [.row m g,.v (ι n)] []) {val:=.Ψ [.agg (fP (dP (ξ g) n m)),.v (.bool (dp (ξ g) n m))],ap:=[ak m g,ο (m<=2^38)]}):=by
   rintro c b rfl y;refine Φ ⟨_,rfl,?_,.cons (Ξ.row λj i=>(aN r j i).symm) .nil⟩;rw[y];rfl
  refine ag (by simp only[F,ah,aa,aB,aT,bw,bo];omega) (ay (λq=>?_) λq=>?_)
  ·have k:(!aG (V (ξ g) m))=ε:=q
   have a:aG (V (ξ g) m)=η:=by simpa using k
   exact d η (λ_=>0) (by unfold dp;rw[a];rfl) rfl
  ·have k:(!aG (V (ξ g) m))=η:=q
   have h:aG (V (ξ g) m)=ε:=by simpa using k
   refine ay (λa=>?_) λa=>?_
   ·have a:aD n 0 23=η:=by simpa using a
    exact d η (λ_=>0) (by unfold dp;rw[h,a];rfl) rfl
   ·have a:aD n 0 23=ε:=by simpa using a
    refine ag (by simp only[F,ah,aa,aB,aT,bw,bo];exact⟨by omega,u,h⟩) (ay (λl=>?_) λl=>?_)
    ·have e:(!bz (bC (eA (ξ g) n m)))=ε:=l
     have o:bz (bC (eA (ξ g) n m))=η:=by simpa using e
     exact d η (λ_=>0) (by unfold dp;rw[h,a,o];rfl) rfl
    ·have e:(!bz (bC (eA (ξ g) n m)))=η:=l
     have o:bz (bC (eA (ξ g) n m))=ε:=by simpa using e
     exact d ε (eA (ξ g) n m) (by unfold dp;rw[h,a,o];rfl) rfl
 ·cases f
def nW(f:ω)(n:Z)(m:O):dp (ξ (J f)) n m=dp f n m:=by unfold dp;rw[cb,ED]
def qW(f:ω)(n:Z)(m:O):dP (ξ (J f)) n m=dP f n m:=by unfold dP;rw[nW,ED]
def Ns:O->O
 |0=>1065353216
 |1=>1064781546
 |2=>1063105495
 |3=>1060439283
 |4=>1056964608
 |5=>1048871918
 |6=>0
 |_=>3196355566
def Nr:O->O
 |0=>0
 |1=>1048871918
 |2=>1056964608
 |3=>1060439283
 |4=>1063105495
 |5=>1064781546
 |6=>1065353216
 |_=>1064781546
def Cp(a:aQ)(k:O):χ O:=bQ.format.mul (bQ.nearest (a k)) (Ns k)
def Co(a:aQ)(k:O):χ O:=bQ.format.mul (bQ.nearest (a k)) (Nr k)
def vF(a:aQ):O->O
 |0=>0
 |k+1=>(bQ.format.add (vF a k) ((Cp a k).getD 0)).getD 0
def vE(a:aQ):O->O
 |0=>0
 |k+1=>(bQ.format.add (vE a k) ((Co a k).getD 0)).getD 0
def Cc(a:aQ):E κ:=(dH 8).flatMap λk=>[(Cp a k).isSome,(Co a k).isSome,(bQ.format.add (vF a k) ((Cp a k).getD 0)).isSome,(bQ.format.add (vE a k) ((Co a k).getD 0)).isSome]
def aeP(a:aQ):ad θ g0 K 100 f146 [.v (dn a)] [] ed=Ω (Cc a) (.out .ret [.v (.complex .f32 (vF a 8) (vE a 8))] []):=by kernel_rfl
def FJ(a:(O->Z)->κ):aE:=ext g0 106 (aS (m2 a))
def aeQ(b:(O->Z)->κ)(a:aQ):ad θ (FJ b) K 100 f53 [.v (dn a)] [] (af 0)=cond (!b (w8 a)) (.out .ret [.Ψ [.v (.complex .f32 0 0),.v (.bool η)]] []) (Ω (Cc a) (.out .ret [.Ψ [.v (.complex .f32 (vF a 8) (vE a 8)),.v (.bool ε)]] [])):=by kernel_rfl
def hO(x:O)(e:Z):Prop:=∃s m i,bQ.format.read x=.number s m i/\i+(m.log2:Z)<=e
def hO.mono{x:O}{e d:Z}(h:hO x e)(b:e<=d):hO x d:=by obtain⟨s,m,i,a,c⟩:=h;exact⟨s,m,i,a,by omega⟩
def uH(x:O)(e:Z):κ:=match bQ.format.read x with
 | .number _ m i=>ο (i+(m.log2:Z)<=e)
 |_=>η
def AU{x:O}{e:Z}(h:uH x e=ε):hO x e:=by
 unfold uH at h;split at h
 ·rename_i s m i a
  exact⟨s,m,i,a,aL h⟩
 ·cases h
def log2_lt(n:O):n<2^(n.log2+1):=Nat.lt_log2_self
def ry{n k:O}(h:n<2^(k+1)):n.log2<=k:=by
 rcases pB n with rfl|a
 ·rw[show Nat.log2 0=0 by decide]
  omega
 ·have:=(Nat.log2_lt (by omega)).2 h
  omega
def E1:bQ.format.binade=8388608:=by decide
def E2:bQ.format.infRung=2139095040:=by decide
def E3:bQ.format.signWeight=2147483648:=by decide
def AH:bQ.format.leastPlace= -149:=by decide
def aeU:bQ.format.fractionBits=23:=rfl
def adE(s:κ)(n a:O):Hy.cut s n a<=n/2^min a (n.log2+2)+1:=by
 unfold OS;simp only[tZ,Nat.one_mul];have:∀b:κ,b.toNat<=1:=λb=>by cases b<;>decide
 exact Nat.add_le_add_left (this _) _
def ahF{s:κ}{m:O}{i a:Z}(e:i+(m.log2:Z) -23<=a):Hy.cut s (m<<< (i-a).toNat) (a-i).toNat<=16777216:=by
 refine cD (adE _ _ _) ?_
 suffices h:m<<< (i-a).toNat/2^min (a-i).toNat ((m<<< (i-a).toNat).log2+2)<16777216 by omega
 rw[tZ];have b:=log2_lt m;by_cases f:a<=i
 ·have c:(a-i).toNat=0:=by omega
  rw[c,Nat.zero_min,zG,Nat.div_one]
  calc m*2^(i-a).toNat<2^(m.log2+1)*2^(i-a).toNat:=DK b (nH _)
   _=2^(m.log2+1+(i-a).toNat):=(jT ..).symm
   _<=2^24:=oI (by omega) (by omega)
 ·have c:(i-a).toNat=0:=by omega
  rw[c,zG,qJ];rw[Nat.div_lt_iff_lt_mul (nH _)];by_cases d:(a-i).toNat<=m.log2+2
  ·rw[Nat.min_eq_left d]
   calc m<2^(m.log2+1):=b
    _<=2^(24+(a-i).toNat):=oI (by omega) (by omega)
    _=16777216*2^(a-i).toNat:=by rw[jT]
  ·rw[Nat.min_eq_right (by omega)]
   calc m<2^(m.log2+1):=b
    _<=2^(24+(m.log2+2)):=oI (by omega) (by omega)
    _=16777216*2^(m.log2+2):=by rw[jT]
def WJ(s:κ){R:O}(b:R<2139095040):∃m i,bQ.format.read (bQ.format.word s R)=.number s m i/\i+(m.log2:Z)<=max ((R/8388608:O):Z) 1-127:=by
 have c:bQ.format.word s R%2147483648=R:=by
  unfold ZD;rw[E3];cases s
  ·simp only[r6,sh];omega
  ·simp only[qN];omega
 have d:(bQ.format.word s R/2147483648%2==1)=s:=by
  unfold ZD;rw[E3];cases s
  ·simp only[r6,sh]
   rw[show R/2147483648=0 by omega];rfl
  ·simp only[qN]
   rw[show(2147483648+R)/2147483648=1 by omega];rfl
 unfold OR;simp only[E3,E1,E2,AH,c,d];by_cases a:R<8388608
 ·rw[aP a]
  refine⟨_,_,rfl,?_⟩;have:R.log2<=22:=ry (by omega);omega
 ·rw[bi a,aP b]
  refine⟨_,_,rfl,?_⟩;have:(8388608+R%8388608).log2<=23:=ry (by omega);omega
def Gr(s:κ)(m:O)(i:Z){e:Z}(h:i+(m.log2:Z)<=e)(o: -120<=e)(p:e<=100):hO (bQ.format.nearest s m i) (e+1):=by
 unfold ZC;by_cases k:m=0
 ·rw[aP k]
  obtain⟨d,f,g,n⟩:=WJ s (R:=0) (by omega);exact⟨s,d,f,g,by omega⟩
 ·rw[bi k]
  simp only[aeU,AH,E1,E2];have l:Hy.cut s (m<<< (i-max (i+(m.log2:Z) -((23:O):Z)) (-149)).toNat) (max (i+(m.log2:Z) -((23:O):Z)) (-149) -i).toNat<=16777216:=ahF (by omega);generalize q:max (i+(m.log2:Z) -((23:O):Z)) (-149)=a at l⊢;generalize Hy.cut s (m<<< (i-a).toNat) (a-i).toNat=b at l⊢;have j: -149<=a/\a<=77/\a<=max (e-23) (-149):=by omega
  have c:min ((a- -149).toNat*8388608+b) 2139095040=(a- -149).toNat*8388608+b:=by omega
  rw[c];obtain⟨d,f,g,n⟩:=WJ s (R:=(a- -149).toNat*8388608+b) (by omega);refine⟨s,d,f,g,?_⟩;have:((a- -149).toNat*8388608+b)/8388608<=(a- -149).toNat+2:=by omega
  omega
def Gp{x y:O}{e d:Z}(a:hO x e)(b:hO y d)(c: -120<=e+d+1)(f:e+d+1<=100):(bQ.format.mul x y).isSome=ε/\hO ((bQ.format.mul x y).getD 0) (e+d+2):=by
 obtain⟨s,m,i,g,l⟩:=a;obtain⟨t,n,j,h,o⟩:=b;have k:bQ.format.mul x y=γ (bQ.format.nearest (s^^t) (m*n) (i+j)):=by unfold atA;rw[g,h];rfl
 rw[k];refine⟨rfl,?_⟩;have p:(m*n).log2<=m.log2+n.log2+1:=ry (by
  calc m*n<2^(m.log2+1)*2^(n.log2+1):=Nat.mul_lt_mul'' (log2_lt m) (log2_lt n)
   _=2^(m.log2+n.log2+1+1):=by rw[<-jT];congr 1;omega)
 have:=Gr (s^^t) (m*n) (i+j) (e:=e+d+1) (by omega) c f
 rwa [show e+d+1+1=e+d+2 by omega]at this
def NH(s:κ)(m u:O):(iC s m u).natAbs=m*2^u:=by
 unfold iC;rw[tZ];cases s
 ·exact Int.natAbs_natCast _
 ·exact(Int.natAbs_neg _).trans (Int.natAbs_natCast _)
def Ws{m:O}{i base e:Z}(h:i+(m.log2:Z)<=e)(a:base<=i):m*2^(i-base).toNat<2^((e-base).toNat+1):=by
 calc m*2^(i-base).toNat<2^(m.log2+1)*2^(i-base).toNat:=DK (log2_lt m) (nH _)
  _=2^(m.log2+1+(i-base).toNat):=(jT ..).symm
  _<=2^((e-base).toNat+1):=oI (by omega) (by omega)
def z8{x y:O}{e:Z}(c:hO x e)(d:hO y e)(f: -120<=e+1)(g:e+1<=100):(bQ.format.add x y).isSome=ε/\hO ((bQ.format.add x y).getD 0) (e+2):=by
 obtain⟨s,m,i,h,k⟩:=c;obtain⟨t,n,j,l,o⟩:=d;have b:∃u,bQ.format.add x y=γ (bQ.format.nearest u (iC s m (i-min i j).toNat+iC t n (j-min i j).toNat).natAbs (min i j)):=by unfold Ieee.Format.add;rw[h,l];exact⟨_,rfl⟩
 obtain⟨u,b⟩:=b;rw[b];refine⟨rfl,?_⟩;have q:(iC s m (i-min i j).toNat+iC t n (j-min i j).toNat).natAbs.log2<=(e-min i j).toNat+1:=ry (by
  have p:=Int.natAbs_add_le (iC s m (i-min i j).toNat) (iC t n (j-min i j).toNat);rw[NH,NH]at p;have r:=Ws k (base:=min i j) (by omega);have v:=Ws o (base:=min i j) (by omega);have w:2^((e-min i j).toNat+1+1)=2^((e-min i j).toNat+1)+2^((e-min i j).toNat+1):=by rw[HO];omega
  omega)
 have:=Gr u (iC s m (i-min i j).toNat+iC t n (j-min i j).toNat).natAbs (min i j) (e:=e+1) (by omega) f g
 rwa [show e+1+1=e+2 by omega]at this
def Gd{n:Z}(h: -1000000<=n/\n<=1000000):hO (bQ.nearest n) 21:=by have:n.natAbs.log2<=19:=ry (by omega);exact Gr _ _ 0 (e:=20) (by omega) (by omega) (by omega)
def Xn:∀k,k<8->hO (Ns k) 1:=λk a=>AU ((by decide+kernel:∀k,k<8->uH (Ns k) 1=ε) k a)
def Xm:∀k,k<8->hO (Nr k) 1:=λk a=>AU ((by decide+kernel:∀k,k<8->uH (Nr k) 1=ε) k a)
def XE{a:O->Z}(h:∀k,k<8-> -1000000<=a k/\a k<=1000000):∀k:O,k<=8->hO (vF a k) (24+2*(k:Z))/\hO (vE a k) (24+2*(k:Z))
 |0,_=>⟨AU (show uH 0 (24+2*((0:O):Z))=ε by decide+kernel),AU (show uH 0 (24+2*((0:O):Z))=ε by decide+kernel)⟩
 |k+1,i=>by obtain⟨b,c⟩:=XE h k (by omega);have d:=Gp (Gd (h k (by omega))) (Xn k (by omega)) (by omega) (by omega);have e:=Gp (Gd (h k (by omega))) (Xm k (by omega)) (by omega) (by omega);have f:=(z8 b (d.2.mono (by omega)) (by omega) (by omega)).2;have g:=(z8 c (e.2.mono (by omega)) (by omega) (by omega)).2;exact⟨f.mono (by omega),g.mono (by omega)⟩
def ajm{a:O->Z}(h:∀k,k<8-> -1000000<=a k/\a k<=1000000):aJ (Cc a)=ε:=by
 unfold aJ Cc;rw[List.all_flatMap];refine bX.2 λk b=>?_
 have b:=mM.1 b;obtain⟨e,f⟩:=XE h k (by omega);have c:=Gp (Gd (h k b)) (Xn k b) (by omega) (by omega);have d:=Gp (Gd (h k b)) (Xm k b) (by omega) (by omega);have g:=z8 e (c.2.mono (by omega)) (by omega) (by omega);have i:=z8 f (d.2.mono (by omega)) (by omega) (by omega);simp only[gl,List.all_nil,Bool.and_true,id];rw[show(Cp a k).isSome=ε from c.1,show(Co a k).isSome=ε from d.1,show(bQ.format.add (vF a k) ((Cp a k).getD 0)).isSome=ε from g.1,show(bQ.format.add (vE a k) ((Co a k).getD 0)).isSome=ε from i.1];rfl
def F6(a:E Wh->κ)(c:E Wh->E Wh)(b:E Wh->κ):aE:=ext (ext g0 95 (am bP (pM a))) 96 (am bP (Ej c b))
def agq:aK θ (F6 aG bv bg):=by unfold F6;rw[Ek,so];exact az (az bt yj) Gz
def ar0(a:E Wh->κ)(d:E Wh->E Wh)(b:E Wh->κ)(m:O)(f:ω):let c:=(V (ξ λq=>J f (0+q)) m);let e:=ak m λq=>J f (0+q);let g:=AB.row η m 9 (J f) 112;let h:=(b_ (d c));ad θ (F6 a d b) K 100 f89 [.sl 0 9 0 0 m ζ] [.row η m 9 (J f) 112] (af 1)
 =Ω [Θ (0+m) m,e,ο (m<=549755813888)] (bif !a c then rO [AV.Ψ [AV.own 1 0,vB η]] [g,AB.row ε 0 9 (λ_=>[]) 112]else Ω [Θ (0+m) m,e,ο (m<=274877906944)] (rO [AV.Ψ [AV.own 1 h,AV.v (.bool (b c))]] [g,AB.row ε h 9 (J (Y (d c))) 112])):=by intros;kernel_rfl
def pL(a:E Wh->κ)(tl:E Wh->E Wh):E SA->χ FR
 |[.row m g]=>γ {val:=.Ψ [.own 0 (tl (V (ξ g) m)).length,.v (.bool (a (V (ξ g) m)))],new:=[.row ε (tl (V (ξ g) m)).length 9 (J (Y (tl (V (ξ g) m)))) 112],ap:=[ak m g,ο (m<=2^38)]}
 |_=>ζ
def Hb{L:E Wh}(h:yI L=η):tI L=[]:=by rw[tI,h];rfl
def MQ:au θ 89 (am bP (pL yI tI)):=by
 refine bY agq func89 rfl λi o b f=>?_
 unfold pL at b;split at b
 ·rename_i m g
  cases b;simp only[F]at f;obtain⟨d,k,_⟩:=f;have p:=aL k;refine⟨[.row η m 9 (J (ξ g)) 112],K,100,.cons (Ξ.row λj a=>aN d j a) .nil,dq _,?_⟩;show aC (ad θ (F6 aG bv bg) K 100 f89 [.sl 0 9 0 0 m ζ] [.row η m 9 (J (ξ g)) 112] (af 1)) _
  rw[ar0];simp only[bV,cb];refine ag (by simp only[F,ah,aa,aB,aT,bw,bo];omega) (ay (λq=>?_) λq=>?_)
  ·have c:aG (V (ξ g) m)=η:=by simpa using q
   have e:yI (V (ξ g) m)=η:=by rw[yI,c];rfl
   refine Φ ⟨_,rfl,?_,.cons (Ξ.row λj a=>(aN d j a).symm) ?_⟩
   ·rw[Hb e,e]
    rfl
   ·show ab _ [.row ε (tI (V (ξ g) m)).length 9 (J (Y (tI (V (ξ g) m)))) 112]
    rw[Hb e];exact .cons (Ξ.row λj a=>aO a (cN _)) .nil
  ·have c:aG (V (ξ g) m)=ε:=by simpa using q
   refine ag (by simp only[F,ah,aa,aB,aT,bw,bo];omega) (Φ ?_);have h:tI (V (ξ g) m)=bv (V (ξ g) m):=by
    rw[tI,yI,c,dD];cases l:bg (V (ξ g) m)with
    |true=>rfl
    |false=>exact(Oc l).symm
   have n:yI (V (ξ g) m)=bg (V (ξ g) m):=by rw[yI,c,dD]
   refine⟨_,rfl,?_,.cons (Ξ.row λj a=>(aN d j a).symm) ?_⟩
   ·rw[h,n]
    rfl
   ·show ab _ [.row ε (tI (V (ξ g) m)).length 9 (J (Y (tI (V (ξ g) m)))) 112]
    rw[h];exact ab.refl _
 ·cases b
def Fm(R M:(O->Z)->O)(i:(O->Z)->κ):E τ->χ (τ×E κ)
 |[.agg ⟨[.int .i64 a,.int .i64 b,.int .i64 c,.int .i64 d,.int .i64 e,.int .i64 f,.int .i64 g,.int .i64 h]⟩]=>γ (.complex .f32 (R (v8 a b c d e f g h)) (M (v8 a b c d e f g h)),[i (v8 a b c d e f g h)])
 |_=>ζ
def um(R M:(O->Z)->O)(i:(O->Z)->κ):E SA->χ FR
 |[.v (.agg ⟨[.int .i64 a,.int .i64 b,.int .i64 c,.int .i64 d,.int .i64 e,.int .i64 f,.int .i64 g,.int .i64 h]⟩)]=>γ {val:=.Ψ [.v (.complex .f32 (R (v8 a b c d e f g h)) (M (v8 a b c d e f g h))),.v (.bool (i (v8 a b c d e f g h)))]}
 |_=>ζ
def S0(a:(O->O->Z)->Z->O->O->Z)(b:(O->O->Z)->Z->O->κ)(R M:(O->Z)->O)(c:(O->Z)->κ):aE:=ext (ext g0 78 (am dy (pK a b))) 146 (aS (Fm R M c))
noncomputable abbrev E5:cA:=f83
abbrev BA:Ex->E O:=cx [4,6,20] [6] [2,3]
abbrev CQ(q:O)(h:Z)(i:O):E AV:=[.sl 1 9 0 0 q (γ q),.v (.int .u32 h),.v (ι i)]
abbrev Bj(m:O)(f:ω)(q:O)(g:ω):E AB:=[.row η m 9 (J f) 112,.row η q 9 (J g) 112]
def amK(b:(O->O->Z)->Z->O->O->Z)(e:(O->O->Z)->Z->O->κ)(R M:(O->Z)->O)(j:(O->Z)->κ)(m:O)(f:ω)(q:O)(g:ω)(h:Z)(i:O):let c:=(ξ λq=>J g (0+q));let d:=AB.row η m 9 (J f) 112;let a:=(↑i:Z);a0 θ (S0 b e R M j) 100 K (a4 0 E5) (aw 0 49 ((BA .normal).zip (CQ q h i))) (Bj m f q g) (cJ 49 BA 1)
 =bif ο (a<(24:Z))then Ω [Θ (0+q) q,ak q λq=>J g (0+q),ο (q<=274877906944)] (bif !e c a q then rO [AV.v (.int .u32 0),vB η] [d]else Ω [j (w8 (b c a q))] (ao.out .normal [AV.sl 1 9 0 0 q (γ q),AV.v (.int .u32 (aj .u32 (aj .u32 (↑(OL (px 32 (aj .u32 (aj .u32 (↑(OL (px 32 h^^^px 32 (↑(R (w8 (b c a q))):Z))):Z)*(16777619:Z)))^^^px 32 (↑(M (w8 (b c a q))):Z))):Z)*(16777619:Z)))),vI (aj .i64 (a+(1:Z)))] [d,AB.row η q 9 (J g) 112]))else ao.out (Ex.exit 0) [AV.v (.int .u32 h)] [d]:=by intros;kernel_rfl
def S1(a:(O->O->Z)->Z->O->O->Z)(b:(O->O->Z)->Z->O->κ)(R M:(O->Z)->O)(c:(O->Z)->κ):aE:=ext (ext g0 52 (am dy (pK a b))) 53 (am [.val] (um R M c))
noncomputable abbrev E6:cA:=f45
abbrev BB:Ex->E O:=cx [4,6,7] [6] [2,3]
abbrev CR(q:O)(h:Z)(i:O):E AV:=[.own 1 q,.v (.int .u32 h),.v (ι i)]
abbrev Bl(m:O)(f:ω)(q:O)(g:ω):E AB:=[.row η m 9 (J f) 112,.row ε q 9 (J g) 112]
def amL(e:(O->O->Z)->Z->O->O->Z)(j:(O->O->Z)->Z->O->κ)(R M:(O->Z)->O)(k:(O->Z)->κ)(m:O)(f:ω)(q:O)(g:ω)(h:Z)(i:O):let a:=AB.row η m 9 (J f) 112;let l:=[AV.v (.int .u32 0),vB η];let b:=(↑i:Z);let c:=(J g);let d:=(w8 (e (ξ c) b q));a0 θ (S1 e j R M k) 100 K (a4 0 E6) (aw 0 53 ((BB .normal).zip (CR q h i))) (Bl m f q g) (cJ 53 BB 1)
 =bif ο (b<(24:Z))then Ω [Θ q q,ak q c,ο (q<=274877906944)] (bif !j (ξ c) b q then rO l [a]else bif !k d then rO l [a]else ao.out .normal [AV.own 1 q,AV.v (.int .u32 (aj .u32 (aj .u32 (↑(OL (px 32 (aj .u32 (aj .u32 (↑(OL (px 32 h^^^px 32 (↑(R d):Z))):Z)*(16777619:Z)))^^^px 32 (↑(M d):Z))):Z)*(16777619:Z)))),vI (aj .i64 (b+(1:Z)))] [a,AB.row ε q 9 c 112])else ao.out (Ex.exit 0) [AV.v (.int .u32 h)] [a]:=by intros;kernel_rfl
abbrev gI(m:O)(f:ω):E AB:=[.row η m 9 (J f) 112]
def agz{bs:E κ}{r:ao}{x:τ}(h:aJ bs=ε)(k:Good r x):Good (Ω bs r) x:=by
 induction bs with
 |nil=>exact k
 |cons b bs a=>
  have:b=ε/\aJ bs=ε:=by simpa[aJ]using h
  rw[this.1];exact⟨(a this.2).out⟩
def fT(a:aQ):κ:=bz (bC a)
def gh(a:aQ):O:=bif fT a then vF a 8 else 0
def gg(a:aQ):O:=bif fT a then vE a 8 else 0
def Vz{a:O->Z}(h:fT a=ε):aJ (Cc a)=ε:=ajm λk b=>by
 have c:=vG.1 h k b;have e:(bC a).f k=a k:=by
  match k,b with
  |0,_=>rfl
  |1,_=>rfl
  |2,_=>rfl
  |3,_=>rfl
  |4,_=>rfl
  |5,_=>rfl
  |6,_=>rfl
  |7,_=>rfl
 omega
def V3:au θ 146 (aS (Fm gh gg fT)):=by
 refine en (n:=100) bt func146 rfl λk v l b a=>?_
 unfold Fm at b;split at b
 ·rename_i c d e f g h i j
  cases b;rw[F]at a;have a:=a.1;show Good (ad θ g0 K 100 f146 [.v (dn (v8 c d e f g h i j))] [] ed) _
  rw[aeP];refine agz (Vz a) (one ?_);rw[gh,gg,a];rfl
 ·cases b
def V4:au θ 53 (am [.val] (um gh gg fT)):=by
 have k:aK θ (FJ λv=>bz (bC v)):=by unfold FJ;rw[pW];exact az bt Ce
 refine bY k func53 rfl λl m i n=>?_
 unfold um at i;split at i
 ·rename_i a b c d e f g h
  cases i;refine⟨[],K,100,.nil,dq _,?_⟩;show aC (ad θ (FJ λv=>bz (bC v)) K 100 f53 [.v (dn (v8 a b c d e f g h))] [] (af 0)) _
  rw[aeQ];refine ay (λq=>?_) λq=>?_
  ·have q:fT (v8 a b c d e f g h)=η:=by have j:(!fT (v8 a b c d e f g h))=ε:=q;simpa using j
   refine Φ ⟨_,rfl,?_,.nil⟩;rw[gh,gg,q];rfl
  ·have q:fT (v8 a b c d e f g h)=ε:=by have j:(!fT (v8 a b c d e f g h))=η:=q;simpa using j
   refine ag (Vz q) (Φ ⟨_,rfl,?_,.nil⟩);rw[gh,gg,q];rfl
 ·cases i
def jF(h:Z)(R M:O):Z:=aj OZ (aj OZ (((px 32 (aj OZ (aj OZ (((px 32 h^^^px 32 (R:Z)).toNat:O):Z)*16777619))^^^px 32 (M:Z)).toNat:O):Z)*16777619)
def pS(f:ω)(q:O):O->Z
 |0=>2166136261
 |i+1=>jF (pS f q i) (gh (w8 (dP f i q))) (gg (w8 (dP f i q)))
def lH(f:ω)(q:O)(i:O):κ:= !dp f i q
def adL(a:aQ):bC (w8 a)=bC a:=rfl
def ER{f:O->O->Z}{n:Z}{m:O}(h:dp f n m=ε):fT (w8 (dP f n m))=ε:=by have a:=h;unfold dp at a;rw[aM]at a;rw[fT,adL,dP,h,aZ];exact a.2
def afU:aK θ (S0 dP dp gh gg fT):=az (az bt Gy) V3
def afV:aK θ (S1 dP dp gh gg fT):=by refine az (az bt ?_) V4;rw[Io];exact MF
def aoH(m:O)(f:ω)(q:O)(g:ω)(l:q<=12):cp θ 1 (.block 0 (.loop (a4 0 E5))) (bD 49 (BA .normal) 1 (CQ q 2166136261 0) (Bj m f q g) (λa=>cond (bU (lH g q) 24) (a .normal (aw 0 49 [(6,.v (.int .u32 (pS g q 24)))]) (gI m f)) (a .ret (aw 0 49 [(2,.v (.int .u32 0)),(3,.v (.bool η))]) (gI m f)))):=by
 refine dQ afU (n:=100) (m:=1) (lv:=BA) (λi=>CQ q (pS g q i) i) (λ_=>Bj m f q g) (λi=>bU (lH g q) i=ε) 24 (λ_=>K) (du rfl rfl rfl) (aR _) rfl λa Q d i h j=>⟨cT _ _ _,?_⟩
 rw[amK];refine ay (λb=>?_) λb=>?_
 ·have b:=aL b
  have c:i<24:=by omega
  simp only[bV,nW,qW];rw[bR (x:=(i:Z)+1) (by omega)];refine ag (by simp only[F,ah,aa,aB,aT,bw,bo];omega) (ay (λp=>?_) λp=>?_)
  ·refine Φ ⟨_,ab.refl _,?_⟩
   have e:lH g q i=ε:=p;rw[og c e]at d;exact d
  ·have e:lH g q i=η:=p
   have k:dp g i q=ε:=by simpa[lH]using e
   exact ag (by rw[F];exact⟨ER k,rfl⟩) (Φ ⟨i+1,⟨rfl,c,qj h e⟩,rfl,ab.refl _⟩)
 ·have b:=cE b
  have:i=24:=by omega
  subst this;refine Φ ⟨_,ab.refl _,?_⟩;rw[aP rfl];rw[h]at d;exact d
def aoI(m:O)(f:ω)(q:O)(g:ω)(l:q<=12):cp θ 1 (.block 0 (.loop (a4 0 E6))) (bD 53 (BB .normal) 1 (CR q 2166136261 0) (Bl m f q g) (λa=>cond (bU (lH g q) 24) (a .normal (aw 0 53 [(6,.v (.int .u32 (pS g q 24)))]) (gI m f)) (a .ret (aw 0 53 [(2,.v (.int .u32 0)),(3,.v (.bool η))]) (gI m f)))):=by
 refine dQ afV (n:=100) (m:=1) (lv:=BB) (λi=>CR q (pS g q i) i) (λ_=>Bl m f q g) (λi=>bU (lH g q) i=ε) 24 (λ_=>K) (du rfl rfl rfl) (aR _) rfl λa Q d i h j=>⟨cT _ _ _,?_⟩
 rw[amL];refine ay (λb=>?_) λb=>?_
 ·have b:=aL b
  have c:i<24:=by omega
  simp only[nW,qW];rw[bR (x:=(i:Z)+1) (by omega)];refine ag (by simp only[F,ah,aa,aB,aT,bw,bo];omega) (ay (λp=>?_) λp=>?_)
  ·refine Φ ⟨_,ab.refl _,?_⟩
   have e:lH g q i=ε:=p;rw[og c e]at d;exact d
  ·have e:lH g q i=η:=p
   have k:dp g i q=ε:=by simpa[lH]using e
   rw[ER k];exact cL rfl (Φ ⟨i+1,⟨rfl,c,qj h e⟩,rfl,ab.refl _⟩)
 ·have b:=cE b
  have:i=24:=by omega
  subst this;refine Φ ⟨_,ab.refl _,?_⟩;rw[aP rfl];rw[h]at d;exact d
noncomputable abbrev LG(m:O)(f:ω)(q:O)(g:ω)(c:κ)(x:Z):O->χ Sum:=bJ 0 (bD 49 (BA .normal) 1 (CQ q 2166136261 0) (Bj m f q g) (λa=>cond c (a .normal (aw 0 49 [(6,.v (.int .u32 x))]) (gI m f)) (a .ret (aw 0 49 [(2,.v (.int .u32 0)),(3,.v (.bool η))]) (gI m f))))
noncomputable abbrev LH(m:O)(f:ω)(q:O)(g:ω)(c:κ)(x:Z):O->χ Sum:=bJ 0 (bD 53 (BB .normal) 1 (CR q 2166136261 0) (Bl m f q g) (λa=>cond c (a .normal (aw 0 53 [(6,.v (.int .u32 x))]) (gI m f)) (a .ret (aw 0 53 [(2,.v (.int .u32 0)),(3,.v (.bool η))]) (gI m f))))
def F1(yI:E Wh->κ)(tI:E Wh->E Wh):aE:=ext g0 139 (rS bP (Er yI tI))
def F2(yI:E Wh->κ)(tI:E Wh->E Wh):aE:=ext g0 89 (am bP (pL yI tI))
def aqr(yI:E Wh->κ)(tI:E Wh->E Wh)(m:O)(f:ω)(q:O)(g:ω)(c:κ)(x:Z):let b:=(V (ξ λq=>J f (0+q)) m);let a:=AB.row η m 9 (J f) 112;let e:=[AV.Ψ [AV.v (.int .u32 0),vB η]];let d:=(b_ (tI b));ad θ (F1 yI tI) (LG m f q g c x) 100 E5 [.sl 0 9 0 0 m ζ] (gI m f) (af 1)
 =Ω [Θ (0+m) m,ak m λq=>J f (0+q),ο (m<=274877906944)] (bif !yI b then rO e [a]else Ω [cw ([AV.sl 1 9 0 0 d (γ d),AV.v (.int .u32 2166136261),vI 0]=CQ q (2166136261:Z) 0/\ab [a,AB.row η d 9 (J (Y (tI b))) 112] (Bj m f q g))] (bif c then rO [AV.Ψ [AV.v (.int .u32 x),vB ε]] [a]else rO e [a])):=by intros;kernel_rfl
def aqs(yI:E Wh->κ)(tI:E Wh->E Wh)(m:O)(f:ω)(q:O)(g:ω)(c:κ)(x:Z):let b:=(V (ξ λq=>J f (0+q)) m);let a:=AB.row η m 9 (J f) 112;let d:=[AV.Ψ [AV.v (.int .u32 0),vB η]];let e:=(b_ (tI b));ad θ (F2 yI tI) (LH m f q g c x) 100 E6 [.sl 0 9 0 0 m ζ] (gI m f) (af 1)
 =Ω [Θ (0+m) m,ak m λq=>J f (0+q),ο (m<=274877906944)] (bif !yI b then rO d [a]else Ω [cw ([AV.own 1 e,AV.v (.int .u32 2166136261),vI 0]=CR q (2166136261:Z) 0/\ab [a,AB.row ε e 9 (J (Y (tI b))) 112] (Bl m f q g))] (bif c then rO [AV.Ψ [AV.v (.int .u32 x),vB ε]] [a]else rO d [a])):=by intros;kernel_rfl
def fD(L:E Wh):κ:=yI L&&bU (lH (Y (tI L)) (tI L).length) 24
def eY(L:E Wh):Z:=bif fD L then pS (Y (tI L)) (tI L).length 24 else 0
def wH(v:E Wh->Z)(y:E Wh->κ):E SA->χ FR
 |[.row m g]=>γ {val:=.Ψ [.v (.int .u32 (v (V (ξ g) m))),.v (.bool (y (V (ξ g) m)))],ap:=[ak m g,ο (m<=2^38)]}
 |_=>ζ
def Yf(L:E Wh):(tI L).length<=12:=by
 cases h:yI L with
 |true=>rw[tI,h,aZ];rw[yI,aM]at h;exact apE h.2
 |false=>rw[Hb h];exact eF _
def ajU:au θ 83 (am bP (wH eY fD)):=by
 refine bY (Γ:=F1 yI tI) (az bt MG) func83 rfl λo u c l=>?_
 unfold wH at c;split at c
 ·rename_i m g
  cases c;simp only[F]at l;obtain⟨n,p,_⟩:=l;have w:=aL p;have a:∀v b,eY (V (ξ g) m)=v->fD (V (ξ g) m)=b->aC (.out .ret [.Ψ [.v (.int .u32 v),.v (.bool b)]] (gI m (ξ g))) (dV (bI bP [.row m g] []) {val:=.Ψ [.v (.int .u32 (eY (V (ξ g) m))),.v (.bool (fD (V (ξ g) m)))],ap:=[ak m g,ο (m<=2^38)]}):=λv b r s=>Φ ⟨_,rfl,by rw[r,s],.cons (Ξ.row λj f=>(aN n j f).symm) .nil⟩
  have i:fD (V (ξ g) m)=η->aC (.out .ret [.Ψ [.v (.int .u32 0),.v (.bool η)]] (gI m (ξ g))) (dV (bI bP [.row m g] []) {val:=.Ψ [.v (.int .u32 (eY (V (ξ g) m))),.v (.bool (fD (V (ξ g) m)))],ap:=[ak m g,ο (m<=2^38)]}):=λh=>a 0 η (by rw[eY,h];rfl) h
  refine⟨gI m (ξ g),LG m (ξ g) (tI (V (ξ g) m)).length (Y (tI (V (ξ g) m))) (bU (lH (Y (tI (V (ξ g) m))) (tI (V (ξ g) m)).length) 24) (pS (Y (tI (V (ξ g) m))) (tI (V (ξ g) m)).length 24),100,.cons (Ξ.row λj f=>aN n j f) .nil,cz (by kernel_rfl) (aoH m (ξ g) _ _ (Yf _)),?_⟩;show aC (ad θ (F1 yI tI) (LG m (ξ g) (tI (V (ξ g) m)).length (Y (tI (V (ξ g) m))) (bU (lH (Y (tI (V (ξ g) m))) (tI (V (ξ g) m)).length) 24) (pS (Y (tI (V (ξ g) m))) (tI (V (ξ g) m)).length 24)) 100 E5 [.sl 0 9 0 0 m ζ] (gI m (ξ g)) (af 1)) _
  rw[aqr];simp only[bV,cb];generalize V (ξ g) m=L at a i⊢;refine ag (by simp only[F,ah,aa,aB,aT,bw,bo];omega) (ay (λq=>?_) λq=>ag (by rw[F];exact⟨cg ⟨rfl,ab.refl _⟩,rfl⟩) (ay (λk=>?_) λk=>?_))
  ·rw[it]at q
   exact i (by rw[fD,q];rfl)
  ·rw[nC]at q
   have h:fD L=ε:=by rw[fD,q,k];rfl
   exact a _ ε (by rw[eY,h];rfl) h
  ·rw[nC]at q
   exact i (by rw[fD,q,k];rfl)
 ·cases c
def ajV:au θ 45 (am bP (wH eY fD)):=by
 refine bY (Γ:=F2 yI tI) (az bt MQ) func45 rfl λo u c l=>?_
 unfold wH at c;split at c
 ·rename_i m g
  cases c;simp only[F]at l;obtain⟨n,p,_⟩:=l;have w:=aL p;have a:∀v b,eY (V (ξ g) m)=v->fD (V (ξ g) m)=b->aC (.out .ret [.Ψ [.v (.int .u32 v),.v (.bool b)]] (gI m (ξ g))) (dV (bI bP [.row m g] []) {val:=.Ψ [.v (.int .u32 (eY (V (ξ g) m))),.v (.bool (fD (V (ξ g) m)))],ap:=[ak m g,ο (m<=2^38)]}):=λv b r s=>Φ ⟨_,rfl,by rw[r,s],.cons (Ξ.row λj f=>(aN n j f).symm) .nil⟩
  have i:fD (V (ξ g) m)=η->aC (.out .ret [.Ψ [.v (.int .u32 0),.v (.bool η)]] (gI m (ξ g))) (dV (bI bP [.row m g] []) {val:=.Ψ [.v (.int .u32 (eY (V (ξ g) m))),.v (.bool (fD (V (ξ g) m)))],ap:=[ak m g,ο (m<=2^38)]}):=λh=>a 0 η (by rw[eY,h];rfl) h
  refine⟨gI m (ξ g),LH m (ξ g) (tI (V (ξ g) m)).length (Y (tI (V (ξ g) m))) (bU (lH (Y (tI (V (ξ g) m))) (tI (V (ξ g) m)).length) 24) (pS (Y (tI (V (ξ g) m))) (tI (V (ξ g) m)).length 24),100,.cons (Ξ.row λj f=>aN n j f) .nil,cz (by kernel_rfl) (aoI m (ξ g) _ _ (Yf _)),?_⟩;show aC (ad θ (F2 yI tI) (LH m (ξ g) (tI (V (ξ g) m)).length (Y (tI (V (ξ g) m))) (bU (lH (Y (tI (V (ξ g) m))) (tI (V (ξ g) m)).length) 24) (pS (Y (tI (V (ξ g) m))) (tI (V (ξ g) m)).length 24)) 100 E6 [.sl 0 9 0 0 m ζ] (gI m (ξ g)) (af 1)) _
  rw[aqs];simp only[bV,cb];generalize V (ξ g) m=L at a i⊢;refine ag (by simp only[F,ah,aa,aB,aT,bw,bo];omega) (ay (λq=>?_) λq=>ag (by rw[F];exact⟨cg ⟨rfl,ab.refl _⟩,rfl⟩) (ay (λk=>?_) λk=>?_))
  ·rw[it]at q
   exact i (by rw[fD,q];rfl)
  ·rw[nC]at q
   have h:fD L=ε:=by rw[fD,q,k];rfl
   exact a _ ε (by rw[eY,h];rfl) h
  ·rw[nC]at q
   exact i (by rw[fD,q,k];rfl)
 ·cases c
def KU(yI:E Wh->κ)(tI:E Wh->E Wh)(b:E Wh->ρ)(a:E Wh->κ):aE:=ext (F1 yI tI) 140 (am bP (un b a))
def KV(yI:E Wh->κ)(tI:E Wh->E Wh)(b:E Wh->ρ)(a:E Wh->κ):aE:=ext (F2 yI tI) 90 (am bP (un b a))
def aqP(yI:E Wh->κ)(tI:E Wh->E Wh)(d:E Wh->ρ)(a:E Wh->κ)(m:O)(f:ω):let b:=(V (ξ λq=>J f (0+q)) m);let c:=(b_ (tI b));let e:=[AB.row η m 9 (J f) 112];let g:=(V (ξ λq=>J (Y (tI b)) (0+q)) c);ad θ (KU yI tI d a) K 100 f73 [.sl 0 9 0 0 m ζ] (gI m f) (af 1)
 =Ω [Θ (0+m) m,ak m λq=>J f (0+q),ο (m<=274877906944)] (bif !yI b then rO [AV.Ψ [AV.v (.string (a8 (bj []))),vB η]] e else Ω [Θ (0+b_ (tI b)) c,ak c λq=>J (Y (tI b)) (0+q),a g] (rO [AV.Ψ [AV.v (.string (d g)),vB ε]] e)):=by intros;kernel_rfl
def aqQ(yI:E Wh->κ)(tI:E Wh->E Wh)(d:E Wh->ρ)(a:E Wh->κ)(m:O)(f:ω):let c:=(V (ξ λq=>J f (0+q)) m);let b:=(b_ (tI c));let e:=(J (Y (tI c)));let g:=[AB.row η m 9 (J f) 112];let h:=(V (ξ e) b);ad θ (KV yI tI d a) K 100 f41 [.sl 0 9 0 0 m ζ] (gI m f) (af 1)
 =Ω [Θ (0+m) m,ak m λq=>J f (0+q),ο (m<=274877906944)] (bif !yI c then rO [AV.Ψ [AV.v (.string (a8 (bj []))),vB η]] g else Ω [Θ b b,ak b e,a h] (rO [AV.Ψ [AV.v (.string (d h)),vB ε]] g)):=by intros;kernel_rfl
def uj(a:E Wh->ρ)(b:E Wh->κ):E SA->χ FR
 |[.row m g]=>γ {val:=.Ψ [.v (.string (a (V (ξ g) m))),.v (.bool (b (V (ξ g) m)))],ap:=[ak m g,ο (m<=2^38)]}
 |_=>ζ
def yc{x y A B:Z}(a: -A<=x)(b:x<=A)(c: -B<=y)(d:y<=B): -(A*B)<=x*y/\x*y<=A*B:=by
 have e:0<=A:=by omega
 have f:0<=B:=by omega
 have g:0<=(A-x)*(B-y):=Ds (by omega) (by omega);have h:0<=(A+x)*(B+y):=Ds (by omega) (by omega);have i:0<=(A-x)*(B+y):=Ds (by omega) (by omega);have j:0<=(A+x)*(B-y):=Ds (by omega) (by omega);have k:(A-x)*(B-y)=A*B-A*y-x*B+x*y:=by grind
 have l:(A+x)*(B+y)=A*B+A*y+x*B+x*y:=by grind
 have m:(A-x)*(B+y)=A*B+A*y-x*B-x*y:=by grind
 have n:(A+x)*(B-y)=A*B-A*y+x*B-x*y:=by grind
 omega
def fb(B:Z)(f:aQ):Prop:=∀k,k<8-> -B<=f k/\f k<=B
def JJ(B:Z)(f:aQ):Prop:=∀k,k<4-> -B<=f k/\f k<=B
def at8{P:O->Prop}(h:∀k,k<8->P k):P 0/\P 1/\P 2/\P 3/\P 4/\P 5/\P 6/\P 7:=
 ⟨h 0 (by omega),h 1 (by omega),h 2 (by omega),h 3 (by omega),h 4 (by omega),h 5 (by omega),h 6 (by omega),h 7 (by omega)⟩
def Mz{P:O->Prop}(h:P 0/\P 1/\P 2/\P 3/\P 4/\P 5/\P 6/\P 7):∀k,k<8->P k:=λk a=>by rcases(by omega:k=0\/k=1\/k=2\/k=3\/k=4\/k=5\/k=6\/k=7)with rfl|rfl|rfl|rfl|rfl|rfl|rfl|rfl<;>simp only[h]
def adv{a b:O->Z}{A B:Z}(c:fb A a)(d:fb B b)(k:O): -(8*(A*B))<=dm a b k/\dm a b k<=8*(A*B):=by
 have p:=at8 λi e=>at8 λj f=>yc (c i e).1 (c i e).2 (d j f).1 (d j f).2
 unfold dm;split<;>omega
def aiW{a b:O->Z}{A B:Z}(f:fb A a)(g:fb B b):fb (24*(A*B)) (bE a b):=by
 have c:=adv f g;have d:=at8 λk _=>c k
 have e:=at8 λk _=>c (k+7)
 simp only[zH]at e;refine Mz ?_;simp only[bE];omega
def Vh{a:O->Z}{A:Z}(b:fb A a):fb (2*A) (vc a):=by have h:=at8 b;refine Mz ?_;simp only[vc];omega
def W8{f:O->Z}{A:Z}(h:fb A f)(b:A<=9223372036854775807):∀k,k<8->W (f k)=f k:=λk a=>by have:=h k a;exact kL (by omega) (by omega)
def W4{f:O->Z}{A:Z}(h:JJ A f)(b:A<=9223372036854775807):∀k,k<4->W (f k)=f k:=λk a=>by have:=h k a;exact kL (by omega) (by omega)
def asB(f:aQ):∀k,k<8->w8 f k=f k:=Mz ⟨rfl,rfl,rfl,rfl,rfl,rfl,rfl,rfl⟩
def dc(φ:Z->(O->Z)->Z):E Wh->Z
 |[]=>0
 |w::l=>φ w.s w.r.f+dc φ l
def oO(φ:Z->(O->Z)->Z):Prop:=∀s f g,φ s (λk=>f k+g k)=φ s f+φ s g
def oO.zero{φ:Z->(O->Z)->Z}(h:oO φ)(s:Z):φ s (λ_=>0)=0:=by
 have:=h s (λ_=>0) (λ_=>0);have e:(λk:O=>(λ_:O=>(0:Z)) k+(λ_:O=>(0:Z)) k)=λ_=>0:=by
  funext k
  rfl
 rw[e]at this;omega
def L9(φ:Z->(O->Z)->Z):∀A B:E Wh,dc φ (A++B)=dc φ A+dc φ B
 |[],B=>by show dc φ B=0+dc φ B;omega
 |w::l,B=>by
  show φ w.s w.r.f+dc φ (l++B)=φ w.s w.r.f+dc φ l+dc φ B
  rw[L9 φ l B];omega
def UZ{φ a:Z->(O->Z)->Z}{c:Wh->Wh}:∀{L:E Wh},(∀w∈L,φ (c w).s (c w).r.f=a w.s w.r.f)->dc φ (L.map c)=dc a L
 |[],_=>rfl
 |w::l,h=>by
  show φ (c w).s (c w).r.f+dc φ (l.map c)=a w.s w.r.f+dc a l
  rw[h w (by simp),UZ λx b=>h x (by simp[b])]
def mc(B:Z)(L:E Wh):Prop:=∀w∈L,fb B w.r.f
def Cy.Fk(a:Cy){k:O}(h:8<=k):a.f k=0:=by
 unfold Cy.f
 match k,h with
 |k+8,_=>rfl
def adI{a b:Cy}(d:fb 2000000000000 a.f)(f:fb 2000000000000 b.f):(ga a b).f=λk=>a.f k+b.f k:=by
 funext k
 by_cases c:k<8
 ·have e:(ga a b).f k=W (a.f k+b.f k):=by rcases(by omega:k=0\/k=1\/k=2\/k=3\/k=4\/k=5\/k=6\/k=7)with rfl|rfl|rfl|rfl|rfl|rfl|rfl|rfl<;>rfl
  have g:=d k c;have h:=f k c;rw[e,kL (by omega) (by omega)]
 ·rw[Cy.Fk _ (by omega),Cy.Fk _ (by omega),Cy.Fk _ (by omega)]
  rfl
def J0{a:Cy}(h:bz a=ε):fb 1000000 a.f:=λk b=>by have:=vG.1 h k b;omega
def fb.mono{A B:Z}{f:O->Z}(h:fb A f)(a:A<=B):fb B f:=λk b=>by have:=h k b;omega
def mc.mono{A B:Z}{L:E Wh}(h:mc A L)(a:A<=B):mc B L:=λw b=>(h w b).mono a
def UY{φ:Z->(O->Z)->Z}(a:oO φ){w:Wh}(b:fb 2000000000000 w.r.f):∀{l:E Wh},mc 2000000000000 l->dc φ (cI l w)=dc φ l+φ w.s w.r.f
 |[],_=>by
  show φ w.s w.r.f+0=0+φ w.s w.r.f
  omega
 |x::l,h=>by
  unfold cI;split
  ·show φ x.s x.r.f+dc φ (cI l w)=φ x.s x.r.f+dc φ l+φ w.s w.r.f
   rw[UY a b λy c=>h y (by simp[c])];omega
  ·split
   ·rename_i e
    show φ x.s (ga x.r w.r).f+dc φ l=φ x.s x.r.f+dc φ l+φ w.s w.r.f
    rw[adI (h x (by simp)) b,a,e];omega
   ·show φ w.s w.r.f+(φ x.s x.r.f+dc φ l)=φ x.s x.r.f+dc φ l+φ w.s w.r.f
    omega
def okW(L:E Wh):Prop:=∀w∈L,bz w.r=ε
def okW.bd{L:E Wh}(h:okW L):mc 1000000 L:=λw a=>J0 (h w a)
def agU{l:E Wh}{w:Wh}(b:rising l)(h:okW l)(c:bz (dR l w)=ε):okW (cI l w):=λx a=>by
 have:=(Un b).subset a;rcases dw.1 this with rfl|a
 ·exact c
 ·exact h x (Z8.1 a).1
def L_{φ:Z->(O->Z)->Z}(a:oO φ):∀{ws acc B:E Wh},mc 2000000000000 ws->rising acc->okW acc->runT cI acc ws=γ B->dc φ B=dc φ acc+dc φ ws/\rising B/\okW B
 |[],acc,B,_,b,c,h=>by simp only[runT,ar]at h;subst h;exact⟨by show dc φ acc=dc φ acc+0;omega,b,c⟩
 |w::ws,acc,B,d,b,c,h=>by
  unfold runT at h;split at h
  ·rename_i f
   obtain⟨e,g,i⟩:=L_ a (ws:=ws) (λx j=>d x (by simp[j])) (Lv w b) (agU b c f) h;refine⟨?_,g,i⟩;rw[e,UY a (d w (by simp)) (c.bd.mono (by omega))];show _=dc φ acc+(φ w.s w.r.f+dc φ ws)
   omega
  ·cases h
def U1{φ:Z->(O->Z)->Z}(a:oO φ):∀L:E Wh,dc φ (bO L)=dc φ L
 |[]=>rfl
 |w::l=>by
  have b:=U1 a l;unfold bO at b⊢;by_cases h:w.r=jj
  ·rw[List.filter_cons_of_neg (by simp[h]),b]
   show dc φ l=φ w.s w.r.f+dc φ l
   rw[h,show jj.f=λ_=>0 from funext λk=>by
    by_cases c:k<8
    ·rcases(by omega:k=0\/k=1\/k=2\/k=3\/k=4\/k=5\/k=6\/k=7)with rfl|rfl|rfl|rfl|rfl|rfl|rfl|rfl<;>rfl
    ·exact Cy.Fk _ (by omega),a.zero]
   omega
  ·rw[List.filter_cons_of_pos (by simp[h])]
   show φ w.s w.r.f+dc φ _=φ w.s w.r.f+dc φ l
   rw[b]
def bH(T:E Wh):Prop:=rising T/\(∀w∈T,w.r≠jj)/\gc T=ε
def apG{ws T:E Wh}(c:mc 2000000000000 ws)(h:im ws=γ T):bH T/\∀φ,oO φ->dc φ T=dc φ ws:=by
 unfold im at h;split at h
 ·rename_i l d
  split at h
  ·rename_i f
   cases h;obtain⟨_,g,_⟩:=L_ (φ:=λ_ _=>0) (λ_ _ _=>rfl) c wh (λw a=>by simp at a) d;refine⟨⟨ZV _ g,λw a=>by simpa using(Z8.1 a).2,f⟩,λφ b=>?_⟩;obtain⟨e,_⟩:=L_ b c wh (λw a=>by simp at a) d;rw[U1 b,e];show 0+_=_
   omega
  ·cases h
 ·cases h
def aju{L:E Wh}(h:bg L=ε):im L=γ (bv L):=by
 unfold bg at h;unfold bv;cases e:im L with
 |none=>rw[e]at h;cases h
 |some T=>rfl
def zf{ws:E Wh}(a:mc 2000000000000 ws)(h:bg ws=ε):bH (bv ws)/\∀φ,oO φ->dc φ (bv ws)=dc φ ws:=apG a (aju h)
def Um:∀{l:E Wh}{w:Wh},(∀x∈l,x.s<w.s)->cI l w=l++[w]
 |[],_,_=>rfl
 |x::l,w,h=>by unfold cI;rw[aP (h x (by simp)),Um λy a=>h y (by simp[a])];rfl
def ao6{l:E Wh}{w:Wh}(h:∀x∈l,x.s<w.s):dR l w=w.r:=by
 have:(l.find? λx=>ο (x.s=w.s))=ζ:=List.find?_eq_none.2 λx a=>by have:=h x a;simp only[aB];omega
 simp[dR,jL,this]
def Xu:∀{ws acc:E Wh},rising (acc++ws)->okW ws->runT cI acc ws=γ (acc++ws)
 |[],acc,_,_=>by simp[runT]
 |w::ws,acc,b,c=>by
  have d:∀x∈acc,x.s<w.s:=λx a=>(List.pairwise_append.1 b).2.2 x a w (by simp)
  unfold runT;rw[ao6 d,aP (c w (by simp)),Um d,Xu (by simpa using b) λx a=>c x (by simp[a])];simp
def adM{L:E Wh}(h:gc L=ε):okW L:=λw a=>by rw[gc,aM,bX]at h;have:=h.2 w a;rw[aM]at this;exact this.2
def Yv{T:E Wh}(h:bH T):im T=γ T:=by
 have a:bO T=T:=List.filter_eq_self.2 λw b=>by simpa using h.2.1 w b
 unfold im;rw[Xu (acc:=[]) (by simpa using h.1) (adM h.2.2)];simp only[mO];rw[a,aP h.2.2]
def ajt{T:E Wh}(h:bH T):bg T=ε:=by rw[bg,Yv h];rfl
def apF{T:E Wh}(h:bH T):bv T=T:=by rw[bv,Yv h];rfl
def fA(a:aQ):O->Z
 |0=> -a 7
 |4=>a 3+a 7
 |k+1=>a k
def cy(a:aQ):O->O->Z
 |0=>a
 |n+1=>fA (cy a n)
def aoq(f g:aQ):fA (λk=>f k+g k)=λk=>fA f k+fA g k:=by
 funext k
 unfold fA;split
 ·show-(f 7+g 7)= -f 7+ -g 7
  omega
 ·show f 3+g 3+(f 7+g 7)=f 3+f 7+(g 3+g 7)
  omega
 ·rfl
def YA(f g:aQ):∀n,cy (λk=>f k+g k) n=λk=>cy f n k+cy g n k
 |0=>rfl
 |n+1=>by
  show fA (cy (λk=>f k+g k) n)=_
  rw[YA f g n,aoq];rfl
def Oi(f:aQ)(m:O):∀n,cy (cy f m) n=cy f (m+n)
 |0=>rfl
 |n+1=>by
  show fA (cy (cy f m) n)=fA (cy f (m+n))
  rw[Oi f m n]
def XO{f g:O->Z}(h:∀k,k<8->f k=g k):∀k,k<8->fA f k=fA g k:=by
 refine lf ?_ ?_ ?_ ?_ ?_ ?_ ?_ ?_
 ·show-f 7= -g 7;rw[h 7 (by omega)]
 ·exact h 0 (by omega)
 ·exact h 1 (by omega)
 ·exact h 2 (by omega)
 ·show f 3+f 7=g 3+g 7;rw[h 3 (by omega),h 7 (by omega)]
 ·exact h 4 (by omega)
 ·exact h 5 (by omega)
 ·exact h 6 (by omega)
def zg{f g:O->Z}(h:∀k,k<8->f k=g k):∀(n k:O),k<8->cy f n k=cy g n k
 |0=>h
 |n+1=>XO (zg h n)
def apN(f:aQ):∀k,k<8->cy f 24 k=f k:=by refine lf ?_ ?_ ?_ ?_ ?_ ?_ ?_ ?_<;>(simp only[cy,fA];omega)
def Oh(f:aQ)(m:O):∀(q k:O),k<8->cy f (m+24*q) k=cy f m k
 |0,_,_=>rfl
 |q+1,k,a=>by rw[show m+24*(q+1)=24+(m+24*q) by omega,<-Oi,zg (apN f) _ k a,Oh f m q k a]
def apO(f:aQ){m n:O}(h:m%24=n%24)(k:O)(a:k<8):cy f m k=cy f n k:=by
 have b:m=m%24+24*(m/24):=by omega
 have c:n=n%24+24*(n/24):=by omega
 rw[b,c,Oh f _ _ k a,Oh f _ _ k a,h]
def io(f:aQ)(n:Z):O->Z:=cy f (n%24).toNat
def apL(f g:aQ)(n:Z):io (λk=>f k+g k) n=λk=>io f n k+io g n k:=YA f g _
def apM{f g:O->Z}(h:∀k,k<8->f k=g k)(n:Z):∀k,k<8->io f n k=io g n k:=zg h _
def Og{B:Z}{f:O->Z}(h:fb B f):∀n,(∀k,k<4->(-(2*B)<=cy f n k/\cy f n k<=2*B)/\(-(2*B)<=cy f n (k+4)/\cy f n (k+4)<=2*B)/\(-(2*B)<=cy f n k+cy f n (k+4)/\cy f n k+cy f n (k+4)<=2*B))
 |0=>λk e=>by
  have s:=h k (by omega);have t:=h (k+4) (by omega);show(-(2*B)<=f k/\f k<=2*B)/\(-(2*B)<=f (k+4)/\f (k+4)<=2*B)/\(-(2*B)<=f k+f (k+4)/\f k+f (k+4)<=2*B)
  omega
 |n+1=>λk e=>by
  have a:=Og h n;have b:=a 0 (by omega);have c:=a 1 (by omega);have d:=a 2 (by omega);have g:=a 3 (by omega);have i:cy f (n+1) 0= -cy f n 7:=rfl;have j:cy f (n+1) 1=cy f n 0:=rfl;have l:cy f (n+1) 2=cy f n 1:=rfl;have m:cy f (n+1) 3=cy f n 2:=rfl;have o:cy f (n+1) 4=cy f n 3+cy f n 7:=rfl;have p:cy f (n+1) 5=cy f n 4:=rfl;have q:cy f (n+1) 6=cy f n 5:=rfl;have r:cy f (n+1) 7=cy f n 6:=rfl;simp only[bF,zH]at b c d g;rcases(by omega:k=0\/k=1\/k=2\/k=3)with rfl|rfl|rfl|rfl
  ·simp only[bF]
   rw[i,o];omega
  ·simp only[zH]
   rw[j,p];exact b
  ·simp only[zH]
   rw[l,q];exact c
  ·simp only[zH]
   rw[m,r];exact d
def YB{B:Z}{f:O->Z}(h:fb B f)(n:O):fb (2*B) (cy f n):=λk b=>by
 by_cases a:k<4
 ·exact(Og h n k a).1
 ·have:=(Og h n (k-4) (by omega)).2.1
  rwa [show k-4+4=k by omega]at this
def Oj{B:Z}{f:O->Z}(h:fb B f)(c:2*B<=9000000000000000000):∀(n k:O),k<8->gA f n k=cy f n k
 |0,_,_=>rfl
 |n+1,k,d=>by
  have a:=Oj h c n;have b:=YB h (n+1);have e:=b 0 (by omega);have g:=b 4 (by omega);have i:cy f (n+1) 0= -cy f n 7:=rfl;have j:cy f (n+1) 4=cy f n 3+cy f n 7:=rfl
  revert k d
  refine lf ?_ ?_ ?_ ?_ ?_ ?_ ?_ ?_
  ·show W (0-gA f n 7)= -cy f n 7
   rw[a 7 (by omega),kL (by omega) (by omega)];omega
  ·exact a 0 (by omega)
  ·exact a 1 (by omega)
  ·exact a 2 (by omega)
  ·show W (gA f n 3+gA f n 7)=cy f n 3+cy f n 7
   rw[a 3 (by omega),a 7 (by omega),kL (by omega) (by omega)]
  ·exact a 4 (by omega)
  ·exact a 5 (by omega)
  ·exact a 6 (by omega)
def N7{L:E Wh}(h:yI L=ε):aG (tI L)=ε:=by
 have a:=h;rw[yI,aM]at a;have e:tI L=bv L:=by rw[tI,h];rfl
 rw[e];exact(zf ((show mc 1000000 L from λw b=>(yi a.1 b).2).mono (by omega)) a.2).1.2.2
def fM(L:E Wh):ρ:=bif yI L then dB (tI L)else⟨#[]⟩
def af4:aK θ (KU yI tI dB aG):=az (az bt MG) Wd
def af5:aK θ (KV yI tI dB aG):=az (az bt MQ) alg
def akc:au θ 73 (am bP (uj fM yI)):=by
 refine bY af4 func73 rfl λh p c e=>?_
 unfold uj at c;split at c
 ·rename_i m g
  cases c;simp only[F]at e;obtain⟨f,i,_⟩:=e;have r:=aL i;have a:∀v b,fM (V (ξ g) m)=v->yI (V (ξ g) m)=b->aC (.out .ret [.Ψ [.v (.string v),.v (.bool b)]] (gI m (ξ g))) (dV (bI bP [.row m g] []) {val:=.Ψ [.v (.string (fM (V (ξ g) m))),.v (.bool (yI (V (ξ g) m)))],ap:=[ak m g,ο (m<=2^38)]}):=λv b n o=>Φ ⟨_,rfl,by rw[n,o],.cons (Ξ.row λj d=>(aN f j d).symm) .nil⟩
  refine⟨gI m (ξ g),K,100,.cons (Ξ.row λj d=>aN f j d) .nil,λ_ _=>cT _ _ _,?_⟩;show aC (ad θ (KU yI tI dB aG) K 100 f73 [.sl 0 9 0 0 m ζ] (gI m (ξ g)) (af 1)) _
  rw[aqP];simp only[bV,cb];generalize V (ξ g) m=L at a⊢;refine ag (by simp only[F,ah,aa,aB,aT,bw,bo];omega) (ay (λq=>?_) λq=>?_)
  ·rw[it]at q
   exact a _ _ (by rw[fM,q];rfl) q
  ·rw[nC]at q
   rw[s7];refine ag (by simp only[F,ah,aa,aT,bw,bo];exact⟨by omega,N7 q⟩) (a _ _ (by rw[fM,q];rfl) q)
 ·cases c
def VP:au θ 41 (am bP (uj fM yI)):=by
 refine bY af5 func41 rfl λh p c e=>?_
 unfold uj at c;split at c
 ·rename_i m g
  cases c;simp only[F]at e;obtain⟨f,i,_⟩:=e;have r:=aL i;have a:∀v b,fM (V (ξ g) m)=v->yI (V (ξ g) m)=b->aC (.out .ret [.Ψ [.v (.string v),.v (.bool b)]] (gI m (ξ g))) (dV (bI bP [.row m g] []) {val:=.Ψ [.v (.string (fM (V (ξ g) m))),.v (.bool (yI (V (ξ g) m)))],ap:=[ak m g,ο (m<=2^38)]}):=λv b n o=>Φ ⟨_,rfl,by rw[n,o],.cons (Ξ.row λj d=>(aN f j d).symm) .nil⟩
  refine⟨gI m (ξ g),K,100,.cons (Ξ.row λj d=>aN f j d) .nil,λ_ _=>cT _ _ _,?_⟩;show aC (ad θ (KV yI tI dB aG) K 100 f41 [.sl 0 9 0 0 m ζ] (gI m (ξ g)) (af 1)) _
  rw[aqQ];simp only[bV,cb];generalize V (ξ g) m=L at a⊢;refine ag (by simp only[F,ah,aa,aB,aT,bw,bo];omega) (ay (λq=>?_) λq=>?_)
  ·rw[it]at q
   exact a _ _ (by rw[fM,q];rfl) q
  ·rw[nC]at q
   rw[s7];refine ag (by simp only[F,ah,aa,aT,bw,bo];exact⟨by omega,N7 q⟩) (a _ _ (by rw[fM,q];rfl) q)
 ·cases c
def xH(g:ρ->Z->O->ρ)(n:ρ->Z->O)(f:ρ->Z)(a:E Wh->ρ)(yI:E Wh->κ):aE:=ext (ext (ext g0 93 (am [.val,.val] (Eg g n))) 94 (am [.val] (I6 f))) 41 (am bP (uj a yI))
abbrev BU:Ex->E O:=cx [0,4,5,6] [0,4] [2,3]
abbrev xK(k:O)(h:ω)(m:O)(a:O->ρ):E AB:=[.row ε k 9 (J h) 112,.row ε m 1 (λj=>[.string (a j)]) 9]
abbrev C2(s:ρ)(k m:O)(i:O):E AV:=[.v (.string s),.own 0 k,.own 1 m,.v (ι i)]
def anb(g:ρ->Z->O->ρ)(n:ρ->Z->O)(f:ρ->Z)(u:E Wh->ρ)(yI:E Wh->κ)(s:ρ)(k:O)(h:ω)(m:O)(o:O->ρ)(i:O):let b:=(44:Z);let e:=(↑i:Z);let r:=[AB.row ε 0 9 (λ_=>[]) 112];let t:=[AV.own 0 0,vB η];let l:=(58:Z);let d:=(o (a5 e));let p:=(↑(n d l):Z);let a:=(g d l 1);let c:=(↑(n a b):Z);a0 θ (xH g n f u yI) 200 K (a4 0 zN) (aw 0 82 ((BU .normal).zip (C2 s k m i))) (xK k h m o) (cJ 82 BU 0)
 =bif ο (e<(m:Z))then Ω [ο (e<(m:Z)),ο (a5 e<m),Δ (aW d) 4294967281] (bif p != (2:Z)then rO t r else Ω [ο ((1:Z)<p),ο (1<n d l),Δ (aW a) 4294967281] (bif c != (8:Z)then rO t r else Ω [ο ((0:Z)<p),ο (0<n d l),ο ((0:Z)<c),ο (0<n a b),ο ((1:Z)<c),ο (1<n a b),ο ((2:Z)<c),ο (2<n a b),ο ((3:Z)<c),ο (3<n a b),ο ((4:Z)<c),ο (4<n a b),ο ((5:Z)<c),ο (5<n a b),ο ((6:Z)<c),ο (6<n a b),ο ((7:Z)<c),ο (7<n a b),Θ k k,Θ (k+1) 549755813888] (ao.out .normal [AV.v (.string s),AV.own 0 (k+1),AV.own 1 m,vI (aj .i64 (e+(1:Z)))] [AB.row ε (k+1) 9 (λq=>[ι (bif Δ q k then h q 0 else f (g d l 0)),ι (bif Δ q k then h q 1 else f (g a b 0)),ι (bif Δ q k then h q 2 else f (g a b 1)),ι (bif Δ q k then h q 3 else f (g a b 2)),ι (bif Δ q k then h q 4 else f (g a b 3)),ι (bif Δ q k then h q 5 else f (g a b 4)),ι (bif Δ q k then h q 6 else f (g a b 5)),ι (bif Δ q k then h q 7 else f (g a b 6)),ι (bif Δ q k then h q 8 else f (g a b 7))]) 112,AB.row ε m 1 (λj=>[cZ (o j)]) 9])))else ao.out (Ex.exit 0) [AV.v (.string s),AV.own 0 k] [AB.row ε k 9 (J h) 112]:=by intros;kernel_rfl
noncomputable abbrev LZ(s:ρ)(m:O)(b:O->ρ)(q:κ)(k:O)(h:ω):O->χ Sum:=bJ 0 (bD 82 (BU .normal) 0 (C2 s 0 m 0) (xK 0 (Y []) m b) (λa=>cond q (a .normal (aw 0 82 [(0,.v (.string s)),(4,.own 0 k)]) [.row ε k 9 (J h) 112]) (a .ret (aw 0 82 [(2,.own 0 0),(3,.v (.bool η))]) [.row ε 0 9 (λ_=>[]) 112])))
def arF(g:ρ->Z->O->ρ)(n:ρ->Z->O)(f:ρ->Z)(d:E Wh->ρ)(yI:E Wh->κ)(s:ρ)(q:κ)(k:O)(h:ω):let a:=AB.row ε 0 9 (λ_=>[]) 112;let b:=[AV.Ψ [AV.own 0 0,vB η]];let c:=(n s (32:Z));let e:=(V (ξ (J h)) k);let i:=(aW s);ad θ (xH g n f d yI) (LZ s (n s 32) (g s 32) q k h) 200 zN [.v (.string s)] [] (af 0)
 =bif ο ((↑i:Z)> (1500:Z))then rO b [a]else bif cK s (a8 (bj [(45:ψ)]))then rO [AV.Ψ [AV.own 0 0,vB ε]] [a]else Ω [Δ i 4294967281,cw ([AV.v (.string s),AV.own 0 0,AV.own 1 c,vI 0]=C2 s 0 c 0/\ab [a,AB.row ε c 1 (λj=>[cZ (g s (32:Z) j)]) 9] (xK 0 (Y []) c (g s (32:Z))))] (bif q then Ω [Θ k k,ak k (J h),ο (k<=274877906944)] (bif !yI e then rO b [a]else bif !cK (d e) s then rO b [a]else rO [AV.Ψ [AV.own 0 k,vB ε]] [AB.row ε k 9 (J h) 112])else rO b [a]):=by intros;kernel_rfl
def arG(g:ρ->Z->O->ρ)(n:ρ->Z->O)(f:ρ->Z)(c:E Wh->ρ)(yI:E Wh->κ)(s:ρ):let a:=[AB.row ε 0 9 (λ_=>[]) 112];let b:=(aW s);ad θ (xH g n f c yI) (bJ 0 ej) 200 zN [.v (.string s)] [] (af 0)
 =bif ο ((↑b:Z)> (1500:Z))then rO [AV.Ψ [AV.own 0 0,vB η]] a else bif cK s (a8 (bj [(45:ψ)]))then rO [AV.Ψ [AV.own 0 0,vB ε]] a else Ω [Δ b 4294967281] ao.err:=by intros;kernel_rfl
def kC:E a9->a9->a9
 |[],z=>z
 |c::a,z=>.seq c (kC a z)
def fc(P:aF)(Γ:aE)(n:O):E a9->E AV->E AB->dx->ao
 |[],T,H,a=>a .normal T H
 |c::b,T,H,a=>a0 P Γ n K c T H (λe d f=>match e with
  | .normal=>fc P Γ n b d f a
  |_=>.err)
def J'{P:aF}{Γ:aE}(i:aK P Γ)(d:P.follows .mixedOrders=ε)(f:Enters P)(nn n:O){M:O->Prop}{j:υ}{g:Nu}(hM:∀k,j.heap.size<=k->M k){b:dx}{Q:Ex->E AV->E AB->Prop}{z:a9}{Qw:dj->aV->υ->Prop}(t:∀T H a w ν,(b .normal T H).ok Q->SR M j g T H a w ν->a.defers=[]->z.wpIn (cd ζ) nn P Qw a w):∀(cs:E a9),cs.all eh=ε->∀T H a w ν,(fc P Γ n cs T H b).ok Q->SR M j g T H a w ν->a.defers=[]->(kC cs z).wpIn (cd ζ) nn P Qw a w
 |[],_,T,H,a,w,ν,h,l,m=>t T H a w ν h l m
 |c::cs,o,T,H,a,w,ν,h,l,m=>by
  simp only[gl,aM]at o;refine jw (ku (lI i d f ζ nn [] n c o.1 M j g hM T H _ Q a w ν h l m) ?_);rintro e u v ⟨x,y,A,p,rfl,q,r,s⟩;cases x with
  |normal=>exact J' i d f nn n hM t cs o.2 y A u v p q r s
  |exit id=>exact q.elim
  |ret=>exact q.elim
def SR.less{M:O->Prop}{l:υ}{f:Nu}{T T':E AV}{H H':E AB}{a:aV}{w:υ}{ν:Nu}(h:SR M l f T H a w ν)(m:T'.length=T.length)(n:∀t,T'.getD t .dead=T.getD t .dead\/T'.getD t .dead=.dead)(o:H'.length=H.length)(g:∀i,H'.getD i .gone=H.getD i .gone\/H'.getD i .gone=.gone):SR M l f T' H' a w ν:=by
 refine⟨λt=>?_,⟨λi=>?_,λi j b p k c d=>?_,λi b c=>?_,h.heap.lt,h.heap.eC⟩,h.fr,λi b q=>by rw[o];exact h.b6 i b q,by rw[m];exact h.len,h.le⟩
 ·rcases n t with e|e
  ·rw[e];exact h.tmps t
  ·rw[e];simp only[VR]
 ·rcases g i with e|e
  ·simp only[e];exact h.heap.br i
  ·simp only[e];trivial
 ·refine h.heap.sep i j b p k ?_ ?_
  ·rcases g i with e|e
   ·rw[e]at c;exact c
   ·rw[e]at c;cases c
  ·rcases g j with e|e
   ·rw[e]at d;exact d
   ·rw[e]at d;cases d
 ·refine h.heap.own i b ?_
  rcases g i with e|e
  ·rw[e]at c;exact c
  ·rw[e]at c;cases c
def Vg{T TT:E AV}{live:E O}(h:T=ea live 0 TT)(t:O):T.getD t .dead=TT.getD t .dead\/T.getD t .dead=.dead:=by
 subst h;rw[B1];split
 ·exact .inl rfl
 ·exact .inr rfl
def behind(P:aF)(Γ:aE)(n:O)(fn:cA)(id:O)(a:a9)(b:AV->E AB->ao):dx:=
 sN id (C' (λT H=>a0 P Γ n K a T H (mg P fn b)) (mg P fn b))
def acM{α:Type}{P:aF}{Γ:aE}(hΓ:aK P Γ)(G:P.follows .mixedOrders=ε)(L:Enters P){f:bq}{fn:cA}(hf:P.funcs[f]?=γ fn){d:E a9}{p2 h o R:a9}{id:O}{g:cS}{ps:aU Tmp}(hb:fn.body=γ (kC d (.seq (.seq p2 (.block id (.rangeFunc g ps o R))) h)))(hDp:d.all eh=ε)(hD2:eh p2=ε)(hDr:eh h=ε)(hDa:eh o=ε)(hDb:eh R=ε){n nn:O}{avs:E AV}{TT:E AV}{HH s:E AB}{lvp:Ex->E O}{gf:O}{cs:E AV}{encs:α->E τ}{S Sp:E α->Prop}{N:O}{Q:Ex->E AV->E AB->Prop}(hpre:(fc P Γ n (d++[p2]) (avs++ez (fn.ntmps-avs.length) (.v aX)) s (eH lvp s.length)).ok (λe T' H'=>e=.normal/\T'=TT/\H'=HH))(hg:bN TT g=.fn gf cs)(T:E AV)(hTl:T.length=TT.length)(hT:∀t,T.getD t .dead=TT.getD t .dead\/T.getD t .dead=.dead)(Jv:E α->Prop)(Lx:Ex->E α->Prop)(U:E α->E AB)(hx:Ex->E α->E AB)(hHl:(U []).length=HH.length)(hH:∀i,(U []).getD i .gone=HH.getD i .gone\/(U []).getD i .gone=.gone)(eg:∀args w,(g_ gf args).run P w=.ok (.enter gf args) w)(I:(O->Prop)->υ->Nu->Prop)(hIter:∀M w ν W ν1 a1 lb,I M w ν->(∀k,w.heap.size<=k->M k)->SR M w ν TT HH a1 W ν1->SR (dv W ν1 HH) W ν1 TT HH a1 W ν1->ax ν1 cs lb->wu (cd ζ) nn P gf lb.toArray (λx=>(encs x).toArray) (Gh W (dv W ν1 (U []))) S Sp N W)(hps:∀x,(encs x).length=ps.size)(hpT:∀p∈ps.toList,p<T.length)(hJ0:Jv [])(hround:∀d x,Jv d->d.length<N->(a0 P Γ n K o (jG ps.toList (encs x) T) (U d) (mT P Γ n R HH.length)).ok (qP Jv Lx U hx (d++[x])))(hdone:∀xs,S xs->Jv xs->(behind P Γ n fn id h (af s.length) .normal T (U xs)).ok Q)(hleave:∀e d,e≠ .normal->Lx e d->Sp d->(behind P Γ n fn id h (af s.length) e T (hx e d)).ok Q):∀(M:O->Prop)(vals:E τ)(w:υ)(ν:Nu),I M w ν->(∀k,w.heap.size<=k->M k)->ax ν avs vals->RH M ν (λb=>s.getD b .gone) w->(∀i b,ν i=γ b->i<s.length)->aH P f vals.toArray w (hP Q M ν w):=by
 intro M vals w ν hI hM hv hR hdom;rw[<-Qk (n:=nn+1),<-Y'];refine callsIn_of_wp_marks hf hb trivial ?_;have hst:=qw (fn:=fn) hv hR hdom
 --the end of the function,deferred calls and all
 have A:∀(e:dj)(e':Ex)(D:O)(T':E AV)(H':E AB)(X:aV)(w':υ)(m:Nu),(e=.normal\/e=.ret)->X.defers=[{target:=.collected D,args:= #[]}]->(mg P fn (af s.length) .ret T' H').ok Q->SR M w ν T' H' X w' m->w.heap.size<=D->w'.heap[D]?=γ (.deferred (γ []))->
   wy (cd ζ) (nn+1) P fn (hP Q M ν w) e X w':=by
  intro e e' D T' H' X w' m he hd y hS hDl q;have key:LeavesInM (cd ζ) (nn+1) P fn X.tmps (hP Q M ν w) X.defers .returning w':=by
   rw[hd];refine⟨by simp,.inl ⟨D,_,rfl,run_takeDeferred q,?_⟩⟩;have hS':=hS.mE (w':=w'.putObj D (.deferred ζ)) hM (sf w' D _) λr e=>by cases e;exact⟨hDl,_,q,rfl⟩
   simp only[mg]at y;split at y
   ·rename_i vs ob hres
    obtain⟨h1,h2⟩:=vf y;obtain⟨v,h3,h4⟩:=Nd hS'.tmps hS'.heap.br hres h1;refine⟨v,h3,?_⟩;unfold af at h2;split at h2
    ·rename_i p hp'
     have hSo:SR M w ν [ng vs] H' {tmps:= #[v],defers:=[]} (w'.putObj D (.deferred ζ)) m:=by
      refine⟨λt=>?_,hS'.heap,hS'.fr,hS'.b6,by simp,hS'.le⟩;cases t with
      |zero=>simpa using h4
      |succ t=>simp only[DB,Z3,VR]
     have hW:=nt hp' hSo hdom;have hp1:p.1.length=1:=by
      have:=hp';unfold mF at this;split at this
      ·rename_i T1 H1 hT hH1
       cases hc:(iZ (iI s.length (ea [0] 0 [ng vs]) H')&&(iI s.length (ea [0] 0 [ng vs]) H').take s.length==np 0 s.length)with
       |false=>rw[hc]at this;cases this
       |true=>rw[hc]at this;cases this;have:=yH hT;simpa[ea]using this
      ·cases this
     match hp2:p.1,hp1 with
     |[av'],_=>rw[hp2]at h2 hW;exact⟨v,av',p.2,_,rfl,h2,by simpa using hW.tmps 0,hW.heap,hW.fr,hW.le,hW.b6⟩
    ·exact h2.elim
   ·exact y.elim
  rcases he with rfl|rfl
  ·exact key
  ·exact key
 --behind the loop:from what holds there
 have after:∀(e:Ex)(D:O)(T':E AV)(H':E AB)(X:aV)(w':υ)(m:Nu),X.defers=[{target:=.collected D,args:= #[]}]->(behind P Γ n fn id h (af s.length) e T' H').ok Q->SR M w ν T' H' X w' m->w.heap.size<=D->w'.heap[D]?=γ (.deferred (γ []))->
   oB id (dj.then (h.wpIn (cd ζ) (nn+1) P (wy (cd ζ) (nn+1) P fn (hP Q M ν w))) (wy (cd ζ) (nn+1) P fn (hP Q M ν w))) (Ex.to e) X w':=by
  intro e D T' H' X w' m hd y hS hDl q;have run:(a0 P Γ n K h T' H' (mg P fn (af s.length))).ok Q->h.wpIn (cd ζ) (nn+1) P (wy (cd ζ) (nn+1) P fn (hP Q M ν w)) X w':=by
   intro y;refine ku (lI hΓ G L ζ (nn+1) _ n h hDr (dv w' m H') w' m (λk y=>.inl y) T' H' _ Q X w' m y hS.rM hd) ?_;rintro e a2 w2 ⟨e2,T2,H2,ν2,rfl,hk2,hS2,hd2⟩;have hD2:w2.heap[D]?=γ (.deferred (γ [])):=(hS2.fr.block D (cm.1 q).1 (hS.pg q rfl)).trans q;have hS3:=hS.qy hM hS2;cases e2 with
   |normal=>exact A _ .normal D T2 H2 a2 w2 ν2 (.inl rfl) hd2 hk2 hS3 hDl hD2
   |ret=>exact A _ .ret D T2 H2 a2 w2 ν2 (.inr rfl) hd2 hk2 hS3 hDl hD2
   |exit j=>exact hk2.elim
  cases e with
  |normal=>exact run y
  |ret=>exact A .ret .ret D T' H' X w' m (.inr rfl) hd y hS hDl q
  |exit j=>
   simp only[behind,sN]at y;simp only[Ex.to,oB];cases hj:ai j id with
   |true=>rw[hj]at y;rw[aP (ci hj)];exact run y
   |false=>rw[hj]at y;exact y.elim
 have hpre':(fc P Γ n d (avs++ez (fn.ntmps-avs.length) (.v aX)) s (λe T' H'=>match e with
   | .normal=>fc P Γ n [p2] T' H' (eH lvp s.length)
   |_=>.err)).ok (λe T' H'=>e=.normal/\T'=TT/\H'=HH):=by
  have app:∀(l:E a9)(T:E AV)(H:E AB),fc P Γ n (l++[p2]) T H (eH lvp s.length)=fc P Γ n l T H (λe T' H'=>match e with
   | .normal=>fc P Γ n [p2] T' H' (eH lvp s.length)
   |_=>.err):=by
   intro l;induction l with
   |nil=>intro T H;rfl
   |cons c l ih=>
    intro T H;simp only[oD,fc]
    congr 1
    funext e T' H'
    cases e with
    |normal=>exact ih T' H'
    |_=>rfl
  rw[<-app];exact hpre
 refine J' hΓ G L (nn+1) n hM (λT2 H2 a2 w2 ν2 hk2 hS2 hd2=>?_) d hDp _ _ _ _ _ hpre' hst rfl;refine jw (jw (ku (lI hΓ G L ζ (nn+1) [] n p2 hD2 M w ν hM T2 H2 _ _ a2 w2 ν2 hk2 hS2 hd2) ?_));rintro e a3 w3 ⟨e3,T3,H3,ν3,rfl,B,hS3,hd3⟩;cases e3 with
 |exit j=>exact B.elim
 |ret=>exact B.elim
 |normal=>
  simp only[fc]at B;unfold eH at B;split at B
  ·rename_i p hwk
   obtain⟨_,hp1,hp2⟩:=B;have u:=nt hwk hS3 hdom;rw[hp1,hp2]at u;generalize fg (iI s.length (ea (lvp .normal) 0 T3) H3) ν3=C at u;have hSr:=u.rM;have hgv:VR C (.fn gf cs) (a3.eval g):=by
    have:=ld (T:=TT) (a:=a3) (ν:=C) (z:=g) λt _=>u.tmps t
    rw[hg]at this;exact this
   simp only[VR]at hgv;obtain⟨lb,hlb,hvs⟩:=hgv;have hS5:SR (dv w3 C (U [])) w3 C T (U []) a3 w3 C:=(u.less (T':=T) (H':=U []) hTl hT hHl hH).rM;have hS5M:SR M w ν T (U []) a3 w3 C:=u.less (T':=T) (H':=U []) hTl hT hHl hH;show(Zv id (.rangeFunc g ps o R)).wpIn (cd ζ) (nn+1) P _ a3 w3
   refine zP ?_;have sz:=u.fr.size;refine amb hΓ G L hlb eg Jv Lx U hx hDa hDb hHl hS5 (hIter M w ν w3 C a3 lb hI hM u hSr hvs) hps hpT hJ0 hround (λD xs W m hD hs hj hS q=>?_) (λD e d W m hD hne hlv hs hS q=>?_)
   ·refine after .normal D T (U xs) _ W m (by rw[<-hd3]) (hdone xs hs hj) ?_ (by omega) q
    have:=hS5M.qy hM hS;exact⟨this.tmps,this.heap,this.fr,this.b6,this.len,this.le⟩
   ·refine after e D T (hx e d) _ W m (by rw[<-hd3]) (hleave e d hne hlv hs) ?_ (by omega) q
    have:=hS5M.qy hM hS;exact⟨this.tmps,this.heap,this.fr,this.b6,this.len,this.le⟩
  ·exact B.elim
def acN{α:Type}{P:aF}{Γ:aE}(D:aK P Γ)(v:P.follows .mixedOrders=ε)(y:Enters P){f:bq}{fn:cA}(hf:P.funcs[f]?=γ fn){a:E a9}{G j c l:a9}{id:O}{g:cS}{ps:aU Tmp}(hb:fn.body=γ (kC a (.seq (.seq G (.block id (.rangeFunc g ps c l))) j)))(H:a.all eh=ε)(I:eh G=ε)(L:eh j=ε)(R:eh c=ε)(U:eh l=ε){n nn:O}{avs:E AV}{TT:E AV}{HH u:E AB}{lvp:Ex->E O}{gf:O}{cs:E AV}{encs:α->E τ}{S Sp:E α->Prop}{N:O}{Q:Ex->E AV->E AB->Prop}(z:(fc P Γ n (a++[G]) (avs++ez (fn.ntmps-avs.length) (.v aX)) u (eH lvp u.length)).ok (λe T' H'=>e=.normal/\T'=TT/\H'=HH))(hg:bN TT g=.fn gf cs)(T:E AV)(X:T.length=TT.length)(hT:∀t,T.getD t .dead=TT.getD t .dead\/T.getD t .dead=.dead)(A:E α->Prop)(Lx:Ex->E α->Prop)(q:E α->E AB)(hx:Ex->E α->E AB)(hHl:(q []).length=HH.length)(hH:∀i,(q []).getD i .gone=HH.getD i .gone\/(q []).getD i .gone=.gone)(eg:∀args w,(g_ gf args).run P w=.ok (.enter gf args) w)(r:∀W d a1 C,SR (dv W d HH) W d TT HH a1 W d->ax d cs C->wu (cd ζ) nn P gf C.toArray (λx=>(encs x).toArray) (ia W (dv W d (q []))) S Sp N W)(hps:∀x,(encs x).length=ps.size)(hpT:∀p∈ps.toList,p<T.length)(hJ0:A [])(m:∀a x,A a->a.length<N->(a0 P Γ n K c (jG ps.toList (encs x) T) (q a) (mT P Γ n l HH.length)).ok (qP A Lx q hx (a++[x])))(s:∀xs,S xs->A xs->(behind P Γ n fn id j (af u.length) .normal T (q xs)).ok Q)(o:∀e a,e≠ .normal->Lx e a->Sp a->(behind P Γ n fn id j (af u.length) e T (hx e a)).ok Q):∀(M:O->Prop)(vals:E τ)(w:υ)(ν:Nu),(∀k,w.heap.size<=k->M k)->ax ν avs vals->RH M ν (λb=>u.getD b .gone) w->(∀i b,ν i=γ b->i<u.length)->aH P f vals.toArray w (hP Q M ν w):=
 λM vals w ν hM hv hR B=>acM D v y hf hb H I L R U z hg T X hT A Lx q hx hHl hH eg (λ_ _ _=>True) (λ_ _ _ W d a1 C _ _ _ h hv=>aox (r W d a1 C h hv) λ_ _ h=>h.1) hps hpT hJ0 m s o M vals w ν trivial hM hv hR B
def acL{α:Type}{P:aF}{Γ:aE}(z:aK P Γ)(u:P.follows .mixedOrders=ε)(v:Enters P){f:bq}{fn:cA}(hf:P.funcs[f]?=γ fn){a:E a9}{A d c h:a9}{id:O}{g:cS}{ps:aU Tmp}(hb:fn.body=γ (kC a (.seq (.seq A (.block id (.rangeFunc g ps c h))) d)))(B:a.all eh=ε)(C:eh A=ε)(D:eh d=ε)(G:eh c=ε)(H:eh h=ε){n nn:O}{avs:E AV}{TT:E AV}{HH s:E AB}{lvp:Ex->E O}{gf:O}{cs:E AV}{encs:α->E τ}{S Sp:E α->Prop}{N:O}{Q:Ex->E AV->E AB->Prop}(y:(fc P Γ n (a++[A]) (avs++ez (fn.ntmps-avs.length) (.v aX)) s (eH lvp s.length)).ok (λe T' H'=>e=.normal/\T'=TT/\H'=HH))(hg:bN TT g=.fn gf cs)(T:E AV)(I:T.length=TT.length)(hT:∀t,T.getD t .dead=TT.getD t .dead\/T.getD t .dead=.dead)(lv:Ex->κ)(o:E α->E AB)(L:Ex->E α->E AB)(R:(o []).length=HH.length)(hH:∀i,(o []).getD i .gone=HH.getD i .gone\/(o []).getD i .gone=.gone)(eg:∀args w,(g_ gf args).run P w=.ok (.enter gf args) w)(q:∀W j a1 lb,SR (dv W j HH) W j TT HH a1 W j->ax j cs lb->wu (cd ζ) nn P gf lb.toArray (λx=>(encs x).toArray) (ia W (dv W j (o []))) S Sp N W)(U:∀x,(encs x).length=ps.size)(X:∀p∈ps.toList,p<T.length)(l:∀a x,a.length<N->(a0 P Γ n K c (jG ps.toList (encs x) T) (o a) (mT P Γ n h HH.length)).ok (Jr lv o L (a++[x])))(r:∀xs,S xs->(behind P Γ n fn id d (af s.length) .normal T (o xs)).ok Q)(m:∀e a,e≠ .normal->lv e=ε->Sp a->(behind P Γ n fn id d (af s.length) e T (L e a)).ok Q):∀(M:O->Prop)(vals:E τ)(w:υ)(ν:Nu),(∀k,w.heap.size<=k->M k)->ax ν avs vals->RH M ν (λb=>s.getD b .gone) w->(∀i b,ν i=γ b->i<s.length)->aH P f vals.toArray w (hP Q M ν w):=
 acN z u v hf hb B C D G H y hg T I hT (λ_=>True) (λe _=>lv e=ε) o L R hH eg q U X trivial (λa x _ hl=>anF (l a x hl)) (λxs hs _=>r xs hs) m
def mX(ν:Nu)(a:E O):O->Prop:=λk=>∃i∈a,∃b,ν i=γ b/\b.n=k
structure qO (B:O->Prop) (W W':υ):Prop where
 fr:Fr B W W'
 cells:∀k,B k->(∃l t fz,W.heap[k]?=γ (.cells (qI l) t fz))->∃l t fz,W'.heap[k]?=γ (.cells (qI l) t fz)
def Js{α:Type}(a:Fence)(n:O)(P:aF)(g:O)(j:aU τ)(encs:α->aU τ)(B M:O->Prop)(S Sp:E α->Prop)(N:O)(w:υ):Prop:=
 ∀(l:O)(b f:E α->υ->Prop)(W:υ),Below w.heap.size w W->(∀s A C,b s A->qO B A C->b s C)->(∀s A C,f s A->qO B A C->f s C)->
  (∀c x h,b c h->c.length<N->YieldAt a (n-1) P l (encs x) h λe d=>(e=.returned (.bool ε)/\b (c++[x]) d/\(h.heap.size<=d.heap.size/\(∀k,B k->d.heap[k]?=h.heap[k]?)/\aY M d))\/(e=.returned (.bool η)/\f (c++[x]) d))->
  b [] W->
  CallsIn a n P g (#[.func (.yield l) #[] #[]]++j) W λe d=>(∃v,e=.returned v)/\((∃i,S i/\b i d)\/(∃c,Sp c/\f c d))
def s4:AB->κ
 | .row η 0 _ _ _=>ε
 |_=>η
def s3:AB->κ
 | .cells _ _=>ε
 |_=>η
def qm(a:E O)(H:E AB):κ:=((dH H.length).all λi=> !(H.getD i .gone).live||(H.getD i .gone).wr||a.elem i)&&a.all λi=>s4 (H.getD i .gone)
def Lw{b:AB}(h:s4 b=ε):b.live=ε/\b.wr=η:=by
 unfold s4 at h;split at h
 ·exact⟨rfl,rfl⟩
 ·cases h
def VE{a:E O}{H:E AB}(h:qm a H=ε){j:O}(b:j∈a):(H.getD j .gone).live=ε/\(H.getD j .gone).wr=η:=by rw[qm,aM,bX]at h;exact Lw (bX.1 h.2 j b)
def ajo{d:E O}{H:E AB}(h:qm d H=ε){i:O}(a:(H.getD i .gone).live=ε)(e:i∉d):(H.getD i .gone).wr=ε:=by
 rw[qm,aM,bX]at h;by_cases b:i<H.length
 ·have:=h.1 i (mM.2 b)
  simp only[Bool.or_eq_true,it,a,Bool.true_eq_false,false_or]at this;rcases this with c|c
  ·exact c
  ·exact aO (List.elem_iff.1 c) e
 ·rw[cq,l0 (by omega)]at a
  cases a
def SR.RC{M:O->Prop}{w:υ}{ν f:Nu}{T:E AV}{H:E AB}{a:aV}{A B:υ}{o:E O}(h:SR M w ν T H a A f)(g:qm o H=ε)(p:∀i∈o,∃b,ν i=γ b/\M b.n)(q:qO (mX ν o) A B):SR M w ν T H a B f:=by
 have r:∀k,mX ν o k->M k:=λk ⟨i,m,b,d,e⟩=>by obtain⟨R,c,v⟩:=p i m;rw[d]at c;cases c;exact e▸v
 refine⟨h.tmps,⟨λi=>?_,h.heap.sep,h.heap.own,λi b d=>eE (h.heap.lt i b d) q.fr.size,h.heap.eC.block λk n v=>q.fr.block k n λd=>v (r k d)⟩,h.fr.trans (q.fr.mono λk _ n=>r k n),h.b6,h.len,h.le⟩;by_cases m:i∈o
 ·obtain⟨b,d,_⟩:=p i m
  have c:=h.le _ _ d;have s:BR f i (H.getD i .gone) A:=h.heap.br i;show BR f i (H.getD i .gone) B
  have t:s4 (H.getD i .gone)=ε:=by rw[qm,aM]at g;exact bX.1 g.2 i m
  generalize H.getD i .gone=x at s t⊢;unfold s4 at t;split at t
  ·rcases s with⟨_,_,e⟩|⟨S,l,C,D,z,G,_⟩
   ·rw[c]at e;cases e
   ·rw[c]at z
    cases z;obtain⟨I,L,y,N⟩:=q.cells b.n ⟨i,m,b,d,rfl⟩ ⟨l,C,D,G⟩;exact .inr ⟨b,I,L,y,c,N,(λe=>by cases e),eF _,λj u=>aO u (cN _)⟩
  ·cases t
 ·refine(h.heap.br i).of_block λk n P=>q.fr.block k.n (h.heap.lt i k n) ?_
  rintro⟨j,u,b,d,e⟩;have Q:=ajo g P m;exact h.heap.sep i j k b (λe=>m (e▸u)) Q (VE g u).1 n (h.le _ _ d) e.symm
def SR.aik{M:O->Prop}{p:υ}{k:Nu}{T T':E AV}{H H':E AB}{a:aV}{w:υ}{ν:Nu}(h:SR M p k T H a w ν)(q:T'.length=T.length)(r:∀t,T'.getD t .dead=T.getD t .dead\/T'.getD t .dead=.dead)(s:H'.length=H.length)(n:∀i,H'.getD i .gone=H.getD i .gone\/H'.getD i .gone=.gone\/(s4 (H'.getD i .gone)=ε/\s3 (H.getD i .gone)=ε)):SR M p k T' H' a w ν:=by
 refine⟨λt=>?_,⟨λi=>?_,λi j b u o c d=>?_,λi b c=>?_,h.heap.lt,h.heap.eC⟩,h.fr,λi b v=>by rw[s];exact h.b6 i b v,by rw[q];exact h.len,h.le⟩
 ·rcases r t with e|e
  ·rw[e];exact h.tmps t
  ·rw[e];simp only[VR]
 ·rcases n i with e|e|⟨f,g⟩
  ·simp only[e];exact h.heap.br i
  ·simp only[e];trivial
  ·have m:BR ν i (H.getD i .gone) w:=h.heap.br i
   show BR ν i (H'.getD i .gone) w
   generalize H'.getD i .gone=x at f⊢;generalize H.getD i .gone=y at g m;unfold s4 at f;split at f
   ·unfold s3 at g
    split at g
    ·obtain⟨b,l,z,_,A,_⟩:=m
     exact .inr ⟨b,l,_,_,z,A,(λe=>by cases e),eF _,λj B=>aO B (cN _)⟩
    ·cases g
   ·cases f
 ·refine h.heap.sep i j b u o ?_ ?_
  ·rcases n i with e|e|⟨f,_⟩
   ·rw[e]at c;exact c
   ·rw[e]at c;cases c
   ·rw[(Lw f).2]at c;cases c
  ·rcases n j with e|e|⟨_,g⟩
   ·rw[e]at d;exact d
   ·rw[e]at d;cases d
   ·show(H.getD j .gone).live=ε
    generalize H.getD j .gone=y at g;cases y<;>simp_all [s3,AB.live]
 ·refine h.heap.own i b ?_
  rcases n i with e|e|⟨f,_⟩
  ·rw[e]at c;exact c
  ·rw[e]at c;cases c
  ·rw[(Lw f).2]at c;cases c
def putObj_size(w:υ)(l:O)(o:Obj):(w.putObj l o).heap.size=w.heap.size:=by simp[aaQ]
def amc{α:Type}{P:aF}{Γ:aE}(hΓ:aK P Γ)(hmix:P.follows .mixedOrders=ε)(hent:Enters P){g:cS}{gf:O}{lb:aU τ}{encs:α->E τ}{ps:aU Tmp}{assign body:a9}{S Sp:E α->Prop}{N nn n:O}{T:E AV}{a:aV}{w:υ}{ν:Nu}(hg:a.eval g=.func (.func gf) #[] lb)(eg:∀args w,(g_ gf args).run P w=.ok (.enter gf args) w)(Jv:E α->Prop)(Lx:Ex->E α->Prop)(hp:E α->E AB)(hx:Ex->E α->E AB)(hD1:eh assign=ε)(hD2:eh body=ε){m:O}(hm:(hp []).length=m){M:O->Prop}(hM:∀k,w.heap.size<=k->M k)(h0:SR M w ν T (hp []) a w ν){bx:E O}(hbx:∀i∈bx,∃b,ν i=γ b/\M b.n)(hok:∀c,qm bx (hp c)=ε)(hokx:∀e c,qm bx (hx e c)=ε)(hseq:Js (cd ζ) nn P gf lb (λx=>(encs x).toArray) (mX ν bx) M S Sp N w)(hps:∀x,(encs x).length=ps.size)(hpT:∀p∈ps.toList,p<T.length)(hJ0:Jv [])(hround:∀c x,Jv c->c.length<N->(a0 P Γ n K assign (jG ps.toList (encs x) T) (hp c) (mT P Γ n body m)).ok (qP Jv Lx hp hx (c++[x]))){Q:dj->aV->υ->Prop}(hdone:∀D xs W d,w.heap.size<=D->S xs->Jv xs->SR (M) w ν T (hp xs) a W d->W.heap[D]?=γ (.deferred (γ []))->Q .normal {a with defers:={target:=.collected D,args:= #[]}::a.defers} W)(L:∀D e c W d,w.heap.size<=D->e≠ .normal->Lx e c->Sp c->SR (M) w ν T (hx e c) a W d->W.heap[D]?=γ (.deferred (γ []))->Q (Ex.to e) {a with defers:={target:=.collected D,args:= #[]}::a.defers} W):(Code.rangeFunc g ps assign body).wpIn (cd ζ) (nn+1) P Q a w:=by
 have X:∀k,mX ν bx k->k<w.heap.size:=λk ⟨i,_,b,hb,l⟩=>l▸h0.heap.lt i b hb
 refine wpIn_rangeFunc λfn hfn=>?_
 obtain⟨rec,q⟩:∃rec:LoopState->χ a9->Loop,rec=λst pe=>{state:=st,pending:=pe,fn,tmps:=a.tmps,params:=ps,assign,body,defers:=w.heap.size}:=⟨_,rfl⟩
 obtain⟨W1,hW1⟩:∃W1,(w.alloc (.deferred (γ []))).alloc (.loop (rec .ready ζ))=W1:=⟨_,rfl⟩;have hsz:W1.heap.size=w.heap.size+2:=by rw[<-hW1];simp
 have hL1:W1.heap[w.heap.size+1]?=γ (.loop (rec .ready ζ)):=by rw[<-hW1];have:=l8 (w.alloc (.deferred (γ []))) (.loop (rec .ready ζ));rwa [World.size_alloc]at this
 have hK1:W1.heap[w.heap.size]?=γ (.deferred (γ [])):=by rw[<-hW1];exact(gj _ _ _ (by simp)).trans (l8 w _)
 have hg1:w.grownBy W1 ζ:=by rw[<-hW1];have e1:=fk w (.deferred (γ [])) ζ;have e2:=fk (w.alloc (.deferred (γ []))) (.loop (rec .ready ζ)) ζ;exact⟨e2.os.trans e1.os,e2.tape.trans e1.tape,e2.output.trans e1.output,cD e1.size e2.size,λk l hn=>(e2.block k (eE l e1.size) hn).trans (e1.block k l hn)⟩
 have hb1:Below w.heap.size w W1:=⟨hg1.os,hg1.tape,hg1.output,hg1.size,λk l=>hg1.block k l (by simp)⟩
 --the caller's word:I
 let I:E α->υ->Prop:=λc W=>Jv c/\∃d,SR (M) w ν T (hp c) a W d
 let Ix:Ex->E α->υ->Prop:=λe c W=>(e≠ .normal/\Lx e c)/\∃d,SR (M) w ν T (hx e c) a W d
 have hI:∀c W W' H,I c W->W.grownBy W' H->(∀r,H=γ r->w.heap.size<=r/\∃o:Obj,W.heap[r]?=γ o/\o.isCells=η)->I c W':=
  λc W W' H ⟨hj,d,u⟩ hg hr=>⟨hj,d,u.mE hM hg hr⟩
 have hIx:∀e c W W' H,Ix e c W->W.grownBy W' H->(∀r,H=γ r->w.heap.size<=r/\∃o:Obj,W.heap[r]?=γ o/\o.isCells=η)->Ix e c W':=
  λe c W W' H ⟨hn,d,u⟩ hg hr=>⟨hn,d,u.mE hM hg hr⟩
 have hI1:I [] W1:=hI [] w W1 ζ ⟨hJ0,ν,h0⟩ hg1 λr e=>by cases e
 have hC:∀c A B,I c A->qO (mX ν bx) A B->I c B:=λc A B ⟨hj,d,u⟩ hc=>⟨hj,d,u.RC (hok c) hbx hc⟩
 have hCx:∀e c A B,Ix e c A->qO (mX ν bx) A B->Ix e c B:=λe c A B ⟨hj,d,u⟩ hc=>⟨hj,d,u.RC (hokx e c) hbx hc⟩
 have R:∀{A B:υ}{k:O}{o:Obj},qO (mX ν bx) A B->w.heap.size<=k->A.heap[k]?=γ o->B.heap[k]?=γ o:=λ{A B k o} hc l ho=>(hc.fr.block k (cm.1 ho).1 λhb=>by have:=X k hb;omega).trans ho
 refine⟨w.heap.size+1,[{target:=.collected w.heap.size,args:= #[]}],W1,{target:=.fn (.func gf) lb,args:= #[.func (.yield (w.heap.size+1)) #[] #[]]},W1,gf,#[.func (.yield (w.heap.size+1)) #[] #[]]++lb,W1,?_,?_,λ_ _=>trivial,?_,λh=>(by cases h),?_⟩
 ·rw[<-hW1,q];exact run_enterLoop_outer _ _ _ _ _
 ·simp only[kt,hg]
  simp[go_sem]
 ·simp[invoke,go_sem,eg]
 ·refine(hseq (w.heap.size+1) (λc W=>I c W/\W.heap[w.heap.size+1]?=γ (.loop (rec .ready ζ))/\W.heap[w.heap.size]?=γ (.deferred (γ []))) (λc W=>∃e,Ix e c W/\W.heap[w.heap.size+1]?=γ (.loop (rec .done (γ (xP e))))/\W.heap[w.heap.size]?=γ (.deferred (γ []))) W1 hb1 (λs A B u hc=>⟨hC s A B u.1 hc,R hc (by omega) u.2.1,R hc (aR _) u.2.2⟩) (λs A B u hc=>by obtain⟨e,he,hl,l⟩:=u;exact⟨e,hCx e s A B he hc,R hc (by omega) hl,R hc (aR _) l⟩) ?_ ⟨hI1,hL1,hK1⟩).mono ?_
  ·rintro c x W ⟨⟨hj,d,u⟩,hl,l⟩ hlen
   have hlt:w.heap.size+1<W.heap.size:=(cm.1 hl).1;have hy:=run_yield (P:=P) (args:=(encs x).toArray) hl (by rw[q];simp[hps x]);rw[q]at hy;refine⟨fn,_,assign,body,hy,roundIn_of_wpIn hfn ?_⟩;have hpar:=MT (ps:=ps.toList) (vs:=encs x) (T:=T) (t:=a.tmps) hpT u.len u.tmps;have hfold:(ps.zip (encs x).toArray).foldl (λt (p,v)=>t.setIfInBounds p v) a.tmps=(ps.toList.zip (encs x)).foldl (λt (p,v)=>t.setIfInBounds p v) a.tmps:=by rw[<-Array.foldl_toList,Array.toList_zip]
   have U:SR (M) w ν (jG ps.toList (encs x) T) (hp c) {tmps:=(ps.toList.zip (encs x)).foldl (λt (p,v)=>t.setIfInBounds p v) a.tmps,defers:=[]} W d:=
    ⟨hpar.1,u.heap,u.fr,u.b6,hpar.2,u.le⟩
   have hnb:∀k,mX ν bx k->¬dv W d (hp c) k:=by
    rintro k l (hk'|⟨i,b,hw,hb,rfl⟩)
    ·have:=u.fr.size;have:=X k l;omega
    ·obtain⟨j,hj,b',hb',e⟩:=l
     obtain⟨h1,h2⟩:=VE (hok c) hj;exact u.heap.sep i j b b' (λe=>by subst e;rw[h2]at hw;cases hw) hw h1 hb (u.le _ _ hb') e.symm
   have run1:=lI hΓ hmix hent (γ (w.heap.size+1)) (nn-1) [] n assign hD1 (dv W d (hp c)) W d (λk l=>.inl l) _ _ _ _ _ W d (hround c x hj hlen) U.rM rfl;show assign.wpIn (cd (γ (w.heap.size+1))) (nn-1) P _ _ W
   simp only[hfold];refine ku run1 ?_;rintro e a1 Wa ⟨e1,T1,H1,ν1,rfl,hk1,hS1,hd1⟩;cases e1 with
   |exit id=>exact hk1.elim
   |ret=>exact hk1.elim
   |normal=>
    have hlA:Wa.heap[w.heap.size+1]?=γ (.loop (rec .ready ζ)):=(hS1.fr.block _ hlt (u.pg hl rfl)).trans hl;have hkA:Wa.heap[w.heap.size]?=γ (.deferred (γ [])):=(hS1.fr.block _ (by omega) (u.pg l rfl)).trans l;have hSu:=U.qy hM hS1;refine⟨_,run_beginRound hlA (by rw[q]),?_⟩;obtain⟨G,hW2⟩:∃G,Wa.putObj (w.heap.size+1) (.loop {rec .ready ζ with state:=.busy})=G:=⟨_,rfl⟩;have hl2:G.heap[w.heap.size+1]?=γ (.loop {rec .ready ζ with state:=.busy}):=by rw[<-hW2];exact Qi (cm.1 hlA).1
    have hk2:G.heap[w.heap.size]?=γ (.deferred (γ [])):=by rw[<-hW2];exact(qM (by omega)).trans hkA
    have hS2:SR (M) w ν T1 H1 a1 G ν1:=by
     rw[<-hW2];refine hSu.mE hM (sf Wa _ _) λr e=>?_
     cases e;exact⟨by omega,_,hlA,rfl⟩
    have hkp2:∀k,mX ν bx k->G.heap[k]?=W.heap[k]?:=λk l=>by rw[<-hW2];have:=X k l;have:=u.fr.size;exact(qM (by omega)).trans (hS1.fr.block k (by omega) (hnb k l))
    have hsz2:W.heap.size<=G.heap.size:=by rw[<-hW2];have:=hS1.fr.size;simpa[aaQ]using this
    have hW1o:∀i b,(H1.getD i .gone).wr=ε->ν1 i=γ b->dv W d (hp c) b.n:=λi b hw hb=>hS1.heap.own i b hw hb
    rw[hW2];have hnb2:∀k,mX ν bx k->¬dv G ν1 H1 k:=by
     rintro k l (hk'|⟨i,b,hw,hb,rfl⟩)
     ·have:=X k l;have:=u.fr.size;omega
     ·exact hnb _ l (hW1o i b hw hb)
    have run2:=lI hΓ hmix hent (γ (w.heap.size+1)) (nn-1) [] n body hD2 (dv G ν1 H1) G ν1 (λk l=>.inl l) _ _ _ _ a1 G ν1 hk1 hS2.rM hd1;refine ku run2 ?_;rintro e a2 W3 ⟨e2,T2,H2,ν2,rfl,z,hS3,hd3⟩;have hl3:W3.heap[w.heap.size+1]?=γ (.loop {rec .ready ζ with state:=.busy}):=(hS3.fr.block _ (cm.1 hl2).1 (hS2.pg hl2 rfl)).trans hl2;have hk3':W3.heap[w.heap.size]?=γ (.deferred (γ [])):=(hS3.fr.block _ (cm.1 hk2).1 (hS2.pg hk2 rfl)).trans hk2;have hS4:=hS2.qy hM hS3;have hkp3:∀k,mX ν bx k->W3.heap[k]?=W.heap[k]?:=λk l=>(hS3.fr.block k (by have:=X k l;have:=u.fr.size;omega) (hnb2 k l)).trans (hkp2 k l)
    have hsz3:=cD hsz2 hS3.fr.size;unfold J2 eH at z;split at z
    ·rename_i p hwk
     have hS5:=nt hwk hS4 (by rw[<-hm];exact h0.b6);have fin:∀(f:χ a9),(Instr.endRound (w.heap.size+1) f).run P W3=.ok (.bool f.isNone) (W3.putObj (w.heap.size+1) (.loop (rec (if f.isNone then .ready else .done) f)))/\
       (W3.putObj (w.heap.size+1) (.loop (rec (if f.isNone then .ready else .done) f))).heap[w.heap.size+1]?=γ (.loop (rec (if f.isNone then .ready else .done) f))/\
       (W3.putObj (w.heap.size+1) (.loop (rec (if f.isNone then .ready else .done) f))).heap[w.heap.size]?=γ (.deferred (γ []))/\∀HH ν3,SR (M) w ν p.1 HH a2 W3 ν3->SR (M) w ν T HH a (W3.putObj (w.heap.size+1) (.loop (rec (if f.isNone then .ready else .done) f))) ν3:=λf=>by
      have:=run_endRound (P:=P) f hl3;rw[q]at this⊢;refine⟨this,Qi (cm.1 hl3).1,(qM (by omega)).trans hk3',λHH ν3 hh=>?_⟩;have h1:SR (M) w ν T HH a W3 ν3:=⟨λt=>(h0.tmps t).le hh.le,hh.heap,hh.fr,hh.b6,h0.len,hh.le⟩;refine h1.mE hM (sf W3 _ _) λr e=>?_
      cases e;exact⟨by omega,_,hl3,rfl⟩
     cases e2 with
     |normal=>obtain⟨f1,f2,f3,f4⟩:=fin ζ;exact⟨_,_,f1,.inl ⟨rfl,⟨⟨z.1,_,f4 _ _ (hS5.ii z.2)⟩,f2,f3⟩,by rw[putObj_size];exact hsz3,λk l=>(qM (by have:=X k l;omega)).trans (hkp3 k l),(f4 _ _ (hS5.ii z.2)).heap.eC⟩⟩
     |ret=>obtain⟨f1,f2,f3,f4⟩:=fin (γ .ret);exact⟨_,_,f1,.inr ⟨rfl,.ret,⟨⟨(by simp),z.1⟩,_,f4 _ _ (hS5.ii z.2)⟩,f2,f3⟩⟩
     |exit id=>obtain⟨f1,f2,f3,f4⟩:=fin (γ (.exit id));exact⟨_,_,f1,.inr ⟨rfl,.exit id,⟨⟨(by simp),z.1⟩,_,f4 _ _ (hS5.ii z.2)⟩,f2,f3⟩⟩
    ·exact z.elim
  ·rintro e G ⟨⟨v,rfl⟩,(⟨xs,hS,⟨hj,d,hi⟩,hl,l⟩|⟨c,hSp,e,⟨hne,d,hi⟩,hl,l⟩)⟩
   ·have C:=Qo (P:=P) hl (by rw[q];simp)
    rw[q]at C;refine⟨ζ,_,C,hdone _ xs _ d (aR _) hS hj (hi.mE hM (sf G _ _) λr e=>?_) ((qM (by omega)).trans l)⟩;cases e;exact⟨by omega,_,hl,rfl⟩
   ·have C:=Qo (P:=P) hl (by rw[q];simp)
    rw[q]at C;have hi':=hi.mE (w':=G.putObj (w.heap.size+1) (.loop {rec .done (γ (xP e))with state:=.exhausted})) hM (sf G _ _) λr e=>by cases e;exact⟨by omega,_,hl,rfl⟩
    have hk':(G.putObj (w.heap.size+1) (.loop {rec .done (γ (xP e))with state:=.exhausted})).heap[w.heap.size]?=γ (.deferred (γ [])):=(qM (by omega)).trans l;rw[q]at hi' hk';refine⟨_,_,C,?_⟩;cases e with
    |normal=>exact(hne.1 rfl).elim
    |ret=>exact wpIn_ret (L _ .ret c _ d (aR _) hne.1 hne.2 hSp hi' hk')
    |exit id=>exact wpIn_exit (L _ (.exit id) c _ d (aR _) hne.1 hne.2 hSp hi' hk')
def Ob(P:aF)(Γ:aE)(n:O)(c:a9)(a:dx):dx:=λe b d=>match e with
 | .normal=>a0 P Γ n K c b d a
 |_=>.err
def EN(P:aF)(Γ:aE)(n t:O)(f:a9)(a:dx):dx:=λe c d=>match e with
 | .normal=>(match c.getD t .dead with
  | .v (.bool b)=>cond b (a0 P Γ n K f c d (λe c d=>match e with
   | .normal=>a .normal c d
   |_=>.err)) .err
  |_=>.err)
 |_=>.err
def acO{α:Type}{P:aF}{Γ:aE}(hΓ:aK P Γ)(A:P.follows .mixedOrders=ε)(B:Enters P){f:bq}{fn:cA}(hf:P.funcs[f]?=γ fn){c:E a9}{ct:O}{p1 p2 d h C:a9}{id:O}{g:cS}{ps:aU Tmp}(hb:fn.body=γ (kC c (.seq (.seq p1 (.cond (.tmp ct) (.seq p2 (.block id (.rangeFunc g ps h C))) .skip)) d)))(hD1:eh p1=ε)(hDp:c.all eh=ε)(hD2:eh p2=ε)(hDr:eh d=ε)(hDa:eh h=ε)(hDb:eh C=ε){n nn:O}{avs:E AV}{TT:E AV}{HH R:E AB}{lvp:Ex->E O}{gf:O}{cs:E AV}{encs:α->E τ}{S Sp:E α->Prop}{N:O}{Q:Ex->E AV->E AB->Prop}(hpre:(fc P Γ n c (avs++ez (fn.ntmps-avs.length) (.v aX)) R (Ob P Γ n p1 (EN P Γ n ct p2 (eH lvp R.length)))).ok (λe T' H'=>e=.normal/\T'=TT/\H'=HH))(hg:bN TT g=.fn gf cs)(T:E AV)(hTl:T.length=TT.length)(hT:∀t,T.getD t .dead=TT.getD t .dead\/T.getD t .dead=.dead)(Jv:E α->Prop)(Lx:Ex->E α->Prop)(hp:E α->E AB)(hx:Ex->E α->E AB)(hHl:(hp []).length=HH.length)(bx:E O)(hbx:∀i∈bx,s3 (HH.getD i .gone)=ε)(hok:∀c,qm bx (hp c)=ε)(hokx:∀e c,qm bx (hx e c)=ε)(hH:∀i,(hp []).getD i .gone=HH.getD i .gone\/(hp []).getD i .gone=.gone\/(s4 ((hp []).getD i .gone)=ε/\s3 (HH.getD i .gone)=ε))(eg:∀args w,(g_ gf args).run P w=.ok (.enter gf args) w)(hIter:∀W G a1 lb,SR (dv W G HH) W G TT HH a1 W G->ax G cs lb->Js (cd ζ) nn P gf lb.toArray (λx=>(encs x).toArray) (mX G bx) (dv W G HH) S Sp N W)(hps:∀x,(encs x).length=ps.size)(hpT:∀p∈ps.toList,p<T.length)(hJ0:Jv [])(hround:∀c x,Jv c->c.length<N->(a0 P Γ n K h (jG ps.toList (encs x) T) (hp c) (mT P Γ n C HH.length)).ok (qP Jv Lx hp hx (c++[x])))(hdone:∀xs,S xs->Jv xs->(behind P Γ n fn id d (af R.length) .normal T (hp xs)).ok Q)(hleave:∀e c,e≠ .normal->Lx e c->Sp c->(behind P Γ n fn id d (af R.length) e T (hx e c)).ok Q):∀(M:O->Prop)(vals:E τ)(w:υ)(ν:Nu),(∀k,w.heap.size<=k->M k)->ax ν avs vals->RH M ν (λb=>R.getD b .gone) w->(∀i b,ν i=γ b->i<R.length)->aH P f vals.toArray w (hP Q M ν w):=by
 intro M vals w ν hM hv hR hdom;rw[<-Qk (n:=nn+1),<-Y'];refine callsIn_of_wp_marks hf hb trivial ?_;have hst:=qw (fn:=fn) hv hR hdom
 --the end of the function,deferred calls and all
 have I:∀(e:dj)(e':Ex)(D:O)(T':E AV)(H':E AB)(U:aV)(w':υ)(m:Nu),(e=.normal\/e=.ret)->U.defers=[{target:=.collected D,args:= #[]}]->(mg P fn (af R.length) .ret T' H').ok Q->SR M w ν T' H' U w' m->w.heap.size<=D->w'.heap[D]?=γ (.deferred (γ []))->
   wy (cd ζ) (nn+1) P fn (hP Q M ν w) e U w':=by
  intro e e' D T' H' U w' m he hd u hS hDl q;have key:LeavesInM (cd ζ) (nn+1) P fn U.tmps (hP Q M ν w) U.defers .returning w':=by
   rw[hd];refine⟨by simp,.inl ⟨D,_,rfl,run_takeDeferred q,?_⟩⟩;have X:=hS.mE (w':=w'.putObj D (.deferred ζ)) hM (sf w' D _) λr e=>by cases e;exact⟨hDl,_,q,rfl⟩
   simp only[mg]at u;split at u
   ·rename_i vs ob hres
    obtain⟨h1,h2⟩:=vf u;obtain⟨v,h3,h4⟩:=Nd X.tmps X.heap.br hres h1;refine⟨v,h3,?_⟩;unfold af at h2;split at h2
    ·rename_i p hp'
     have hSo:SR M w ν [ng vs] H' {tmps:= #[v],defers:=[]} (w'.putObj D (.deferred ζ)) m:=by
      refine⟨λt=>?_,X.heap,X.fr,X.b6,by simp,X.le⟩;cases t with
      |zero=>simpa using h4
      |succ t=>simp only[DB,Z3,VR]
     have hW:=nt hp' hSo hdom;have hp1:p.1.length=1:=by
      have:=hp';unfold mF at this;split at this
      ·rename_i T1 H1 hT hH1
       cases hc:(iZ (iI R.length (ea [0] 0 [ng vs]) H')&&(iI R.length (ea [0] 0 [ng vs]) H').take R.length==np 0 R.length)with
       |false=>rw[hc]at this;cases this
       |true=>rw[hc]at this;cases this;have:=yH hT;simpa[ea]using this
      ·cases this
     match hp2:p.1,hp1 with
     |[av'],_=>rw[hp2]at h2 hW;exact⟨v,av',p.2,_,rfl,h2,by simpa using hW.tmps 0,hW.heap,hW.fr,hW.le,hW.b6⟩
    ·exact h2.elim
   ·exact u.elim
  rcases he with rfl|rfl
  ·exact key
  ·exact key
 --behind the loop:from what holds there
 have after:∀(e:Ex)(D:O)(T':E AV)(H':E AB)(U:aV)(w':υ)(m:Nu),U.defers=[{target:=.collected D,args:= #[]}]->(behind P Γ n fn id d (af R.length) e T' H').ok Q->SR M w ν T' H' U w' m->w.heap.size<=D->w'.heap[D]?=γ (.deferred (γ []))->
   oB id (dj.then (d.wpIn (cd ζ) (nn+1) P (wy (cd ζ) (nn+1) P fn (hP Q M ν w))) (wy (cd ζ) (nn+1) P fn (hP Q M ν w))) (Ex.to e) U w':=by
  intro e D T' H' U w' m hd u hS hDl q;have run:(a0 P Γ n K d T' H' (mg P fn (af R.length))).ok Q->d.wpIn (cd ζ) (nn+1) P (wy (cd ζ) (nn+1) P fn (hP Q M ν w)) U w':=by
   intro u;refine ku (lI hΓ A B ζ (nn+1) _ n d hDr (dv w' m H') w' m (λk u=>.inl u) T' H' _ Q U w' m u hS.rM hd) ?_;rintro e a2 w2 ⟨e2,T2,H2,ν2,rfl,o,hS2,hd2⟩;have hD2:w2.heap[D]?=γ (.deferred (γ [])):=(hS2.fr.block D (cm.1 q).1 (hS.pg q rfl)).trans q;have hS3:=hS.qy hM hS2;cases e2 with
   |normal=>exact I _ .normal D T2 H2 a2 w2 ν2 (.inl rfl) hd2 o hS3 hDl hD2
   |ret=>exact I _ .ret D T2 H2 a2 w2 ν2 (.inr rfl) hd2 o hS3 hDl hD2
   |exit j=>exact o.elim
  cases e with
  |normal=>exact run u
  |ret=>exact I .ret .ret D T' H' U w' m (.inr rfl) hd u hS hDl q
  |exit j=>
   simp only[behind,sN]at u;simp only[Ex.to,oB];cases hj:ai j id with
   |true=>rw[hj]at u;rw[aP (ci hj)];exact run u
   |false=>rw[hj]at u;exact u.elim
 refine J' hΓ A B (nn+1) n hM (λT1 H1 a1 w1 G hk1 hS1 hd1=>?_) c hDp _ _ _ _ _ hpre hst rfl;refine jw (jw (ku (lI hΓ A B ζ (nn+1) [] n p1 hD1 M w ν hM T1 H1 _ _ a1 w1 G hk1 hS1 hd1) ?_));rintro e a2 w2 ⟨e2,T2,H2,ν2,rfl,o,hS2,hd2⟩;cases e2 with
 |exit j=>exact o.elim
 |ret=>exact o.elim
 |normal=>
 simp only[EN]at o;split at o
 case h_2=>exact o.elim
 rename_i bb hbb;rcases kZ o with⟨hb1,o⟩|⟨_,o⟩
 case inr=>exact o.elim
 subst hb1;have hct:a2.eval (.tmp ct)=.bool ε:=by have:=hS2.tmps ct;rw[hbb]at this;simp only[VR]at this;exact this
 show(Dm (.tmp ct) (.seq p2 (.block id (.rangeFunc g ps h C))) .skip).wpIn (cd ζ) (nn+1) P _ a2 w2
 refine aaV hct (jw (ku (lI hΓ A B ζ (nn+1) [] n p2 hD2 M w ν hM T2 H2 _ _ a2 w2 ν2 o hS2 hd2) ?_));rintro e a3 w3 ⟨e3,T3,H3,ν3,rfl,L,hS3,hd3⟩;cases e3 with
 |exit j=>exact L.elim
 |ret=>exact L.elim
 |normal=>
  simp only at L;unfold eH at L;split at L
  ·rename_i p hwk
   obtain⟨_,hp1,hp2⟩:=L;have H:=nt hwk hS3 hdom;rw[hp1,hp2]at H;generalize fg (iI R.length (ea (lvp .normal) 0 T3) H3) ν3=s at H;have hSr:=H.rM;have hgv:VR s (.fn gf cs) (a3.eval g):=by
    have:=ld (T:=TT) (a:=a3) (ν:=s) (z:=g) λt _=>H.tmps t
    rw[hg]at this;exact this
   simp only[VR]at hgv;obtain⟨lb,hlb,hvs⟩:=hgv;have hS5:SR (dv w3 s HH) w3 s T (hp []) a3 w3 s:=hSr.aik (T':=T) (H':=hp []) hTl hT hHl hH;have hbx':∀i∈bx,∃b,s i=γ b/\dv w3 s HH b.n:=λi hi=>by
    have hc:=hbx i hi;have hbr:BR s i (HH.getD i .gone) w3:=H.heap.br i;have hw:(HH.getD i .gone).wr=ε:=by generalize HH.getD i .gone=y at hc;cases y<;>simp_all [s3,AB.wr]
    cases hy:HH.getD i .gone with
    |cells cs t=>rw[hy]at hbr;obtain⟨b,l,e1,_⟩:=hbr;exact⟨b,e1,.inr ⟨i,b,hw,e1,rfl⟩⟩
    |row=>rw[hy]at hc;cases hc
    |gone=>rw[hy]at hc;cases hc
   show(Zv id (.rangeFunc g ps h C)).wpIn (cd ζ) (nn+1) P _ a3 w3
   refine zP ?_;have sz:=H.fr.size;refine amc hΓ A B hlb eg Jv Lx hp hx hDa hDb hHl (λk u=>.inl u) hS5 hbx' hok hokx (hIter w3 s a3 lb hSr hvs) hps hpT hJ0 hround (λD xs W m hD hs hj hS q=>?_) (λD e c W m hD hne hlv hs hS q=>?_)
   ·refine after .normal D T (hp xs) _ W m (by rw[<-hd3]) (hdone xs hs hj) ?_ (by omega) q
    have:=H.qy hM hS;exact⟨this.tmps,this.heap,this.fr,this.b6,this.len,this.le⟩
   ·refine after e D T (hx e c) _ W m (by rw[<-hd3]) (hleave e c hne hlv hs) ?_ (by omega) q
    have:=H.qy hM hS;exact⟨this.tmps,this.heap,this.fr,this.b6,this.len,this.le⟩
  ·exact L.elim
def aiC{P:aF}{Γ:aE}(x:aK P Γ){nn:O}{all:aU a6}{Q:dj->aV->υ->Prop}{k:O}{o:a6}(q:all[k]?=γ o)(N:o.guard=ζ)(R:∀c,o.op≠ .defer c){M:O->Prop}{y:υ}{r:Nu}(hM:∀k,y.heap.size<=k->M k){T:E AV}{H:E AB}{a:aV}{w:υ}{ν:Nu}{δ:Delta}(A:fj P Γ o T H H.length=γ δ)(S:aJ δ.ap=ε)(s:(k9 T o.dst&&δ.put.all λp=>(H.getD p.1 .gone).wr)=ε)(g:SR M y r T H a w ν){d:aV->υ->Prop}(U:∀B w' m,SR M y r (lU T o.dst δ.val) (iF H δ) B w' m->B.defers=a.defers->d B w'):uf (cd ζ) nn P all Q k d a w:=by
 unfold uf;rw[q];simp only;rw[aP (by simp[nK,N])];refine Wm R ?_;have W:∀t,VR ν (T.getD t .dead) (a.tmps.getD t aX):=g.tmps;rw[aM]at s;have f:∀p∈δ.put,(H.getD p.1 .gone).wr=ε:=λp C=>bX.1 s.2 p C
 have h:∀j,j<δ.new.length->ν (H.length+j)=ζ:=by
  intro j _;cases n:ν (H.length+j)with
  |none=>rfl
  |some b=>have:=g.b6 _ b n;omega
 refine GA x A S (λz _=>ld λt _=>W t) (λb _=>g.heap.br b) g.heap.lt h (λX c j' b D C _ G I s h2=>g.heap.sep X j' b D G (f _ C) I s h2) (g.heap.EI (λk q=>hM k (cD g.fr.size q)) f) λv w' m l=>?_
 have L:=g.heap.step (λk q=>hM k (cD g.fr.size q)) l f h;have e:(λb=>(iF H δ).getD b .gone)=jW H.length δ λb=>H.getD b .gone:=by
  funext b
  exact Ey f b
 have u:∀i b,m i=γ b->i<(iF H δ).length:=by
  intro i b hb;have I:(iF H δ).length=H.length+δ.new.length:=by simp[iF,rK]
  rw[I];cases n:ν i with
  |some D=>have:=g.b6 i D n;omega
  |none=>have:=l.b6 i n (by rw[hb];simp);omega
 exact U _ _ m (g.put s.1 l.le l.val (by rw[e];exact L) (l.fr g.heap f g.fr) u) (ke ..)
abbrev fS(a:ω):O->E τ:=λj=>[ι (a j 0),ι (a j 1),ι (a j 2),ι (a j 3),ι (a j 4),ι (a j 5),ι (a j 6),ι (a j 7)]
abbrev ms(p q:aQ):τ:=.agg #[ι (p 0),ι (p 1),ι (p 2),ι (p 3),ι (p 4),ι (p 5),ι (p 6),ι (p 7),ι (q 0),ι (q 1),ι (q 2),ι (q 3),ι (q 4),ι (q 5),ι (q 6),ι (q 7)]
def alK:dx:=λe T H=>.out e T H
abbrev yv(l:O):τ:=.func (.yield l) #[] #[]
abbrev NJ(m c:O):AV:=.sl 1 8 0 0 m (γ c)
abbrev gd(a:ω)(m c:O)(tB tr:ae):E AB:=[.cells [NJ m c] tB,.row η m 8 (fS a) tr]
def jM(l m c i:O):E AV:=aw 0 26 [(0,.v (yv l)),(1,.ptr 0 1 0 0),(5,NJ m c),(6,.v (ι m)),(7,.v (ι i))]
noncomputable def M9:a9:=match(DU).body with|some (.seq r _)=>r|_=>.skip
noncomputable def u6:a9:=a4 0 DU
def gM:a9->a9| .seq a _=>a|c=>c
def db:a9->a9| .seq _ b=>b|c=>c
def uu:a9->a9| .block _ b=>b|c=>c
def abJ:(DU).body=γ (.seq M9 (.block 0 (.loop u6))):=by kernel_rfl
noncomputable def M_:a9:=gM u6
noncomputable def M':a9:=gM (uu (gM (db (db u6))))
noncomputable def amg:a9:=gM (db (uu (gM (db (db u6)))))
noncomputable def Cz:a9:=db (db (db u6))
noncomputable def GD:aU a6:=match amg with| .region _ o _=>o|_=> #[]
def ait:u6=.seq M_ (.seq (.cond (.tmp 8) .skip (.exit 0)) (.seq (.block 1 (.seq M' (.seq (.region 3 GD ε) (.cond (.tmp 24) .ret .skip)))) Cz)):=by kernel_rfl
def anQ(l m c:O)(a:ω)(tB tr:ae):a0 θ g0 100 K M9 ([.v (yv l),.ptr 0 1 0 0]++ez 24 (.v aX)) (gd a m c tB tr) (eH (cx [0,1,5,6,7] [] []) 2)=.out .normal (jM l m c 0) (gd a m c tB tr):=by kernel_rfl
def anR(l m c i:O)(a:ω)(tB tr:ae):a0 θ g0 100 K M_ (jM l m c i) (gd a m c tB tr) alK=.out .normal ((jM l m c i).set 8 (.v (.bool (ο ((i:Z)<m))))) (gd a m c tB tr):=by kernel_rfl
noncomputable def opsL:E a6:=GD.toList
noncomputable def Xo(T:E AV)(H:E AB):ao:=a0 θ g0 100 K M' T H λe c d=>match e with
 | .normal=>j0 θ g0 opsL (opsL.take 11) c d [] λa b f=>cond (jx opsL f.reverse) (eH (cx [0,1,5,6,7,12,22] [] []) 2 .normal a b) .err
 |_=>.err
def anS(l m c i:O)(q:κ)(a:ω)(tB tr:ae):Xo ((jM l m c i).set 8 (.v (.bool q))) (gd a m c tB tr)=Ω [ο ((i:Z)<m),ο (0+i<m),!ο ((m:Z)=0),ο (0<=(W (i+1)).tmod m),ο ((W (i+1)).tmod m<m),ο (0+((W (i+1)).tmod m).toNat<m)] (.out .normal (((jM l m c i).set 12 (.v (yv l))).set 22 (.v (ms (a (0+i)) (a (0+((W (i+1)).tmod m).toNat))))) (gd a m c tB tr)):=by kernel_rfl
def anT(l m c i:O)(b:κ)(v:τ)(a:ω)(tB tr:ae):a0 θ g0 100 K Cz (((((jM l m c i).set 12 (.v (yv l))).set 22 (.v v)).set 23 (.v (.bool ε))).set 24 (.v (.bool b))) (gd a m c tB tr) (eH (cx [0,1,5,6,7] [] []) 2)=.out .normal (aw 0 26 [(0,.v (yv l)),(1,.ptr 0 1 0 0),(5,NJ m c),(6,.v (ι m)),(7,.v (ι (W (i+1))))]) (gd a m c tB tr):=by kernel_rfl
def L7{j:E Deferred}{M:O->Prop}{k:υ}{c:Nu}{lv:Ex->E O}{m:O}{Q:Ex->E AV->E AB->Prop}{e:dj}{a:aV}{w:υ}(h:ni j M k c (eH lv m) Q e a w)(g:∀i b,c i=γ b->i<m):∃d T H ν,e=Ex.to d/\Q d T H/\SR M k c T H a w ν/\a.defers=j:=by
 obtain⟨d,T,H,ν,rfl,f,l,n⟩:=h;unfold eH at f;split at f
 ·rename_i p o
  exact⟨d,p.1,p.2,_,rfl,f,nt o l g,n⟩
 ·exact f.elim
def OC{nn:O}{P:aF}{ops:aU a6}{Q:dj->aV->υ->Prop}{i l:O}{o:a6}{x y:cS}{n:aU ae}{c:aV->υ->Prop}{R:jt->υ->Prop}{a:aV}{w:υ}{v:τ}(p:ops[i]?=γ o)(f:o.op=.call ⟨.value x,#[y],n⟩)(k:o.guard=ζ)(q:a.eval x=yv l)(r:a.eval y=v)(h:YieldAt (cd ζ) (nn-1) P l #[v] w R)(s:∀e w',R e w'->∃b,e=.returned b/\c (a.put o.dst b) w'):uf (cd ζ) nn P ops Q i c a w:=by
 unfold uf;rw[p];simp only;rw[aP (by simp[nK,k])];refine⟨λ_ _=>trivial,?_⟩;obtain⟨fn,g,d,j,e,t⟩:=h;have u:(o.semAt (cd ζ).round a.eval).run P w=.ok (.round l fn g d j) w:=by
  rw[show(cd ζ).round=ζ from rfl,aaq];cases o with
  |mk z C D pos m pJ=>simp only at f;subst f;simp[dl,kt,q,r,Dn,invoke,e]
 rw[u,Oper.uponIn_round];refine⟨λh=>(by cases h),t.mono λe w' A=>?_⟩;obtain⟨b,rfl,B⟩:=s e w' A;exact B
def Mu{nn:O}{P:aF}{ops:aU a6}{Q:dj->aV->υ->Prop}{i:O}{t:ae}{o:a6}{x:cS}{c:aV->υ->Prop}{a:aV}{w:υ}{b:κ}(h:ops[i]?=γ o)(e:o.op=.unOp .not t x)(f:o.guard=ζ)(j:a.eval x=.bool b)(k:c (a.put o.dst (.bool (!b))) w):uf (cd ζ) nn P ops Q i c a w:=by
 unfold uf;rw[h];simp only;rw[aP (by simp[nK,f])];refine⟨λ_ _=>trivial,?_⟩;have l:(o.semAt (cd ζ).round a.eval).run P w=.ok (.value (.bool (!b))) w:=by
  rw[show(cd ζ).round=ζ from rfl,aaq];cases o with
  |mk g p m pos d pJ=>simp only at e;subst e;have n:dl a.eval ⟨g,.unOp .not t x,m,pos,d,pJ⟩=(do pure (.value (<-Op.unary .not (a.eval x)))):=rfl;rw[n,j];simp[Op.unary]
 rw[l];exact k
noncomputable def GC:a6:=opsL.getD 11 default
noncomputable def GB:a6:=opsL.getD 12 default
def alE:opsL.toArray[11]?=γ GC:=by kernel_rfl
def Wg:opsL.toArray[12]?=γ GB:=by kernel_rfl
def alH:GC.op=.call ⟨.value (.tmp 12),#[.tmp 22],#[160]⟩:=by kernel_rfl
def Wk:GB.op=.unOp .not 4 (.tmp 23):=by kernel_rfl
def alG:GC.guard=ζ:=by kernel_rfl
def Wj:GB.guard=ζ:=by kernel_rfl
def Wl:GC.dst=γ 23:=by kernel_rfl
def Wi:GB.dst=γ 24:=by kernel_rfl
def amd:l7 .any opsL.toArray (sI 11 13)=[11]:=by kernel_rfl
def WF:l7 .any opsL.toArray ((sI 11 13).setIfInBounds 11 ε)=[12]:=by kernel_rfl
def WG:l7 .any opsL.toArray (((sI 11 13).setIfInBounds 11 ε).setIfInBounds 12 ε)=[]:=by kernel_rfl
def UX:opsL.length=13:=by kernel_rfl
def adS:vg opsL.toArray=ε:=by kernel_rfl
def apz:Ym 11 opsL=ε:=by kernel_rfl
def ah2:mJ:=⟨λ|145=>37|220=>86|219=>121|217=>182|225=>183|224=>184|267=>185|266=>236|314=>237|n=>n,λ|9=>9|4=>4|59=>53|3=>3|5=>5|46=>193|146=>236|51=>64|n=>n,λ|1=>1|n=>n⟩
def ah1:Go.Proofs.Lays.n145 θ ah2:=by repeat' (first|kernel_rfl|(intros;kernel_rfl)|decide|constructor)
def aii:mJ:=⟨λ|146=>8|221=>16|268=>58|138=>59|143=>60|195=>118|197=>119|218=>120|219=>121|260=>181|217=>182|225=>183|224=>184|267=>185|266=>236|314=>237|n=>n,λ|9=>9|31=>35|3=>3|4=>4|0=>0|105=>143|21=>21|5=>5|46=>193|119=>232|139=>235|138=>234|146=>236|51=>64|n=>n,λ|1=>1|3=>3|4=>4|n=>n⟩
def s5:Go.Proofs.LaysM.n146 θ aii:=by repeat' (first|kernel_rfl|(intros;kernel_rfl)|decide|constructor|exact λw h=>Go.Proofs.cell_of_shapedOpen_int (zero:= #[.int .i64 0]) (t:=3) h (aL (by kernel_rfl)) (by kernel_rfl) rfl (by kernel_rfl) (by kernel_rfl) underlying3)
def ahW:mJ:=⟨λ|172=>239|244=>258|245=>259|247=>280|279=>281|280=>282|281=>283|282=>284|287=>298|316=>299|171=>11|205=>300|321=>305|322=>306|243=>38|246=>87|283=>159|284=>160|285=>161|286=>162|129=>226|317=>225|318=>227|319=>228|320=>229|337=>255|338=>256|n=>n,λ|9=>9|3=>3|75=>38|76=>39|4=>4|5=>5|167=>285|37=>32|0=>0|85=>286|2=>2|168=>288|53=>106|175=>317|46=>193|210=>320|127=>56|145=>329|143=>327|21=>21|171=>169|173=>172|212=>228|51=>64|20=>20|213=>229|232=>283|233=>284|80=>41|n=>n,λ|15=>8|16=>9|17=>2|18=>6|19=>7|n=>n⟩
def L6:Go.Proofs.LaysC.n172 θ ahW:=by repeat' (first|kernel_rfl|(intros;kernel_rfl)|decide|constructor)
def ze{M:O->Prop}{w:υ}(h:aY M w):∃m,w.cell? ⟨1,0,ζ⟩=γ (ι m):=by obtain⟨_,l,t,b,a,m,rfl⟩:=h (1,QV) (by simp[zd]);exact⟨m,by simp only at a;simp[pI,a]⟩
def apy{M:O->Prop}{w:υ}(h:aY M w):∃v,w.cell? ⟨8,0,ζ⟩=γ v/\(v=.nilIface\/∃t x,v=.iface t x):=by obtain⟨_,l,t,c,a,v,rfl,b⟩:=h (8,z9) (by simp[zd]);exact⟨v,by simp only at a;simp[pI,a],b⟩
def apx{M:O->Prop}{w:υ}(h:aY M w):∃v,w.cell? ⟨9,0,ζ⟩=γ v/\(v=.nilIface\/∃t x,v=.iface t x):=by obtain⟨_,l,t,c,a,v,rfl,b⟩:=h (9,z9) (by simp[zd]);exact⟨v,by simp only at a;simp[pI,a],b⟩
def oV(s p:ρ):ρ:=⟨(e_ s.data.toList p.data.toList).1.toArray⟩
def gr(s p:ρ):ρ:=⟨(e_ s.data.toList p.data.toList).2.1.toArray⟩
def EP(s p:ρ):κ:=(e_ s.data.toList p.data.toList).2.2
def mq(x:E ψ):(a8 x.toArray).size=x.length:=by simp[aW]
def E7(a b:ρ->ρ->ρ)(q:ρ->ρ->κ):E τ->χ (τ×E κ)
 |[.string s,.string p]=>γ (.tuple #[.string (a s p),.string (b s p),.bool (q s p)],[Δ s.size 4294967281])
 |_=>ζ
def afB(w:υ)(k:O):Fr (λ_=>False) w (w.drewN k):=⟨rfl,rfl,rfl,aR _,λ_ _ _=>rfl⟩
def MH:au θ 37 (aS (E7 oV gr EP)):=by
 refine nl (λargs w=>enters 37 f37 func37 rfl args w) λf x g a b w c=>?_
 unfold E7 at a;split at a
 ·rename_i s p
  simp only[ar,cG]at a;obtain⟨rfl,rfl⟩:=a;simp only[F,ah,aa,bS]at b;obtain⟨m,d⟩:=ze c;refine(Any.strings_Cut ah1 s p m w b d).mono ?_;rintro e h ⟨rfl,k,rfl⟩;exact⟨rfl,afB w k⟩
 ·cases a
def N6(ws:E ρ)(j:O):E τ:=[.string (ws.getD j ⟨#[]⟩)]
def dr(s p:ρ):E ρ:=zw p 0 (zv s p) s
def tz(s p:ρ)(h:1<=p.size):(dr s p).length=zv s p+1:=Lib.splitB_all p h 0 _ s rfl
def amp{Q:Ex->E AV->E AB->Prop}{M:O->Prop}{ν:Nu}{w:υ}(hM:∀k,w.heap.size<=k->M k)(h:aY M w)(q:∀i,ν i=ζ)(l:E τ)(t:ae)(n:O)(B:l.length=n)(r:n<=jv)(g:O->E τ)(C:∀j,j<n->∃v,l[j]?=γ v/\v.oneCell'=ε/\g j=[v])(D:Q .ret [.own 0 n] [.row ε n 1 g t]):hP Q M ν w (.returned (.slice (γ ⟨w.heap.size,0,ζ⟩) n n)) (w.alloc (.cells l.toArray t)):=by
 obtain⟨W,m⟩:∃W,w.alloc (.cells l.toArray t)=W:=⟨_,rfl⟩;have s:W.heap[w.heap.size]?=γ (.cells l.toArray t):=by
  rw[<-m];show(w.heap.push (.cells l.toArray t))[w.heap.size]?=_
  exact Array.getElem?_push_size
 have G:W.heap.size=w.heap.size+1:=by rw[<-m];simp
 have d:∀k,k<w.heap.size->W.heap[k]?=w.heap[k]?:=λk f=>by rw[<-m];exact gj _ _ _ f
 have u:W.os=w.os/\W.tape=w.tape/\W.output=w.output:=by rw[<-m];exact⟨rfl,rfl,rfl⟩
 rw[m];obtain⟨c,o⟩:∃c:Nu,c=λi=>if i=0 then γ ⟨w.heap.size,0,n⟩else ζ:=⟨_,rfl⟩
 have z:c 0=γ ⟨w.heap.size,0,n⟩:=by rw[o];rfl
 have p:∀i b,c i=γ b->i=0/\b=⟨w.heap.size,0,n⟩:=λi b a=>by
  rw[o]at a;simp only at a;split at a
  ·rename_i e
   cases a;exact⟨e,rfl⟩
  ·cases a
 refine⟨_,.own 0 n,[.row ε n 1 g t],c,rfl,D,?_,⟨λi=>?_,λi j b H I _ _ L y=>?_,λi b _ a=>?_,λi b a=>?_,h.block λk f _=>d k f⟩,⟨u.1,u.2.1,u.2.2,by omega,λk f _=>d k f⟩,λi b a=>(by rw[q i]at a;cases a),λi b a=>?_⟩
 ·simp only[VR]
  exact⟨_,z,rfl⟩
 ·cases i with
  |zero=>
   refine .inr ⟨⟨w.heap.size,0,n⟩,l,t,(0,0),z,s,λ_=>⟨rfl,rfl,rfl,by simp[B],r⟩,aR _,λj y=>?_⟩;obtain⟨v,N,P,R⟩:=C j y;rw[R];refine⟨⟨rfl,λx A=>?_⟩,λk f=>?_⟩
   ·simp only[mN]at A
    subst A;exact P
   ·have:k=0:=by omega
    subst this;simpa using N
  |succ i=>trivial
 ·have:=(p i b L).1
  have:=(p j H y).1;omega
 ·rw[(p i b a).2]
  exact hM _ (aR _)
 ·rw[(p i b a).2]
  simp only;omega
 ·rw[(p i b a).1]
  exact nI
def V5{a:E SA->χ FR}(n:∀sas c,a sas=γ c->aJ c.ap=ε->∃s p,sas=[.v (.string s),.v (.string p)]/\s.size<4294967281/\1<=p.size/\c.val=.own 0 (dr s p).length/\c.new=[.row ε (dr s p).length 1 (N6 (dr s p)) 9]):au θ 8 (am [.val,.val] a):=by
 refine nk enters func8 rfl λsas c A B=>?_
 obtain⟨s,p,rfl,C,o,d,f⟩:=n sas c A B;refine⟨_,ab.refl _,λM g w t hM l u h=>?_⟩
 match g,l with
 |[x,y],l=>
  simp only[hZ,ax,VR,aa]at l;obtain⟨rfl,rfl⟩:=l;obtain⟨m,D⟩:=ze u.eC;refine(OF {s5 with} s5.i9 s p m w C D o).mono ?_;rintro e H ⟨rfl,rfl⟩;have v:=tz s p o;have G:=ZQ p o s.size s (aR _);have q:∀i,t i=ζ:=λi=>by
   cases e:t i with
   |none=>rfl
   |some b=>exact aO (h i b e) (by simp[bK])
  have r:(dr s p).length<=jv:=by unfold jv;omega
  have k:=amp (Q:=dV (bI [Md.val,Md.val] [SA.v (.string s),SA.v (.string p)] c.put) c) hM u.eC q ((dr s p).map cZ) 9 (dr s p).length (by simp) r (N6 (dr s p)) (λj z=>⟨.string ((dr s p)[j]),by simp[z],rfl,by simp[N6,z]⟩) ⟨_,by rw[d];rfl,rfl,by rw[f];exact ab.refl _⟩;rw[v]at k;exact v▸k
def i6(s p:ρ)(j:O):ρ:=(dr s p).getD j ⟨#[]⟩
def tA(s p:ρ):O:=(dr s p).length
def Jh(k:O)(g:ρ->ρ->O->ρ)(n:ρ->ρ->O):E SA->χ FR
 |[.v (.string s),.v (.string p)]=>γ {val:=.own 0 k,new:=[.row ε k 1 (λj=>[.string (g s p j)]) 9],ap:=[Δ s.size 4294967281,Θ 1 p.size,ai (n s p) k]}
 |_=>ζ
def Jg(g:ρ->ρ->O->ρ)(n:ρ->ρ->O):E SA->χ FR
 |[.v (.string s),.v (.string p)]=>γ {val:=.own 0 (n s p),new:=[.row ε (n s p) 1 (λj=>[.string (g s p j)]) 9],ap:=[Δ s.size 4294967281,Θ 1 p.size]}
 |_=>ζ
def ak_(k:O):au θ 8 (am [.val,.val] (Jh k i6 tA)):=V5 λc d a b=>by
 unfold Jh at a;split at a
 ·rename_i s p
  simp only[ar]at a;subst a;simp only[F,ah,aa,bS,aT,Nat.beq_eq]at b;have h:(dr s p).length=k:=b.2.2;exact⟨s,p,rfl,b.1,b.2.1,by simp only[h],by simp only[h];rfl⟩
 ·cases a
def ak9:au θ 8 (am [.val,.val] (Jg i6 tA)):=V5 λc d a b=>by
 unfold Jg at a;split at a
 ·rename_i s p
  simp only[ar]at a;subst a;simp only[F,ah,aa,bS,aT]at b;exact⟨s,p,rfl,b.1,b.2,rfl,rfl⟩
 ·cases a
def jX(s:ρ):κ:=match Du s.data.toList with| .ok _=>η|_=>ε
def c_(s:ρ):Z:=match Du s.data.toList with| .ok v=>v| .range=>Lib.atoiSat s.data.toList|_=>0
def IC(v:ρ->Z)(e:ρ->κ):E SA->χ FR
 |[.v (.string s)]=>γ {val:=.Ψ [.v (ι (v s)),.err (e s)],ap:=[Θ s.size 281474976710656]}
 |_=>ζ
def ajE:au θ 239 (am [.val] (IC c_ jX)):=by
 refine nk enters func239 rfl λr L g k=>?_
 unfold IC at g;split at g
 ·rename_i s
  simp only[ar]at g;subst g;simp only[F,ah,aa,aT]at k;refine⟨_,ab.refl _,λM i w p hM d l j=>?_⟩
  match i,d with
  |[x],d=>
   simp only[hZ,ax,VR,aa]at d;subst d;obtain⟨u,z,m⟩:=apy l.eC;obtain⟨A,B,n⟩:=apx l.eC;have c:∀(v:Z)(q:κ)(x:τ)(a:υ),c_ s=v->jX s=q->cond q (∃t y,x=.iface t y) (x=.nilIface)->Fr (λ_=>False) w a->
     hP (dV (bI [Md.val] [SA.v (.string s)] []) {val:=.Ψ [.v (ι (c_ s)),.err (jX s)],ap:=[Θ s.size 281474976710656]}) M p w (.returned (.tuple #[.int .i64 v,x])) a:=λv q x a d G H f=>by
    refine⟨_,.Ψ [.v (ι v),.err q],[],p,rfl,⟨_,by rw[d,G];rfl,rfl,ab.refl _⟩,?_,l.quiet f,f.mono λ_ _ h=>h.elim,Le.refl _,j⟩;simp only[VR];exact⟨[.int .i64 v,x],rfl,by simp only[ax,VR,aa,bo];exact H⟩
   cases b:Du s.data.toList with
   |ok v=>
    refine(Any.strconv_Atoi_ok L6 s (by omega) v b w).mono ?_;rintro e a ⟨rfl,I⟩;refine c v η .nilIface a (by simp only[c_,b]) (by simp only[jX,b]) rfl ?_;rcases I with rfl|⟨t,rfl⟩
    ·exact Fr.refl _ _
    ·exact Below.fr (Lib.bytesWorld_below w _ t)
   |range=>refine(Any.strconv_Atoi_range L6 s k b A w B n).mono ?_;rintro e a ⟨N,rfl,_,_,o⟩;exact c _ ε _ a (by simp only[c_,b]) (by simp only[jX,b]) ⟨_,_,rfl⟩ (Below.fr o)
   |_=>refine(Any.strconv_Atoi_syntax L6 s k b u w z m).mono ?_;rintro e a ⟨N,rfl,_,_,o⟩;exact c 0 ε _ a (by simp only[c_,b]) (by simp only[jX,b]) ⟨_,_,rfl⟩ (Below.fr o)
 ·cases g
def IB:E SA->χ FR
 |[.v (.string _)]=>γ {val:=.Ψ [.v (ι 0),.err ε],ap:=[η]}
 |_=>ζ
def ajF:au θ 239 (am [.val] IB):=by
 refine nk enters func239 rfl λb d a c=>?_
 unfold IB at a;split at a
 ·cases a
  cases c
 ·cases a
def XJ(a:ρ):∀(k:O)(s x:ρ),x∈zw a 0 k s->x.size<=s.size
 |0,s,x,h=>by simp only[zw,mN]at h;subst h;exact aR _
 |k+1,s,x,h=>by
  unfold zw at h;split at h
  ·simp only[mN]at h
   subst h;exact aR _
  ·rcases dw.1 h with rfl|h
   ·rw[zp]
    omega
   ·have:=XJ a k _ x h
    rw[zp]at this;omega
def aoe(s p:ρ)(j:O):(i6 s p j).size<=s.size:=by
 unfold i6;by_cases h:j<(dr s p).length
 ·rw[cq,cV h,g9]
  exact XJ _ _ _ _ (ko h)
 ·rw[cq,l0 (by omega)]
  exact eF _
def adx(s p:ρ):(oV s p).size<=s.size:=by
 have e:s.size=s.data.toList.length:=by rw[lx];rfl
 rw[oV,mq,e,e_];split
 ·simp only[oG];omega
 ·exact aR _
def ady(s p:ρ):(gr s p).size<=s.size:=by
 have e:s.size=s.data.toList.length:=by rw[lx];rfl
 rw[gr,mq,e,e_];split
 ·simp only[oF];omega
 ·exact eF _
def ah8:mJ:=⟨λ|143=>60|219=>121|217=>182|225=>183|224=>184|267=>185|266=>236|314=>237|n=>n,λ|9=>9|3=>3|4=>4|5=>5|46=>193|146=>236|51=>64|n=>n,λ|1=>1|n=>n⟩
def ah7:Go.Proofs.Lays.n143 θ ah8:=by repeat' (first|kernel_rfl|(intros;kernel_rfl)|decide|constructor)
def mm(s p:ρ):Z:=Lib.index s.data.toList p.data.toList
def Kd(a:ρ->ρ->Z):E τ->χ (τ×E κ)
 |[.string s,.string p]=>γ (ι (a s p),[Δ s.size 4294967281])
 |_=>ζ
def akx:au θ 60 (aS (Kd mm)):=by
 refine nl (λargs w=>enters 60 f60 func60 rfl args w) λf x g a b w c=>?_
 unfold Kd at a;split at a
 ·rename_i s p
  simp only[ar,cG]at a;obtain⟨rfl,rfl⟩:=a;simp only[F,ah,aa,bS]at b;obtain⟨m,d⟩:=ze c;refine(Any.strings_Index ah7 s p m w b d).mono ?_;rintro e h ⟨rfl,rfl⟩;exact⟨rfl,Fr.refl _ _⟩
 ·cases a
def xF(a:ρ->ρ->Z):aE:=ext g0 60 (aS (Kd a))
def di:ρ:=a8 (bj [32])
def aod{r p:ρ}(h:mm r p= -1):dr r p=[r]:=Lib.splitB_miss p 0 _ r h
def aoc{r p:ρ}{i:O}(a:1<=p.size)(h:mm r p=i):dr r p=r.extract 0 i::dr (r.extract (i+p.size) r.size) p:=by
 have e:zv r p=zv (r.extract (i+p.size) r.size) p+1:=by rw[Lib.countB_hit r p i a h,Nat.add_comm]
 rw[dr,e,Lib.splitB_hit p 0 _ r i h,iu];rfl
def ag6(r p:ρ):mm r p= -1\/∃i:O,mm r p=i/\i+p.size<=r.size:=Lib.indexB_cases r p
noncomputable abbrev xo:cA:=f257
noncomputable def sB:a9:=xo.body.getD .skip
noncomputable def XL:a9:=gM sB
noncomputable def sL:a9:=uu (a4 2 xo)
noncomputable def Xw:a9:=gM sL
noncomputable def NB:a9:=gM (gM (db sL))
noncomputable def NC:a9:=gM (db (db sL))
noncomputable def ND:a9:=db (db (db (db sL)))
noncomputable def Wn:a9->aU a6| .region _ o _=>o|_=> #[]
noncomputable def tv:aU a6:=Wn (gM (gM (db (db (db sL)))))
noncomputable def vz:aU a6:=Wn (db (db sB))
def abL:xo.body=γ (.seq XL (.seq (.block 2 (.loop (.block 3 sL))) (.region 10 vz η))):=by kernel_rfl
def aiw:sL=.seq Xw (.seq (.seq NB (.cond (.tmp 33) (.exit 2) .skip)) (.seq NC (.seq (.seq (.region 8 tv η) (.cond (.tmp 42) .ret .skip)) ND))):=by kernel_rfl
abbrev ig(i:O):AV:=.ptr i 1 0 0
def jD(r:ρ):E AB:=[.cells [.v (.string di)] 9,.cells [.v (.string r)] 9,.cells [.v (ι 0)] 3]
def tS(l:O):E AV:=aw 0 52 [(0,.v (yv l)),(1,ig 0),(2,ig 1),(3,ig 2)]
def C9(l:O)(x:Z)(b:κ):E AV:=aw 0 52 [(0,.v (yv l)),(1,ig 0),(2,ig 1),(3,ig 2),(7,.v (ι x)),(33,.v (.bool b))]
def C_(l:O)(x:Z)(y:ρ):E AV:=aw 0 52 [(0,.v (yv l)),(1,ig 0),(2,ig 1),(3,ig 2),(7,.v (ι x)),(8,.v (.string y))]
def anU(a:ρ->ρ->Z)(l:O)(r:ρ):a0 θ (xF a) 100 K XL ([.v (yv l),ig 0,ig 1,ig 2]++ez 48 (.v aX)) (jD r) (eH (cx [0,1,2,3] [] []) 3)=.out .normal (tS l) (jD r):=by kernel_rfl
def N9(l:O)(x:Z):E AV:=aw 0 52 [(0,.v (yv l)),(1,ig 0),(2,ig 1),(3,ig 2),(7,.v (ι x))]
def anV(a:ρ->ρ->Z)(l:O)(r:ρ):a0 θ (xF a) 100 K Xw (tS l) (jD r) (eH (cx [0,1,2,3,7] [] []) 3)=Ω [Δ r.size 4294967281] (.out .normal (N9 l (a r di)) (jD r)):=by kernel_rfl
def anW(a:ρ->ρ->Z)(l:O)(r:ρ)(x:Z):a0 θ (xF a) 100 K NB (N9 l x) (jD r) (eH (cx [0,1,2,3,7,33] [] []) 3)=.out .normal (C9 l x (ο (x<0))) (jD r):=by kernel_rfl
def arH(d:ρ->ρ->Z)(l:O)(r:ρ)(x:Z)(b:κ):let a:=AV.dead;let c:=(x+(0:Z));a0 θ (xF d) 100 K NC (C9 l x b) (jD r) (eH (cx [0,1,2,3,7,8] [] []) 3)
 =Ω [ο ((0:Z)<=aj .i64 c),ο (aj .i64 c<=(↑(aW r):Z))] (ao.out .normal [AV.v (yv l),AV.ptr 0 1 0 0,AV.ptr 1 1 0 0,AV.ptr 2 1 0 0,a,a,a,vI x,AV.v (.string (Hr r 0 (a5 (aj .i64 c)))),a,a,a,a,a,a,a,a,a,a,a,a,a,a,a,a,a,a,a,a,a,a,a,a,a,a,a,a,a,a,a,a,a,a,a,a,a,a,a,a,a,a,a] [AB.cells [AV.v (.string di)] 9,AB.cells [AV.v (.string r)] 9,AB.cells [vI 0] 3]):=by intros;kernel_rfl
def arI(f:ρ->ρ->Z)(l:O)(r y:ρ)(x:Z)(b c:κ):let a:=AV.dead;let d:=(↑(aW r):Z);let e:=(x+(1:Z));a0 θ (xF f) 100 K ND (((((C_ l x y).set 39 (.v (yv l))).set 40 (.v (.string y))).set 41 (.v (.bool b))).set 42 (.v (.bool c))) (jD r) (eH (cx [0,1,2,3] [] []) 3)
 =Ω [ο ((0:Z)<=aj .i64 e),ο (aj .i64 e<=d),ο (d<=d)] (ao.out .normal [AV.v (yv l),AV.ptr 0 1 0 0,AV.ptr 1 1 0 0,AV.ptr 2 1 0 0,a,a,a,a,a,a,a,a,a,a,a,a,a,a,a,a,a,a,a,a,a,a,a,a,a,a,a,a,a,a,a,a,a,a,a,a,a,a,a,a,a,a,a,a,a,a,a,a] [AB.cells [AV.v (.string di)] 9,AB.cells [AV.v (.string (Hr r (a5 (aj .i64 e)) (a5 d)))] 9,AB.cells [vI 0] 3]):=by intros;kernel_rfl
structure lF (M B:O->Prop) (nu:Nu) (X:υ) (T:E AV) (H:E AB) (A:aV):Prop where
 sr:SR (λk=>X.heap.size<=k\/B k) X nu T H A X nu
 eC:aY M X
 xe:A.defers=[]
structure z0 (M B:O->Prop) (nu:Nu) (m:O):Prop where
 own:∀k,B k->M k
 bB:∀i b,nu i=γ b->B b.n
 has:∀i,i<m->∃b,nu i=γ b
 all:∀k,B k->∃i b,i<m/\nu i=γ b/\b.n=k
def JR(H:E AB):κ:=H.all s3
def lF.next{M B:O->Prop}{j:Nu}{m:O}(o:z0 M B j m){X:υ}{T:E AV}{H:E AB}{A:aV}(h:lF M B j X T H A){T':E AV}{H':E AB}{A':aV}{n:υ}{c:Nu}(P:H'.length=m)(C:JR H'=ε)(a:SR (λk=>X.heap.size<=k\/B k) X j T' H' A' n c)(D:A'.defers=[]):lF M B j n T' H' A'/\qO B X n:=by
 have G:c=j:=funext λi=>by
  cases e:c i with
  |none=>
   cases I:j i with
   |none=>rfl
   |some b=>rw[a.le _ _ I]at e;cases e
  |some b=>have:=a.b6 i b e;obtain⟨L,p⟩:=o.has i (by omega);rw[a.le _ _ p]at e;cases e;exact p.symm
 subst G;have q:Fr B X n:=a.fr.mono λk r f=>by
  rcases f with s|s
  ·omega
  ·exact s
 have d:aY M n:=h.eC.block λk r x=>q.block k r λu=>x (o.own k u)
 refine⟨⟨⟨a.tmps,⟨a.heap.br,a.heap.sep,λi b _ u=>.inr (o.bB i b u),a.heap.lt,d.mono λk r f=>?_⟩,Fr.refl _ _,a.b6,a.len,Le.refl _⟩,d,D⟩,q,λk r _=>?_⟩
 ·rcases f with s|s
  ·omega
  ·exact o.own k s
 ·obtain⟨i,b,Q,u,rfl⟩:=o.all k r
  have v:BR c i (H'.getD i .gone) n:=a.heap.br i;have w:i<H'.length:=by omega
  have g:s3 (H'.getD i .gone)=ε:=by rw[cq,cV w];exact bX.1 C _ (ko w)
  generalize H'.getD i .gone=y at v g;cases y with
  |cells R t=>obtain⟨L,l,z,_,N,_⟩:=v;rw[u]at z;cases z;exact⟨l,t,(0,0),N⟩
  |row=>cases g
  |gone=>cases g
def Cr{nn:O}{Γ:aE}(g:aK θ Γ){M B:O->Prop}{a:Nu}{m:O}(q:z0 M B a m){c:a9}{T T':E AV}{H H':E AB}{lv:Ex->E O}{X:υ}{A:aV}(r:eh c=ε)(s:(a0 θ Γ 100 K c T H (eH lv m)).ok λe o p=>e=.normal/\o=T'/\p=H')(t:H.length=m)(h:H'.length=m)(j:JR H'=ε)(f:lF M B a X T H A){Q:dj->aV->υ->Prop}(u:∀A' d,lF M B a d T' H' A'->qO B X d->Q .normal A' d):c.wpIn (cd ζ) nn θ Q A X:=by
 refine ku (lI (nn:=nn) g mixed enters ζ [] 100 c r (λk=>X.heap.size<=k\/B k) X a (λk v=>.inl v) _ _ _ _ _ X a s f.sr f.xe) ?_;intro e A' d w;obtain⟨D,o,p,x,rfl,⟨rfl,rfl,rfl⟩,l,n⟩:=L7 w λi b y=>t▸f.sr.b6 i b y
 obtain⟨z,C⟩:=f.next q h j l n;exact u A' d z C
def Cl{nn:O}{Γ:aE}(d:aK θ Γ){M B:O->Prop}{f:Nu}{m:O}(p:z0 M B f m){all:aU a6}{Q:dj->aV->υ->Prop}{k:O}{o:a6}(g:all[k]?=γ o)(q:o.guard=ζ)(r:∀c,o.op≠ .defer c){T T':E AV}{H:E AB}{X:υ}{A:aV}{v:AV}{ob:E κ}(h:fj θ Γ o T H H.length=γ {val:=v,ap:=ob,rd:=(fj θ Γ o T H H.length).elim [] Delta.rd})(s:aJ ob=ε)(t:k9 T o.dst=ε)(u:lU T o.dst v=T')(w:H.length=m)(i:JR H=ε)(j:lF M B f X T H A){a:aV->υ->Prop}(x:∀A' l,lF M B f l T' H A'->qO B X l->a A' l):uf (cd ζ) nn θ all Q k a A X:=by
 refine aiC d g q r (λk g=>.inl g) h s (by rw[t];rfl) j.sr λy z C b n=>?_
 have e:iF H {val:=v,ap:=ob,rd:=(fj θ Γ o T H H.length).elim [] Delta.rd}=H:=by simp[iF,qq]
 rw[e]at b;obtain⟨D,G⟩:=j.next p w i b (n.trans j.xe);subst u;exact x y z D G
def lF.back{M B:O->Prop}{d:Nu}{m:O}(f:z0 M B d m){X a:υ}{T:E AV}{H:E AB}{A:aV}(h:lF M B d X T H A)(g:X.heap.size<=a.heap.size)(p:∀k,B k->a.heap[k]?=X.heap[k]?)(l:aY M a){dst:χ Tmp}{x:τ}(q:k9 T dst=ε):lF M B d a (lU T dst (.v x)) H (A.put dst x):=by
 have e:RH (λk=>a.heap.size<=k\/B k) d (λb=>H.getD b .gone) a:=⟨λi=>(h.sr.heap.br i).of_block λk n _=>p k.n (f.bB i k n),h.sr.heap.sep,λi b _ c=>.inr (f.bB i b c),λi b c=>eE (h.sr.heap.lt i b c) g,l.mono λk n j=>by
  rcases j with o|o
  ·omega
  ·exact f.own k o⟩
 have r:SR (λk=>a.heap.size<=k\/B k) a d T H A a d:=⟨h.sr.tmps,e,Fr.refl _ _,h.sr.b6,h.sr.len,Le.refl _⟩;exact⟨SR.put r q (Le.refl _) (by simp only[VR]) e (Fr.refl _ _) h.sr.b6,l,(ke ..).trans h.xe⟩
def lF.at{M B:O->Prop}{b:Nu}{X:υ}{T:E AV}{H:E AB}{A:aV}(h:lF M B b X T H A){z:cS}{x:τ}(c:bN T z=.v x):A.eval z=x:=by
 have:=ld (T:=T) (a:=A) (ν:=b) (z:=z) λt _=>h.sr.tmps t
 rw[c]at this;simpa only[VR]using this
noncomputable def lS(k:O):a6:=tv.toList.getD k default
noncomputable def qs(k:O):a6:=vz.toList.getD k default
def an1:tv[0]?=γ (lS 0):=by kernel_rfl
def an2:tv[1]?=γ (lS 1):=by kernel_rfl
def an3:tv[2]?=γ (lS 2):=by kernel_rfl
def Xv:tv[3]?=γ (lS 3):=by kernel_rfl
def anY:vz[0]?=γ (qs 0):=by kernel_rfl
def anZ:vz[1]?=γ (qs 1):=by kernel_rfl
def an0:vz[2]?=γ (qs 2):=by kernel_rfl
def Ux:(lS 0).op=.move (.tmp 0)/\(lS 0).guard=ζ:=⟨by kernel_rfl,by kernel_rfl⟩
def Uy:(lS 1).op=.move (.tmp 8)/\(lS 1).guard=ζ:=⟨by kernel_rfl,by kernel_rfl⟩
def Ge:(lS 2).op=.call ⟨.value (.tmp 39),#[.tmp 40],#[9]⟩/\(lS 2).guard=ζ/\(lS 2).dst=γ 41:=⟨by kernel_rfl,by kernel_rfl,by kernel_rfl⟩
def Gf:(lS 3).op=.unOp .not 4 (.tmp 41)/\(lS 3).guard=ζ:=⟨by kernel_rfl,by kernel_rfl⟩
def Uu:(qs 0).op=.move (.tmp 0)/\(qs 0).guard=ζ:=⟨by kernel_rfl,by kernel_rfl⟩
def Uv:(qs 1).op=.load 9 (.tmp 2)/\(qs 1).guard=ζ:=⟨by kernel_rfl,by kernel_rfl⟩
def Uw:(qs 2).op=.call ⟨.value (.tmp 49),#[.tmp 50],#[9]⟩/\(qs 2).guard=ζ/\(qs 2).dst=γ 51:=⟨by kernel_rfl,by kernel_rfl,by kernel_rfl⟩
def an9:dH tv.size=[0,1,2,3]:=by kernel_rfl
def an8:dH vz.size=[0,1,2]:=by kernel_rfl
def Mp(b:O)(X:υ):O:=match(X.heap[b]?:χ Obj)with
 |some (Obj.cells a _ _)=>(match(a[0]?:χ τ)with
  |some (cZ r)=>r.size
  |_=>0)
 |_=>0
def Gs{Q:Ex->E AV->E AB->Prop}{bs:E κ}{r:ao}(h:aJ bs=ε)(k:r.ok Q):(Ω bs r).ok Q:=(ag h ⟨k⟩).out
def vj(a b c:O):Nu:=λi=>match i with
 |0=>γ ⟨a,0,1⟩
 |1=>γ ⟨b,0,1⟩
 |2=>γ ⟨c,0,1⟩
 |_=>ζ
def pZ:aK θ (xF mm):=az bt akx
abbrev Pc(n:O):={x:ρ//x.size<=n}
def aon{nn:O}{w:υ}{M B:O->Prop}(htab:aY M w)(_:∀k,w.heap.size<=k->M k){q m t:O}(s:ρ)(hs:s.size<4294967281)(h1:w.heap[q]?=γ (.cells #[.string di] 9 (0,0)))(h2:w.heap[m]?=γ (.cells #[.string s] 9 (0,0)))(h3:w.heap[t]?=γ (.cells #[ι 0] 3 (0,0)))(n12:q≠m)(n13:q≠t)(n23:m≠t)(hB:∀k,B k↔k=q\/k=m\/k=t)(hBM:∀k,B k->M k):Js (cd ζ) nn θ 257 #[.pointer (γ ⟨q,0,ζ⟩),.pointer (γ ⟨m,0,ζ⟩),.pointer (γ ⟨t,0,ζ⟩)] (λx:Pc s.size=> #[.string x.1]) B M (λxs=>xs.map (·.1)=dr s di) (λc=>∃n,dr s di=c.map (·.1)++n) (dr s di).length w:=by
 intro l a Jx W hW G _ hY hJ0;have C:z0 M B (vj q m t) 3:=by
  refine⟨hBM,λi b d=>?_,λi f=>?_,λk hk=>?_⟩
  ·match i,d with
   |0,d=>cases d;exact(hB _).2 (.inl rfl)
   |1,d=>cases d;exact(hB _).2 (.inr (.inl rfl))
   |2,d=>cases d;exact(hB _).2 (.inr (.inr rfl))
  ·match i,f with
   |0,_=>exact⟨_,rfl⟩
   |1,_=>exact⟨_,rfl⟩
   |2,_=>exact⟨_,rfl⟩
  ·rcases(hB k).1 hk with rfl|rfl|rfl
   ·exact⟨0,_,by omega,rfl,rfl⟩
   ·exact⟨1,_,by omega,rfl,rfl⟩
   ·exact⟨2,_,by omega,rfl,rfl⟩
 have Q:∀{b:O}{o:Obj},w.heap[b]?=γ o->b<w.heap.size:=λh=>(cm.1 h).1
 have g1:=(hW.block q (Q h1)).trans h1;have g2:=(hW.block m (Q h2)).trans h2;have g3:=(hW.block t (Q h3)).trans h3;have R:∀{b:O}{o:Obj},W.heap[b]?=γ o->b<W.heap.size:=λh=>(cm.1 h).1
 have htW:aY M W:=htab.block λk hk _=>hW.block k hk
 have hRH:RH (λk=>W.heap.size<=k\/B k) (vj q m t) (λb=>(jD s).getD b .gone) W:=by
  refine⟨λi=>?_,λi j b b' I _ _ f p=>?_,λi b _ d=>.inr (C.bB i b d),λi b d=>?_,htW.mono λk hk hk'=>?_⟩
  ·match i with
   |0=>exact⟨_,[.string di],rfl,rfl,g1,by simp only[ax,VR,aa]⟩
   |1=>exact⟨_,[.string s],rfl,rfl,g2,by simp only[ax,VR,aa]⟩
   |2=>exact⟨_,[ι 0],rfl,rfl,g3,by simp only[ax,VR,aa]⟩
   |i+3=>trivial
  ·match i,j,f,p with
   |0,0,_,_=>exact aO rfl I
   |1,1,_,_=>exact aO rfl I
   |2,2,_,_=>exact aO rfl I
   |0,1,f,p=>cases f;cases p;exact n12
   |0,2,f,p=>cases f;cases p;exact n13
   |1,0,f,p=>cases f;cases p;exact n12.symm
   |1,2,f,p=>cases f;cases p;exact n23
   |2,0,f,p=>cases f;cases p;exact n13.symm
   |2,1,f,p=>cases f;cases p;exact n23.symm
  ·match i,d with
   |0,d=>cases d;exact R g1
   |1,d=>cases d;exact R g2
   |2,d=>cases d;exact R g3
  ·rcases hk' with h'|h'
   ·omega
   ·exact hBM k h'
 refine callsIn_of_wp func257 abL trivial ?_;have hvr:ax (vj q m t) [.v (yv l),ig 0,ig 1,ig 2] [yv l,.pointer (γ ⟨q,0,ζ⟩),.pointer (γ ⟨m,0,ζ⟩),.pointer (γ ⟨t,0,ζ⟩)]:=by simp only[ax,VR,aa,bo];exact⟨⟨_,rfl,rfl⟩,⟨_,rfl,rfl⟩,⟨_,rfl,rfl⟩⟩
 have hdom:∀i b,vj q m t i=γ b->i<(jD s).length:=λi b d=>by
  match i,d with
  |0,_=>exact Nat.zero_lt_succ _
  |1,_=>exact(by decide:1<3)
  |2,_=>exact(by decide:2<3)
 have S:=qw (M:=λk=>W.heap.size<=k\/B k) (w:=W) (H:=jD s) (fn:=xo) hvr hRH hdom;rw[show xo.ntmps-[AV.v (yv l),ig 0,ig 1,ig 2].length=48 from by kernel_rfl]at S;have hSt:lF M B (vj q m t) W ([AV.v (yv l),ig 0,ig 1,ig 2]++ez 48 (.v aX)) (jD s) _:=⟨S,htW,rfl⟩;have U:∀(e:dj)(A:aV)(X:υ),(e=.normal\/e=.ret)->A.defers=[]->((∃xs,xs.map (·.1)=dr s di/\a xs X)\/∃c,(∃n,dr s di=c.map (·.1)++n)/\Jx c X)->bodyPost θ xo (λe W'=>(∃v,e=.returned v)/\((∃xs:E (Pc s.size),xs.map (·.1)=dr s di/\a xs W')\/(∃c:E (Pc s.size),(∃n,dr s di=c.map (·.1)++n)/\Jx c W'))) e A X:=by
  intro e A X he hd hx;have:(∃v,Ending.returned (.tuple #[])=.returned v)/\((∃xs:E (Pc s.size),xs.map (·.1)=dr s di/\a xs X)\/(∃c:E (Pc s.size),(∃n,dr s di=c.map (·.1)++n)/\Jx c X)):=⟨⟨_,rfl⟩,hx⟩;rcases he with rfl|rfl
  ·exact⟨hd,_,results_none rfl _ _ _,this⟩
  ·exact⟨hd,_,results_none rfl _ _ _,this⟩
 have hmu:∀{X:υ}{T:E AV}{r:ρ}{A:aV},lF M B (vj q m t) X T (jD r) A->Mp m X=r.size:=λ{X T r A} h=>by
  obtain⟨b,l',e1,_,e3,e4⟩:=h.sr.heap.br 1;cases e1
  match l',e4 with
  |[y],e4=>simp only[ax,VR,aa]at e4;subst e4;simp[Mp,e3]
 refine jw (Cr pZ C (lv:=cx [0,1,2,3] [] []) (T':=tS l) (H':=jD s) (by kernel_rfl) (by rw[anU];exact⟨rfl,rfl,rfl⟩) rfl rfl rfl hSt λA X hS hg=>?_);show(v5 _ _).wpIn (cd ζ) nn θ _ A X
 refine jw (zP (wpIn_loop (λA X=>∃(c:E (Pc s.size))(r:ρ),lF M B (vj q m t) X (tS l) (jD r) A/\a c X/\dr s di=c.map (·.1)++dr r di/\r.size<=s.size) (λ_ X=>Mp m X) ⟨[],s,hS,G _ _ _ hJ0 hg,rfl,aR _⟩ ?_));clear hS hg hSt S hvr;rintro A X ⟨c,r,hS,p,hsp,hrs⟩;have hmu0:=hmu hS;have I:(dr r di).length≠0:=by rw[tz r di (by decide)];omega
 have P:c.length<(dr s di).length:=by rw[hsp,cv,cC];omega
 refine zP ?_;rw[aiw];refine jw (Cr pZ C (lv:=cx [0,1,2,3,7] [] []) (T':=N9 l (mm r di)) (H':=jD r) (by kernel_rfl) (by rw[anV];exact Gs (by simp only[F,ah,aa,bS];omega) ⟨rfl,rfl,rfl⟩) rfl rfl rfl hS λA1 X1 hS1 hg1=>?_);have hj1:=G _ _ _ p hg1;show(v5 (.seq NB _) _).wpIn (cd ζ) nn θ _ A1 X1
 refine jw (jw (Cr pZ C (lv:=cx [0,1,2,3,7,33] [] []) (T':=C9 l (mm r di) (ο (mm r di<0))) (H':=jD r) (by kernel_rfl) (by rw[anW];exact⟨rfl,rfl,rfl⟩) rfl rfl rfl hS1 λA2 X2 N hg2=>?_));have hj2:=G _ _ _ hj1 hg2;show(Dm (.tmp 33) (.exit 2) .skip).wpIn (cd ζ) nn θ _ A2 X2
 have hc:=N.at (z:=.tmp 33) (x:=.bool (ο (mm r di<0))) rfl;refine wpIn_cond hc ?_;rcases ag6 r di with hm|⟨i,f,hroom⟩
 ·rw[aP (by rw[hm];decide)]
  refine wpIn_exit ?_;have g:dr s di=(c++[(⟨r,hrs⟩:Pc s.size)]).map (·.1):=by rw[hsp,aod hm,iN];rfl
  show Code.wpIn (cd ζ) nn θ (.region 10 vz η) _ A2 X2
  refine wpIn_region ?_;rw[an8,ug];refine Cl pZ C (v:=.v (yv l)) (ob:=[]) (T':=(C9 l (mm r di) (ο (mm r di<0))).set 49 (.v (yv l))) anY Uu.2 (by rw[Uu.1];simp) (by kernel_rfl) rfl (by kernel_rfl) (by kernel_rfl) rfl rfl N λA3 X3 hS3 hg3=>?_
  have hj3:=G _ _ _ hj2 hg3;rw[ug];refine Cl pZ C (v:=.v (.string r)) (ob:=[]) (T':=((C9 l (mm r di) (ο (mm r di<0))).set 49 (.v (yv l))).set 50 (.v (.string r))) anZ Uv.2 (by rw[Uv.1];simp) (by kernel_rfl) rfl (by kernel_rfl) (by kernel_rfl) rfl rfl hS3 λA4 X4 u hg4=>?_
  have hj4:=G _ _ _ hj3 hg4;rw[ug];refine OC an0 Uw.1 Uw.2.1 (l:=l) (v:=.string r) (u.at (z:=.tmp 49) rfl) (u.at (z:=.tmp 50) rfl) (hY c ⟨r,hrs⟩ X4 hj4 P) ?_;rintro e X5 (⟨rfl,hj5,_⟩|⟨rfl,hjx⟩)
  ·exact⟨_,rfl,U .normal _ _ (.inl rfl) ((ke ..).trans u.xe) (.inl ⟨_,g.symm,hj5⟩)⟩
  ·exact⟨_,rfl,U .normal _ _ (.inl rfl) ((ke ..).trans u.xe) (.inr ⟨_,⟨[],by rw[List.append_nil];exact g⟩,hjx⟩)⟩
 ·have hsz1:di.size=1:=rfl
  have hx:(r.extract 0 i).size<=s.size:=by rw[zp];omega
  have g:dr s di=(c++[(⟨r.extract 0 i,hx⟩:Pc s.size)]).map (·.1)++dr (r.extract (i+1) r.size) di:=by rw[hsp,aoc (by decide) f,iN,lZ];rfl
  rw[bi (by rw[f];simp)];refine wpIn_skip ?_;show(v5 NC _).wpIn (cd ζ) nn θ _ A2 X2
  rw[f]at N;have ei:aj a7 ((i:Z)+0)=i:=by rw[Int.add_zero];exact bR (by omega)
  have ei1:aj a7 ((i:Z)+1)=((i+1:O):Z):=by rw[bR (by omega)];omega
  refine jw (Cr pZ C (lv:=cx [0,1,2,3,7,8] [] []) (T':=C_ l i (r.extract 0 i)) (H':=jD r) (by kernel_rfl) ?_ rfl rfl rfl N λA3 X3 hS3 hg3=>?_)
  ·rw[arH,ei]
   exact Gs (by simp only[F,ah,aa,aB];omega) ⟨rfl,rfl,rfl⟩
  have hj3:=G _ _ _ hj2 hg3;show(v5 (.seq (.region 8 tv η) _) _).wpIn (cd ζ) nn θ _ A3 X3
  refine jw (jw (wpIn_region ?_));rw[an9,ug];refine Cl pZ C (v:=.v (yv l)) (ob:=[]) (T':=(C_ l i (r.extract 0 i)).set 39 (.v (yv l))) an1 Ux.2 (by rw[Ux.1];simp) (by kernel_rfl) rfl (by kernel_rfl) (by kernel_rfl) rfl rfl hS3 λA4 X4 u hg4=>?_
  have hj4:=G _ _ _ hj3 hg4;rw[ug];refine Cl pZ C (v:=.v (.string (r.extract 0 i))) (ob:=[]) (T':=((C_ l i (r.extract 0 i)).set 39 (.v (yv l))).set 40 (.v (.string (r.extract 0 i)))) an2 Uy.2 (by rw[Uy.1];simp) (by kernel_rfl) rfl (by kernel_rfl) (by kernel_rfl) rfl rfl u λA5 X5 D hg5=>?_
  have hj5:=G _ _ _ hj4 hg5;rw[ug];refine OC an3 Ge.1 Ge.2.1 (l:=l) (v:=.string (r.extract 0 i)) (D.at (z:=.tmp 39) rfl) (D.at (z:=.tmp 40) rfl) (hY c ⟨r.extract 0 i,hx⟩ X5 hj5 P) ?_;rintro e X6 (⟨rfl,hj6,hsz6,hb6,ht6⟩|⟨rfl,hjx⟩)
  ·refine⟨_,rfl,?_⟩
   have hS6:=D.back C hsz6 hb6 ht6 (dst:=γ 41) (x:=.bool ε) rfl;rw[Ge.2.2,ug];refine Cl pZ C (v:=.v (.bool η)) (ob:=[]) (T':=((((C_ l i (r.extract 0 i)).set 39 (.v (yv l))).set 40 (.v (.string (r.extract 0 i)))).set 41 (.v (.bool ε))).set 42 (.v (.bool η))) Xv Gf.2 (by rw[Gf.1];simp) (by kernel_rfl) rfl (by kernel_rfl) (by kernel_rfl) rfl rfl hS6 λA7 X7 hS7 hg7=>?_
   have hj7:=G _ _ _ hj6 hg7;show(Dm (.tmp 42) .ret .skip).wpIn (cd ζ) nn θ _ A7 X7
   refine wpIn_cond_false (hS7.at (z:=.tmp 42) rfl) (wpIn_skip ?_);show ND.wpIn (cd ζ) nn θ _ A7 X7
   refine Cr pZ C (lv:=cx [0,1,2,3] [] []) (T':=tS l) (H':=jD (r.extract (i+1) r.size)) (by kernel_rfl) ?_ rfl rfl rfl hS7 λA8 X8 hS8 hg8=>?_
   ·rw[arI,ei1]
    exact Gs (by simp only[F,ah,aa,aB];omega) ⟨rfl,rfl,rfl⟩
   ·have hsz:(r.extract (i+1) r.size).size=r.size-(i+1):=by rw[zp];omega
    refine⟨⟨_,_,hS8,G _ _ _ hj7 hg8,g,by omega⟩,?_⟩;rw[hmu hS8,hmu0,hsz];omega
  ·refine⟨_,rfl,?_⟩
   rw[Ge.2.2,ug];have hlen5:52<=A5.tmps.size:=D.sr.len;have es:(A5.put (γ 41) (.bool η)).eval (.tmp 41)=.bool η:=by
    show(A5.put (γ 41) (.bool η)).tmps.getD 41 aX=.bool η
    simp[jb,qE,show 41<A5.tmps.size from by omega]
   refine Mu Xv Gf.1 Gf.2 es ?_;show(Dm (.tmp 42) .ret .skip).wpIn (cd ζ) nn θ _ _ X6
   have es2:((A5.put (γ 41) (.bool η)).put (lS 3).dst (.bool ε)).eval (.tmp 42)=.bool ε:=by
    rw[show(lS 3).dst=γ 42 from by kernel_rfl];show((A5.put (γ 41) (.bool η)).put (γ 42) (.bool ε)).tmps.getD 42 aX=.bool ε
    simp[jb,qE,show 42<A5.tmps.size from by omega]
   refine aaV es2 (wpIn_ret (U .ret _ X6 (.inr rfl) ((ke ..).trans ((ke ..).trans D.xe)) (.inr ⟨_,⟨_,g⟩,hjx⟩)))
def Tv(a b:ρ->ρ->ρ)(q:ρ->ρ->κ)(g:ρ->ρ->O->ρ)(n:ρ->ρ->O)(v:ρ->Z)(e:ρ->κ):aE:=ext (ext (ext g0 37 (aS (E7 a b q))) 8 (am [.val,.val] (Jh 8 g n))) 239 (am [.val] (IC v e))
def Tu(a b:ρ->ρ->ρ)(q:ρ->ρ->κ)(g:ρ->ρ->O->ρ)(n:ρ->ρ->O):aE:=ext (ext (ext g0 37 (aS (E7 a b q))) 8 (am [.val,.val] (Jg g n))) 239 (am [.val] IB)
def ar'(a b:ρ->ρ->ρ)(q:ρ->ρ->κ)(g:ρ->ρ->O->ρ)(n:ρ->ρ->O)(v:ρ->Z)(e:ρ->κ)(s:ρ):let y:=(a8 (bj [(58:ψ)]));let f:=(a8 (bj [(44:ψ)]));let d:=(b s y);let h:=vB η;let i:=vI (v (a s y));let c:=(g d f 5);let j:=(g d f 6);let l:=(g d f 3);let m:=(g d f 7);let o:=(g d f 2);let p:=(g d f 0);let r:=(g d f 1);let t:=(g d f 4);let k:=vI (v p);let u:=vI (v r);let w:=vI (v o);let x:=vI (v l);let z:=vI (v t);ad θ (Tv a b q g n v e) K 300 PG [.v (.string s)] [] ed
 =Ω [Δ (aW s) 4294967281,Δ (aW d) 4294967281,ai (n d f) 8,Θ (aW (a s y)) 281474976710656] (bif e (a s y)then rO [AV.Ψ [AV.agg [vI 0,vI 0,vI 0,vI 0,vI 0,vI 0,vI 0,vI 0,vI 0],h]] []else Ω [Θ (aW p) 281474976710656] (bif e p then rO [AV.Ψ [AV.agg [i,vI 0,vI 0,vI 0,vI 0,vI 0,vI 0,vI 0,vI 0],h]] []else Ω [Θ (aW r) 281474976710656] (bif e r then rO [AV.Ψ [AV.agg [i,k,vI 0,vI 0,vI 0,vI 0,vI 0,vI 0,vI 0],h]] []else Ω [Θ (aW o) 281474976710656] (bif e o then rO [AV.Ψ [AV.agg [i,k,u,vI 0,vI 0,vI 0,vI 0,vI 0,vI 0],h]] []else Ω [Θ (aW l) 281474976710656] (bif e l then rO [AV.Ψ [AV.agg [i,k,u,w,vI 0,vI 0,vI 0,vI 0,vI 0],h]] []else Ω [Θ (aW t) 281474976710656] (bif e t then rO [AV.Ψ [AV.agg [i,k,u,w,x,vI 0,vI 0,vI 0,vI 0],h]] []else Ω [Θ (aW c) 281474976710656] (bif e c then rO [AV.Ψ [AV.agg [i,k,u,w,x,z,vI 0,vI 0,vI 0],h]] []else Ω [Θ (aW j) 281474976710656] (bif e j then rO [AV.Ψ [AV.agg [i,k,u,w,x,z,vI (v c),vI 0,vI 0],h]] []else Ω [Θ (aW m) 281474976710656] (bif e m then rO [AV.Ψ [AV.agg [i,k,u,w,x,z,vI (v c),vI (v j),vI 0],h]] []else rO [AV.Ψ [AV.agg [i,k,u,w,x,z,vI (v c),vI (v j),vI (v m)],vB ε]] []))))))))):=by intros;kernel_rfl
def ar_(a b:ρ->ρ->ρ)(q:ρ->ρ->κ)(g:ρ->ρ->O->ρ)(n:ρ->ρ->O)(s:ρ):let c:=(b s (a8 (bj [(58:ψ)])));ad θ (Tu a b q g n) K 300 PG [.v (.string s)] [] ed
 =Ω [Δ (aW s) 4294967281,Δ (aW c) 4294967281,(↑(n c (a8 (bj [(44:ψ)]))):Z)!= (8:Z)] (rO [AV.Ψ [AV.agg [vI 0,vI 0,vI 0,vI 0,vI 0,vI 0,vI 0,vI 0,vI 0],vB η]] []):=by intros;kernel_rfl
def Hj(sp:ρ)(g:O->ρ):Wh×κ:=
 bif jX sp then(⟨0,⟨0,0,0,0,0,0,0,0⟩⟩,η)else
 bif jX (g 0)then(⟨c_ sp,⟨0,0,0,0,0,0,0,0⟩⟩,η)else
 bif jX (g 1)then(⟨c_ sp,⟨c_ (g 0),0,0,0,0,0,0,0⟩⟩,η)else
 bif jX (g 2)then(⟨c_ sp,⟨c_ (g 0),c_ (g 1),0,0,0,0,0,0⟩⟩,η)else
 bif jX (g 3)then(⟨c_ sp,⟨c_ (g 0),c_ (g 1),c_ (g 2),0,0,0,0,0⟩⟩,η)else
 bif jX (g 4)then(⟨c_ sp,⟨c_ (g 0),c_ (g 1),c_ (g 2),c_ (g 3),0,0,0,0⟩⟩,η)else
 bif jX (g 5)then(⟨c_ sp,⟨c_ (g 0),c_ (g 1),c_ (g 2),c_ (g 3),c_ (g 4),0,0,0⟩⟩,η)else
 bif jX (g 6)then(⟨c_ sp,⟨c_ (g 0),c_ (g 1),c_ (g 2),c_ (g 3),c_ (g 4),c_ (g 5),0,0⟩⟩,η)else
 bif jX (g 7)then(⟨c_ sp,⟨c_ (g 0),c_ (g 1),c_ (g 2),c_ (g 3),c_ (g 4),c_ (g 5),c_ (g 6),0⟩⟩,η)else
 (⟨c_ sp,⟨c_ (g 0),c_ (g 1),c_ (g 2),c_ (g 3),c_ (g 4),c_ (g 5),c_ (g 6),c_ (g 7)⟩⟩,ε)
def colon:ρ:=a8 (bj [58])
def comma:ρ:=a8 (bj [44])
def wo(s:ρ):Wh×κ:=bif ai (tA (gr s colon) comma) 8 then Hj (oV s colon) (i6 (gr s colon) comma)else(⟨0,⟨0,0,0,0,0,0,0,0⟩⟩,η)
def Za(w:Wh×κ):τ:=.tuple #[.agg #[ι w.1.s,ι w.1.r.c0,ι w.1.r.c1,ι w.1.r.c2,ι w.1.r.c3,ι w.1.r.c4,ι w.1.r.c5,ι w.1.r.c6,ι w.1.r.c7],.bool w.2]
def Kl(f:ρ->Wh×κ):E τ->χ (τ×E κ)
 |[.string s]=>γ (Za (f s),[Δ s.size 4294967281])
 |_=>ζ
def ago:aK θ (Tv oV gr EP i6 tA c_ jX):=az (az (az bt MH) (ak_ 8)) ajE
def agn:aK θ (Tu oV gr EP i6 tA):=az (az (az bt MH) ak9) ajF
def alv(s:ρ)(hs:s.size<4294967281):(∃Γ,aK θ Γ/\aC (ad θ Γ K 300 PG [.v (.string s)] [] ed) (nO (Za (wo s)))):=by
 have i:=adx s colon;have b:=ady s colon;have d:=aoe (gr s colon) comma;cases a:ai (tA (gr s colon) comma) 8 with
 |false=>
  refine⟨_,agn,?_⟩;rw[ar_];have e:wo s=(⟨0,⟨0,0,0,0,0,0,0,0⟩⟩,η):=by rw[wo,a];rfl
  rw[e];have u:tA (gr s colon) comma≠8:=λh=>by rw[h]at a;cases a
  rw[show(a8 (bj [(58:ψ)]))=colon from rfl,show(a8 (bj [(44:ψ)]))=comma from rfl];refine ag ?_ (Φ ⟨_,rfl,rfl⟩);simp only[F,ah,aa,bS,bne_iff_ne];exact⟨hs,Nat.lt_of_le_of_lt b hs,by omega⟩
 |true=>
  refine⟨_,ago,?_⟩;rw[ar',show(a8 (bj [(58:ψ)]))=colon from rfl,show(a8 (bj [(44:ψ)]))=comma from rfl];have e:wo s=Hj (oV s colon) (i6 (gr s colon) comma):=by rw[wo,a];rfl
  rw[e];have f:∀j,Θ (i6 (gr s colon) comma j).size 281474976710656=ε:=λj=>by have:=d j;rw[aT];omega
  have jU:∀{Q:Ex->E AV->E AB->Prop}(j:O){r:ao},aC r Q->aC (Ω [Θ (i6 (gr s colon) comma j).size 281474976710656] r) Q:=by intro Q j r h;exact ag (by simp only[F,ah,aa];exact f j) h
  refine ag (by simp only[F,ah,aa,bS,aT];exact⟨hs,Nat.lt_of_le_of_lt b hs,a,by omega⟩) ?_;generalize oV s colon=v;clear i b d f e;generalize i6 (gr s colon) comma=g at jU⊢;unfold Hj;refine ay (λc=>?_) λc=>jU 0 (ay (λk=>?_) λk=>jU 1 (ay (λl=>?_) λl=>jU 2 (ay (λm=>?_) λm=>jU 3 (ay (λn=>?_) λn=>jU 4 (ay (λo=>?_) λo=>jU 5 (ay (λp=>?_) λp=>jU 6 (ay (λq=>?_) λq=>jU 7 (ay (λt=>?_) λt=>?_))))))))
  all_goals simp only[*,aZ,a_]
  all_goals exact Φ ⟨_,rfl,rfl⟩
def alu:au θ 187 (aS (Kl wo)):=by
 refine nl (λargs w=>enters 187 PG func187 rfl args w) λe x f a c w d=>?_
 unfold Kl at a;split at a
 ·rename_i s
  simp only[ar,cG]at a;obtain⟨rfl,rfl⟩:=a;simp only[F,ah,aa,bS]at c;obtain⟨g,b,h⟩:=alv s c;exact Ru b mixed enters func187 h.out w d
 ·cases a
noncomputable abbrev oZ:cA:=f122
noncomputable def yD:a9:=oZ.body.getD .skip
noncomputable def cdL:a9->a9| .cond _ a _=>a|c=>c
noncomputable def M6:E a9:=[gM yD,gM (db yD),gM (db (db yD))]
noncomputable def M4:a9:=gM (gM (db (db (db yD))))
noncomputable def M3:a9:=cdL (db (gM (db (db (db yD)))))
noncomputable def M5:a9:=gM M3
noncomputable def anr:a9->a9| .rangeFunc _ _ a _=>a|c=>c
noncomputable def ans:a9->a9| .rangeFunc _ _ _ b=>b|c=>c
noncomputable def yC:a9:=anr (uu (db M3))
noncomputable def yE:a9:=ans (uu (db M3))
noncomputable def tk:a9:=db (db (db (db yD)))
def abK:oZ.body=γ (kC M6 (.seq (.seq M4 (.cond (.tmp 15) (.seq M5 (.block 0 (.rangeFunc (.tmp 17) #[18] yC yE))) .skip)) tk)):=by kernel_rfl
def zT(yI:E Wh->κ)(tI:E Wh->E Wh):E SA->χ FR
 |[.row m g]=>γ {val:=js (tI (V (ξ g) m)),new:=fR (tI (V (ξ g) m)),ap:=[ak m g,ο (m<=2^38),yI (V (ξ g) m)]}
 |_=>ζ
def Im(yI:E Wh->κ):E SA->χ FR
 |[.row m g]=>γ {val:=eQ,ap:=[ak m g,ο (m<=2^38),!yI (V (ξ g) m)]}
 |_=>ζ
def gG(f:ρ->Wh×κ)(S:Spec)(b:E Wh->ρ)(a:E Wh->κ):aE:=ext (ext (ext g0 187 (aS (Kl f))) 139 S) 140 (am bP (un b a))
def arA(f:ρ->Wh×κ)(S:Spec)(c:E Wh->ρ)(b:E Wh->κ)(s:ρ):let a:=AV.dead;fc θ (gG f S c b) 100 M6 ([.v (.string s)]++ez 43 (.v aX)) [] (Ob θ (gG f S c b) 100 M4 (EN θ (gG f S c b) 100 15 M5 (eH (cx [0,2,3,4,17] [] []) 0)))
 =bif ο ((↑(aW s):Z)> (1500:Z))then ao.err else Ω [!cK s (a8 (bj [(45:ψ)]))] (ao.out .normal [AV.v (.string s),a,AV.ptr 0 0 0 0,AV.ptr 1 0 0 0,AV.ptr 2 0 0 0,a,a,a,a,a,a,a,a,a,a,a,a,AV.fn 257 [AV.ptr 3 0 0 0,AV.ptr 4 0 0 0,AV.ptr 5 0 0 0],a,a,a,a,a,a,a,a,a,a,a,a,a,a,a,a,a,a,a,a,a,a,a,a,a,a] [AB.cells [AV.v (dk ζ 0 0)] 24,AB.cells [vB η] 4,AB.cells [AV.own 6 0] 24,AB.cells [AV.v (.string (a8 (bj [(32:ψ)])))] 9,AB.cells [AV.v (.string s)] 9,AB.cells [vI 0] 3,AB.row ε 0 9 (λ_=>[]) 112]):=by intros;kernel_rfl
def Jt(s:ρ):E AV:=aw 0 44 [(0,.v (.string s)),(2,.ptr 0 0 0 0),(3,.ptr 1 0 0 0),(4,.ptr 2 0 0 0),(17,.fn 257 [.ptr 3 0 0 0,.ptr 4 0 0 0,.ptr 5 0 0 0])]
def mS(s:ρ):E AV:=aw 0 44 [(0,.v (.string s)),(2,.ptr 0 0 0 0),(3,.ptr 1 0 0 0),(4,.ptr 2 0 0 0)]
def En(s:ρ):E AB:=[.cells [.v (.slice ζ 0 0)] 24,.cells [.v (.bool η)] 4,.cells [.own 6 0] 24,.cells [.v (.string di)] 9,.cells [.v (.string s)] 9,.cells [.v (ι 0)] 3,.row ε 0 9 (λ_=>[]) 112]
def xI:AB:=.row η 0 0 (λ_=>[]) 0
def Bi:E AB:=[.cells [.v (.slice ζ 0 0)] 24,.cells [.v (.bool η)] 4,.cells [.own 6 0] 24,xI,xI,xI,.row ε 0 9 (λ_=>[]) 112]
def o8(k:O)(g:ω):E AB:=[.cells [.v (.slice ζ 0 0)] 24,.cells [.v (.bool η)] 4,.cells [.own 7 k] 24,xI,xI,xI,.gone,.row ε k 9 (J g) 112]
def am'(f:ρ->Wh×κ)(S:Spec)(e:E Wh->ρ)(d:E Wh->κ)(s x:ρ):let a:=AV.dead;let c:=AB.row η 0 0 (λ_=>[]) 0;let b:=(Wh.r (f x).1);let g:=AB.cells [AV.v (dk ζ 0 0)] 24;let h:=AB.cells [vB η] 4;let i:=[a,a,a,a,a,a,a,a,a,a,a,a,a,a,a,a,a,a,a,a,a,a,a,a,a,a,a,a,a,a,a,a,a,a,a,a,a,a,a,a,a,a,a,a];a0 θ (gG f S e d) 100 K yC (jG [18] [.string x] (mS s)) Bi (mT θ (gG f S e d) 100 yE 7)
 =Ω [Δ (aW x) 4294967281] (bif !(f x).2 then rO i [g,h,AB.cells [AV.own 6 0] 24,c,c,c,AB.row ε 0 9 (λ_=>[]) 112]else ao.out .normal i [g,h,AB.cells [AV.own 7 1] 24,c,c,c,AB.gone,AB.row ε 1 9 (λ_=>[ι (Wh.s (f x).1),ι (Cy.c0 b),ι (Cy.c1 b),ι (Cy.c2 b),ι (Cy.c3 b),ι (Cy.c4 b),ι (Cy.c5 b),ι (Cy.c6 b),ι (Cy.c7 b)]) 112]):=by intros;kernel_rfl
def ana(f:ρ->Wh×κ)(S:Spec)(e:E Wh->ρ)(d:E Wh->κ)(s x:ρ)(k:O)(g:ω):let a:=AV.dead;let c:=AB.row η 0 0 (λ_=>[]) 0;let b:=(Wh.r (f x).1);let h:=AB.cells [AV.v (dk ζ 0 0)] 24;let i:=AB.cells [vB η] 4;let j:=[a,a,a,a,a,a,a,a,a,a,a,a,a,a,a,a,a,a,a,a,a,a,a,a,a,a,a,a,a,a,a,a,a,a,a,a,a,a,a,a,a,a,a,a];a0 θ (gG f S e d) 100 K yC (jG [18] [.string x] (mS s)) (o8 k g) (mT θ (gG f S e d) 100 yE 7)
 =Ω [Δ (aW x) 4294967281] (bif !(f x).2 then rO j [h,i,AB.cells [AV.own 7 k] 24,c,c,c,AB.gone,AB.row ε k 9 (J g) 112]else Ω [Θ k k,Θ (k+1) 549755813888] (ao.out .normal j [h,i,AB.cells [AV.own 7 (k+1)] 24,c,c,c,AB.gone,AB.row ε (k+1) 9 (λq=>[ι (bif Δ q k then g q 0 else Wh.s (f x).1),ι (bif Δ q k then g q 1 else Cy.c0 b),ι (bif Δ q k then g q 2 else Cy.c1 b),ι (bif Δ q k then g q 3 else Cy.c2 b),ι (bif Δ q k then g q 4 else Cy.c3 b),ι (bif Δ q k then g q 5 else Cy.c4 b),ι (bif Δ q k then g q 6 else Cy.c5 b),ι (bif Δ q k then g q 7 else Cy.c6 b),ι (bif Δ q k then g q 8 else Cy.c7 b)]) 112])):=by intros;kernel_rfl
def aeH(f:ρ->Wh×κ)(yI:E Wh->κ)(tI:E Wh->E Wh)(b:E Wh->ρ)(a:E Wh->κ)(s:ρ)(k:O)(g:ω):behind θ (gG f (am bP (zT yI tI)) b a) 100 oZ 0 tk (af 0) .normal (mS s) (o8 k g)=Ω [Θ k k,ak k (J g),ο (k<=274877906944),yI (V (ξ (J g)) k),Θ (0+b_ (tI (V (ξ (J g)) k))) (b_ (tI (V (ξ (J g)) k))),ak (b_ (tI (V (ξ (J g)) k))) λq=>J (Y (tI (V (ξ (J g)) k))) (0+q),a (V (ξ λq=>J (Y (tI (V (ξ (J g)) k))) (0+q)) (b_ (tI (V (ξ (J g)) k))))] (bif !cK (b (V (ξ λq=>J (Y (tI (V (ξ (J g)) k))) (0+q)) (b_ (tI (V (ξ (J g)) k))))) s then rO [AV.Ψ [AV.v (dk ζ 0 0),vB η]] []else rO [AV.Ψ [AV.sl 0 9 0 0 (b_ (tI (V (ξ (J g)) k))) (γ (b_ (tI (V (ξ (J g)) k)))),vB ε]] [AB.row ε (b_ (tI (V (ξ (J g)) k))) 9 (J (Y (tI (V (ξ (J g)) k)))) 112]):=by kernel_rfl
def aeE(f:ρ->Wh×κ)(yI:E Wh->κ)(b:E Wh->ρ)(a:E Wh->κ)(s:ρ)(k:O)(g:ω):behind θ (gG f (am bP (Im yI)) b a) 100 oZ 0 tk (af 0) .normal (mS s) (o8 k g)=Ω [Θ k k,ak k (J g),ο (k<=274877906944),!yI (V (ξ (J g)) k)] (rO [AV.Ψ [AV.v (dk ζ 0 0),vB η]] []):=by kernel_rfl
def aeF(f:ρ->Wh×κ)(S:Spec)(b:E Wh->ρ)(a:E Wh->κ)(s:ρ)(k:O)(g:ω):behind θ (gG f S b a) 100 oZ 0 tk (af 0) .ret (mS s) (o8 k g)=rO [AV.Ψ [AV.v (dk ζ 0 0),vB η]] []:=by kernel_rfl
def aeG(f:ρ->Wh×κ)(S:Spec)(b:E Wh->ρ)(a:E Wh->κ)(s:ρ):behind θ (gG f S b a) 100 oZ 0 tk (af 0) .ret (mS s) Bi=rO [AV.Ψ [AV.v (dk ζ 0 0),vB η]] []:=by kernel_rfl
def YF(f:ρ->Wh×κ)(yI:E Wh->κ)(tI:E Wh->E Wh)(d:E Wh->ρ)(b:E Wh->κ)(s:ρ):let e:=[AV.Ψ [AV.v (dk ζ 0 0),vB η]];let g:=(V (ξ λ_=>[]) 0);let c:=(tI g);let a:=(b_ c);let h:=(V (ξ λq=>J (Y c) (0+q)) a);ad θ (gG f (am bP (zT yI tI)) d b) K 100 oZ [.v (.string s)] [] (af 0)
 =bif ο ((↑(aW s):Z)> (1500:Z))then rO e []else bif !cK s (a8 (bj [(45:ψ)]))then ao.err else Ω [yI g,Θ (0+b_ c) a,ak a λq=>J (Y c) (0+q),b h] (bif !cK (d h) s then rO e []else rO [AV.Ψ [AV.sl 0 9 0 0 a (γ a),vB ε]] [AB.row ε a 9 (J (Y c)) 112]):=by intros;kernel_rfl
def NQ{P:aF}{f:bq}{mds:E Md}{a z:E SA->χ FR}(h:au P f (am mds a))(B:∀sas c,z sas=γ c->aJ c.ap=ε->∃ob,a sas=γ {c with ap:=ob}/\aJ ob=ε):au P f (am mds z):=by
 refine⟨h.1,λk H g T C l w b D G I p j m n=>?_⟩;unfold am at b;split at b
 ·rename_i i q
  split at b
  ·rename_i c r
   split at b
   ·rename_i L s
    cases t:((!n5 mds||iZ ((d_ mds i).filterMap id))&&c.new.all lh&&ai (bI mds (i.map (·.sa)) c.put).length (bK mds (i.map (·.sa))).length)with
    |false=>rw[t]at b;cases b
    |true=>
     rw[t]at b;simp only[aZ,ar]at b;subst b;have o:aJ (i.flatMap (·.ob))=ε/\aJ c.ap=ε:=by simpa[aJ,gC]using D
     obtain⟨ob,M,N⟩:=B _ _ r o.2;have u:am mds a k H g=γ {val:=L,rd:=(d_ mds i).filterMap id,put:=fI (d_ mds i) (bI mds (i.map (·.sa)) c.put),new:=c.new,ap:=i.flatMap (·.ob)++ob}:=by unfold am;rw[q];simp only[M,s];rw[t];rfl
     refine(h.2 k H g _ C l w u (by simpa[aJ,gC]using And.intro o.1 N) G I p j m (n.call λx A=>by first|exact A|cases A)).mono ?_;rintro e W ⟨v,y,rfl,d⟩;exact⟨v,y,rfl,d.le,d.b6,d.val,d.put,d.new,d.os,d.tape,d.output,d.size,d.block,d.fresh,d.apart⟩
   ·cases b
  ·cases b
 ·cases b
def aol{P:aF}{f:bq}{mds:E Md}{v x a:E SA->χ FR}(y:au P f (am mds v))(B:au P f (am mds x))(C:∀sas c,a sas=γ c->aJ c.ap=ε->(∃ob,v sas=γ {c with ap:=ob}/\aJ ob=ε)\/∃ob,x sas=γ {c with ap:=ob}/\aJ ob=ε):au P f (am mds a):=by
 classical
 refine⟨y.1,λn H i D I j w z o L M p d k l=>?_⟩;have b:=z;unfold am at b;split at b
 ·rename_i g q
  split at b
  ·rename_i c m
   split at b
   ·cases A:((!n5 mds||iZ ((d_ mds g).filterMap id))&&c.new.all lh&&ai (bI mds (g.map (·.sa)) c.put).length (bK mds (g.map (·.sa))).length)with
    |false=>rw[A]at b;cases b
    |true=>
     rw[A]at b;simp only[aZ,ar]at b;have r:aJ c.ap=ε:=by
      rw[<-b]at o;have:aJ (g.flatMap (·.ob))=ε/\aJ c.ap=ε:=by simpa[aJ,gC]using o
      exact this.2
     have one:∀{G:E SA->χ FR},au P f (am mds G)->(∃ob,G (g.map (·.sa))=γ {c with ap:=ob}/\aJ ob=ε)->au P f (am mds λsas=>if sas=g.map (·.sa)then γ c else ζ):=λ{G} N s=>
      NQ N λsas Q t _=>by
       split at t
       ·rename_i e
        cases t;rw[e];exact s
       ·cases t
     have u:au P f (am mds λsas=>if sas=g.map (·.sa)then γ c else ζ):=by
      rcases C _ _ m r with h|h
      ·exact one y h
      ·exact one B h
     refine u.2 n H i D I j w ?_ o L M p d k l;rw[<-z];unfold am;rw[q];simp only[m,qN]
   ·cases b
  ·cases b
 ·cases b
def dash:ρ:=a8 (bj [45])
def eB(s:ρ):E Wh:=bif cK s dash then[]else(dr s di).map λw=>(wo w).1
def ph(s:ρ):κ:=(dr s di).all λw=>(wo w).2
def yG(s:ρ):κ:=ο (s.size<=1500)&&(cK s dash||ph s)
def dF(s:ρ):κ:=yG s&&yI (eB s)&&cK (dB (tI (eB s))) s
def bZ(s:ρ):E Wh:=bif dF s then tI (eB s)else[]
def Zj(L:E Wh):mG L=yI L:=by rw[mG,yI,show L.map jZ=L from Gn L]
def VG:au θ 139 (am bP (zT yI tI)):=NQ VO λd h a b=>by
 unfold zT at a;split at a
 ·rename_i m g
  cases a;simp only[F]at b;obtain⟨e,f,c,_⟩:=b;refine⟨[ak m g,ο (m<=2^38),mG (V (ξ g) m)],?_,?_⟩
  ·show γ _=γ _
   rw[Gn,tI,c];rfl
  ·simp only[F,ah,aa]
   exact⟨e,f,(Zj _).trans c⟩
 ·cases a
def ajv:au θ 139 (am bP (Im yI)):=NQ VN λc h a b=>by
 unfold Im at a;split at a
 ·rename_i m g
  cases a;simp only[F]at b;obtain⟨d,e,f,_⟩:=b;refine⟨[ak m g,ο (m<=2^38),!mG (V (ξ g) m)],rfl,?_⟩;simp only[F,ah,aa];exact⟨d,e,by rw[Zj];exact f⟩
 ·cases a
def Td{S:Spec}(a:au θ 139 S):aK θ (gG wo S dB aG):=az (az (az bt alu) a) Wd
def aom:∀args w,(g_ 257 args).run θ w=.ok (.enter 257 args) w:=λargs w=>enters _ _ func257 rfl args w
def r3{n:O}(x:Pc n):Wh:=(wo x.1).1
def rp{n:O}:E (Pc n)->E AB
 |[]=>Bi
 |x::l=>o8 (x::l).length (Y ((x::l).map r3))
def Uf{n:O}(a:E (Pc n))(x:Pc n):rp (a++[x])=o8 (a++[x]).length (Y ((a++[x]).map r3)):=by cases a<;>rfl
def sY{n:O}(_:Ex)(l:E (Pc n)):E AB:=rp l.dropLast
def u0{n:O}(l:E (Pc n)):Prop:=l.all (λx=>(wo x.1).2)=ε
def BZ{n:O}(e:Ex)(l:E (Pc n)):Prop:=e=.ret/\∃x∈l,(wo x.1).2=η
def asM(w:Wh)(q:O)(_:q<1):[ι w.s,ι w.r.c0,ι w.r.c1,ι w.r.c2,ι w.r.c3,ι w.r.c4,ι w.r.c5,ι w.r.c6,ι w.r.c7]=J (Y [w]) q:=by
 have:q=0:=by omega
 subst this;rfl
def anG{S:Spec}(s:ρ)(hs:s.size<=1500)(a:E (Pc s.size))(x:Pc s.size)(c:u0 a)(i:a.length<=1501):(a0 θ (gG wo S dB aG) 100 K yC (jG [18] [.string x.1] (mS s)) (rp a) (mT θ (gG wo S dB aG) 100 yE 7)).ok (qP u0 BZ rp sY (a++[x])):=by
 have g:Δ x.1.size 4294967281=ε:=by have:=x.2;rw[bS];omega
 have b:(wo x.1).2=ε->u0 (a++[x]):=λh=>by unfold u0 at c⊢;rw[gC,c,dD];simp[h]
 have d:(wo x.1).2=η->BZ (n:=s.size) .ret (a++[x]):=λh=>⟨rfl,x,by simp,h⟩
 have e:sY (n:=s.size) .ret (a++[x])=rp a:=by rw[sY,List.dropLast_concat]
 cases a with
 |nil=>
  suffices h:aC (a0 θ (gG wo S dB aG) 100 K yC (jG [18] [.string x.1] (mS s)) Bi (mT θ (gG wo S dB aG) 100 yE 7)) (qP u0 BZ rp sY ([]++[x]))from h.out
  rw[am'];refine ag (by simp only[F,ah,aa];exact g) (ay (λq=>?_) λq=>?_)
  ·rw[it]at q
   refine Φ ⟨d q,?_⟩;rw[e];exact ab.refl _
  ·rw[nC]at q
   refine Φ ⟨b q,?_⟩;rw[Uf];exact .cons (Ξ.refl _) (.cons (Ξ.refl _) (.cons (Ξ.refl _) (.cons (Ξ.refl _) (.cons (Ξ.refl _) (.cons (Ξ.refl _) (.cons (Ξ.refl _) (.cons (Ξ.row λj c=>asM (r3 x) j c) .nil)))))))
 |cons y l=>
  suffices h:aC (a0 θ (gG wo S dB aG) 100 K yC (jG [18] [.string x.1] (mS s)) (o8 (y::l).length (Y ((y::l).map r3))) (mT θ (gG wo S dB aG) 100 yE 7)) (qP u0 BZ rp sY ((y::l)++[x]))from h.out
  rw[ana];generalize f:y::l=a at*;refine ag (by simp only[F,ah,aa];exact g) (ay (λq=>?_) λq=>ag (by simp only[F,ah,aa,aT];omega) ?_)
  ·rw[it]at q
   refine Φ ⟨d q,?_⟩;rw[e,<-f];exact ab.refl _
  ·rw[nC]at q
   refine Φ ⟨b q,?_⟩;rw[Uf,cv,iN];exact .cons (Ξ.refl _) (.cons (Ξ.refl _) (.cons (Ξ.refl _) (.cons (Ξ.refl _) (.cons (Ξ.refl _) (.cons (Ξ.refl _) (.cons (Ξ.refl _) (.cons (Ξ.row λj c=>nT (a.map r3) (r3 x) a.length (by rw[cC]) j c) .nil)))))))
def Xs{S:Spec}(d:au θ 139 S)(s:ρ)(h1:s.size<=1500)(h2:cK s dash=η){Q:Ex->E AV->E AB->Prop}(g:ph s=ε->(behind θ (gG wo S dB aG) 100 oZ 0 tk (af 0) .normal (mS s) (o8 (eB s).length (Y (eB s)))).ok Q)(j:ph s=η->(rO [eQ] []).ok Q):∀(M:O->Prop)(vals:E τ)(w:υ)(ν:Nu),(∀k,w.heap.size<=k->M k)->ax ν [.v (.string s)] vals->RH M ν (λb=>([]:E AB).getD b .gone) w->(∀i b,ν i=γ b->i<([]:E AB).length)->aH θ 122 vals.toArray w (hP Q M ν w):=by
 have hL:eB s=(dr s di).map λw=>(wo w).1:=by rw[eB,h2];rfl
 have hn:(dr s di).length<=s.size+1:=by have:=tz s di (by decide);have:=ZQ di (by decide) s.size s (aR _);omega
 refine acO (α:=Pc s.size) (n:=100) (nn:=0) (Td d) mixed enters PX abK (by kernel_rfl) (by kernel_rfl) (by kernel_rfl) (by kernel_rfl) (by kernel_rfl) (by kernel_rfl) (lvp:=cx [0,2,3,4,17] [] []) (TT:=Jt s) (HH:=En s)
  (encs:=λx=>[.string x.1]) (S:=λm=>m.map (·.1)=dr s di) (Sp:=λa=>∃o,dr s di=a.map (·.1)++o) (N:=(dr s di).length) ?_ (gf:=257) (cs:=[.ptr 3 0 0 0,.ptr 4 0 0 0,.ptr 5 0 0 0]) (by kernel_rfl) (mS s) (by kernel_rfl) (Vg (live:=[0,2,3,4]) (by kernel_rfl)) u0 BZ rp sY rfl [3,4,5] ?_ ?_ ?_ ?_
  aom (λW t a1 lb d C=>?_) (λ_=>rfl) (λp hp=>by simp only[mN]at hp;subst hp;exact Nat.lt_of_lt_of_eq (by decide:18<44) rfl) rfl (λa x I hl=>anG s h1 a x I (by omega)) (λm h I=>?_) (λe a hne L P=>?_)
 ·show(fc θ (gG wo S dB aG) 100 M6 ([.v (.string s)]++ez 43 (.v aX)) [] (Ob θ (gG wo S dB aG) 100 M4 (EN θ (gG wo S dB aG) 100 15 M5 (eH (cx [0,2,3,4,17] [] []) 0)))).ok _
  rw[arA,show ο ((s.size:Z)>1500)=η from eJ (by omega)];exact Gs (Q:=λe T' H'=>e=.normal/\T'=Jt s/\H'=En s) (r:=.out .normal (Jt s) (En s)) (by simp only[F,ah,aa,it];exact h2) ⟨rfl,rfl,rfl⟩
 ·intro i f
  simp only[dw,kq,nM]at f;rcases f with rfl|rfl|rfl<;>rfl
 ·intro a
  cases a<;>rfl
 ·intro e a
  unfold sY;generalize a.dropLast=q;cases q<;>rfl
 ·intro i
  match i with
  |0=>exact .inl rfl
  |1=>exact .inl rfl
  |2=>exact .inl rfl
  |3=>exact .inr (.inr ⟨rfl,rfl⟩)
  |4=>exact .inr (.inr ⟨rfl,rfl⟩)
  |5=>exact .inr (.inr ⟨rfl,rfl⟩)
  |6=>exact .inl rfl
  |i+7=>exact .inl rfl
 ·obtain⟨R,l1,u,o1,g1,D⟩:=d.heap.br 3
  obtain⟨T,l2,v,o2,g2,G⟩:=d.heap.br 4;obtain⟨U,l3,z,o3,g3,H⟩:=d.heap.br 5
  match l1,D,l2,G,l3,H,lb,C with
  |[y1],D,[y2],G,[y3],H,[p1,p2,p3],C=>
   simp only[ax,VR,aa]at D G H C;subst D G H;obtain⟨⟨d1,f1,rfl⟩,⟨d2,f2,rfl⟩,⟨d3,f3,rfl⟩⟩:=C;rw[u]at f1;rw[v]at f2;rw[z]at f3;cases f1;cases f2;cases f3;have X:=aon (nn:=0) (w:=W) (M:=dv W t (En s)) (B:=mX t [3,4,5]) d.heap.eC (λk hk=>.inl hk) s (by omega) g1 g2 g3 (d.heap.sep 3 4 R T (by decide) rfl rfl u v) (d.heap.sep 3 5 R U (by decide) rfl rfl u z) (d.heap.sep 4 5 T U (by decide) rfl rfl v z) (λk=>⟨?_,?_⟩) ?_
   ·simp only[o1,o2,o3,Nat.mul_zero,iu]
    exact X
   ·rintro⟨i,f,b,c,rfl⟩
    simp only[dw,kq,nM]at f;rcases f with rfl|rfl|rfl
    ·rw[u]at c;cases c;exact .inl rfl
    ·rw[v]at c;cases c;exact .inr (.inl rfl)
    ·rw[z]at c;cases c;exact .inr (.inr rfl)
   ·rintro(rfl|rfl|rfl)
    ·exact⟨3,by simp,R,u,rfl⟩
    ·exact⟨4,by simp,T,v,rfl⟩
    ·exact⟨5,by simp,U,z,rfl⟩
   ·rintro k ⟨i,f,b,c,rfl⟩
    refine .inr ⟨i,b,?_,c,rfl⟩;simp only[dw,kq,nM]at f;rcases f with rfl|rfl|rfl<;>rfl
 ·have hw:ph s=ε:=by rw[ph,<-h,Dx];exact I
  have e:rp m=o8 (eB s).length (Y (eB s)):=by
   have hm:m.map r3=eB s:=by rw[hL,<-h,qH];rfl
   cases m with
   |nil=>have:=tz s di (by decide);rw[<-h]at this;simp at this
   |cons x l=>
    show o8 (x::l).length (Y ((x::l).map r3))=_
    rw[hm,<-hm,cC]
  rw[e];exact g hw
 ·obtain⟨rfl,y,hy,c⟩:=L
  obtain⟨o,A⟩:=P;have hw:ph s=η:=by rw[ph,A,gC,Dx,Bool.and_eq_false_iff];left;rw[List.all_eq_false];exact⟨y,hy,by simp[c]⟩
  have h0:=j hw;unfold sY;generalize a.dropLast=q;cases q with
  |nil=>
   show(behind θ (gG wo S dB aG) 100 oZ 0 tk (af 0) .ret (mS s) Bi).ok Q
   rw[aeG];exact h0
  |cons x l=>
   show(behind θ (gG wo S dB aG) 100 oZ 0 tk (af 0) .ret (mS s) (o8 (x::l).length (Y ((x::l).map r3)))).ok Q
   rw[aeF];exact h0
def Ja:E SA->χ FR
 |[.v (.string s)]=>γ {val:=js (tI (eB s)),new:=fR (tI (eB s)),ap:=[dF s]}
 |_=>ζ
def QG:E SA->χ FR
 |[.v (.string s)]=>γ {val:=eQ,ap:=[!dF s]}
 |_=>ζ
def Ju(a:ρ->κ)(tl:ρ->E Wh):E SA->χ UR
 |[.v (.string s)]=>γ ⟨a s,tl s,[]⟩
 |_=>ζ
def Xt(s:ρ){Q:Ex->E AV->E AB->Prop}(r:dF s=ε->(rO [js (tI (eB s))] (fR (tI (eB s)))).ok Q)(j:dF s=η->(rO [eQ] []).ok Q):∀(M:O->Prop)(vals:E τ)(w:υ)(ν:Nu),(∀k,w.heap.size<=k->M k)->ax ν [.v (.string s)] vals->RH M ν (λb=>([]:E AB).getD b .gone) w->(∀i b,ν i=γ b->i<([]:E AB).length)->aH θ 122 vals.toArray w (hP Q M ν w):=by
 have d:∀L:E Wh,eB s=L->(s.size<=1500)->(cK s dash||ph s)=ε->yI L=ε->aC (bif !cK (dB (tI L)) s then rO [eQ] []else rO [js (tI L)] (fR (tI L))) Q:=by
  rintro L rfl e c f;refine ay (λq=>⟨j ?_⟩) λq=>⟨r ?_⟩
  ·rw[it]at q
   rw[dF,q,gP]
  ·rw[nC]at q
   rw[dF,q,yG,c,f,bA e];rfl
 have l:∀L:E Wh,yI L=ε->aJ [Θ (tI L).length (tI L).length,ak (tI L).length (J (Y (tI L))),aG (tI L)]=ε:=λL h=>by simp only[F,ah,aa,aT,bw,bo];exact⟨aR _,N7 h⟩
 have a:aC (ad θ (gG wo (am bP (zT yI tI)) dB aG) K 100 oZ [.v (.string s)] [] (af 0)) Q->∀(M:O->Prop)(vals:E τ)(w:υ)(ν:Nu),(∀k,w.heap.size<=k->M k)->ax ν [.v (.string s)] vals->RH M ν (λb=>([]:E AB).getD b .gone) w->(∀i b,ν i=γ b->i<([]:E AB).length)->
  aH θ 122 vals.toArray w (hP Q M ν w):=λh M vals w ν hM t u m=>nS (Td VG) mixed enters PX (λ_ _=>cT _ _ _) hM h.out t u m
 by_cases e:s.size<=1500
 ·cases c:cK s dash with
  |true=>
   refine a ?_;rw[YF,show ο ((s.size:Z)>1500)=η from eJ (by omega),show(a8 (bj [45]))=dash from rfl,c];simp only[zo,a_,bV];have v:V (ξ λ_=>[]) 0=[]:=rfl;have g:yI []=ε:=by decide+kernel
   rw[v];refine ag ?_ ?_
   ·have:=l [] g
    simp only[F,ah,aa]at this⊢;rw[show V (ξ λq=>J (Y (tI [])) q) (tI []).length=tI []from fo _ _ rfl];exact⟨g,this⟩
   ·rw[show V (ξ λq=>J (Y (tI [])) q) (tI []).length=tI []from fo _ _ rfl]
    exact d [] (by rw[eB,c];rfl) e (by rw[c];rfl) g
  |false=>
   have x:ph s=η->dF s=η:=λh=>by rw[dF,yG,c,h];simp
   have o:(eB s).length<=1501:=by
    have:=tz s di (by decide);have:=ZQ di (by decide) s.size s (aR _);rw[eB,c];show((dr s di).map _).length<=_
    rw[cC];omega
   cases f:yI (eB s)with
   |true=>
    refine Xs VG s e c (λn=>?_) λn=>j (x n)
    rw[aeH];simp only[bV];rw[show V (ξ (J (Y (eB s)))) (eB s).length=eB s from fo _ _ rfl];rw[show V (ξ λq=>J (Y (tI (eB s))) q) (tI (eB s)).length=tI (eB s)from fo _ _ rfl];refine(ag ?_ (d (eB s) rfl e (by rw[n,OM]) f)).out;have:=l (eB s) f;simp only[F,ah,aa,bw,aB,aT]at this⊢;exact⟨aR _,trivial,by omega,f,by omega,this.2⟩
   |false=>
    have p:dF s=η:=by rw[dF,f];simp
    refine Xs ajv s e c (λn=>?_) λ_=>j p
    rw[aeE];rw[show V (ξ (J (Y (eB s)))) (eB s).length=eB s from fo _ _ rfl];refine(ag ?_ ⟨j p⟩).out;simp only[F,ah,aa,bw,aB,aT,f];exact⟨aR _,trivial,by omega,rfl⟩
 ·refine a ?_
  rw[YF,show ο ((s.size:Z)>1500)=ε from bA (by omega)];exact⟨j (by rw[dF,yG,eJ e];rfl)⟩
def V1:au θ 122 (am [.val] Ja):=by
 refine nk enters PX rfl λc d a b=>?_
 unfold Ja at a;split at a
 ·rename_i s
  cases a;simp only[F,ah,aa]at b;exact⟨[],ab.refl _,Xt s (λ_=>⟨_,rfl,rfl,ab.refl _⟩) λh=>by rw[b]at h;cases h⟩
 ·cases a
def akW:au θ 122 (am [.val] QG):=by
 refine nk enters PX rfl λc d a b=>?_
 unfold QG at a;split at a
 ·rename_i s
  cases a;simp only[F,ah,aa]at b;exact⟨[],ab.refl _,Xt s (λh=>by rw[h]at b;cases b) λ_=>⟨_,rfl,rfl,ab.refl _⟩⟩
 ·cases a
def ajw:au θ 122 (rS [.val] (Ju dF bZ)):=by
 refine NT rfl V1 akW λc u a d=>?_
 unfold Ju at a;split at a
 ·rename_i s
  cases a;refine⟨rfl,?_⟩;cases b:dF s with
  |true=>
   left;refine⟨rfl,[dF s],?_,by simp only[F,ah,aa,b]⟩;show γ _=γ _
   rw[bZ,b];rfl
  |false=>right;refine⟨rfl,by show bZ s=[];rw[bZ,b];rfl,[!dF s],rfl,by simp only[F,ah,aa,b];rfl⟩
 ·cases a
def JZ(s:ρ)(c:Z):∀(i:O)(x:ρ),x∈ (ca s c i).1->x.size<=s.size
 |0,x,h=>by simp[ca]at h
 |i+1,x,h=>by
  unfold ca ot at h;cases a:((i:Z)==(s.size:Z))||(ce s i==c)with
  |true=>
   rw[a]at h;simp only[aZ,nD,mN]at h;rcases h with h|rfl
   ·exact JZ s c i x h
   ·rw[zp];omega
  |false=>rw[a]at h;exact JZ s c i x h
def RI(s:ρ)(c:Z)(j:O):(bG s c j).size<=s.size:=by
 unfold bG et;by_cases h:j<(ev s c).length
 ·rw[cq,cV h,g9]
  exact JZ _ _ _ _ (ko h)
 ·rw[cq,l0 (by omega)]
  exact eF _
def RJ(s:ρ)(c:Z):cH s c<=s.size+1:=(qV s c _).1
def zl(w:ρ):Wh:=⟨i3 (bG w 58 0),⟨i3 (bG (bG w 58 1) 44 0),i3 (bG (bG w 58 1) 44 1),i3 (bG (bG w 58 1) 44 2),i3 (bG (bG w 58 1) 44 3),i3 (bG (bG w 58 1) 44 4),i3 (bG (bG w 58 1) 44 5),i3 (bG (bG w 58 1) 44 6),i3 (bG (bG w 58 1) 44 7)⟩⟩
def qo(w:ρ):κ:=ai (cH w 58) 2&&ai (cH (bG w 58 1) 44) 8
def kf(s:ρ):E Wh:=(ev s 32).map zl
def rL(s:ρ):κ:=(ev s 32).all qo
def ir(s:ρ):κ:=ο (s.size<=1500)&&(cK s dash||(rL s&&yI (kf s)&&cK (fM (kf s)) s))
def ik(s:ρ):E Wh:=bif ir s&& !cK s dash then kf s else[]
def Tg:aK θ (xH bG cH i3 fM yI):=az (az (az bt VM) akN) VP
def apA(ws:E ρ)(i:O)(h:i<ws.length):ws.take (i+1)=ws.take i++[et ws i]:=by rw[Pg,cV h];simp[et,cq,cV h]
def ao9(s:ρ)(hs:s.size<=1500):cp θ 0 (.block 0 (.loop (a4 0 zN))) (bD 82 (BU .normal) 0 (C2 s 0 (cH s 32) 0) (xK 0 (Y []) (cH s 32) (bG s 32)) (λa=>cond (rL s) (a .normal (aw 0 82 [(0,.v (.string s)),(4,.own 0 (cH s 32))]) [.row ε (cH s 32) 9 (J (Y (kf s))) 112]) (a .ret (aw 0 82 [(2,.own 0 0),(3,.v (.bool η))]) [.row ε 0 9 (λ_=>[]) 112]))):=by
 refine dQ Tg (n:=200) (m:=0) (lv:=BU) (λi=>C2 s i (cH s 32) i) (λi=>xK i (Y (((ev s 32).take i).map zl)) (cH s 32) (bG s 32)) (λi=>((ev s 32).take i).all qo=ε) (cH s 32) (λ_=>K) (du rfl rfl rfl) (aR _) rfl λa Q l i r t=>⟨cT _ _ _,?_⟩
 have y:=RJ s 32;have z:(ev s 32).length=cH s 32:=rfl;rw[anb];refine ay (λf=>?_) λf=>?_
 ·have f:=aL f
  have b:i<cH s 32:=by omega
  have A:=RI s 32 i;have B:=RI (bG s 32 i) 58 1;have u:aj a7 ((i:Z)+1)=((i+1:O):Z):=by rw[bR (by omega)];omega
  have g:=apA (ev s 32) i b;rw[cY,u];have j:qo (bG s 32 i)=η->(a .ret (aw 0 82 [(2,.own 0 0),(3,.v (.bool η))]) [.row ε 0 9 (λ_=>[]) 112]).ok Q:=λh=>by
   have:rL s=η:=by rw[rL,List.all_eq_false];refine⟨bG s 32 i,?_,by simp[h]⟩;unfold bG et;rw[cq,cV b];exact ko b
   rw[this]at l;exact l
  refine ag (by simp only[F,ah,aa,aB,bS];omega) (ay (λo=>?_) λo=>?_)
  ·have c:cH (bG s 32 i) 58≠2:=λe=>by rw[e]at o;cases o
   refine Φ ⟨_,ab.refl _,j ?_⟩;rw[qo,show ai (cH (bG s 32 i) 58) 2=η from by rw[Bool.eq_false_iff];exact λe=>c (ci e)];rfl
  ·have c:cH (bG s 32 i) 58=2:=by
    have:((cH (bG s 32 i) 58:Z))=2:=by simpa using o
    omega
   refine ag (by simp only[F,ah,aa,aB,bS];omega) (ay (λp=>?_) λp=>?_)
   ·have d:cH (bG (bG s 32 i) 58 1) 44≠8:=λe=>by rw[e]at p;cases p
    refine Φ ⟨_,ab.refl _,j ?_⟩;rw[qo,show ai (cH (bG (bG s 32 i) 58 1) 44) 8=η from by rw[Bool.eq_false_iff];exact λe=>d (ci e),gP]
   ·have d:cH (bG (bG s 32 i) 58 1) 44=8:=by
     have:((cH (bG (bG s 32 i) 58 1) 44:Z))=8:=by simpa using p
     omega
    have k:qo (bG s 32 i)=ε:=by rw[qo,c,d];rfl
    refine ag (by simp only[F,ah,aa,aB,aT];omega) (Φ ⟨i+1,⟨rfl,b,?_⟩,rfl,?_⟩)
    ·rw[g,gC,r,dD]
     show(List.all [bG s 32 i] qo)=ε
     simp[k]
    ·show ab _ (xK (i+1) (Y (((ev s 32).take (i+1)).map zl)) (cH s 32) (bG s 32))
     rw[g,iN];exact .cons (Ξ.row λq v=>nT _ (zl (bG s 32 i)) i (by rw[cC,oG];omega) q v) (.cons (Ξ.refl _) .nil)
 ·have f:=cE f
  have e:i=cH s 32:=by omega
  subst e;refine Φ ⟨_,ab.refl _,?_⟩;rw[aP rfl];have w:(ev s 32).take (cH s 32)=ev s 32:=DF;rw[w]at r⊢;rw[show rL s=ε from r]at l;exact l
def I'(a:ρ->κ)(tl:ρ->E Wh):E SA->χ FR
 |[.v (.string s)]=>γ {val:=.Ψ [.own 0 (tl s).length,.v (.bool (a s))],new:=[.row ε (tl s).length 9 (J (Y (tl s))) 112]}
 |_=>ζ
def akX:au θ 46 (am [.val] (I' ir ik)):=by
 refine bY Tg func46 rfl λn r f t=>?_
 unfold I' at f;split at f
 ·rename_i s
  cases f;have g:ir s=η->dV (bI [Md.val] [SA.v (.string s)] []) {val:=.Ψ [.own 0 (ik s).length,.v (.bool (ir s))],new:=[.row ε (ik s).length 9 (J (Y (ik s))) 112]} .ret [.Ψ [.own 0 0,.v (.bool η)]] [.row ε 0 9 (λ_=>[]) 112]:=λh=>by
   have e:ik s=[]:=by rw[ik,h];rfl
   rw[e,h];exact⟨_,rfl,rfl,.cons (Ξ.row λj a=>aO a (cN _)) .nil⟩
  by_cases i:s.size<=1500
  ·have u:=RJ s 32
   have m:(kf s).length=cH s 32:=by rw[kf,cC];rfl
   refine⟨[],LZ s (cH s 32) (bG s 32) (rL s) (cH s 32) (Y (kf s)),200,ab.refl _,cz (by kernel_rfl) (ao9 s i),?_⟩;show aC (ad θ (xH bG cH i3 fM yI) (LZ s (cH s 32) (bG s 32) (rL s) (cH s 32) (Y (kf s))) 200 zN [.v (.string s)] [] (af 0)) _
   rw[arF,show ο ((s.size:Z)>1500)=η from eJ (by omega),show(a8 (bj [45]))=dash from rfl];have q:V (ξ (J (Y (kf s)))) (cH s 32)=kf s:=fo _ _ m;rw[q];refine ay (λc=>by cases c) λ_=>ay (λc=>Φ ?_) λc=>ag ?_ (ay (λl=>ag ?_ (ay (λb=>Φ (g ?_)) λb=>ay (λd=>Φ (g ?_)) λd=>Φ ?_)) λl=>Φ (g ?_))
   ·have k:ir s=ε:=by rw[ir,c,bA i];rfl
    have e:ik s=[]:=by rw[ik,c,zo,gP];rfl
    rw[e,k];exact⟨_,rfl,rfl,.cons (Ξ.row λj a=>aO a (cN _)) .nil⟩
   ·simp only[F,ah,aa,bS]
    refine⟨by omega,cg ⟨rfl,.cons (Ξ.row λj a=>aO a (cN _)) (.cons (Ξ.refl _) .nil)⟩⟩
   ·simp only[F,ah,aa,aT,aB,bw,bo]
    omega
   ·rw[it]at b
    rw[ir,c,b];simp
   ·rw[it]at d
    rw[ir,c,d];simp
   ·rw[nC]at b d
    have k:ir s=ε:=by rw[ir,c,l,b,d,bA i];rfl
    have e:ik s=kf s:=by rw[ik,k,c];rfl
    rw[e,k,m];exact⟨_,rfl,rfl,ab.refl _⟩
   ·rw[ir,c,l]
    simp
  ·refine⟨[],bJ 0 ej,200,ab.refl _,cz (c:=a4 0 zN) (by kernel_rfl) nZ,?_⟩
   show aC (ad θ (xH bG cH i3 fM yI) (bJ 0 ej) 200 zN [.v (.string s)] [] (af 0)) _
   rw[arG,show ο ((s.size:Z)>1500)=ε from bA (by omega)];exact Φ (g (by rw[ir,eJ i];rfl))
 ·cases f
def wV(t:Z)(k:O):Z->(O->Z)->Z:=λs f=>io f (t*s) k
def abx(t:Z)(k:O):oO (wV t k):=λs f g=>by unfold wV;rw[apL]
def oW(L:E Wh)(t:Z)(k:O):Z:=dc (wV t k) L
def vm{L:E Wh}(h:aG L=ε){w:Wh}(a:w∈L):(-1000<=w.s/\w.s<=1000)/\fb 1000000 w.r.f/\bz w.r=ε:=by rw[aG,aM,bX]at h;have:=h.2 w a;rw[aM]at this;exact⟨b9.1 this.1,J0 this.2,this.2⟩
def MC{L:E Wh}(h:aG L=ε):mc 1000000 L:=λ_ a=>(vm h a).2.1
def Yz{B:Z}{f:O->Z}(h:fb B f)(n:Z):fb (2*B) (io f n):=YB h _
def ac3{sp tn la:Z}{w:Wh}(hs: -1000<=w.s/\w.s<=1000)(c:fb 1000000 w.r.f)(a: -20<=sp/\sp<=20)(e:0<=tn/\tn<=23)(d:0<=la/\la<=23):(dZ sp tn la η w).s=sp*w.s/\∀k,k<8->(dZ sp tn la η w).r.f k=io w.r.f (tn+la*w.s) k:=by
 have f:=yc (x:=sp) (y:=w.s) (A:=20) (B:=1000) a.1 a.2 hs.1 hs.2;have g:=yc (x:=la) (y:=w.s) (A:=23) (B:=1000) (by omega) d.2 hs.1 hs.2;refine⟨bR (by omega),λk b=>?_⟩;show(bC (gA w.r.f (aj a7 (tn+aj a7 (la*w.s))%24).toNat)).f k=_
 rw[Aq _ k b,bR (x:=la*w.s) (by omega),bR (x:=tn+la*w.s) (by omega),Oj c (by omega) _ k b];rfl
def ac4{sp tn la:Z}{w:Wh}(hs: -1000<=w.s/\w.s<=1000)(f:fb 1000000 w.r.f)(c: -20<=sp/\sp<=20)(h:0<=tn/\tn<=23)(g:0<=la/\la<=23):(dZ sp tn la ε w).s=sp*w.s/\∀k,k<8->(dZ sp tn la ε w).r.f k=io (vc w.r.f) (tn+la*w.s) k:=by
 have i:=yc (x:=sp) (y:=w.s) (A:=20) (B:=1000) c.1 c.2 hs.1 hs.2;have j:=yc (x:=la) (y:=w.s) (A:=23) (B:=1000) (by omega) g.2 hs.1 hs.2;have d:=Vh f;have e:∀k,k<8->w8 (jl w.r.f) k=vc w.r.f k:=λk a=>by rw[asB _ k a];exact W8 d (by omega) k a
 have b:fb 2000000 (w8 (jl w.r.f)):=λk a=>by rw[e k a];have:=d k a;omega
 refine⟨bR (by omega),λk a=>?_⟩;show(bC (gA (w8 (jl w.r.f)) (aj a7 (tn+aj a7 (la*w.s))%24).toNat)).f k=_
 rw[Aq _ k a,bR (x:=la*w.s) (by omega),bR (x:=tn+la*w.s) (by omega),Oj b (by omega) _ k a];exact zg e _ k a
def ac2{sp tn la:Z}{mir:κ}{w:Wh}(hs: -1000<=w.s/\w.s<=1000)(a:fb 1000000 w.r.f)(c: -20<=sp/\sp<=20)(d:0<=tn/\tn<=23)(e:0<=la/\la<=23):fb 4000000 (dZ sp tn la mir w).r.f:=λk b=>by
 cases mir with
 |false=>rw[(ac3 hs a c d e).2 k b];have:=Yz a (tn+la*w.s) k b;omega
 |true=>rw[(ac4 hs a c d e).2 k b];have:=Yz (Vh a) (tn+la*w.s) k b;omega
def aew{sp tn la:Z}{mir:κ}{L:E Wh}(d: -20<=sp/\sp<=20)(h:gS sp tn la mir L=ε):aG L=ε/\(0<=tn/\tn<=23)/\(0<=la/\la<=23)/\bH (fQ sp tn la mir L)/\∀φ,oO φ->dc φ (fQ sp tn la mir L)=dc φ (L.map (dZ sp tn la mir)):=by
 rw[gS,aM]at h;have e:fQ sp tn la mir L=bv (L.map (dZ sp tn la mir)):=by rw[fQ,h.1];rfl
 have a:=h.1;rw[iH,aM,aM]at a;have b:=b9.1 a.2.1;have c:=b9.1 a.2.2;have f:mc 2000000000000 (L.map (dZ sp tn la mir)):=λw g=>by obtain⟨x,i,rfl⟩:=fX.1 g;obtain⟨j,k,_⟩:=vm a.1 i;exact(ac2 j k d b c).mono (by omega)
 rw[e];exact⟨a.1,b,c,zf f h.2⟩
def rU{T:E Wh}(h:bH T):aG T=ε:=h.2.2
def wX(a:E O)(b:E AB)(base:O):O->χ O:=λi=>bif Δ i a.length then(bif (b.getD i .gone).live then a[i]?else ζ)else γ (base+(i-a.length))
def xz:E AB->E κ
 |[]=>[]
 | .row η n _ _ _::l=>ο (0<n)::xz l
 |_::l=>xz l
def SL:∀{H:E AB}{j n w:O}{g:O->E τ}{t:ae},aJ (xz H)=ε->H.getD j .gone=.row η n w g t->0<n
 |[],j,n,w,g,t,_,h=>by simp at h
 |b::H,0,n,w,g,t,a,h=>by simp only[zB]at h;subst h;simp only[xz,F,aB]at a;exact a.1
 |b::H,j+1,n,w,g,t,a,h=>by
  simp only[DB]at h;refine SL (H:=H) (j:=j) ?_ h;unfold xz at a;split at a
  ·rename_i e;cases e
  ·rename_i e;cases e;exact(F.1 a).2
  ·rename_i e;cases e;exact a
def ajn{a b:E κ}:aJ (a++b)=ε↔aJ a=ε/\aJ b=ε:=by simp[aJ]
def yV(d:E κ)(a:E AV->E AB->χ HR):Spec:=λe H b=>
 match Dh d e H with
 |some q=>match a q.2.1 q.2.2 with
  |some c=>match mapA (wX q.1 q.2.2 b) c.val,s_ (wX q.1 q.2.2 b) c.out,s_ (wX q.1 q.2.2 b) c.new with
   |some v,γ f,γ g=>cond (ai c.out.length q.2.2.length&&c.new.all AB.wr)
    (γ {val:=v,rd:=q.1,put:=lQ q.1 q.2.2 f,new:=g,ap:=c.ap++xz q.2.2}) ζ
   |_,_,_=>ζ
  |none=>ζ
 |none=>ζ
def aoj{f:bq}{fn:cA}{p:E κ}{d:E AV->E AB->χ HR}(hf:θ.funcs[f]?=γ fn)(s:fn.body.isSome=ε)(h:∀avs H x,d avs H=γ x->aJ x.ap=ε->∃(Γ:aE)(H0:E AB)(Λ:O->χ Sum)(n:O),aK θ Γ/\ab H H0/\(∀c,fn.body=γ c->eK θ H0.length Λ c)/\aC (ad θ Γ Λ n fn avs H0 (af H0.length)) (zY x)):au θ f (yV p d):=by
 refine⟨λargs w=>enters f fn hf s args w,λavs H r δ W vals w hS ho hv hbr hlt hfree hsep htab=>?_⟩;unfold yV at hS;split at hS
 case h_2=>cases hS
 rename_i q hq;split at hS
 case h_2=>cases hS
 rename_i x hF;split at hS
 case h_2=>cases hS
 rename_i v ou nw hval hou hnw;cases hck:(ai x.out.length q.2.2.length&&x.new.all AB.wr)with
 |false=>rw[hck]at hS;cases hS
 |true=>
 rw[hck]at hS;simp only[aZ,ar]at hS;subst hS;rw[aM]at hck;have hlen:=ci hck.1;have P:=bX.1 hck.2;unfold Dh at hq;generalize reach H 400 [] (m8 avs)=m at*;split at hq
 case h_2=>cases hq
 rename_i avs' A hra hrb;cases hnd:iZ m with
 |false=>rw[hnd]at hq;cases hq
 |true=>
 rw[hnd]at hq;simp only[aZ,ar]at hq;subst hq;simp only at hval hou hnw hF hlen hbr hsep ho hfree⊢;rw[ajn]at ho;obtain⟨ho,hof⟩:=ho;obtain⟨hl1,hg1⟩:=GS hrb;have hlHc:(cu p A).length=m.length:=by rw[GW,hl1]
 have nuAt:∀{j i},m[j]?=γ i->fg m W j=W i:=λu=>by simp[fg,u]
 have C:∀{j b},fg m W j=γ b->∃i,m[j]?=γ i/\W i=γ b:=by
  intro j b s;unfold fg at s;split at s
  ·rename_i i R;exact⟨i,R,s⟩
  ·cases s
 have D:∀{b b':AB},gK m b=γ b'->b'.wr=b.wr/\b'.live=b.live:=by
  intro b b' s;cases b with
  |cells cs t=>simp only[gK,dt]at s;obtain⟨q,_,rfl⟩:=s;exact⟨rfl,rfl⟩
  |row=>simp only[gK,ar]at s;subst s;exact⟨rfl,rfl⟩
  |gone=>simp only[gK,ar]at s;subst s;exact⟨rfl,rfl⟩
 --the callee's block j is the caller's block m j
 have view:∀{j i},m[j]?=γ i->∃b1,A[j]?=γ b1/\gK m (H.getD i .gone)=γ b1/\(cu p A)[j]?=γ (lq (p.getD j η) b1):=by intro j i u;obtain⟨b1,y,B⟩:=hg1 j i u;exact⟨b1,y,B,by rw[GV,y];rfl⟩
 have wrOf:∀{j i},m[j]?=γ i->((cu p A).getD j .gone).wr=ε->(H.getD i .gone).wr=ε:=by
  intro j i u z;obtain⟨b1,_,B,e3⟩:=view u;have:(cu p A).getD j .gone=lq (p.getD j η) b1:=by simp[cq,e3]
  rw[this]at z;rw[<-(D B).1];exact WU z
 have liveOf:∀{j i},m[j]?=γ i->((cu p A).getD j .gone).live=ε->(H.getD i .gone).live=ε:=by
  intro j i u z;obtain⟨b1,_,B,e3⟩:=view u;have:(cu p A).getD j .gone=lq (p.getD j η) b1:=by simp[cq,e3]
  rw[this,WT]at z;rw[<-(D B).2];exact z
 obtain⟨hlo,hgo⟩:=B0 hou;obtain⟨hln,hgn⟩:=B0 hnw;have G:∀{j i},m[j]?=γ i->((cu p A).getD j .gone).wr=ε->∃o o',x.out[j]?=γ o/\ou[j]?=γ o'/\oe (wX m (cu p A) r) o=γ o'/\(i,o')∈lQ m (cu p A) ou:=by
  intro j i u z;have hjl:j<m.length:=(eV.1 u).1;have ho:x.out[j]?=γ (x.out[j]'(by omega)):=cV _;obtain⟨o',y,B⟩:=hgo j _ ho;have hh:(cu p A)[j]?=γ ((cu p A)[j]'(by omega)):=cV _;refine⟨_,o',ho,y,B,MZ u hh y ?_⟩;have:(cu p A).getD j .gone=(cu p A)[j]'(by omega):=by simp[cq,hh]
  rw[<-this];exact z
 let M:O->Prop:=λk=>w.heap.size<=k\/∃j b,((cu p A).getD j .gone).wr=ε/\fg m W j=γ b/\b.n=k
 have hRH:RH M (fg m W) (λb=>(cu p A).getD b .gone) w:=by
  refine⟨λj=>?_,λi j b b' hne z hlv s hb'=>?_,λi b z s=>.inr ⟨i,b,z,s,rfl⟩,λi b s=>?_,htab.mono ?_⟩
  ·cases u:m[j]?with
   |none=>
    have:(cu p A).getD j .gone=.gone:=by
     rw[cq,l0]
     ·rfl
     ·rw[hlHc]
      exact List.getElem?_eq_none_iff.1 u
    simp only[this];trivial
   |some i=>
    obtain⟨b1,y,B,e3⟩:=view u;have:(cu p A).getD j .gone=lq (p.getD j η) b1:=by simp[cq,e3]
    simp only[this];refine WS ?_;have hbi:=hbr i (g8 u);have hν:=nuAt u;cases R:H.getD i .gone with
    |cells cs t=>rw[R]at B hbi;simp only[gK,dt]at B;obtain⟨cs',X,h2⟩:=B;rw[<-h2];obtain⟨b,l,g1,g2,g3,g4⟩:=hbi;exact⟨b,l,by rw[hν];exact g1,g2,g3,g4.ol X⟩
    |row rw' n wd g t=>
     rw[R]at B hbi;simp only[gK,ar]at B;rw[<-B];rcases hbi with⟨g1,g2,g3⟩|⟨b,l,t',fz,g1,g2⟩
     ·exact .inl ⟨g1,g2,by rw[hν];exact g3⟩
     ·exact .inr ⟨b,l,t',fz,by rw[hν];exact g1,g2⟩
    |gone=>rw[R]at B;simp only[gK,ar]at B;rw[<-B];trivial
  ·obtain⟨i',R,y⟩:=C s
   obtain⟨j',u,B⟩:=C hb';obtain⟨_,o',_,_,_,hp⟩:=G R z;refine hsep i' o' j' b b' hp (g8 u) (λe=>?_) (liveOf u hlv) y B;subst e;exact hne (yh hnd i j i' R u)
  ·obtain⟨i',_,y⟩:=C s
   exact hlt i' b y
  ·rintro k _ (hk|⟨j,b,z,s,rfl⟩)
   ·exact .inl hk
   ·obtain⟨i',R,y⟩:=C s
    obtain⟨_,o',_,_,_,hp⟩:=G R z;exact .inr ⟨i',b,_,hp,y,rfl⟩
 obtain⟨Γ,H0,Λ,n,hΓ,hsim,hL,hG⟩:=h avs' (cu p A) x hF ho;have hl0:H0.length=m.length:=by rw[<-hsim.length,hlHc]
 have hdom0:∀i b,fg m W i=γ b->i<H0.length:=by intro i b s;obtain⟨i',R,_⟩:=C s;rw[hl0];exact(eV.1 R).1
 refine(nS hΓ mixed enters hf hL (λk hk=>Or.inl hk) hG.out (hv.ol hra) (hRH.ii hsim) hdom0).mono ?_;rintro e w' ⟨vv,av,He,S,rfl,⟨av2,hav,hwk,hHe⟩,hvr,hRH',hfr,hle,hdom'⟩;simp only[lA,aa]at hav;subst hav;have hvr:=hwk _ _ _ _ hRH' hvr;have N:=hRH'.ii hHe;have hHl:He.length=m.length+x.new.length:=by rw[hHe.length,cv,hlen,hlHc]
 --a block that may be written has a place
 have wrNu:∀{j:O},((cu p A).getD j .gone).wr=ε->∃b,fg m W j=γ b:=by
  intro j z;have:BR (fg m W) j ((cu p A).getD j .gone) w:=hRH.br j;cases s:(cu p A).getD j .gone with
  |cells cs t=>rw[s]at this;obtain⟨b,l,y,_⟩:=this;exact⟨b,y⟩
  |row rw' n wd g t=>
   rw[s]at this z;rcases this with⟨y,_⟩|⟨b,l,t',fz,y,_⟩
   ·simp only[AB.wr]at z
    rw[y]at z;cases z
   ·exact⟨b,y⟩
  |gone=>rw[s]at z;cases z
 have liveNu:∀{j:O},((cu p A).getD j .gone).live=ε->∃b,fg m W j=γ b:=by
  intro j z;have:BR (fg m W) j ((cu p A).getD j .gone) w:=hRH.br j;cases s:(cu p A).getD j .gone with
  |cells cs t=>rw[s]at this;obtain⟨b,l,y,_⟩:=this;exact⟨b,y⟩
  |row rw' n wd g t=>
   rw[s]at this;rcases this with⟨y,B,_⟩|⟨b,l,t',fz,y,_⟩
   ·subst y
    have:=SL hof s;omega
   ·exact⟨b,y⟩
  |gone=>rw[s]at z;cases z
 let T:Nu:=λi=>match W i with
  |some b=>γ b
  |none=>if r<=i/\i<r+nw.length then S (m.length+(i-r))else ζ
 have U:∀{i b},W i=γ b->T i=γ b:=λ{i b} h=>by simp only[T,h]
 have I:∀{j:O},j<nw.length->T (r+j)=S (m.length+j):=λ{j} u=>by
  have h0:=hfree j u;have X:T (r+j)=if r<=r+j/\r+j<r+nw.length then S (m.length+(r+j-r))else ζ:=by
   show(match W (r+j)with|some b=>γ b|none=>if r<=r+j/\r+j<r+nw.length then S (m.length+(r+j-r))else ζ)=_
   rw[h0]
  rw[X,aP ⟨by omega,by omega⟩,Nat.add_sub_cancel_left]
 have mp:∀i i' b,wX m (cu p A) r i=γ i'->S i=γ b->T i'=γ b:=by
  intro i i' b X h2;unfold wX at X;cases hc:Δ i m.length with
  |true=>
   rw[hc,aZ]at X;cases z:((cu p A).getD i .gone).live with
   |false=>rw[z]at X;cases X
   |true=>rw[z,aZ]at X;obtain⟨b0,L⟩:=liveNu z;have:=hle _ _ L;rw[h2]at this;cases this;rw[nuAt X]at L;exact U L
  |false=>
   rw[hc,a_,ar]at X;subst X;have hge:¬i<m.length:=λhl=>by rw[<-bS]at hl;rw[hl]at hc;cases hc
   have hd:=hdom' i b h2;have e:i=m.length+(i-m.length):=by omega
   rw[I (by rw[hln];omega),<-e];exact h2
 have outBR:∀{j:O}{o:AB},x.out[j]?=γ o->BR S j o w':=by intro j o u;have:=N.br j;have hjl:j<x.out.length:=(eV.1 u).1;simp only[cq,km hjl,u,g9]at this;exact this
 have Q:∀{j:O}{o:AB},x.new[j]?=γ o->(x.out++x.new).getD (m.length+j) .gone=o:=by
  intro j o u;rw[cq,List.getElem?_append_right (by omega)];have:m.length+j-x.out.length=j:=by omega
  rw[this,u];rfl
 refine⟨vv,T,rfl,⟨λi b s=>U s,λi X h2=>?_,hvr.map mp hval,λi b hl=>?_,λj b u=>?_,hfr.os,hfr.tape,hfr.output,hfr.size,λk hk hne=>?_,λj b u s=>?_,λj j' b b' hne u hj' s hb'=>?_⟩⟩
 ·simp only[T,X]at h2
  split at h2
  ·assumption
  ·exact(h2 rfl).elim
 ·obtain⟨j,hh,y,B,e3,e4⟩:=Ct (od hl)
  have z:((cu p A).getD j .gone).wr=ε:=by simp only[cq,B,g9];exact e4
  obtain⟨o,o',g1,g2,g3,_⟩:=G y z;rw[e3]at g2;cases g2;obtain⟨b0,L⟩:=wrNu z;have e5:T i=S j:=by rw[hle _ _ L];rw[nuAt y]at L;exact U L
  exact(outBR g1).map mp e5 g3
 ·have hjl:j<nw.length:=(eV.1 u).1
  have hn:x.new[j]?=γ (x.new[j]'(by omega)):=cV _;obtain⟨b',y,B⟩:=hgn j _ hn;rw[u]at y;cases y;have:BR S (m.length+j) ((x.out++x.new).getD (m.length+j) .gone) w':=N.br (m.length+j);rw[Q hn]at this;exact this.map mp (I hjl) B
 ·refine hfr.block k hk λhM=>?_
  rcases hM with hM|⟨j,b,z,s,e⟩
  ·omega
  ·obtain⟨i,R,y⟩:=C s
   obtain⟨_,o',_,_,_,hp⟩:=G R z;exact hne _ b hp y e
 ·have u:j<nw.length:=u
  rw[I u]at s;refine⟨N.lt _ _ s,?_⟩;have hn:x.new[j]?=γ (x.new[j]'(by omega)):=cV _;have hwn:((x.out++x.new).getD (m.length+j) .gone).wr=ε:=by rw[Q hn];exact P _ (g8 hn)
  rcases N.own _ b hwn s with hM|⟨i,b0,z,L,e⟩
  ·exact .inl hM
  ·right
   obtain⟨i',R,y⟩:=C L;obtain⟨o,o',g1,g2,g3,hp⟩:=G R z;obtain⟨o2,hl2⟩:=Mc hp;refine⟨i',b0,?_,y,e⟩;have hil:i<m.length:=(eV.1 R).1;have hgone:o=.gone:=by
    cases hlv:o.live with
    |false=>cases o<;>first|rfl|cases hlv
    |true=>
     have e3:(x.out++x.new).getD i .gone=o:=by rw[cq,km (by omega),g1];rfl
     exact(N.sep (m.length+j) i b b0 (by omega) hwn (by rw[e3];exact hlv) s (hle _ _ L) e.symm).elim
   subst hgone;have ho':=(Vb g3).2.2 rfl;subst ho';obtain⟨j2,h2,f1,f2,f3,f4⟩:=Ct (od hl2);have:j2=i:=yh hnd j2 i i' f1 R;subst this;rw[g2]at f3;cases f3;exact hl2
 ·have u:j<nw.length:=u
  have hj':j'<nw.length:=hj';rw[I u]at s;rw[I hj']at hb';have hn:x.new[j]?=γ (x.new[j]'(by omega)):=cV _;have hn':x.new[j']?=γ (x.new[j']'(by omega)):=cV _;have w1:((x.out++x.new).getD (m.length+j) .gone).wr=ε:=by rw[Q hn];exact P _ (g8 hn)
  have w2:((x.out++x.new).getD (m.length+j') .gone).live=ε:=by
   rw[Q hn'];have:=P _ (g8 hn')
   revert this
   cases x.new[j']'(by omega)<;>simp[AB.wr,AB.live]
  exact N.sep (m.length+j) (m.length+j') b b' (by omega) w1 w2 s hb'
def aoi{f:bq}{fn:cA}{g:E κ}{a:E AV->E AB->χ HR}(i:θ.funcs[f]?=γ fn)(j:fn.body.isSome=ε)(h:∀avs H d,a avs H=γ d->aJ d.ap=ε->∃(Γ:aE)(b:E AB)(Λ:O->χ Sum)(n:O),aK θ Γ/\ab H b/\(∀c,fn.body=γ c->eK θ b.length Λ c)/\aC (ad θ Γ Λ n fn avs b (af b.length)) (Jo d)):au θ f (yV g a):=
 aoj i j λavs H d k m=>by obtain⟨Γ,b,Λ,n,o,p,q,r⟩:=h avs H d k m;exact⟨Γ,b,Λ,n,o,p,q,⟨CB (λe l v ⟨s,t⟩=>⟨_,s,λ_ _ _ _ _ u=>u,t⟩) r.out⟩⟩
def aoh{Γ:aE}(e:aK θ Γ){f:bq}{fn:cA}{g:E κ}{a:E AV->E AB->χ HR}(i:θ.funcs[f]?=γ fn)(j:fn.body.isSome=ε)(h:∀avs H d,a avs H=γ d->aJ d.ap=ε->∃(b:E AB)(Λ:O->χ Sum)(n:O),ab H b/\(∀c,fn.body=γ c->eK θ b.length Λ c)/\aC (ad θ Γ Λ n fn avs b (af b.length)) (Jo d)):au θ f (yV g a):=
 aoi i j λavs H d k l=>let⟨b,Λ,n,m,o,p⟩:=h avs H d k l;⟨Γ,b,Λ,n,e,m,o,p⟩
section
section
variable {H:Type} {enc:ae×τ->H} {W:υ}
end
end
def CF{c:κ}{H:E AB}(h:c=ε):aC (.out .ret [.v (.bool c)] H) Ep:=by subst h;exact Φ rfl
def apn{L:E Wh}(h:yI L=ε):aG L=ε/\bH (tI L)/\∀φ,oO φ->dc φ (tI L)=dc φ L:=by
 have a:tI L=bv L:=by rw[tI,h];rfl
 rw[yI,aM]at h;rw[a];exact⟨h.1,zf ((MC h.1).mono (by omega)) h.2⟩
def xO:bH []:=⟨wh,λw a=>by simp at a,rfl⟩
def vR(L:E Wh):bH (tI L):=by
 cases h:yI L with
 |true=>exact(apn h).2.1
 |false=>rw[Hb h];exact xO
def tN{T:E Wh}(h:bH T):yI T=ε:=by rw[yI,rU h,ajt h];rfl
def zb{T:E Wh}(h:bH T):tI T=T:=by rw[tI,tN h,aZ,apF h]
def pR{a b:ρ}(h:a.data.toList=b.data.toList):a=b:=by
 cases a;cases b
 congr 1
 exact fV h
def J8{a b:ρ}(h:cK a b=ε):a=b:=by have:=aL h;rw[qG,qG]at this;exact pR this
def aeK{a b:ρ}(h:a.data.toList≠b.data.toList):cK a b=η:=by
 refine eJ λe=>h ?_
 rwa [qG,qG]at e
def ET(l:E ψ):(a8 l.toArray).data.toList=l:=rfl
def Vc{ws:E ρ}{xs:E (E ψ)}(h:ws.map (·.data.toList)=xs):ws=xs.map λl=>⟨l.toArray⟩:=by
 subst h;rw[qH]
 symm
 exact(wk (g:=id) λb _=>pR rfl).trans (Pe _)
def CK(s:ρ)(c:ψ):dr s (a8 (bj [c]))=(cW c s.data.toList).map λl=>⟨l.toArray⟩:=by refine Vc ?_;rw[dr,Lib.splitB_data];exact XK _ _ (Lib.count_one c _).symm
def RM(s:ρ)(c:ψ):∀i:O,i<=s.size->cW c s.data.toList=(ca s (c.toNat:Z) i).1.map (·.data.toList)++cW c (s.data.toList.drop (ca s (c.toNat:Z) i).2)/\∀k,(ca s (c.toNat:Z) i).2<=k->k<i->s.data.toList[k]?≠γ c
 |0,_=>⟨by simp[ca],λk _ h=>aO h (cN _)⟩
 |i+1,h=>by
  obtain⟨j,l⟩:=RM s c i (by omega);have n:=(qV s (c.toNat:Z) i).2;have o:s.data.toList.length=s.size:=by rw[lx];rfl
  have m:ce s (i:Z)=((s.data.toList[i]'(by omega)).toNat:Z):=by unfold ce;rw[cY,wB s.data i (by have:s.data.size=s.size:=rfl;omega)];rfl
  have p:s.data.toList[i]?=γ (s.data.toList[i]'(by omega)):=cV _;have d:((i:Z)==(s.size:Z))=η:=by rw[dT];omega
  rw[ca,ot,d,Hq];cases f:ce s (i:Z)==(c.toNat:Z)with
  |true=>
   have q:s.data.toList[i]'(by omega)=c:=by have:=eq_of_beq f;rw[m]at this;exact UInt8.toNat_inj.1 (by omega)
   simp only[aZ];refine⟨?_,λk a g=>by omega⟩;rw[j,iN,lZ]
   congr 1
   have e:s.data.toList.drop (ca s (c.toNat:Z) i).2=(s.extract (ca s (c.toNat:Z) i).2 i).data.toList++c::s.data.toList.drop (i+1):=by
    rw[ZR];have r:(s.data.toList.drop (ca s (c.toNat:Z) i).2).drop (i-(ca s (c.toNat:Z) i).2)=c::s.data.toList.drop (i+1):=by rw[zx,show(ca s (c.toNat:Z) i).2+(i-(ca s (c.toNat:Z) i).2)=i by omega,DA (by omega),q]
    rw[<-r,aab]
   rw[e,Am]
   ·rfl
   ·rw[ZR]
    intro t;obtain⟨k,a⟩:=HJ.1 t;rw[mL]at a;split at a
    ·rename_i b
     rw[pA]at a;exact l _ (by omega) (by omega) a
    ·cases a
  |false=>
   simp only[a_];refine⟨j,λk a g=>?_⟩;rcases nG k i with b|u
   ·exact l k a b
   ·have:k=i:=by omega
    subst this;rw[p];intro e;simp only[ar]at e;rw[m,e]at f;simp at f
def Ap(s:ρ)(c:ψ):ev s (c.toNat:Z)=(cW c s.data.toList).map λl=>⟨l.toArray⟩:=by
 refine Vc ?_;obtain⟨d,e⟩:=RM s c s.size (aR _);have f:=(qV s (c.toNat:Z) s.size).2;have g:s.data.toList.length=s.size:=by rw[lx];rfl
 have a:c∉s.data.toList.drop (ca s (c.toNat:Z) s.size).2:=λh=>by obtain⟨k,b⟩:=HJ.1 h;rw[pA]at b;have i:=(eV.1 b).1;exact e _ (by omega) (by omega) b
 rw[d,An _ a];show Pd _ (ca s (c.toNat:Z) (s.size+1)).1=_
 rw[ca,ot,show((s.size:Z)==(s.size:Z))=ε from beq_self_eq_true _,Bool.true_or];simp only[aZ,iN,eD,kp];rw[ZR,oH (by rw[oF];omega)]
def i_(l:E ψ):Z:=l.foldl (λa b=>10*a+((b.toNat:Z) -48)) 0
def Dg(l:E ψ)(b:ψ):i_ (l++[b])=10*i_ l+((b.toNat:Z) -48):=by rw[i_,List.foldl_append];rfl
def YO(u:O):i_ (gB u)=u:=by
 induction u using Nat.strongRecOn with
 |_ u a=>
  have e:∀k,k<10->((mQ (48+k)).toNat:Z) -48=k:=λk b=>by rw[UInt8.toNat_ofNat'];omega
  rw[gB];split
  ·rename_i h
   have:=Dg [] (mQ (48+u));rw[mO]at this;rw[this,e u h];show 10*i_ []+(u:Z)=u
   rw[show i_ []=0 from rfl];omega
  ·rw[Dg,a (u/10) (by omega),e _ (r7 _ (by omega))]
   omega
def Ri{s:ρ}{i:O}(h:i<s.data.toList.length):ce s (i:Z)=((s.data.toList[i]).toNat:Z):=by unfold ce;rw[cY,wB s.data i (by simpa using h)];rfl
def Vw(l:E ψ)(a:∀b∈l,pU b):∀i:O,i<=l.length->dA ⟨l.toArray⟩ i=(i_ (l.take i),1)
 |0,_=>rfl
 |i+1,h=>by
  have c:=Ri (s:=⟨l.toArray⟩) (i:=i) (by simp;omega);simp only[]at c;have d:=a l[i] (ko (by omega));unfold pU at d;rw[dA,Vw l a i (by omega),Pg,cV (by omega),show(γ l[i]).toList=[l[i]]from rfl,Dg,c];have e:((l[i].toNat:Z)==45)=η:=by rw[dT];omega
  rw[e,gP,bA (by omega:(48:Z)<=(l[i].toNat:Z)),bA (by omega:(l[i].toNat:Z)<=57)];rfl
def Vx(l:E ψ)(a:∀b∈l,pU b):∀i:O,i<=l.length->dA ⟨(45::l).toArray⟩ (i+1)=(i_ (l.take i),-1)
 |0,_=>by rw[dA];rfl
 |i+1,h=>by have c:=Ri (s:=⟨(45::l).toArray⟩) (i:=i+1) (by simp;omega);simp only[List.getElem_cons_succ]at c;have d:=a l[i] (ko (by omega));unfold pU at d;rw[dA,Vx l a i (by omega),Pg,cV (by omega),show(γ l[i]).toList=[l[i]]from rfl,Dg,c];rw[show ai (i+1) 0=η from rfl,ly,bA (by omega:(48:Z)<=(l[i].toNat:Z)),bA (by omega:(l[i].toNat:Z)<=57)];rfl
def RY{u:O}(h:u<10^8):(gB u).length<=8:=by rw[Lib.decDigits_length];exact Gq 7 u h
def rE(n:Z)(d: -100000000<n)(e:n<100000000):i3 ⟨(bc n).toArray⟩=n:=by
 have a:∀l:E ψ,l.length<=9->iy ⟨l.toArray⟩=l.length:=λl h=>by rw[iy,tb];omega
 rw[bc];split
 ·rename_i b
  have c:=RY (u:=n.natAbs) (by omega);have:=Vx (gB n.natAbs) (Ar _) (gB n.natAbs).length (aR _);rw[i3,a _ (by simp only[cn];omega),cn,this,DF,YO];show(-1:Z)*(n.natAbs:Z)=n
  omega
 ·rename_i b
  have c:=RY (u:=n.toNat) (by omega);have:=Vw (gB n.toNat) (Ar _) (gB n.toNat).length (aR _);rw[i3,a _ (by omega),this,DF,YO];show(1:Z)*(n.toNat:Z)=n
  omega
def eight(r:Cy):E Z:=[r.c0,r.c1,r.c2,r.c3,r.c4,r.c5,r.c6,r.c7]
def Hl(w:Wh):nv w=bc w.s++58::iD ((eight w.r).map bc) [44]:=rfl
def KL(n:Z):(58:ψ)∉bc n:=Lz (by decide) n
def afD(n:Z):(44:ψ)∉bc n:=Lz (by decide) n
def SI(n:Z):(32:ψ)∉bc n:=Lz (by decide) n
def R1(r:Cy):cW 44 (iD ((eight r).map bc) [44])=(eight r).map bc:=by
 refine JV _ _ λy b=>?_
 have a:y∈ (eight r).map bc:=b;obtain⟨n,_,rfl⟩:=fX.1 a;exact afD n
def ahf{b:ψ}{c:ψ}:∀(xs:E (E ψ)),b∈iD xs [c]->b=c\/∃x∈xs,b∈x
 |[],h=>by simp[ZT]at h
 |x::xs,h=>by
  rw[tR,nD]at h;rcases h with h|h
  ·exact .inr ⟨x,je,h⟩
  ·simp only[lY,List.mem_flatten,fX]at h
   obtain⟨l,⟨y,d,rfl⟩,a⟩:=h;rcases nD.1 a with a|a
   ·exact .inl (by simpa using a)
   ·exact .inr ⟨y,lB _ d,a⟩
def UE{b:ψ}(r:Cy)(c:b≠44)(d:∀n,b∉bc n):b∉iD ((eight r).map bc) [44]:=λa=>by
 rcases ahf _ a with e|⟨x,f,a⟩
 ·exact c e
 ·obtain⟨n,_,rfl⟩:=fX.1 f
  exact d n a
def as0(w:Wh):(32:ψ)∉nv w:=by
 rw[Hl,nD,dw];rintro(h|h|h)
 ·exact SI _ h
 ·cases h
 ·exact UE w.r (by decide) SI h
def j6{n:Z}(h: -1000000<=n/\n<=1000000):jX ⟨(bc n).toArray⟩=η/\c_ ⟨(bc n).toArray⟩=n:=by
 have:=abz n (by omega) (by omega);constructor
 ·rw[jX,ET,this]
 ·rw[c_,ET,this]
def Zb{w:Wh}(h:e9 w=ε):wo (cR w)=(w,ε):=by
 have a:=Cj h;simp only[HF,kq,H_,Ib,aa]at a;obtain⟨b,c,d,e,f,i,k,m,n⟩:=a;have o:e_ (cR w).data.toList colon.data.toList=(bc w.s,iD ((eight w.r).map bc) [44],ε):=by
  show e_ (nv w) [58]=_
  rw[Hl];exact RN (KL _)
 have q:oV (cR w) colon=⟨(bc w.s).toArray⟩:=by rw[oV,o]
 have r:gr (cR w) colon=⟨(iD ((eight w.r).map bc) [44]).toArray⟩:=by rw[gr,o]
 have p:dr (gr (cR w) colon) comma=((eight w.r).map bc).map λl=>⟨l.toArray⟩:=by rw[r,show comma=a8 (bj [44])from rfl,CK,ET,R1]
 rw[wo,tA,p];simp only[cC,eight,cn,gm,zH];rw[show ai 8 8=ε from rfl,aZ,q];have g:∀j,i6 (gr (cR w) colon) comma j=(((eight w.r).map bc).map λl=>(⟨l.toArray⟩:ρ)).getD j ⟨#[]⟩:=λj=>by rw[i6,p]
 have g0:i6 (gr (cR w) colon) comma 0=⟨(bc w.r.c0).toArray⟩:=g 0;have s:i6 (gr (cR w) colon) comma 1=⟨(bc w.r.c1).toArray⟩:=g 1;have t:i6 (gr (cR w) colon) comma 2=⟨(bc w.r.c2).toArray⟩:=g 2;have u:i6 (gr (cR w) colon) comma 3=⟨(bc w.r.c3).toArray⟩:=g 3;have v:i6 (gr (cR w) colon) comma 4=⟨(bc w.r.c4).toArray⟩:=g 4;have x:i6 (gr (cR w) colon) comma 5=⟨(bc w.r.c5).toArray⟩:=g 5;have y:i6 (gr (cR w) colon) comma 6=⟨(bc w.r.c6).toArray⟩:=g 6;have z:i6 (gr (cR w) colon) comma 7=⟨(bc w.r.c7).toArray⟩:=g 7;rw[Hj,g0,s,t,u,v,x,y,z,(j6 b).1,(j6 c).1,(j6 d).1,(j6 e).1,(j6 f).1,(j6 i).1,(j6 k).1,(j6 m).1,(j6 n).1,(j6 b).2,(j6 c).2,(j6 d).2,(j6 e).2,(j6 f).2,(j6 i).2,(j6 k).2,(j6 m).2,(j6 n).2];rfl
def Y8{w:Wh}(h:e9 w=ε):qo (cR w)=ε/\zl (cR w)=w:=by
 have c:=Cj h;simp only[HF,kq,H_,Ib,aa]at c;obtain⟨o,p,q,r,s,t,u,v,x⟩:=c;have b:ev (cR w) 58=[⟨(bc w.s).toArray⟩,⟨(iD ((eight w.r).map bc) [44]).toArray⟩]:=by
  rw[show(58:Z)=(((58:ψ).toNat:O):Z)from rfl,Ap];show Pd _ (cW 58 (nv w))=_
  rw[Hl,Am _ _ (KL _),An _ (UE w.r (by decide) KL)];rfl
 have d:bG (cR w) 58 0=⟨(bc w.s).toArray⟩:=by rw[bG,b];rfl
 have e:bG (cR w) 58 1=⟨(iD ((eight w.r).map bc) [44]).toArray⟩:=by rw[bG,b];rfl
 have a:ev (bG (cR w) 58 1) 44=((eight w.r).map bc).map λl=>⟨l.toArray⟩:=by rw[e,show(44:Z)=(((44:ψ).toNat:O):Z)from rfl,Ap,ET,R1]
 have g0:bG (bG (cR w) 58 1) 44 0=⟨(bc w.r.c0).toArray⟩:=by rw[bG,a];rfl
 have f:bG (bG (cR w) 58 1) 44 1=⟨(bc w.r.c1).toArray⟩:=by rw[bG,a];rfl
 have g:bG (bG (cR w) 58 1) 44 2=⟨(bc w.r.c2).toArray⟩:=by rw[bG,a];rfl
 have i:bG (bG (cR w) 58 1) 44 3=⟨(bc w.r.c3).toArray⟩:=by rw[bG,a];rfl
 have j:bG (bG (cR w) 58 1) 44 4=⟨(bc w.r.c4).toArray⟩:=by rw[bG,a];rfl
 have k:bG (bG (cR w) 58 1) 44 5=⟨(bc w.r.c5).toArray⟩:=by rw[bG,a];rfl
 have m:bG (bG (cR w) 58 1) 44 6=⟨(bc w.r.c6).toArray⟩:=by rw[bG,a];rfl
 have n:bG (bG (cR w) 58 1) 44 7=⟨(bc w.r.c7).toArray⟩:=by rw[bG,a];rfl
 refine⟨?_,?_⟩
 ·rw[qo,cH,cH,b,a]
  rfl
 ·rw[zl,d,g0,f,g,i,j,k,m,n,rE _ (by omega) (by omega),rE _ (by omega) (by omega),rE _ (by omega) (by omega),rE _ (by omega) (by omega),rE _ (by omega) (by omega),rE _ (by omega) (by omega),rE _ (by omega) (by omega),rE _ (by omega) (by omega),rE _ (by omega) (by omega)]
def Yq{w:Wh}{L:E Wh}:cW 32 (dB (w::L)).data.toList=(w::L).map nv:=by
 show cW 32 (lX (w::L))=_
 refine JV _ _ λy b=>?_
 have a:y∈ (w::L).map nv:=b;obtain⟨c,_,rfl⟩:=fX.1 a;exact as0 c
def Yr(w:Wh)(L:E Wh):cK (dB (w::L)) dash=η:=by
 refine aeK λe=>?_
 have a:(58:ψ)∈ (dB (w::L)).data.toList:=by
  show(58:ψ)∈lX (w::L)
  rw[lX,eD,tR,nD,Hl,nD];exact .inl (.inr je)
 rw[e]at a;simp[dash]at a
def Oa:dB []=dash:=rfl
def ame{L:E Wh}(h:∀w∈L,e9 w=ε):eB (dB L)=L/\(cK (dB L) dash||ph (dB L))=ε:=by
 cases L with
 |nil=>exact⟨by rw[eB,Oa,xi];rfl,by rw[Oa,xi];rfl⟩
 |cons w L=>
  have b:dr (dB (w::L)) di=(w::L).map cR:=by rw[show di=a8 (bj [32])from rfl,CK,Yq,qH];rfl
  constructor
  ·rw[eB,Yr,a_,b,qH]
   exact(wk (g:=id) λx a=>by simp only[Hw,id,Zb (h x a)]).trans (Pe _)
  ·rw[ph,b,Dx]
   have:((w::L).all ((λw=>(wo w).2) ∘cR))=ε:=bX.2 λx a=>by simp only[Hw,Zb (h x a)]
   rw[this,OM]
def Xl{L:E Wh}(h:∀w∈L,e9 w=ε):cK (dB L) dash=ε/\L=[]\/cK (dB L) dash=η/\kf (dB L)=L/\rL (dB L)=ε:=by
 cases L with
 |nil=>exact .inl ⟨by rw[Oa,xi],rfl⟩
 |cons w L=>
  have b:ev (dB (w::L)) 32=(w::L).map cR:=by rw[show(32:Z)=(((32:ψ).toNat:O):Z)from rfl,Ap,Yq,qH];rfl
  refine .inr ⟨Yr w L,?_,?_⟩
  ·rw[kf,b,qH]
   exact(wk (g:=id) λx a=>by simp only[Hw,id,(Y8 (h x a)).2]).trans (Pe _)
  ·rw[rL,b,Dx]
   exact bX.2 λx a=>by simp only[Hw,(Y8 (h x a)).1]
def Od{T:E Wh}(h:bH T):∀w∈T,e9 w=ε:=MD (rU h)
def WH(s:ρ)(T:E Wh):(dF s=ε/\bZ s=T)↔ (bH T/\dB T=s/\s.size<=1500):=by
 constructor
 ·rintro⟨f,rfl⟩
  have b:=f;rw[dF,aM,aM,yG,aM]at b;obtain⟨⟨⟨a,_⟩,_⟩,d⟩:=b;have e:bZ s=tI (eB s):=by rw[bZ,f];rfl
  rw[e];exact⟨vR _,J8 d,aL a⟩
 ·rintro⟨c,rfl,i⟩
  obtain⟨g,j⟩:=ame (Od c);have h:dF (dB T)=ε:=by rw[dF,yG,g,j,tN c,zb c,xi,bA i];rfl
  exact⟨h,by rw[bZ,h,g,zb c];rfl⟩
def Xk(s:ρ)(T:E Wh):(ir s=ε/\ik s=T)↔ (bH T/\dB T=s/\s.size<=1500):=by
 constructor
 ·rintro⟨k,rfl⟩
  have h:=k;rw[ir,aM]at h;obtain⟨a,b⟩:=h;cases i:cK s dash with
  |true=>
   have e:ik s=[]:=by rw[ik,i,zo,gP];rfl
   rw[e];exact⟨xO,(J8 i).symm,aL a⟩
  |false=>
   rw[i,Hq,aM,aM]at b;obtain⟨⟨q,m⟩,l⟩:=b;have e:ik s=kf s:=by rw[ik,k,i];rfl
   have n:fM (kf s)=dB (tI (kf s)):=by rw[fM,m];rfl
   rw[n]at l;have f:=J8 l;have c:=vR (kf s);rcases Xl (Od c)with⟨d,_⟩|⟨_,g,_⟩
   ·rw[f,i]at d
    cases d
   ·rw[f]at g
    rw[e];generalize tI (kf s)=T at f c g;subst g;exact⟨c,f,aL a⟩
 ·rintro⟨c,rfl,f⟩
  rcases Xl (Od c)with⟨d,rfl⟩|⟨d,g,o⟩
  ·have j:ir (dB [])=ε:=by rw[ir,d,bA f];rfl
   exact⟨j,by rw[ik,d,zo,gP];rfl⟩
  ·have p:fM T=dB T:=by rw[fM,tN c,aZ,zb c]
   have j:ir (dB T)=ε:=by rw[ir,d,g,o,tN c,p,xi,bA f];rfl
   exact⟨j,by rw[ik,j,d,g];rfl⟩
def M7(s:ρ):ir s=dF s/\ik s=bZ s:=by
 cases h:dF s with
 |true=>obtain⟨c,a⟩:=(Xk s (bZ s)).2 ((WH s (bZ s)).1 ⟨h,rfl⟩);exact⟨c,a⟩
 |false=>
  have b:ir s=η:=by
   cases a:ir s with
   |false=>rfl
   |true=>have:=((WH s (ik s)).2 ((Xk s (ik s)).1 ⟨a,rfl⟩)).1;rw[h]at this;cases this
  exact⟨b,by rw[ik,b,bZ,h];rfl⟩
def kD:E ψ->Z
 |45::l=> -i_ l
 |l=>i_ l
def uC(l:E ψ):κ:=ο (1<=l.length)&&ο (l.length<=4)&&l.all λb=>ο (48<=b.toNat)&&ο (b.toNat<=57)
def pf:E ψ->κ
 |45::l=>uC l
 |l=>uC l
def J3:∀(k u:O),u<10^k->1<=k->(gB u).length<=k
 |0,_,_,h=>aO h (by omega)
 |1,u,h,_=>by rw[gB,dif_pos (by omega)];exact aR _
 |k+2,u,h,_=>by
  rw[gB];split
  ·show 1<=k+2
   omega
  ·rw[cv]
   have:=J3 (k+1) (u/10) (by rw[HO]at h;omega) (by omega);show _+1<=_
   omega
def ahY:mJ:=⟨λ|103=>206|210=>246|206=>273|n=>n,λ|9=>9|4=>4|24=>59|3=>3|n=>n,λ|n=>n⟩
def ahX:Go.Proofs.Lays.n103 θ ahY:=by repeat' (first|kernel_rfl|(intros;kernel_rfl)|decide|constructor)
def ajj(l:E ψ):pf l=uC (wg l [45])/\kD l=bif O2 l [45]then-i_ (wg l [45])else i_ (wg l [45]):=by
 match l with
 |[]=>exact⟨rfl,rfl⟩
 |b::l=>
  by_cases h:b=45
  ·subst h
   have e:O2 (45::l) [45]=ε:=rfl;unfold wg;rw[e];exact⟨rfl,rfl⟩
  ·have e:O2 (b::l) [45]=η:=by
    show(((45:ψ)==b)&&_)=η
    rw[dT.2 (Ne.symm h)];rfl
   unfold wg;rw[e];refine⟨?_,?_⟩
   ·unfold pf
    split
    ·rename_i q
     simp only[lA]at q;exact aO q.1 h
    ·rfl
   ·unfold kD
    split
    ·rename_i q
     simp only[lA]at q;exact aO q.1 h
    ·rfl
def SF(w:υ)(e:ae)(s:ρ):Fr (aq w) w (wb w e s):=⟨rfl,rfl,rfl,by rw[Lib.bytesWorld_size];omega,λk a _=>Lib.bytesWorld_at_old w e s k a⟩
def iT(b:ψ):κ:=ο (48<=b.toNat)&&ο (b.toNat<=57)
def asv{l:E ψ}(h:l.all iT=ε)(f:l.length<=4):0<=i_ l/\i_ l<10000:=by
 have c:∀(l:E ψ)(a:Z),0<=a->l.all iT=ε->0<=l.foldl (λa b=>10*a+((b.toNat:Z) -48)) a/\l.foldl (λa b=>10*a+((b.toNat:Z) -48)) a<(a+1)*10^l.length:=by
  intro l;induction l with
  |nil=>intro a d _;exact⟨d,by simp;omega⟩
  |cons b l g=>intro a d h;rw[gl,aM]at h;obtain⟨e,h⟩:=h;unfold iT at e;rw[aM,aB,aB]at e;obtain⟨i,j⟩:=g (10*a+((b.toNat:Z) -48)) (by omega) h;rw[List.foldl_cons];refine⟨i,Int.lt_of_lt_of_le j ?_⟩;rw[cn,OX,Int.mul_comm (10^l.length:Z) 10,<-Int.mul_assoc];exact Int.mul_le_mul_of_nonneg_right (by omega) (Int.le_of_lt (Int.pow_pos (by omega)))
 obtain⟨k,m⟩:=c l 0 (Int.le_refl _) h;refine⟨k,Int.lt_of_lt_of_le m ?_⟩;rw[Int.zero_add,zu]
 match l,f with
 |[],_=>simp
 |[_],_=>simp
 |[_,_],_=>simp
 |[_,_,_],_=>simp
 |[_,_,_,_],_=>simp
def acE(s:ρ)(w:υ)(N:aY (aq w) w)(_:s.size<=1099511627776):aH θ 132 #[.string s] w λe w'=>(bif pf s.data.toList then e=.returned (ι (kD s.data.toList))else e=oX)/\Fr (aq w) w w':=by
 have mixed:=mixed;have r:=Any.strings_CutPrefix ahX s ⟨#[45]⟩ w;obtain⟨S,T⟩:=ajj s.data.toList;rw[S,T];have u:(a8 #[45]).data.toList=[45]:=rfl;rw[u]at r;have U:(wg s.data.toList [45]).length<=s.data.toList.length:=by
  unfold wg;split
  ·rw[oF];omega
  ·exact aR _
 have hsl:s.data.toList.length=s.size:=by rw[lx];rfl
 generalize wg s.data.toList [45]=d at*;generalize O2 s.data.toList [45]=q at*;have x:uC d=(aD d.length 1 4&&d.all iT):=by
  unfold uC aD iT
  congr 1
  rw[kk];simp only[aM,aB];omega
 rw[x];clear x;have p:(a8 d.toArray).size=d.length:=by simp[aW]
 go_enter func132,ntmps132
 go_wp2_with (go_at_call 206;refine r.mono ?_;rintro e w' ⟨rfl,rfl⟩)
 have l:aH θ 134 #[ι d.length,ι 1,ι 4] w' (f_ w' (.bool (aD d.length 1 4))):=Hf MS [ι d.length,ι 1,ι 4] rfl rfl rfl rfl rfl N;clear r S T u;cases y:aD (d.length:Z) 1 4 with
 |false=>
  rw[y]at l
  go_wp2_with (first|(go_at_call 134;refine l.mono ?_;rintro e w1 ⟨rfl,z⟩)|(go_at_call 74;refine(tc _).mono ?_;rintro e m ⟨rfl,rfl⟩))
  refine⟨rfl,?_,z⟩;rw[y];rfl
 |true=>
  rw[y]at l;have hl4:d.length<=4:=by unfold aD at y;simp only[aM,aB]at y;omega
  have t9:θ.underlying 9=γ .string:=by kernel_rfl
  have A:θ.underlying 32=γ (.slice 5):=by kernel_rfl
  have t5:θ.underlying 5=γ (.int .u8):=by kernel_rfl
  go_wp2_with (first|(go_at_call 134;refine l.mono ?_;rintro e w1 ⟨rfl,z⟩)|(go_at_call 74;refine(td _).mono ?_;rintro e m ⟨rfl,rfl⟩))
  have t:=Lib.run_convert_string_bytes m 9 32 5 ⟨d.toArray⟩ t9 A t5;have B:Fr (aq w') w' (wb m 5 ⟨d.toArray⟩):=z.trans ((SF m _ _).mono λk _ hk=>cD z.size hk);have f:∀j,j<d.length->(wb m 5 ⟨d.toArray⟩).cell? ⟨m.heap.size,j,ζ⟩=γ (.int .u8 (d.getD j 0).toNat):=λj hj=>Lib.bytesWorld_cell m _ ⟨d.toArray⟩ j (by rw[p];exact hj)
  rw[p]at t;generalize wb m 5 ⟨d.toArray⟩=W at*;generalize grownCap m d.length 0 5=cap at*;have u22:=run_underlying A;rw[t];clear t
  go_wp2
  go_loop [5,20] (λn i=>∃k:O,k<=d.length/\i=.int .i64 k/\n=.int .i64 (i_ (d.take k))/\(d.take k).all iT=ε) (λ_ i=>d.length-(intOf i).toNat)
  case atStart=>exact⟨0,eF _,rfl,rfl,rfl⟩
  case round=>
   obtain⟨k,hk,rfl,rfl,I⟩:=hrel;obtain⟨P,Q⟩:=asv I (by rw[oG];omega);obtain⟨v,L⟩:∃v,v=i_ (d.take k):=⟨_,rfl⟩;rw[<-L]at P Q⊢;by_cases o:k<d.length
   ·have hc:=f k o
    have C:d.getD k 0=d[k]:=by simp[o]
    have D:d.take (k+1)=d.take k++[d[k]]:=wl o;have G:d.all iT=ε->iT d[k]=ε:=λh=>bX.1 h _ (ko o)
    rw[C]at hc;have g:iT d[k]=ε->(d.take (k+1)).all iT=ε/\i_ (d.take (k+1))=10*v+((d[k].toNat:Z) -48):=λM=>by rw[D,gC,I,Dg,<-L];exact⟨by simp[M],rfl⟩
    generalize d[k]=b at*;have c:iT b=η->d.all iT=η:=λM=>by
     cases h:d.all iT with
     |false=>rfl
     |true=>rw[G h]at M;cases M
    have hz:d.length<9223372036854775807:=by omega
    clear f L I C D G N l;by_cases h1:48<=b.toNat
    ·have d1:(48:Z)<=b.toNat:=by omega
     by_cases h2:b.toNat<=57
     ·have d2:(b.toNat:Z)<=57:=by omega
      obtain⟨H,k2⟩:=g (by unfold iT;rw[bA h1,bA h2];rfl);clear g c
      go_wp2_with fail
      refine(td _).mono ?_;rintro e w3 ⟨rfl,rfl⟩;clear z B;generalize hX:i_ (d.take (k+1))=X at*;generalize hY:(d.take (k+1)).all iT=a at*
      go_wp2_with fail
      refine⟨⟨k+1,by omega,by simp,?_,?_⟩,by simp[intOf];omega⟩
      ·rw[hX,k2]
      ·rw[hY,H]
     ·have d2:¬(b.toNat:Z)<=57:=by omega
      have H:=c (by unfold iT;rw[eJ h2,gP]);clear g c
      go_wp2_with fail
      refine(tc _).mono ?_;rintro e w3 ⟨rfl,rfl⟩;refine⟨rfl,?_,B⟩;rw[H,gP];rfl
    ·have d1:¬(48:Z)<=b.toNat:=by omega
     have H:=c (by unfold iT;rw[eJ h1,ly]);clear g c
     go_wp2_with fail
     refine(tc _).mono ?_;rintro e w3 ⟨rfl,rfl⟩;refine⟨rfl,?_,B⟩;rw[H,gP];rfl
   ·have R:k=d.length:=by omega
    rw[R,DF]at I L;have hz:d.length<9223372036854775807:=by omega
    clear f N l;cases q with
    |false=>
     go_wp2_with fail
     go_ret
     exact⟨rfl,B⟩
    |true=>
     go_wp2_with fail
     go_ret
     exact⟨rfl,B⟩
def cP(k:O)(r:E ψ):κ:=ai (cW 32 r).length k&&(cW 32 r).all pf
def aI(r:E ψ)(i:O):Z:=kD ((cW 32 r).getD i [])
def eR{w w':υ}{a:χ O}(h:w.grownBy w' a){M:O->Prop}(hM:∀k,a=γ k->M k):Fr M w w':=
 ⟨h.os,h.tape,h.output,h.size,λk b c=>h.block k b λe=>c (hM k e.symm)⟩
def dh{a b c:υ}(h:Fr (aq a) a b)(k:Fr (aq b) b c):Fr (aq a) a c:=h.trans (k.mono λ_ _ d=>cD h.size d)
def My{a b:υ}(h:Fr (aq a) a b):a.grownBy b ζ:=⟨h.os,h.tape,h.output,h.size,λk c _=>h.block k c (fY.2 c)⟩
def abh{α:Type}{p:α->κ}{l:E α}{k:O}(h:(l.take k).all p=ε)(a:k<l.length):(l.take (k+1)).all p=p l[k]:=by rw[wl a,gC,h];simp
def all_false{α:Type}{p:α->κ}{l:E α}{k:O}(a:k<l.length)(h:p l[k]=η):l.all p=η:=by
 cases e:l.all p with
 |false=>rfl
 |true=>rw[bX.1 e _ (ko a)]at h;cases h
def agL:(θ.info? 3).map (λi=>(i.zero,i.size,i.bytes))=γ (γ (ι 0),1,8):=by kernel_rfl
def JW{c:ψ}:∀(l:E ψ),∀x∈cW c l,x.length<=l.length:=by
 intro l;induction l with
 |nil=>intro x a;simp[cW]at a;subst a;exact aR _
 |cons b l d=>
  intro x a;unfold cW at a;rw[cn];split at a
  ·rcases dw.1 a with rfl|a
   ·exact eF _
   ·have:=d x a
    omega
  ·split at a
   ·rename_i y f e
    rcases dw.1 a with rfl|a
    ·have:=d y (by rw[e];exact je)
     rw[cn];omega
    ·have:=d x (by rw[e];exact lB _ a)
     omega
   ·rw[mN]at a
    subst a;simp
def aoo{w a:υ}{ws:E (E ψ)}{t:ae}(h:a=w.alloc (.cells ((ws.map λl=>(⟨l.toArray⟩:ρ)).map cZ).toArray t)):Fr (aq w) w a/\w.heap.size<a.heap.size/\∀j (c:j<ws.length),a.cell? ⟨w.heap.size,j,ζ⟩=γ (.string ⟨ws[j].toArray⟩):=by subst h;refine⟨⟨rfl,rfl,rfl,by simp,λk d _=>gj _ _ _ d⟩,by simp,λj c=>?_⟩;have b:(w.alloc (.cells ((ws.map λl=>(⟨l.toArray⟩:ρ)).map cZ).toArray t)).heap[w.heap.size]?=γ (.cells ((ws.map λl=>(⟨l.toArray⟩:ρ)).map cZ).toArray t):=l8 w _;unfold pI;simp only;rw[b];simp[c]
def xa(s:ρ)(n:O)(hn:n<=3)(w:υ)(X:aY (aq w) w)(hsz:s.size<4294967281):aH θ 68 #[.string s,ι n] w λe w'=>(bif cP n s.data.toList then ∃g,w.heap.size<=g/\e=.returned (.slice (γ ⟨g,0,ζ⟩) n n)/\w'.heap[g]?=γ (.cells ((cW 32 s.data.toList).map λx=>ι (kD x)).toArray 3 (0,0))else e=oX)/\Fr (aq w) w w':=by
 have mixed:=mixed;obtain⟨m,hm⟩:=ze X;have B:=OF {s5 with} s5.i9 s ⟨#[32]⟩ m w hsz hm (by decide);have hl:=tz s ⟨#[32]⟩ (by decide);have L:=CK s 32;rw[show zw ⟨#[32]⟩ 0 (zv s ⟨#[32]⟩) s=dr s ⟨#[32]⟩from rfl,<-hl,L,cC]at B;have f:∀x∈cW 32 s.data.toList,x.length<=1099511627776:=λx N=>by
  have:=JW _ x N;have e:s.data.toList.length=s.size:=by rw[lx];rfl
  omega
 unfold cP;clear hm hl L;generalize cW 32 s.data.toList=b at*;have t3:θ.underlying 3=γ (.int .i64):=by kernel_rfl
 have z:θ.underlying 63=γ (.slice 3):=by kernel_rfl
 have t71:θ.underlying 35=γ (.slice 9):=by kernel_rfl
 obtain⟨i0,hi,hz0,P,hz2⟩:=info_parts agL;have hbq:((b.length:Z)==(n:Z))=ai b.length n:=by rw[kk];simp;omega
 go_enter aaI,ntmps68
 go_wp2_with (go_at_call 8;refine B.mono ?_;rintro e w1 ⟨rfl,Q⟩;obtain⟨f1,z1,c1⟩:=aoo Q;clear Q)
 clear B hbq;cases hq:ai b.length n with
 |false=>refine(tc _).mono ?_;rintro e w2 ⟨rfl,rfl⟩;exact⟨rfl,by rw[hq];rfl,f1⟩
 |true=>
  have hln:b.length=n:=ci hq;refine(td _).mono ?_;rintro e w2 ⟨rfl,rfl⟩
  go_wp2_with (at_make;refine wpList_make_own _ rfl _ _ 63 rfl w2.heap.size 3 i0 (ι 0) 1 z hi hz0 P .i64 .i64 n n rfl rfl rfl (by rw[hz2];omega) (by unfold jv;omega) (aR _) ?_)
  intro w3 c t;have f3:Fr (aq w) w w3:=f1.trans (eR t λk e=>by cases e);have c3:∀j (o:j<b.length),w3.cell? ⟨w.heap.size,j,ζ⟩=γ (.string ⟨b[j].toArray⟩):=λj o=>(nL (a:=⟨w.heap.size,j,ζ⟩) (t.block _ z1 (by simp))).trans (c1 j o)
  have z3:w.heap.size<w3.heap.size:=eE z1 t.size;obtain⟨G,hG⟩:∃G,G=w2.heap.size:=⟨_,rfl⟩;have R:w.heap.size<G:=by omega
  rw[<-hG]at c⊢;clear c1 f1 t hG
  go_wp2
  go_loopw [6,20] (λv i wr=>∃k:O,k<=n/\i=.int .i64 k/\v=.slice (γ ⟨G,0,ζ⟩) k n/\wr.ownsRow G 3 1 (.slice (γ ⟨G,0,ζ⟩) k n) k ((b.map λx=>ι (kD x)).take k)/\(b.take k).all pf=ε/\Fr (aq w) w wr/\w.heap.size<wr.heap.size/\∀j (o:j<b.length),wr.cell? ⟨w.heap.size,j,ζ⟩=γ (.string ⟨b[j].toArray⟩)) (λ_ i _=>n-(intOf i).toNat)
  case atStart=>exact⟨0,eF _,rfl,rfl,c,rfl,f3,z3,c3⟩
  case round=>
   obtain⟨k,hk,rfl,rfl,c,S,H,T,cr⟩:=hrel;by_cases hlt:k<n
   ·have q:k<b.length:=by omega
    have hc:=cr k q;have d:=acE ⟨b[k].toArray⟩ wr ((X.fr H).mono λi _ hi=>cD H.size hi) (by rw[mq];exact f _ (ko q));rw[show(a8 b[k].toArray).data.toList=b[k]from rfl]at d;have C:=abh (p:=pf) S q;have r:=all_false (p:=pf) (l:=b) q;have y:((b.map λx=>ι (kD x)).take k)++[ι (kD b[k])]=(b.map λx=>ι (kD x)).take (k+1):=by rw[wl (by rw[cC];exact q),HI]
    have hln2:(b.length:Z)<9223372036854775807:=by omega
    have hlt2:(k:Z)<b.length:=by omega
    clear X f c3 f3 z3;generalize b[k]=x at*;cases N:pf x with
    |false=>
     rw[N]at d;have hfx:=r N;clear C r y S c cr
     go_wp2_with (go_at_call 132;refine d.mono ?_;rintro e w4 ⟨he,f4⟩;obtain rfl:=he)
     refine⟨rfl,?_,dh H f4⟩;rw[hfx,gP];rfl
    |true=>
     rw[N]at d C;clear r S;have next:∀(w4 I:υ),Fr (aq wr) wr w4->(w4.alloc (.cells #[ι (kD x)] 3)).grownBy I (γ G)->Fr (aq w) w I/\w.heap.size<I.heap.size/\∀j (o:j<b.length),I.cell? ⟨w.heap.size,j,ζ⟩=γ (.string ⟨b[j].toArray⟩):=λw4 I h4 h5=>by have g4:=fk w4 (.cells #[ι (kD x)] 3) ζ;have z4:=h4.size;have z5:=g4.size;refine⟨(dh H h4).trans ((eR g4 (M:=aq w) λk e=>by cases e).trans (eR h5 λk e=>by cases e;exact HM R)),eE T (cD z4 (cD z5 h5.size)),λj o=>?_⟩;refine(nL ?_).trans (cr j o);exact(h5.block _ (eE T (cD z4 z5)) (by simp;omega)).trans ((g4.block _ (eE T z4) (by simp)).trans (h4.block _ T (fY.2 T)))
     clear cr
     go_wp2_with (first|(go_at_call 132;refine d.mono ?_;rintro e w4 ⟨he,f4⟩;obtain rfl:=he)|(at_builtin;refine wpList_append_fits _ rfl _ _ 63 rfl G 3 i0 1 z hi P G k n _ rfl ((c.kept (My ‹_›) (by simp[Value.ownBlock])).alloc _) ⟨_,0,ζ⟩ 1 1 [ι (kD x)] rfl rfl ?c1 ?c2 ?c3 ?_))
     case c1=>
      intro j u o
      match j,o with
      |0,o=>simp at o;subst o;simp[zm]
     case c2=>intro u hu;simp at hu;subst hu;rfl
     case c3=>omega
     intro I D A;obtain⟨n1,n2,n3⟩:=next _ _ ‹_› A;clear d A next c y H
     go_wp2
     go_roundw
     case rel=>exact⟨k+1,by omega,by simp,rfl,D,C,n1,n2,n3⟩
     case measure=>simp[intOf];omega
   ·have hkn:k=n:=by omega
    subst hkn;have U:b.take k=b:=oH (by omega);have W:(b.map λx=>ι (kD x)).take k=b.map λx=>ι (kD x):=oH (by rw[cC];omega)
    rw[U]at S;rw[W]at c;clear X f c3 f3 z3 cr U W
    go_wp2
    go_ret
    refine⟨?_,H⟩;rw[hq,S];refine⟨G,HM R,rfl,?_⟩;rcases c.2 with⟨h,_⟩|⟨g,cap,cur,h,_,hg,_,_,hs,y⟩
    ·cases h
    ·simp only[aue,ar,Addr.mk.injEq,aa,bo]at h
     obtain⟨rfl,rfl⟩:=h;rw[hg,<-y,oH (by rw[lx,hs];exact aR _)]
def Mw{r:E ψ}{n g:O}{w:υ}{t:ae}(a:cP n r=ε)(h:w.heap[g]?=γ (.cells ((cW 32 r).map λx=>ι (kD x)).toArray t (0,0)))(i:O)(b:i<n):w.cell? ⟨g,i,ζ⟩=γ (ι (aI r i)):=by
 have c:(cW 32 r).length=n:=by unfold cP at a;rw[aM]at a;exact ci a.1
 rw[gR w g i _ _ _ h];unfold aI;simp[show i<(cW 32 r).length by omega]
def fL(a:E Z):E ψ:=iD (a.map bc) [32]
def agM:(θ.info? 9).map (λi=>(i.zero,i.size,i.bytes))=γ (γ (.string atv),1,16):=by kernel_rfl
def Rp(n:Z)(w:υ)(a:aY (aq w) w)(b: -9223372036854775808<=n)(c:n<=9223372036854775807):aH θ 11 #[ι n] w (f_ w (.string (bM n))):=
 Hf VS [ι n] (δ:={val:=.v (.string (bM n)),ap:=[ο (-9223372036854775808<=n),ο (n<=9223372036854775807)]}) rfl rfl (by simp only[F,ah,aa,aB];exact⟨b,c⟩) rfl rfl a
def LA(n:Z)(a: -9223372036854775808<=n)(b:n<=9223372036854775807):(bc n).length<=20:=by
 unfold bc;split
 ·rw[cn]
  have:=J3 19 n.natAbs (by omega) (by omega);omega
 ·have:=J3 19 n.toNat (by omega) (by omega)
  omega
def Yn(k:O):∀(xs:E (E ψ)),(∀x∈xs,x.length<=k)->(lY [32] xs).length<=xs.length*(k+1)
 |[],_=>by simp[lY]
 |x::r,h=>by
  have c:=h x je;have a:=Yn k r λz b=>h z (lB _ b)
  unfold lY at a⊢;simp only[eD,List.flatten_cons,cv,cn,gm,fN];omega
def ahe(k:O)(xs:E (E ψ))(h:∀x∈xs,x.length<=k):(iD xs [32]).length<=xs.length*(k+1):=by
 cases xs with
 |nil=>simp[ZT]
 |cons x r=>
  have b:=h x je;have c:=Yn k r λz a=>h z (lB _ a)
  rw[tR,cv,cn,fN];omega
def EK(d:E Z)(b o c:O)(w:υ)(U:aY (aq w) w)(hl:d.length<=16)(_:d.length<=c)(hb:b<w.heap.size)(g:∀n∈d,-9223372036854775808<=n/\n<=9223372036854775807)(W:∀j (A:j<d.length),w.cell? ⟨b,o+j,ζ⟩=γ (ι d[j])):aH θ 75 #[.slice (γ ⟨b,o,ζ⟩) d.length c] w (f_ w (.string ⟨(fL d).toArray⟩)):=by
 have mixed:=mixed;have t3:θ.underlying 3=γ (.int .i64):=by kernel_rfl
 have t187:θ.underlying 63=γ (.slice 3):=by kernel_rfl
 have B:θ.underlying 35=γ (.slice 9):=by kernel_rfl
 obtain⟨i0,Q,X,C,hz2⟩:=info_parts agM
 go_enter aaJ,ntmps75
 go_wp2_with (at_make;refine wpList_make_own _ rfl _ _ 35 rfl w.heap.size 9 i0 (.string atv) 1 B Q X C .i64 .i64 d.length d.length rfl rfl rfl (by rw[hz2];omega) (by unfold jv;omega) (aR _) ?_)
 intro w3 f D;have f3:Fr (aq w) w w3:=eR D λk e=>by cases e
 obtain⟨G,S⟩:∃G,G=w.heap.size:=⟨_,rfl⟩;rw[<-S]at f⊢;clear D
 go_wp2
 go_loopw [3,11] (λv i wr=>∃k:O,k<=d.length/\i=.int .i64 k/\v=.slice (γ ⟨G,0,ζ⟩) k d.length/\wr.ownsRow G 9 1 (.slice (γ ⟨G,0,ζ⟩) k d.length) k ((d.map λx=>cZ (bM x)).take k)/\Fr (aq w) w wr) (λ_ i _=>d.length-(intOf i).toNat)
 case atStart=>exact⟨0,eF _,rfl,rfl,f,f3⟩
 case round=>
  obtain⟨k,hk,rfl,rfl,f,t⟩:=hrel;by_cases m:k<d.length
  ·have hcw:wr.cell? ⟨b,o+k,ζ⟩=γ (ι d[k]):=(nL (a:=⟨b,o+k,ζ⟩) (t.block b hb (fY.2 hb))).trans (W k m)
   have r:=g _ (ko m);have hit:=Rp d[k] wr ((U.fr t).mono λi _ Q=>cD t.size Q) r.1 r.2;have htk:((d.map λx=>cZ (bM x)).take k)++[.string (bM d[k])]=(d.map λx=>cZ (bM x)).take (k+1):=by rw[wl (by rw[cC];exact m),HI]
   have hln2:(d.length:Z)<9223372036854775807:=by omega
   have hlt2:(k:Z)<d.length:=by omega
   clear U g W f3 r;generalize d[k]=x at*;have next:∀(w4 T:υ),Fr (aq wr) wr w4->(w4.alloc (.cells #[.string (bM x)] 9)).grownBy T (γ G)->Fr (aq w) w T:=λw4 T h4 h5=>(dh t h4).trans ((eR (fk w4 (.cells #[.string (bM x)] 9) ζ) (M:=aq w) λk e=>by cases e).trans (eR h5 λk e=>by cases e;exact Nat.le_of_eq S.symm))
   clear S
   go_wp2_with (first|(go_at_call 11;refine hit.mono ?_;rintro e w4 ⟨he,f4⟩;obtain rfl:=he)|(at_builtin;refine wpList_append_fits _ rfl _ _ 35 rfl G 9 i0 1 B Q C G k d.length _ rfl ((f.kept (My ‹_›) (by simp[Value.ownBlock])).alloc _) ⟨_,0,ζ⟩ 1 1 [.string (bM x)] rfl rfl ?c1 ?c2 ?c3 ?_))
   case c1=>
    intro j u A
    match j,A with
    |0,A=>simp at A;subst A;simp[zm]
   case c2=>intro u hu;simp at hu;subst hu;rfl
   case c3=>omega
   intro T l q;have n1:=next _ _ ‹_› q;clear hit q next f t
   go_wp2
   go_roundw
   case rel=>exact⟨k+1,by omega,by simp,rfl,by first|exact l|exact htk▸l,n1⟩
   case measure=>simp[intOf];omega
  ·have hkn:k=d.length:=by omega
   subst hkn;have H:(d.map λx=>cZ (bM x)).take d.length=d.map λx=>cZ (bM x):=oH (by rw[cC];exact aR _)
   rw[H]at f;have I:G<wr.heap.size:=(f.lt G rfl).2;have L:(iD ((d.map bM).map (·.data.toList)) (a8 #[32]).data.toList).length<=140737488355328:=by
    have:=ahe 20 ((d.map bM).map (·.data.toList)) λx p=>by obtain⟨y,hy,rfl⟩:=fX.1 p;obtain⟨z,hz,rfl⟩:=fX.1 hy;exact LA z (g z hz).1 (g z hz).2
    simp only[cC]at this;have e:(a8 #[32]).data.toList=[32]:=rfl;rw[e];omega
   have s:=Any.strings_Join Br AG G 0 d.length (d.map bM) ⟨#[32]⟩ wr (λj x p=>by
    rw[bF,f.cellAt j (by have:=(eV.1 p).1;rw[cC]at this;omega)];rw[List.getElem?_map]at p⊢;cases h:d[j]?with
    |none=>rw[h]at p;cases p
    |some z=>rw[h]at p;simp only[Option.map_some,ar]at p⊢;rw[p]) I (by rw[cC];omega) (by rw[cC];exact aR _) L
   rw[cC]at s;have P:iD ((d.map bM).map (·.data.toList)) (a8 #[32]).data.toList=fL d:=by rw[qH];rfl
   rw[P]at s;clear U g W f3 H L P f S I hk m;generalize fL d=R at*;generalize d.length=N at*
   go_wp2_with (go_at_call 141;refine s.mono ?_;rintro e w6 ⟨rfl,hb6⟩)
   go_ret
   exact⟨rfl,dh t ((Below.fr hb6).mono λ_ _ h=>h.elim)⟩
abbrev tf:ρ:=⟨#[111,107]⟩
def dM(D:O)(L:E Wh)(w:υ):Prop:=∃p n c,w.heap[D]?=γ (.cells #[.slice p n c] 30 (0,0))/\bl w (.slice p n c) L
abbrev cj(w:υ)(D:O):O->Prop:=λk=>w.heap.size<=k\/k=D
def de(D:O)(L:E Wh)(r:χ (E Wh×E ψ))(w:υ)(e:jt)(w':υ):Prop:=
 Fr (cj w D) w w'/\match r with
  |some x=>e=.returned (.string ⟨x.2.toArray⟩)/\dM D x.1 w'/\bH x.1
  |none=>e=oX/\dM D L w'
def dM.ne{D:O}{L:E Wh}{w:υ}(h:dM D L w):¬sw w D:=λ⟨l,b,a⟩=>by obtain⟨p,n,c,h,_⟩:=h;rw[h]at a;simp only[ar,qK]at a;exact aO a.2.1 (by decide)
def dM.lt{D:O}{L:E Wh}{w:υ}(h:dM D L w):D<w.heap.size:=by obtain⟨p,n,c,h,_⟩:=h;exact(cm.1 h).1
def dM.fr{D:O}{L:E Wh}{w w':υ}(h:dM D L w)(f:Fr (aq w) w w'):dM D L w':=by have a:=h.lt;obtain⟨p,n,c,h,b⟩:=h;exact⟨p,n,c,(f.block D a (fY.2 a)).trans h,b.below f⟩
def aY.nw{w:υ}{D:O}(h:aY (cj w D) w):aY (aq w) w:=h.mono λ_ _ a=>.inl a
def aY.fh{w w':υ}(h:aY (aq w) w)(f:Fr (aq w) w w'):aY (aq w') w':=(h.fr f).mono λ_ _ a=>cD f.size a
def aY.Vy{w w':υ}{D:O}(h:aY (cj w D) w)(f:Fr (cj w D) w w'):aY (cj w' D) w':=(h.fr f).mono λ_ _ a=>a.elim (λx=>.inl (cD f.size x)) .inr
def Fr.oh{w w':υ}{D:O}(f:Fr (aq w) w w'):Fr (cj w D) w w':=f.mono λ_ _ h=>.inl h
def dM.set{D:O}{L T:E Wh}{w:υ}{p:χ c9}{n c:O}(h:dM D L w)(hs:bl w (.slice p n c) T):dM D T (w.setCell ⟨D,0,ζ⟩ (.slice p n c))/\Fr (cj w D) w (w.setCell ⟨D,0,ζ⟩ (.slice p n c)):=by have b:Fr (λk=>k=D) w (w.setCell ⟨D,0,ζ⟩ (.slice p n c)):=⟨rfl,rfl,rfl,by simp[l9],λk _ d=>kj _ _ _ _ (λe=>d e)⟩;have a:=h.ne;obtain⟨g,i,j,h,_⟩:=h;refine⟨⟨p,n,c,by simp[l9,zn,h],hs.fr (M:=λk=>k=D) (λk _ e f=>a (e▸f)) b⟩,b.mono λ_ _ e=>.inr e⟩
def bl.slice{w:υ}{v:τ}{L:E Wh}(h:bl w v L):∃p n c,v=.slice p n c:=by obtain⟨a,_,h,_⟩:=h;simp only[VR]at h;obtain⟨p,c,rfl,_⟩:=h;exact⟨p,_,c,rfl⟩
def Q8(D:O)(p:χ c9)(n c:O)(a:τ)(w:υ)(b:w.heap[D]?=γ (.cells #[a] 30 (0,0))):aH θ 62 #[.pointer (γ ⟨D,0,ζ⟩),.slice p n c,.bool ε] w λe w'=>e=.returned (.string tf)/\w'=w.setCell ⟨D,0,ζ⟩ (.slice p n c):=by
 have mixed:=mixed;have d:w.cell? ⟨D,0,ζ⟩=γ a:=by rw[gR w D 0 #[a] _ (0,0) b];rfl
 have f:w.frozen? ⟨D,0,ζ⟩=η:=frozen_of_row w D 0 #[a] _ b;clear b
 go_enter P7,ntmps62
 go_wp2_with (go_at_call 74;refine(td _).mono ?_;rintro e g ⟨rfl,rfl⟩)
 go_ret
 exact⟨rfl,rfl⟩
def Q7(D:O)(v:τ)(w:υ):aH θ 62 #[.pointer (γ ⟨D,0,ζ⟩),v,.bool η] w λe w'=>e=oX/\w'=w:=by
 have mixed:=mixed
 go_enter P7,ntmps62
 go_wp2_with (go_at_call 74;refine(tc _).mono ?_;rintro e a ⟨rfl,rfl⟩)
 exact⟨rfl,rfl,rfl⟩
def sF{D:O}{L T:E Wh}{b:κ}{s:τ}{w:υ}(a:dM D L w)(hs:b=ε->bl w s T)(d:b=ε->bH T):aH θ 62 #[.pointer (γ ⟨D,0,ζ⟩),s,.bool b] w (de D L (bif b then γ (T,[111,107])else ζ) w):=by
 cases b with
 |false=>refine(Q7 D s w).mono ?_;rintro e f ⟨rfl,rfl⟩;exact⟨Fr.refl _ _,rfl,a⟩
 |true=>have hs:=hs rfl;obtain⟨p,n,c,rfl⟩:=hs.slice;obtain⟨j,k,l,g,_⟩:=id a;refine(Q8 D p n c _ w g).mono ?_;rintro e f ⟨rfl,rfl⟩;obtain⟨h,i⟩:=a.set hs;exact⟨i,rfl,h,d rfl⟩
def acq(s:ρ){w:υ}(h:aY (aq w) w):aH θ 122 #[.string s] w (eX w (dF s) (bZ s)):=by
 cases a:dF s with
 |false=>have e:rS [.val] (Ju dF bZ) [.v (.string s)] [] 0=γ (dU 0 [] (dF s) (bZ s) []):=rfl;rw[a]at e;refine(xf ajw [.string s] e rfl rfl rfl h).mono ?_;rintro e i ⟨x,c,rfl,d,_,_,f⟩;exact tH d f
 |true=>
  have g:bZ s=tI (eB s):=by unfold bZ;rw[a];rfl
  have e:am [.val] Ja [.v (.string s)] [] 0=γ {val:=.Ψ [.sl 0 9 0 0 (tI (eB s)).length (γ (tI (eB s)).length),.v (.bool ε)],rd:=[],put:=[],new:=fR (tI (eB s)),ap:=[dF s]}:=rfl;rw[g];refine(xf V1 [.string s] e (by simp only[F,ah,aa];exact a) rfl rfl h).mono ?_;rintro e i ⟨x,c,rfl,d,n,o,f⟩;exact tG d (n 0 _ rfl) (λb p=>o 0 b (ft 0) p) f
def JP(s:ρ){w:υ}(c:aY (aq w) w):aH θ 63 #[.string s] w λe w'=>(bif dF s then ∃v,e=.returned v/\bl w' v (bZ s)else e=oX)/\Fr (aq w) w w':=by
 have mixed:=mixed;have a:=acq s c;cases b:dF s with
 |false=>
  rw[b]at a;clear c b
  go_enter func63,ntmps63
  go_wp2_with (first|(go_at_call 122;refine a.mono ?_;rintro e g ⟨v,rfl,f,d⟩)|(go_at_call 74;refine(tc _).mono ?_;rintro e h ⟨rfl,rfl⟩))
  exact⟨rfl,rfl,d⟩
 |true=>
  rw[b]at a;clear c b
  go_enter func63,ntmps63
  go_wp2_with (first|(go_at_call 122;refine a.mono ?_;rintro e g ⟨v,rfl,f,d⟩)|(go_at_call 74;refine(td _).mono ?_;rintro e h ⟨rfl,rfl⟩))
  go_ret
  exact⟨⟨_,rfl,f trivial⟩,d⟩
noncomputable def pb:a9->a9| .seq a _=>a|c=>c
noncomputable def rx:a9->a9| .seq _ b=>b|c=>c
noncomputable def UG:a9->aU a6| .region _ o _=>o|_=> #[]
def I5:E τ->χ (τ×E κ)
 |[.bool b]=>γ (.tuple #[],[b])
 |_=>ζ
def akL:au θ 74 (aS I5):=by
 refine nl (λargs w=>enters 74 f74 Tryz.func74 rfl args w) λd x f a c w g=>?_
 unfold I5 at a;split at a
 ·rename_i b
  simp only[ar,cG]at a;obtain⟨rfl,rfl⟩:=a;simp only[F,ah,aa]at c;subst c;refine(td w).mono ?_;rintro e h ⟨rfl,rfl⟩;exact⟨rfl,Fr.refl _ _⟩
 ·cases a
def amq{Q:Ex->E AV->E AB->Prop}{M:O->Prop}{ν:Nu}{w w':υ}(hM:∀k,w.heap.size<=k->M k)(c:aY M w)(h:∀i,ν i=ζ){g n:O}(l:E τ)(t:ae)(y:l.length=n)(m:n<=jv)(z:w.heap.size<=g)(r:w'.heap[g]?=γ (.cells l.toArray t (0,0)))(f:Fr (aq w) w w')(A:∀x∈l,x.oneCell'=ε)(G:O->E τ)(B:∀j,j<n->G j=(l.drop j).take 1)(C:Q .ret [.own 0 n] [.row ε n 1 G t]):hP Q M ν w (.returned (.slice (γ ⟨g,0,ζ⟩) n n)) w':=by
 have o:=(cm.1 r).1;have s:(λi:O=>if i=0 then γ (⟨g,0,n⟩:Bk)else ζ) 0=γ ⟨g,0,n⟩:=rfl;have d:∀i b,(λi:O=>if i=0 then γ (⟨g,0,n⟩:Bk)else ζ) i=γ b->i=0/\b=⟨g,0,n⟩:=λi b a=>by
  simp only at a;split at a
  ·rename_i e
   cases a;exact⟨e,rfl⟩
  ·cases a
 generalize(λi:O=>if i=0 then γ (⟨g,0,n⟩:Bk)else ζ)=p at*;have u:Fr M w w':=f.mono λk _ v=>hM k v
 refine⟨_,.own 0 n,[.row ε n 1 G t],p,rfl,C,?_,⟨λi=>?_,λi j b D H _ _ I q=>?_,λi b _ a=>?_,λi b a=>?_,c.fr u⟩,u,λi b a=>(by rw[h i]at a;cases a),λi b a=>?_⟩
 ·simp only[VR]
  exact⟨_,s,rfl⟩
 ·cases i with
  |zero=>
   refine .inr ⟨⟨g,0,n⟩,l,t,(0,0),s,r,λ_=>⟨rfl,rfl,rfl,by simp[y],m⟩,aR _,λj q=>?_⟩;rw[B j q];refine⟨⟨by rw[oG,oF];omega,λx L=>A x (List.mem_of_mem_drop (List.mem_of_mem_take L))⟩,λk v=>?_⟩;have:k=0:=by omega
   subst this;rw[mL,aP (by omega),pA];simp
  |succ i=>trivial
 ·have:=(d i b I).1
  have:=(d j D q).1;omega
 ·rw[(d i b a).2]
  exact hM _ z
 ·rw[(d i b a).2]
  exact o
 ·rw[(d i b a).1]
  exact nI
def zW(a:Z->ρ->κ)(b:ρ->O->Z):E SA->χ FR
 |[.v (.string s),.v (.int .i64 n)]=>γ {val:=.own 0 n.toNat,new:=[.row ε n.toNat 1 (λj=>[.int .i64 (b s j)]) 3],ap:=[a n s,ο (0<=n),ο (n<=3),Δ s.size 4294967281]}
 |_=>ζ
def e8(n:Z)(s:ρ):κ:=cP n.toNat s.data.toList
def fq(s:ρ)(i:O):Z:=aI s.data.toList i
def MN:au θ 68 (am [.val,.val] (zW e8 fq)):=by
 refine nk enters aaI rfl λv I c r=>?_
 unfold zW at c;split at c
 ·rename_i s n
  simp only[ar]at c;subst c;simp only[F,ah,aa,aB,bS]at r;obtain⟨a,A,L,B⟩:=r;refine⟨_,ab.refl _,λM d w t hM o u h=>?_⟩
  match d,o with
  |[x,y],o=>
   simp only[hZ,ax,VR,aa]at o;obtain⟨rfl,rfl⟩:=o;obtain⟨k,rfl⟩:=Int.eq_ofNat_of_zero_le A;have p:∀i,t i=ζ:=λi=>by
    cases e:t i with
    |none=>rfl
    |some b=>exact aO (h i b e) (by simp[bK])
   have l:=xa s k (by omega) w (u.eC.mono λi _ C=>hM i C) B;unfold e8 at a;rw[cY]at a;rw[a]at l;refine l.mono ?_;rintro e N ⟨⟨g,q,rfl,D⟩,f⟩;have G:(cW 32 s.data.toList).length=k:=by unfold cP at a;rw[aM]at a;exact ci a.1
   refine amq hM u.eC p _ _ (by rw[cC];exact G) (by unfold jv;omega) q D f (λx H=>?_) (λj=>[.int .i64 (fq s j)]) (λj P=>?_) ⟨_,rfl,rfl,ab.refl _⟩
   ·obtain⟨z,_,rfl⟩:=fX.1 H
    rfl
   ·have m:j<(cW 32 s.data.toList).length:=by omega
    rw[DA (by rw[cC];exact m),List.take_succ_cons,List.take_zero,HI];unfold fq aI;rw[cq,cV m];rfl
 ·cases c
def Gc:E τ->Z
 |[.int .i64 n]=>n
 |_=>0
def xL:E τ->κ
 |[.int .i64 n]=>ο (-9223372036854775808<=n)&&ο (n<=9223372036854775807)
 |_=>η
def rr(g:O->E τ)(m:O):E Z:=(dH m).map λj=>Gc (g j)
def gZ(a:E Z):ρ:=⟨(fL a).toArray⟩
def El(a:E Z->ρ):E SA->χ FR
 |[.row m g]=>γ {val:=.v (.string (a (rr g m))),ap:=[(dH m).all λj=>xL (g j),Θ m 16,Δ 0 m]}
 |_=>ζ
def V_:au θ 75 (am [.rd 1 3] (El gZ)):=by
 refine nk enters aaJ rfl λP fr q I=>?_
 unfold El at q;split at q
 ·rename_i m g
  simp only[ar]at q;subst q;simp only[F,ah,aa,aT,bS]at I;obtain⟨Q,hm,h0⟩:=I;refine⟨_,ab.refl _,λM r w L hM y a s=>?_⟩;have C:∀o,Fr (aq w) w o->hP (dV (bI [Md.rd 1 3] [SA.row m g] []) {val:=.v (.string (gZ (rr g m))),ap:=[(dH m).all λj=>xL (g j),Θ m 16,Δ 0 m]}) M L w (.returned (.string (gZ (rr g m)))) o:=λo f=>
   have N:Fr M w o:=f.mono λk _ z=>hM k z
   ⟨_,_,bK [Md.rd 1 3] [SA.row m g],L,rfl,⟨_,rfl,rfl,ab.refl _⟩,by simp only[VR],⟨λi=>(a.br i).of_block λk z hl=>f.block _ (a.lt i k z) (fY.2 (a.lt i k z)),a.sep,a.own,λi b A=>eE (a.lt i b A) f.size,a.eC.fr N⟩,N,Le.refl _,s⟩
  match r,y with
  |[x],y=>
   simp only[hZ,ax,VR,aa]at y;obtain⟨p,c,rfl,_,hc,T⟩:=y;have A:=a.br 0;simp only[bK,zB]at A;obtain⟨b,t,D⟩:=T (by omega);subst D;rcases A with⟨_,G,_⟩|⟨b',l,t',fz,G,U,_,hn,W⟩
   ·omega
   ·rw[t]at G
    cases G;have u:(rr g m).length=m:=by simp[rr]
    have d:∀j,j<m->g j=[.int .i64 (Gc (g j))]/\ -9223372036854775808<=Gc (g j)/\Gc (g j)<=9223372036854775807:=λj B=>by
     have:=bX.1 Q j (mM.2 B)
     match hq:g j,this with
     |[.int .i64 n],h=>unfold xL at h;rw[aM,aB,aB]at h;exact⟨rfl,h⟩
    have:=EK (rr g m) b.n b.o c w (a.eC.mono λi _ X=>hM i X) (by omega) (by omega) (a.lt 0 b t) (λn H=>?_) (λj B=>?_)
    ·rw[u]at this
     refine this.mono ?_;rintro e o ⟨rfl,hf⟩;exact C o hf
    ·obtain⟨j,B,rfl⟩:=fX.1 H
     exact(d j (mM.1 B)).2
    ·have v:j<m:=by omega
     rw[oU U];have:=(W j v).2 0 (by omega);simp only[qJ,iu]at this;rw[this,(d j v).1];simp[rr]
 ·cases q
def G7:Spec:=λa H _=>match a with
 |[.ptr i 1 0 0,.sl j 9 0 0 n c,.v (.bool b)]=>(match H.getD i .gone with
  | .cells [_] t=>bif ai t 30 then γ {val:=.v (.string tf),rd:=[i],put:=[(i,.cells [.sl j 9 0 0 n c] t)],ap:=[b]}else ζ
  |_=>ζ)
 |_=>ζ
def VI:au θ 62 G7:=by
 refine⟨λargs w=>enters 62 f62 P7 rfl args w,λT H C δ U f w d D m o W r G I=>?_⟩;unfold G7 at d;split at d
 case h_2=>cases d
 rename_i i j n c b;split at d
 case h_2=>cases d
 rename_i x t X;cases u:ai t 30 with
 |false=>rw[u]at d;cases d
 |true=>
 rw[u,aZ]at d;cases d;have ht:=ci u;subst ht;simp only[F,ah,aa]at D;subst D
 match f,m with
 |[p,s,z],m=>
  simp only[ax,aa]at m;obtain⟨L,M,v⟩:=m;have v:=vV v;subst v;have N:=o i (mN.2 rfl);rw[X]at N;obtain⟨b,l,y,P,Q,g4⟩:=N;simp only[VR]at L;obtain⟨b',R,rfl⟩:=L;rw[y]at R;cases R
  match l,g4 with
  |[v0],_=>
   have g:=M;simp only[VR]at g;obtain⟨q,S,rfl,_⟩:=g;rw[P,show(0+(0*1+0))=0 from rfl];refine(Q8 b.n q n S v0 w Q).mono ?_;rintro e w' ⟨rfl,rfl⟩;refine⟨_,U,rfl,Le.refl _,λi h h'=>aO h h',by simp only[VR],λk A a=>?_,λk A a=>by simp at a,rfl,rfl,rfl,by simp[l9],λk a B=>?_,λk A a=>by simp at a,λk k' A b3 _ a=>by simp at a⟩
   ·simp only[eO]at a
    split at a
    ·rename_i e
     subst e;cases a;exact⟨b,[.slice q n S],y,P,by simp[l9,zn,Q],M,trivial⟩
    ·cases a
   ·exact kj _ _ _ _ (λe=>B (i,_) b (mN.2 rfl) y e.symm)
def dI(n c:O)(f:ω):E AB:=[.cells [.sl 1 9 0 0 n (γ c)] 30,.row η n 9 (J f) 112]
def B'(D:O)(ν:Nu):Nu:=λi=>if i=0 then γ ⟨D,0,1⟩else if i=1 then ν 0 else ζ
def Eo(w:υ)(D c:O)(ν:Nu):Prop:=ν 0=γ ⟨D,0,1⟩/\(∀b,ν 1=γ b->b.n<w.heap.size/\sw w b.n/\b.n≠D)/\(ν 1=ζ->c=0)
def Au{D:O}{L:E Wh}{w:υ}(r:dM D L w)(H:aY (cj w D) w):∃(c:O)(ν:Nu),Eo w D c ν/\(∀i b,ν i=γ b->i<2)/\RH (cj w D) ν (λb=>(dI L.length c (Y L)).getD b .gone) w:=by
 have s:=r.lt;have t:=r.ne;obtain⟨p,n,c,h,ν,g,q,I⟩:=r;have y:B' D ν 0=γ ⟨D,0,1⟩:=rfl;have k:B' D ν 1=ν 0:=rfl;have m:∀i b,B' D ν i=γ b->(i=0/\b=⟨D,0,1⟩)\/(i=1/\ν 0=γ b):=λi b d=>by
  unfold B' at d;split at d
  ·cases d
   exact .inl ⟨by assumption,rfl⟩
  ·split at d
   ·exact .inr ⟨by assumption,d⟩
   ·cases d
 have z:∀b,ν 0=γ b->b.n≠D:=λb d e=>t (e▸(g 0 b d).2.2)
 generalize B' D ν=M at*;simp only[VR]at q;obtain⟨S,N,A,_,P,B⟩:=q;simp only[aue]at A;obtain⟨rfl,rfl,rfl⟩:=A;refine⟨c,M,⟨y,λb d=>?_,λC=>?_⟩,λi b d=>?_,λi=>?_,λi j b G u f _ d v=>?_,λi b f d=>?_,λi b d=>?_,H⟩
 ·rw[k]at d
  exact⟨(g 0 b d).2.1,(g 0 b d).2.2,z b d⟩
 ·rw[k]at C
  rcases pB c with o|o
  ·exact o
  ·obtain⟨b,d,_⟩:=B o
   rw[C]at d;cases d
 ·rcases m i b d with⟨rfl,_⟩|⟨rfl,_⟩<;>omega
 ·match i with
  |0=>refine⟨_,[.slice p L.length c],y,rfl,h,?_,trivial⟩;simp only[VR];rw[k];exact⟨p,c,rfl,λN o=>t_ o,P,B⟩
  |1=>
   rcases I with⟨a,b,c⟩|⟨b,l,Q,R,g,q⟩
   ·exact .inl ⟨a,b,k.trans c⟩
   ·exact .inr ⟨b,l,Q,R,k.trans g,q⟩
  |i+2=>trivial
 ·rcases m i b d with⟨rfl,rfl⟩|⟨rfl,_⟩
  ·rcases m j G v with⟨rfl,_⟩|⟨rfl,x⟩
   ·exact aO rfl u
   ·exact λe=>z G x e.symm
  ·cases f
 ·rcases m i b d with⟨rfl,rfl⟩|⟨rfl,_⟩
  ·exact .inr rfl
  ·cases f
 ·rcases m i b d with⟨rfl,rfl⟩|⟨rfl,x⟩
  ·exact s
  ·exact(g 0 b x).2.1
def WN{D:O}{H:E AB}{x:AV}{M:O->Prop}{ν:Nu}{w:υ}(e:ν 0=γ ⟨D,0,1⟩)(f:RH M ν (λb=>H.getD b .gone) w)(g:H.getD 0 .gone=.cells [x] 30):∃v,w.heap[D]?=γ (.cells #[v] 30 (0,0))/\VR ν x v:=by
 have c:=f.br 0;simp only[g]at c;obtain⟨b,l,d,_,h,a⟩:=c;rw[e]at d;cases d
 match l,a with
 |[v],a=>exact⟨v,h,a.1⟩
def amt{D i n:O}{T:E Wh}{H:E AB}{c:χ O}{M:O->Prop}{ν:Nu}{w:υ}(f:ν 0=γ ⟨D,0,1⟩)(a:RH M ν (λb=>H.getD b .gone) w)(g:n=T.length)(h:H.getD 0 .gone=.cells [.sl i 9 0 0 n c] 30)(j:H.getD i .gone=.row ε n 9 (J (Y T)) 112):dM D T w:=by
 obtain⟨v,k,l⟩:=WN f a h;have d:=a.br i;simp only[j]at d;have e:=bl.of g l d λb m=>a.lt i b m
 obtain⟨p,o,q,rfl⟩:=e.slice;exact⟨p,o,q,k,e⟩
def Ng{D n c:O}{L:E Wh}{H:E AB}{ν d:Nu}{w w':υ}(z:Eo w D c ν)(e:Le ν d)(r:Fr (cj w D) w w')(s:RH (cj w D) d (λb=>H.getD b .gone) w')(A:n=L.length)(B:H.getD 0 .gone=.cells [.sl 1 9 0 0 n (γ c)] 30)(C:H.getD 1 .gone=.row η n 9 (J (Y L)) 112):dM D L w':=by
 subst A;obtain⟨G,I,M⟩:=z;obtain⟨v,N,t⟩:=WN (e _ _ G) s B;simp only[VR]at t;obtain⟨p,u,rfl,P,x,Q⟩:=t;obtain rfl:=P c rfl;refine⟨p,_,u,N,?_⟩;cases a:ν 1 with
 |none=>obtain rfl:=M a;have R:L=[]:=List.length_eq_zero_iff.1 (Nat.le_zero.1 x);subst R;refine⟨λ_=>ζ,λi b h=>(by cases h),?_,.inl ⟨rfl,rfl,rfl⟩⟩;simp only[VR];exact⟨p,0,rfl,by simp,aR _,λh=>aO h (Nat.lt_irrefl 0)⟩
 |some b=>
  obtain⟨y,S,T⟩:=I b a;have m:=e _ _ a;refine⟨λj=>if j=0 then γ b else ζ,λj b' k=>?_,?_,?_⟩
  ·simp only at k
   split at k
   ·cases k
    refine⟨by assumption,eE y r.size,?_⟩;obtain⟨l,o,U⟩:=S;exact⟨l,o,(r.block _ y λh=>h.elim (λh=>by omega) T).trans U⟩
   ·cases k
  ·simp only[VR]
   refine⟨p,u,rfl,by simp,x,λW=>?_⟩;obtain⟨X,f,q⟩:=Q W;rw[m]at f;cases f;exact⟨b,by simp,q⟩
  ·have g:=s.br 1
   simp only[C]at g;rcases g with⟨_,_,g⟩|⟨X,l,t',o,f,q⟩
   ·rw[m]at g
    cases g
   ·rw[m]at f
    cases f;exact .inr ⟨b,l,t',o,by simp,q⟩
def adZ{Γ:aE}(b:aK θ Γ){f:bq}{fn:cA}(q:θ.funcs[f]?=γ fn){D:O}{L T:E Wh}{t:E ψ}{vs:E τ}{w:υ}(r:dM D L w)(s:aY (cj w D) w)(hex:∀c,(ad θ Γ K 100 fn (.ptr 0 1 0 0::vs.map .v) (dI L.length c (Y L)) (af 2)).ok λ_ l d=>l=[.v (.string ⟨t.toArray⟩)]/\∃i c,d.getD 0 .gone=.cells [.sl i 9 0 0 T.length c] 30/\d.getD i .gone=.row ε T.length 9 (J (Y T)) 112)(u:bH T):aH θ f (.pointer (γ ⟨D,0,ζ⟩)::vs).toArray w (de D L (γ (T,t)) w):=by
 obtain⟨c,C,⟨m,_⟩,a,x⟩:=Au r s;refine(nS (vals:=.pointer (γ ⟨D,0,ζ⟩)::vs) b mixed enters q (dq _) (λk y=>.inl y) (hex c) ⟨?_,vW vs⟩ x a).mono ?_
 ·simp only[VR]
  exact⟨_,m,rfl⟩
 ·rintro e G ⟨v,H,d,z,rfl,⟨o,i,c,A,B⟩,p,g,h,j,_⟩
  simp only[lA,aa]at o;subst o;simp only[VR]at p;subst p;exact⟨h,rfl,amt (j _ _ m) g rfl A B,u⟩
abbrev pc:dx:=λe T H=>.out e T H
structure Qx (Γ:aE) (M:O->Prop) (w:υ) (ν:Nu) (T:E AV) (H:E AB) (ops:aU a6) (R:jt->υ->Prop):Prop where
 mk':∃(k:O)(QQ:Ex->E AV->E AB->Prop)(o:a6)(g:bq)(args:aU cS)(ts:aU ae),
  (j0 θ Γ ops.toList (ops.toList.take k) T H [] λT' H' tr=>cond (jx ops.toList tr.reverse&&uB k ops.toList) (.out .normal T' H') .err).ok QQ/\ops.toList[k]?=γ o/\o.guard=ζ/\o.op=.call ⟨.value (.func g),args,ts⟩/\(∀args w,(g_ g args).run θ w=.ok (.enter g args) w)/\EA k ops.toList args.toList=ε/\
  ∀T' H',QQ .normal T' H'->∀w' ν' (vals:E τ),ax ν' (args.toList.map (bN T')) vals->(UT k ops.toList=ε->RH M ν' (λb=>H'.getD b .gone) w'/\Le ν ν')->Fr M w w'->aY M w'->aH θ g vals.toArray w' λe w''=>∃chain,e=.panicked chain/\R (.panicked chain) w''
def ads{Γ:aE}(i:aK θ Γ){fn:cA}{id:O}{ops:aU a6}{c:a9}{M:O->Prop}{j w:υ}{d ν:Nu}{T:E AV}{H:E AB}{R:jt->υ->Prop}{a:aV}(hM:∀k,j.heap.size<=k->M k)(q:SR M j d T H a w ν)(r:a.defers=[])(h:Qx Γ M j d T H ops R):(v5 (.region id ops ε) c).wp θ (bodyPost θ fn R) a w:=by obtain⟨k,Q,o,g,args,S,s,t,u,v,x,y,z⟩:=h.mk';refine wp_seq (amh i mixed hM s t u v x y q λA B C U D l f G n I L m=>(z A B C D l f G (λp=>⟨(n p).heap,(n p).le⟩) I L).mono ?_);rintro e N ⟨b,rfl,P⟩;exact⟨b,rfl,m.trans r,P⟩
def afH{Γ:aE}(c:aK θ Γ){f:bq}{fn:cA}{l m:a9}{id:O}{ops:aU a6}{d:a9}(q:θ.funcs[f]?=γ fn)(r:fn.body=γ (.seq l (.seq m (.seq (.region id ops ε) d)))){M:O->Prop}{w:υ}{ν:Nu}{avs:E AV}{vals:E τ}{Ta T:E AV}{H Ha H1:E AB}{R:jt->υ->Prop}(hM:∀k,w.heap.size<=k->M k)(s:ax ν avs vals)(t:RH M ν (λb=>H.getD b .gone) w)(a:∀i b,ν i=γ b->i<H.length)(u:(a0 θ Γ 100 K l (avs++ez (fn.ntmps-avs.length) (.v aX)) H pc).ok λe g j=>e=.normal/\g=Ta/\j=Ha)(v:(a0 θ Γ 100 K m Ta Ha pc).ok λe g j=>e=.normal/\g=T/\j=H1)(h:Qx Γ M w ν T H1 ops R):aH θ f vals.toArray w R:=by refine calls_of_wp q r (wp_seq (wp_mono (sM c mixed enters 100 H.length K l (cT _ _ _) M w ν hM a _ H pc _ _ w ν u (qw s t a) rfl) ?_));rintro e C x ⟨y,g,j,n,rfl,⟨rfl,rfl,rfl⟩,z,A⟩;refine wp_seq (wp_mono (sM c mixed enters 100 H.length K m (cT _ _ _) M w ν hM a _ _ pc _ _ x n v z A) ?_);rintro e D G ⟨y,g,j,B,rfl,⟨rfl,rfl,rfl⟩,o,p⟩;exact ads c hM o p h
def ahV{D n c:O}{L:E Wh}{w w':υ}{ν d:Nu}{H':E AB}(i:Eo w D c ν)(j:n=L.length)(k:H'.getD 0 .gone=.cells [.sl 1 9 0 0 n (γ c)] 30)(l:H'.getD 1 .gone=.row η n 9 (J (Y L)) 112)(g:RH (cj w D) d (λb=>H'.getD b .gone) w'/\Le ν d)(h:Fr (cj w D) w w')(v:τ):aH θ 62 #[.pointer (γ ⟨D,0,ζ⟩),v,.bool η] w' λe f=>∃a,e=.panicked a/\de D L ζ w (.panicked a) f:=by refine(Q7 D v w').mono ?_;rintro e f ⟨rfl,rfl⟩;exact⟨_,rfl,h,rfl,Ng i g.2 h g.1 j k l⟩
def G3{P:aF}{Γ:aE}(L:aK P Γ){cf:Cf}{M:O->Prop}{w0:υ}{U:Nu}(hM:∀k,w0.heap.size<=k->M k){Q:Ex->E AV->E AB->Prop}(N:Qv P M Q cf){all:E a6}{Qw:dj->aV->υ->Prop}{m:E AV->E AB->ao}{tl:E a6}:∀(ops:E a6)(k:O)(T:E AV)(H:E AB)(a:aV)(w:υ)(ν:Nu),all.drop k=ops++tl->(fv P Γ cf all ops T H m).ok Q->SR M w0 U T H a w ν->(∀T' H' y w' n,(m T' H').ok Q->SR M w0 U T' H' y w' n->y.defers=a.defers->sj P all.toArray Qw (tW (k+ops.length) tl.length) y w')->sj P all.toArray Qw (tW k (ops.length+tl.length)) a w
 |[],k,T,H,a,w,ν,_,h,s,hQ=>by rw[gm,bF];exact hQ T H a w ν h s rfl
 |o::q,k,T,H,a,w,ν,hd,h,s,hQ=>by
  have A:all[k]?=γ o:=by have:=congrArg (·[0]?) hd;simpa using this
  have W:all.drop (k+1)=q++tl:=by rw[<-zx,hd];rfl
  have vT:∀t,VR ν (T.getD t .dead) (a.tmps.getD t aX):=s.tmps;rw[cn,Pj,Z',wpOps_cons];have X:∀T' H' y w' n,(m T' H').ok Q->SR M w0 U T' H' y w' n->y.defers=a.defers->sj P all.toArray Qw (tW (k+1+q.length) tl.length) y w':=λT' H' y w' n R B h3=>by have:=hQ T' H' y w' n R B h3;rw[cn,<-Nat.add_assoc,Pj]at this;exact this
  clear hQ;have skip:gi all T o.guard η->(vD o T H λT H=>fv P Γ cf all q T H m).ok Q->lD P all.toArray Qw k (sj P all.toArray Qw (tW (k+1) (q.length+tl.length))) a w:=by
   intro hw h;unfold lD;simp only[tV,A];rw[zk hw λt _=>vT t];simp only[r6,sh];unfold vD at h;rcases kZ h with⟨R,B⟩|⟨_,B⟩
   ·refine G3 L hM N q (k+1) _ H _ w ν W B (s.put R (Le.refl _) (by simp only[VR]) s.heap s.fr s.b6) λT' H' y w' n A C D=>X T' H' y w' n A C (by rw[D,ke])
   ·exact B.elim
  have jU:gi all T o.guard ε->(vP P Γ cf o T H λT H=>fv P Γ cf all q T H m).ok Q->lD P all.toArray Qw k (sj P all.toArray Qw (tW (k+1) (q.length+tl.length))) a w:=by
   intro hw h;unfold lD;simp only[tV,A];rw[zk hw λt _=>vT t];simp only[qN];refine .inl ?_;unfold vP at h;simp only[Kw,Fp,AT]at h;split at h
   ·rename_i δ hδ
    obtain⟨ho,h⟩:=vf h;rcases kZ h with⟨R,B⟩|⟨_,B⟩
    ·rw[aM]at R
     have u:∀p∈δ.put,(H.getD p.1 .gone).wr=ε:=λp hp=>bX.1 R.2 p hp
     have G:∀j,j<δ.new.length->ν (H.length+j)=ζ:=by
      intro j _;cases S:ν (H.length+j)with
      |none=>rfl
      |some b=>have:=s.b6 _ b S;omega
     refine GA L hδ ho (λz _=>ld λt _=>vT t) (λb _=>s.heap.br b) s.heap.lt G (λi' c j' b b' hp _ hne hl R B=>s.heap.sep i' j' b b' hne (u _ hp) hl R B) (s.heap.EI (λk A=>hM k (cD s.fr.size A)) u) λv w' n I=>?_
     have hRH:=s.heap.step (λk A=>hM k (cD s.fr.size A)) I u G;have e:(λb=>(iF H δ).getD b .gone)=jW H.length δ λb=>H.getD b .gone:=by
      funext b
      exact Ey u b
     have hdom:∀i b,n i=γ b->i<(iF H δ).length:=by
      intro i b hb;have hl:(iF H δ).length=H.length+δ.new.length:=by simp[iF,rK]
      rw[hl];cases S:ν i with
      |some b'=>have:=s.b6 i b' S;omega
      |none=>have:=I.b6 i S (by rw[hb];simp);omega
     refine G3 L hM N q (k+1) _ _ _ w' n W B (s.put R.1 I.le I.val (by rw[e];exact hRH) (I.fr s.heap u s.fr) hdom) λT' H' y w' n A C D=>X T' H' y w' n A C (by rw[D,ke])
    ·exact B.elim
   ·split at h
    ·rename_i g avs r
     obtain⟨dst,op,ty,pos,after,pJ⟩:=o;unfold Lu at r;split at r
     ·rename_i c hop
      simp only at hop;subst hop;split at r
      ·rename_i f hcal
       split at r
       ·rename_i g' caps hf
        simp only[ar,cG]at r;obtain⟨rfl,rfl⟩:=r;have hfv:=ld (T:=T) (a:=a) (ν:=ν) (z:=f) λt _=>vT t
        obtain⟨l,B,h3⟩:=KH hf hfv;have hargs:ax ν (c.args.toList.map (bN T)) (c.args.toList.map a.eval):=sv λx _=>ld λt _=>vT t
        obtain⟨c1,c2⟩:=N _ _ _ _ _ w ν h (hargs.append h3) s.heap s.b6 (λk A=>hM k (cD s.fr.size A));have he:(dl a.eval ⟨dst,.call c,ty,pos,after,pJ⟩).run P w=.ok (.enter g' (c.args.toList.map a.eval++l).toArray) w:=by
         have e:(c.args.map a.eval++l.toArray)=(c.args.toList.map a.eval++l).toArray:=by apply fV;simp
         rw[<-e];simp[dl,kt,hcal,B,Dn,invoke,c1]
        unfold nJ;rw[he];simp only[wq];refine c2.mono ?_;rintro e w' ⟨v,av,H',n,rfl,k1,k2,k3,k4,k5,k6⟩;rcases kZ k1 with⟨d1,d2⟩|⟨_,d2⟩
        ·exact G3 L hM N q (k+1) _ _ _ w' n W d2 (s.put d1 k5 k2 k3 (s.fr.trans k4) k6) λT' H' y w' n A C D=>X T' H' y w' n A C (by rw[D,ke])
        ·exact d2.elim
       ·cases r
      ·cases r
     ·cases r
    ·exact h.elim
  unfold fv at h;cases r:o7 all T o.guard with
  |fail=>rw[r]at h;exact h.elim
  |go=>rw[r]at h;exact jU (by simp[gi,r]) h
  |skip=>rw[r]at h;exact skip (by simp[gi,r]) h
  |ask d b want=>
   rw[r]at h;have hdb:T.getD d .dead=.v (.bool b):=by
    unfold o7 at r;split at r
    ·cases r
    ·split at r
     ·cases r
     ·split at r
      ·rename_i hh;cases r;exact hh
      ·cases r
      ·cases r
   have hs:T.set d (.v (.bool b))=T:=G5 hdb (by simp);cases b<;>cases want<;>simp only[aZ,a_,hs]at h
   ·exact jU (by simp[gi,r]) h
   ·exact skip (by simp[gi,r]) h
   ·exact skip (by simp[gi,r]) h
   ·exact jU (by simp[gi,r]) h
def alW{P:aF}{Γ:aE}(s:aK P Γ){k id:O}{ops:aU a6}{M:O->Prop}{u:υ}{l:Nu}(hM:∀k,u.heap.size<=k->M k){T:E AV}{H:E AB}{v:Ex->E AV->E AB->Prop}{b:E AV->E AB->ao}(m:(fv P Γ (λ_ _ _ _=>.err) ops.toList (ops.toList.take k) T H b).ok v){o:a6}{g:bq}{args:aU cS}{C:aU ae}(r:ops.toList[k]?=γ o)(D:o.guard=ζ)(x:o.op=.call ⟨.value (.func g),args,C⟩)(G:∀args w,(g_ g args).run P w=.ok (.enter g args) w){a:aV}{w:υ}{ν:Nu}{Q:dj->aV->υ->Prop}(h:SR M u l T H a w ν)(n:∀T' H',(b T' H').ok v->∀j w' d (vals:E τ),ax d (args.toList.map (bN T')) vals->SR M u l T' H' j w' d->j.defers=a.defers->aH P g vals.toArray w' λe p=>∃c,e=.panicked c/\Q (.panic c) j p):(Ht id ops η).wp P Q a w:=by
 refine wp_region ?_;have q:k<ops.toList.length:=(eV.1 r).1;have y:(ops.toList.take k).length=k:=by rw[oG];omega
 have A:ops.toList.drop k=o::ops.toList.drop (k+1):=by rw[DA q];rw[cV q]at r;cases r;rfl
 have f:=G3 (Qw:=Q) (all:=ops.toList) (tl:=ops.toList.drop k) s hM (Q:=v) (cf:=λ_ _ _ _=>.err) (λg I H' Kc vals w' d L=>L.elim) (ops.toList.take k) 0 T H a w ν (by rw[List.drop_zero];exact(aab k _).symm) m h λT' H' j w' d N B R=>?_
 ·have e:(ops.toList.take k).length+(ops.toList.drop k).length=ops.size:=by rw[<-cv,aab];simp
  rw[e]at f;rw[List.range_eq_range'];rw[OK]at f;exact f
 ·rw[y,A,cn,Z',wpOps_cons,bF]
  unfold lD;simp only[tV,r];rw[aP (by simp[nK,D])];refine .inl ?_;unfold nJ;rw[Nz x G];simp only[wq];have i:ax d (args.toList.map (bN T')) (args.toList.map j.eval):=sv λz _=>ld λt _=>B.tmps t
  refine(n T' H' N j w' d _ i B R).mono ?_;rintro e p ⟨c,rfl,S⟩;exact S
def GO(bs:E O)(a:E eW):κ:=a.all λe=>bs.all λb=> !(vY e).elem b
def SB{S:O->κ}{b:O}:∀(L:E Item)(k:O)(H:O->AB),(∀x∈L,(vY x.e).elem b=η)->eZ S k L H b=H b
 |[],_,_,_=>rfl
 |x::L,k,H,h=>by
  unfold eZ;rw[SB L (k+1) _ λy c=>h y (lB _ c)];split
  ·refine yg λd=>?_
   have:=Hk d;have a:=h x je;rw[List.elem_eq_mem,decide_eq_false_iff_not]at a;exact a this
  ·rfl
def ami{P:aF}{Γ:aE}(X:aK P Γ)(B:P.follows .mixedOrders=ε){k id:O}{ops:aU a6}{M:O->Prop}{W:υ}{s:Nu}(hM:∀k,W.heap.size<=k->M k){T:E AV}{H:E AB}{QQ:Ex->E AV->E AB->Prop}(bs:E O)(C:(j0 P Γ ops.toList (ops.toList.take k) T H [] λT' H' tr=>cond (jx ops.toList tr.reverse&&(uB k ops.toList&&GO bs tr.reverse)) (.out .normal T' H') .err).ok QQ){o:a6}{g:bq}{args:aU cS}{ts:aU ae}(ho:ops.toList[k]?=γ o)(hg:o.guard=ζ)(hop:o.op=.call ⟨.value (.func g),args,ts⟩)(eg:∀args w,(g_ g args).run P w=.ok (.enter g args) w)(u:EA k ops.toList args.toList=ε){a:aV}{w:υ}{ν:Nu}{Q:dj->aV->υ->Prop}(h:SR M W s T H a w ν)(D:∀T' H',QQ .normal T' H'->∀G w' f (vals:E τ),ax f (args.toList.map (bN T')) vals->(∀b∈bs,BR f b (H.getD b .gone) w')->Le s f->Fr M W w'->aY M w'->G.defers=a.defers->aH P g vals.toArray w' λe I=>∃d,e=.panicked d/\Q (.panic d) G I):(Ht id ops ε).wp P Q a w:=by
 obtain⟨l,T',H',r,n⟩:=xj C;rcases(kZ n).symm with⟨_,n⟩|⟨hc,n⟩
 ·exact n.elim
 rw[aM,aM]at hc;obtain⟨v,L,y⟩:=hc;have v:jx ops.toList l=ε:=by simpa using v
 have y:GO bs l=ε:=by simpa using y
 have N:k<ops.toList.length:=(eV.1 ho).1;have rl:l.length=k:=by rw[yR r];simp at N⊢;omega
 have ra:=vy r;have m:items (ops.toList.take k) l=items ops.toList l:=by simp only[items];rw[<-rl];exact Dk ops.toList l
 rw[<-OK (xs:=ops)];have hS':SR M W s T H a {w with drawn:=w.drawn+1} ν:=⟨h.tmps,⟨λi=>(h.heap.br i).of_block λ_ _ _=>rfl,h.heap.sep,h.heap.own,h.heap.lt,h.heap.eC⟩,h.fr.drew,h.b6,h.len,h.le⟩;refine wp_region_any B ?_;have:=QZ (Q:=Q) X hM r N v L hS' λS G w' f R hd U c=>?_
 ·simpa using this
 unfold lD;simp only[tV,ho];rw[aP (by simp[nK,hg])];refine .inl ?_;unfold nJ;rw[Nz hop eg];simp only[wq];have p:∀(j:O) x,(items ops.toList l)[j]?=γ x->(j<k/\ops.toList[j]?=γ x.o)/\x.e∈l:=by
  intro j x q;simp only[items,List.getElem?_zipWith]at q;split at q
  ·rename_i o' e' h1 n
   cases q;exact⟨⟨by have:=(eV.1 n).1;omega,h1⟩,g8 n⟩
  ·cases q
 have A:ax f (args.toList.map (bN T')) (args.toList.map G.eval):=sv λz hz=>ld λt ht=>by
  subst ht;have e:T'.getD t .dead=gF S 0 (items ops.toList l) (λt=>T.getD t .dead) t:=by
   rw[ra.uD t,m];refine sS rfl λj x q hdx=>?_
   obtain⟨⟨hjk,hjo⟩,_⟩:=p j x q;have:=bX.1 (bX.1 u _ hz) j (mM.2 hjk);rw[hjo]at this;simp only[hdx,Nat.beq_refl,zo,Hq]at this;rw[bF,U j this]
  rw[e];exact R.tmps t
 refine(D T' H' n G w' f _ A (λb hb=>?_) R.le R.fr R.heap.eC hd).mono ?_
 ·have hq:eZ S 0 (items ops.toList l) (λb=>H.getD b .gone) b=H.getD b .gone:=SB _ _ _ λx q=>by obtain⟨j,hj⟩:=List.getElem?_of_mem q;have h3:=bX.1 (bX.1 y _ (p j x hj).2) b hb;simpa using h3
  rw[<-hq];exact R.heap.br b
 ·rintro e I ⟨d,rfl,hq⟩
  exact hq
def asu(t:c9)(w:υ):(HV (.iface 246 (.pointer (γ t)))).run θ w=.ok (.agg #[.pointer (γ ⟨10,246,ζ⟩),.pointer (γ ⟨w.heap.size,0,ζ⟩),.int .u64 150]) (w.alloc (.cells #[.pointer (γ t)] 246)):=by kernel_rfl
def asp(a:c9)(w:υ):(at2 (DQ "reflectlite.Value.Type" 0) (λt _ _ _=>at1 t) #[.agg #[.pointer (γ ⟨10,246,ζ⟩),.pointer (γ a),.int .u64 150]]).run θ w=.ok (.iface 298 (.agg #[.pointer (γ ⟨10,246,ζ⟩)])) w:=by kernel_rfl
def aiz(h:τ)(w:υ):(Hx 459 298 (.agg #[h]) "Kind").run θ w=.ok (325,h) w:=by kernel_rfl
def ahH(w:υ):((aar λt=>Functor.map (λa:O=>jf oC (a:Z)) (Pr t)) #[.pointer (γ ⟨10,246,ζ⟩)]).run θ w=.ok (.int .u8 22) w:=by kernel_rfl
def ahG(w:υ):((aar λt=>Functor.map (λa:O=>jf oC (a:Z)) (Pr t)) #[.pointer (γ ⟨10,242,ζ⟩)]).run θ w=.ok (.int .u8 22) w:=by kernel_rfl
def WR(z:Sem τ)(f:ae->c9->O->O->Sem τ)(v:τ):HU z f #[v]=(do match<-DP v with|none=>z|some (t,a,fl)=>f t a fl (fl%32)):=rfl
def Wt(a:c9)(w:υ):(DP (.agg #[.pointer (γ ⟨10,246,ζ⟩),.pointer (γ a),.int .u64 150])).run θ w=.ok (γ (246,a,150)) w:=by kernel_rfl
def ag2(a p:c9)(W:υ)(b:W.cell? a=γ (.pointer (γ p))):(HU (DQ "reflectlite.Value.IsNil" 0) aau #[.agg #[.pointer (γ ⟨10,246,ζ⟩),.pointer (γ a),.int .u64 150]]).run θ W=.ok (.bool η) W:=by rw[WR];simp only[fO,Wt,DS];simp[aau,uc,isAgg,Ig,underlying246,b,DS]
def aix(h:τ)(w:υ):(Hx 459 298 (.agg #[h]) "Elem").run θ w=.ok (345,.agg #[h]) w:=by kernel_rfl
def aiy(h:τ)(w:υ):(Hx 459 298 (.agg #[h]) "Implements").run θ w=.ok (346,.agg #[h]) w:=by kernel_rfl
def U'(h:τ)(w:υ):(Hx 459 298 (.agg #[h]) "AssignableTo").run θ w=.ok (343,.agg #[h]) w:=by kernel_rfl
def aex(w:υ):(at0 atY #[.agg #[.pointer (γ ⟨10,246,ζ⟩)]]).run θ w=.ok (.iface 298 (.agg #[.pointer (γ ⟨10,242,ζ⟩)])) w:=by kernel_rfl
def agH(w:υ):(DO "Implements" atZ #[.agg #[.pointer (γ ⟨10,242,ζ⟩)],.iface 298 (.agg #[.pointer (γ ⟨10,38,ζ⟩)])]).run θ w=.ok (.bool ε) w:=by kernel_rfl
def asr(v:τ)(w:υ):(Pp #[.iface 242 v]).run θ w=.ok (.iface 298 (.agg #[.pointer (γ ⟨10,242,ζ⟩)])) w:=by kernel_rfl
def asq(v:τ)(w:υ):(Pp #[.iface 264 v]).run θ w=.ok (.iface 298 (.agg #[.pointer (γ ⟨10,264,ζ⟩)])) w:=by kernel_rfl
def abv(w:υ):(DO "AssignableTo" Po #[.agg #[.pointer (γ ⟨10,242,ζ⟩)],.iface 298 (.agg #[.pointer (γ ⟨10,242,ζ⟩)])]).run θ w=.ok (.bool ε) w:=by kernel_rfl
def abu(w:υ):(DO "AssignableTo" Po #[.agg #[.pointer (γ ⟨10,264,ζ⟩)],.iface 298 (.agg #[.pointer (γ ⟨10,242,ζ⟩)])]).run θ w=.ok (.bool η) w:=by kernel_rfl
def ast(e:c9)(w:υ):(HV (.iface 242 (.pointer (γ e)))).run θ w=.ok (.agg #[.pointer (γ ⟨10,242,ζ⟩),.pointer (γ ⟨w.heap.size,0,ζ⟩),.int .u64 150]) (w.alloc (.cells #[.pointer (γ e)] 242)):=by kernel_rfl
def aey(w:υ):(Rtype.elem? 246).run θ w=.ok (γ 242) w:=by kernel_rfl
def Tryz.mkM(p:c9)(w:υ):(auU 242 p aat).run θ w=.ok (.agg #[.pointer (γ ⟨10,242,ζ⟩),.pointer (γ p),.int .u64 406]) w:=by kernel_rfl
def aez(a p:c9)(W:υ)(b:W.cell? a=γ (.pointer (γ p))):(HU (DQ "reflectlite.Value.Elem" 0) aas #[.agg #[.pointer (γ ⟨10,246,ζ⟩),.pointer (γ a),.int .u64 150]]).run θ W=.ok (.agg #[.pointer (γ ⟨10,242,ζ⟩),.pointer (γ p),.int .u64 406]) W:=by rw[WR];simp only[fO,Wt,DS];simp[aas,uc,isAgg,Ig,underlying246,b,DS,aey,Tryz.mkM]
def amx(v x:τ):aav #[v,x]=(do
 let(γ (dst,a,fl),γ (c,b,_)):=(<-DP v,<-DP x)
  |unsupported (.noEntry "extern/(internal/reflectlite.Value).Set.zeroValue")
 if fl/aat%2==0 then unsupported (.noEntry "extern/(internal/reflectlite.Value).Set.unaddressable")
 let val<-uc c b
 if<-auc dst c then If dst a val
 else if<-Rtype.implements dst c then
  if(<-Pr c)==20 then
   match val with
   | .nilIface=>unsupported (.noEntry "extern/reflectlite: a nil value of one interface type handed on as a value of another")
   |_=>If dst a val
  else If dst a (.iface c val)
 else panicString ("reflectlite.Set: value of type " ++(<-Rtype.spelt c)++ " is not assignable to type " ++(<-Rtype.spelt dst))
 pure (.tuple #[])):=rfl
def alO(a:c9)(w:υ):(DP (.agg #[.pointer (γ ⟨10,242,ζ⟩),.pointer (γ a),.int .u64 406])).run θ w=.ok (γ (242,a,406)) w:=by kernel_rfl
def alN(a:c9)(w:υ):(DP (.agg #[.pointer (γ ⟨10,242,ζ⟩),.pointer (γ a),.int .u64 150])).run θ w=.ok (γ (242,a,150)) w:=by kernel_rfl
def ad2(w:υ):(auc 242 242).run θ w=.ok ε w:=by kernel_rfl
def an5(a b e:c9)(c:τ)(W:υ)(d:W.cell? b=γ (.pointer (γ e)))(f:W.cell? a=γ c)(g:W.frozen? a=η):(aav #[.agg #[.pointer (γ ⟨10,242,ζ⟩),.pointer (γ a),.int .u64 406],.agg #[.pointer (γ ⟨10,242,ζ⟩),.pointer (γ b),.int .u64 150]]).run θ W=.ok (.tuple #[]) (W.setCell a (.pointer (γ e))):=by rw[amx];simp only[fO,alO,alN,DS];simp[aat,uc,isAgg,Ig,underlying242,d,DS,ad2,If,Value.cells,storeCells,zm];rw[run_store θ W a _ _ (by rfl)];simp[f,g]
def aja(v:τ)(a:ae)(w:υ):(zt (.iface 264 v) a 303 ε).run θ w=.ok (.tuple #[.nilIface,.bool η]) w:=run_typeAssert_lacksB underlying303 (by kernel_rfl) (by kernel_rfl) v a w
def ajh(v:τ)(a:ae)(w:υ):(zt (.iface 264 v) a 306 ε).run θ w=.ok (.tuple #[.nilIface,.bool η]) w:=run_typeAssert_lacksB underlying306 (by kernel_rfl) (by kernel_rfl) v a w
def agB(v:τ)(a:ae)(w:υ):(zt (.iface 264 v) a 308 ε).run θ w=.ok (.tuple #[.iface 264 v,.bool ε]) w:=run_typeAssert_hasB underlying308 (by kernel_rfl) v a w
def aiB(h:τ)(w:υ):(Hx 459 264 h "Unwrap").run θ w=.ok (335,h) w:=by kernel_rfl
abbrev Om(a:c9):τ:=.agg #[.pointer (γ ⟨10,246,ζ⟩),.pointer (γ a),.int .u64 150]
abbrev oT(a:c9):Obj:=.cells #[.pointer (γ ⟨10,246,ζ⟩),.pointer (γ a),.int .u64 150] 269
abbrev hM:τ:=.iface 298 (.agg #[.pointer (γ ⟨10,242,ζ⟩)])
def abt(t:τ)(w:υ):aH θ 245 #[.nilIface,t] w λe w'=>e=.returned (.bool η)/\w'=w:=by
 go_enter func245,ntmps245
 go_wp2
 go_ret
 exact⟨rfl,rfl⟩
def kT{w:υ}{a:c9}{v:τ}(h:w.cell? a=γ v):a.block<w.heap.size:=by
 rcases nG a.block w.heap.size with b|b
 ·exact b
 ·simp[pI,Array.getElem?_eq_none b]at h
def Q4(e t a:c9)(b:τ)(w:υ)(h:w.cell? a=γ (.pointer (γ t)))(c:w.cell? t=γ b)(f:w.frozen? t=η):aH θ 272 #[.iface 242 (.pointer (γ e)),.iface 246 (.pointer (γ t)),Om a,hM] w λi w'=>i=.returned (.bool ε)/\w'=((w.alloc (oT a)).alloc (.cells #[.pointer (γ e)] 242)).setCell t (.pointer (γ e)):=by
 have n:= @mR θ 269 _ (λargs=>HV (args.getD 0 (.tuple #[]))) aaC (by kernel_rfl) (by kernel_rfl) (by kernel_rfl) (by kernel_rfl);have j:= @mR θ 290 _ Pp func290 (by kernel_rfl) (by kernel_rfl) (by kernel_rfl) (by kernel_rfl);have k:= @mR θ 343 _ (DO "AssignableTo" Po) func343 (by kernel_rfl) (by kernel_rfl) (by kernel_rfl) (by kernel_rfl);have l:= @mR θ 291 _ (HU (DQ "reflectlite.Value.Elem" 0) aas) func291 (by kernel_rfl) (by kernel_rfl) (by kernel_rfl) (by kernel_rfl);have m:= @mR θ 292 _ aav func292 (by kernel_rfl) (by kernel_rfl) (by kernel_rfl) (by kernel_rfl);have o:=asr;have p:=U';have q:=abv;have r:=ast;have g:=kT h;have d:=kT c;have s:=aez a t (w.alloc (oT a)) (by rw[fu _ _ a g];exact h);have u:=an5 t ⟨w.heap.size+1,0,ζ⟩ e b ((w.alloc (oT a)).alloc (.cells #[.pointer (γ e)] 242))
  (by rw[sb _ _ _ _ (by simp)];rfl)
  (by rw[fu _ _ t (by simp;omega),fu _ _ t d];exact c)
  (by rw[H8 _ _ t (by simp;omega),H8 _ _ t (aan d)];exact f)
 go_enter func272,ntmps272
 go_wp2
 refine oM 1 ?_;rw[oL]
 go_wp2
 go_ret
 exact⟨rfl,rfl⟩
abbrev YW(w:υ)(t a e:c9):υ:=((w.alloc (oT a)).alloc (.cells #[.pointer (γ e)] 242)).setCell t (.pointer (γ e))
def abr(j b e t a:c9)(n c:O)(d:τ)(w:υ)(A:0<n)(q:w.cell? j=γ (.slice (γ b) n c))(r:w.cell? b=γ (.iface 242 (.pointer (γ e))))(s:w.cell? a=γ (.pointer (γ t)))(f:w.cell? t=γ d)(h:w.frozen? t=η):aH θ 272 #[.iface 264 (.pointer (γ j)),.iface 246 (.pointer (γ t)),Om a,hM] w λu w'=>u=.returned (.bool ε)/\w'=YW (w.alloc (oT a)) t a e:=by
 have B:= @mR θ 269 _ (λargs=>HV (args.getD 0 (.tuple #[]))) aaC (by kernel_rfl) (by kernel_rfl) (by kernel_rfl) (by kernel_rfl);have v:= @mR θ 290 _ Pp func290 (by kernel_rfl) (by kernel_rfl) (by kernel_rfl) (by kernel_rfl);have x:= @mR θ 343 _ (DO "AssignableTo" Po) func343 (by kernel_rfl) (by kernel_rfl) (by kernel_rfl) (by kernel_rfl);have C:=asq;have D:=U';have G:=abu;have H:=aja;have I:=ajh;have L:=agB;have M:=aiB;have i:=kT q;have k:=kT r;have l:=kT s;have g:=kT f;have y:(w.alloc (oT a)).cell? j=γ (.slice (γ b) n c):=by rw[fu _ _ j i];exact q
 have z:(w.alloc (oT a)).cell? b=γ (.iface 242 (.pointer (γ e))):=by rw[fu _ _ b k];exact r
 have m:(w.alloc (oT a)).cell? a=γ (.pointer (γ t)):=by rw[fu _ _ a l];exact s
 have o:(w.alloc (oT a)).cell? t=γ d:=by rw[fu _ _ t g];exact f
 have p:(w.alloc (oT a)).frozen? t=η:=by rw[H8 _ _ t (aan g)];exact h
 go_enter func272,ntmps272
 go_wp2
 refine oM 1 ?_;rw[oL]
 go_wp2
 refine oM 1 ?_;rw[oL]
 go_wp2_with (go_at_call 272;refine(Q4 e t a d _ m o p).mono ?_;rintro u w' ⟨rfl,rfl⟩)
 go_ret
 exact⟨rfl,rfl⟩
abbrev eT:τ:=.iface 298 (.agg #[.pointer (γ ⟨10,38,ζ⟩)])
abbrev vX(w:υ)(t:c9):υ:=(w.alloc (.cells #[.pointer (γ t)] 246)).alloc (oT ⟨w.heap.size,0,ζ⟩)
def Qu{Q:υ->Prop}(d:ae)(x:τ)(t:c9)(w:υ)(e:w.cell? ⟨5,0,ζ⟩=γ eT)(b:aH θ 272 #[.iface d x,.iface 246 (.pointer (γ t)),Om ⟨w.heap.size,0,ζ⟩,hM] (vX w t) λa w'=>a=.returned (.bool ε)/\Q w'):aH θ 245 #[.iface d x,.iface 246 (.pointer (γ t))] w λa w'=>a=.returned (.bool ε)/\Q w':=by
 have o:= @mR θ 269 _ (λargs=>HV (args.getD 0 (.tuple #[]))) aaC (by kernel_rfl) (by kernel_rfl) (by kernel_rfl) (by kernel_rfl);have p:= @mR θ 270 _ (at2 (DQ "reflectlite.Value.Type" 0) (λt _ _ _=>at1 t)) func270 (by kernel_rfl) (by kernel_rfl) (by kernel_rfl) (by kernel_rfl);have q:= @mR θ 271 _ (HU (DQ "reflectlite.Value.IsNil" 0) aau) func271 (by kernel_rfl) (by kernel_rfl) (by kernel_rfl) (by kernel_rfl);have f:= @mR θ 325 _ (aar λt=>do pure (.int .u8 (<-Pr t))) func325 (by kernel_rfl) (by kernel_rfl) (by kernel_rfl) (by kernel_rfl);have g:= @mR θ 345 _ (at0 atY) func345 (by kernel_rfl) (by kernel_rfl) (by kernel_rfl) (by kernel_rfl);have h:= @mR θ 346 _ (DO "Implements" atZ) func346 (by kernel_rfl) (by kernel_rfl) (by kernel_rfl) (by kernel_rfl);have r:=asu;have s:=asp;have u:=aiz;have v:=aix;have y:=aiy;have i:=ahH;have j:=ahG;have k:=aex;have l:=agH;have c:5<w.heap.size:=kT e;have z:=ag2 ⟨w.heap.size,0,ζ⟩ t (vX w t) (by rw[fu _ _ ⟨w.heap.size,0,ζ⟩ (by simp)];simp);have m:(vX w t).cell? ⟨5,0,ζ⟩=γ eT:=by rw[fu _ _ ⟨5,0,ζ⟩ (by simp<;>omega),fu _ _ ⟨5,0,ζ⟩ c];exact e
 go_enter func245,ntmps245
 go_wp2_with (go_at_call 272;refine b.mono ?_;rintro a w' ⟨rfl,n⟩)
 go_ret
 exact⟨rfl,n⟩
def n9(v:τ)(w:υ):Prop:=(∃e,v=.iface 242 (.pointer (γ e)))\/∃j b e n c,v=.iface 264 (.pointer (γ j))/\0<n/\w.cell? j=γ (.slice (γ b) n c)/\w.cell? b=γ (.iface 242 (.pointer (γ e)))
def YX{B:O}{w b:υ}(h:Below B b w)(c:B<=w.heap.size){t a e:c9}(d:B<=t.block):Below B b (YW w t a e):=
 ((h.alloc c _).alloc (by simp;omega) _).setCell d _
def asC{B:O}{w a:υ}(h:Below B a w)(b:B<=w.heap.size){t:c9}:Below B a (vX w t):=
 (h.alloc b _).alloc (by simp;omega) _
def aaY(v:τ)(t:c9)(f:τ)(w:υ)(o:w.cell? ⟨5,0,ζ⟩=γ eT)(s:n9 v w)(g:w.cell? t=γ f)(k:w.frozen? t=η)(B:O)(p:B<=t.block):aH θ 245 #[v,.iface 246 (.pointer (γ t))] w λl w'=>l=.returned (.bool ε)/\Below B w w':=by
 have m:=kT g;have i:(vX w t).cell? ⟨w.heap.size,0,ζ⟩=γ (.pointer (γ t)):=by rw[fu _ _ ⟨w.heap.size,0,ζ⟩ (by simp)];simp
 have d:∀{a:c9}{x:τ},w.cell? a=γ x->(vX w t).cell? a=γ x:=λh=>by rw[fu _ _ _ (by have:=kT h;simp;omega),fu _ _ _ (kT h)];exact h
 have q:(vX w t).frozen? t=η:=by rw[H8 _ _ t (by simp;omega),H8 _ _ t (aan m)];exact k
 have r:=asC (t:=t) (tO B w) (by omega);rcases s with⟨e,rfl⟩|⟨j,b,e,n,c,rfl,u,y,z⟩
 ·refine Qu _ _ t w o ((Q4 e t _ f _ i (d g) q).mono ?_)
  rintro l w' ⟨rfl,rfl⟩;exact⟨rfl,YX r (by simp;omega) p⟩
 ·refine Qu _ _ t w o ((abr j b e t _ n c f _ u (d y) (d z) i (d g) q).mono ?_)
  rintro l w' ⟨rfl,rfl⟩;exact⟨rfl,YX (r.alloc (by simp;omega) _) (by simp;omega) p⟩
def n9.ahl{v:τ}{w w':υ}(h:n9 v w)(d:∀a x,w.cell? a=γ x->w'.cell? a=γ x):n9 v w':=by
 rcases h with h|⟨j,b,e,n,c,f,g,i,k⟩
 ·exact .inl h
 ·exact .inr ⟨j,b,e,n,c,f,g,d _ _ i,d _ _ k⟩
def afd(v:τ)(w:υ)(c:w.cell? ⟨5,0,ζ⟩=γ eT)(e:n9 v w):aH θ 202 #[v] w λf w'=>f=.returned (.bool η)/\Below w.heap.size w w':=by
 have g:=kT c;have b:∀(a:c9)(x:τ),w.cell? a=γ x->(w.alloc (.cells #[.pointer ζ] 242)).cell? a=γ x:=λa x h=>by rw[fu _ _ _ (kT h)];exact h
 have d:=aaY v ⟨w.heap.size,0,ζ⟩ (.pointer ζ) (w.alloc (.cells #[.pointer ζ] 242)) (b _ _ c) (e.ahl b) (by simp) (by simp) w.heap.size (aR _);clear e b c
 go_enter aaB,ntmps202
 go_wp2_with (go_at_call 245;refine d.mono ?_;rintro f w' ⟨rfl,i⟩)
 go_ret
 exact⟨rfl,((tO _ w).alloc (aR _) _).trans i⟩
def afe(w:υ):aH θ 202 #[.nilIface] w λb w'=>b=.returned (.bool ε)/\Below w.heap.size w w':=by
 have a:=λ(t:τ)(w:υ)=>abt t w
 go_enter aaB,ntmps202
 go_wp2_with (go_at_call 245;refine(a _ _).mono ?_;rintro b w' ⟨rfl,rfl⟩)
 go_ret
 exact⟨rfl,(tO _ w).alloc (aR _) _⟩
def asG{n:Z}(l h:Z)(w:υ)(b:aD n l h=ε):aH θ 134 #[.int .i64 n,.int .i64 l,.int .i64 h] w λe w'=>e=.returned (.bool ε)/\w'=w:=by
 have a:=b9.1 b;have c:n>=l:=a.1;have d:n<=h:=a.2
 go_enter PZ,aaL
 go_wp2
 go_ret
 exact⟨rfl,rfl⟩
def asF{n:Z}(l h:Z)(w:υ)(a:aD n l h=η):aH θ 134 #[.int .i64 n,.int .i64 l,.int .i64 h] w λe w'=>e=.returned (.bool η)/\w'=w:=by
 have b:¬(l<=n/\n<=h):=λh=>by rw[b9.2 h]at a;cases a
 clear a;by_cases c:l<=n
 ·have d:¬n<=h:=λd=>b ⟨c,d⟩
  have f:n>=l:=c;clear b c
  go_enter PZ,aaL
  go_wp2
  go_ret
  exact⟨rfl,rfl⟩
 ·have f:¬n>=l:=c
  clear b c
  go_enter PZ,aaL
  go_wp2
  go_ret
  exact⟨rfl,rfl⟩
def FC{n:Z}(w:υ)(a:aD n 6 240=ε):aH θ 244 #[.int .i64 n] w λe w'=>e=.returned .nilIface/\w'=w:=by
 have b:=λw=>asG 6 240 w a
 go_enter func244,ntmps244
 go_wp2_with (go_at_call 134;refine(b _).mono ?_;rintro c w' ⟨rfl,rfl⟩)
 go_ret
 exact⟨rfl,rfl⟩
def FB{n:Z}(w:υ)(a:aD n 6 240=η):aH θ 244 #[.int .i64 n] w λe w'=>e=.returned (.iface 242 (.pointer (γ ⟨w.heap.size,0,ζ⟩)))/\w'=w.alloc (.cells #[.int .i64 n] 244):=by
 have b:=λw=>asF 6 240 w a
 go_enter func244,ntmps244
 go_wp2_with (go_at_call 134;refine(b _).mono ?_;rintro c w' ⟨rfl,rfl⟩)
 go_ret
 exact⟨rfl,rfl⟩
abbrev mf(p:c9):τ:=.iface 242 (.pointer (γ p))
def aa_(s:O)(w:υ)(a:w.cell? ⟨s,0,ζ⟩=γ .nilIface)(b:w.cell? ⟨s,1,ζ⟩=γ .nilIface):aH θ 243 #[.slice (γ ⟨s,0,ζ⟩) 2 2] w λe w'=>e=.returned .nilIface/\w'=w:=by
 have c:=r_
 go_enter P2,Qa
 go_wp2
 refine oM 3 ?_
 iterate 3
  rw[oL]
  go_wp2
 go_ret
 exact⟨rfl,rfl⟩
def Va(w:υ):(ZG 263 (ι 0) (ι 1)).run θ w=.ok (.slice (γ ⟨w.heap.size,0,ζ⟩) 0 1) (w.alloc (.cells #[.nilIface] 38)):=by kernel_rfl
def mS2(w:υ):(ZG 263 (ι 0) (ι 2)).run θ w=.ok (.slice (γ ⟨w.heap.size,0,ζ⟩) 0 2) (w.alloc (.cells #[.nilIface,.nilIface] 38)):=by kernel_rfl
def JH(w:υ)(g n c:O)(s:c9)(x:τ)(a:aU τ)(e:w.heap[g]?=γ (.cells a 38 (0,0)))(f:w.cell? s=γ x)(k:x.oneCell'=ε)(l:n+1<=c)(m:n+1<=a.size):(qF #[263,263] 263 #[.slice (γ ⟨g,0,ζ⟩) n c,.slice (γ s) 1 1]).run θ w=.ok (.slice (γ ⟨g,0,ζ⟩) (n+1) c) (w.setRow g (a.toList.take n++[x]++a.toList.drop (n+1)).toArray):=by
 have b:(θ.info? 38).map (·.size)=γ 1:=by kernel_rfl
 obtain⟨i,b,d⟩:=dt.1 b;have:=run_append_room (P:=θ) w 263 263 38 i underlying263 b g n c a e s 1 1 [x] (by rw[d];rfl) (λj u h=>by
  match j,h with
  |0,h=>simp only[List.getElem?_cons_zero,ar]at h;subst h;simpa[zm]using f
  |j+1,h=>simp at h) (by simpa using k) l (by rw[d];simpa using m)
 rw[this,d,qJ];rfl
abbrev Oq(w:υ)(x:τ):υ:=((w.alloc (.cells #[.nilIface] 38)).alloc (.cells #[.slice (γ ⟨w.heap.size,0,ζ⟩) 0 1] 266)).alloc (.cells #[x] 38)
abbrev Di(w:υ)(x:τ):υ:=((w.alloc (.cells #[x] 38)).alloc (.cells #[.slice (γ ⟨w.heap.size,0,ζ⟩) 1 1] 266)).alloc (.cells #[x] 38)
def asD(w:υ)(x:τ):(Oq w x).heap[w.heap.size]?=γ (.cells #[.nilIface] 38 (0,0)):=by rw[gj _ _ _ (by simp;omega),gj _ _ _ (by simp)];exact aaT w _
def Q1(w:υ)(p:c9):(qF #[263,263] 263 #[.slice (γ ⟨w.heap.size,0,ζ⟩) 0 1,.slice (γ ⟨w.heap.size+1+1,0,ζ⟩) 1 1]).run θ (Oq w (mf p))=.ok (.slice (γ ⟨w.heap.size,0,ζ⟩) 1 1) ((Oq w (mf p)).setRow w.heap.size #[mf p]):=by refine JH _ _ 0 1 _ (mf p) #[.nilIface] (asD w _) ?_ rfl (by omega) (by simp);rw[sb _ _ _ _ (by simp)];rfl
def Ou(w:υ)(x:τ):Below w.heap.size w (Di w x):=(((tO _ w).alloc (aR _) _).alloc (by simp) _).alloc (by simp;omega) _
def aa8(s:O)(p:c9)(w:υ)(b:w.cell? ⟨s,0,ζ⟩=γ (mf p))(c:w.cell? ⟨s,1,ζ⟩=γ .nilIface):aH θ 243 #[.slice (γ ⟨s,0,ζ⟩) 2 2] w λe w'=>e=.returned (.iface 264 (.pointer (γ ⟨w.heap.size+1,0,ζ⟩)))/\w'=Di w (mf p):=by
 have d:=r_;have f:=Va;have g:=Q1 w p;have a:s<w.heap.size:=kT b;have h:((w.alloc (.cells #[.nilIface] 38)).alloc (.cells #[.slice (γ ⟨w.heap.size,0,ζ⟩) 0 1] 266)).cell? ⟨s,0,ζ⟩=γ (mf p):=by rw[fu _ _ _ (by simp;omega),fu _ _ _ a];exact b
 have i:(Di w (mf p)).cell? ⟨s,1,ζ⟩=γ .nilIface:=((Ou w _).cell (p:=⟨s,1,ζ⟩) a).trans c
 go_enter P2,Qa
 go_wp2
 refine oM 3 ?_
 iterate 3
  rw[oL]
  go_wp2
 refine oM 3 ?_
 iterate 3
  rw[oL]
  go_wp2
 go_ret
 exact⟨rfl,rfl⟩
def aa9(s:O)(p:c9)(w:υ)(b:w.cell? ⟨s,0,ζ⟩=γ .nilIface)(c:w.cell? ⟨s,1,ζ⟩=γ (mf p)):aH θ 243 #[.slice (γ ⟨s,0,ζ⟩) 2 2] w λe w'=>e=.returned (.iface 264 (.pointer (γ ⟨w.heap.size+1,0,ζ⟩)))/\w'=Di w (mf p):=by
 have d:=r_;have f:=Va;have g:=Q1 w p;have a:s<w.heap.size:=kT b;have h:((w.alloc (.cells #[.nilIface] 38)).alloc (.cells #[.slice (γ ⟨w.heap.size,0,ζ⟩) 0 1] 266)).cell? ⟨s,0,ζ⟩=γ .nilIface:=by rw[fu _ _ _ (by simp;omega),fu _ _ _ a];exact b
 have i:((w.alloc (.cells #[.nilIface] 38)).alloc (.cells #[.slice (γ ⟨w.heap.size,0,ζ⟩) 0 1] 266)).cell? ⟨s,1,ζ⟩=γ (mf p):=by rw[fu _ _ _ (by simp;omega),fu _ _ _ a];exact c
 go_enter P2,Qa
 go_wp2
 refine oM 3 ?_
 iterate 3
  rw[oL]
  go_wp2
 refine oM 3 ?_
 iterate 3
  rw[oL]
  go_wp2
 go_ret
 exact⟨rfl,rfl⟩
abbrev YY(w:υ)(x:τ):υ:=((w.alloc (.cells #[.nilIface,.nilIface] 38)).alloc (.cells #[.slice (γ ⟨w.heap.size,0,ζ⟩) 0 2] 266)).alloc (.cells #[x] 38)
abbrev Ot(w:υ)(x:τ):υ:=((w.alloc (.cells #[x,.nilIface] 38)).alloc (.cells #[.slice (γ ⟨w.heap.size,0,ζ⟩) 1 2] 266)).alloc (.cells #[x] 38)
abbrev Ov(w:υ)(x y:τ):υ:=(((w.alloc (.cells #[x,y] 38)).alloc (.cells #[.slice (γ ⟨w.heap.size,0,ζ⟩) 2 2] 266)).alloc (.cells #[x] 38)).alloc (.cells #[y] 38)
def abl(w:υ)(p:c9):(qF #[263,263] 263 #[.slice (γ ⟨w.heap.size,0,ζ⟩) 0 2,.slice (γ ⟨w.heap.size+1+1,0,ζ⟩) 1 1]).run θ (YY w (mf p))=.ok (.slice (γ ⟨w.heap.size,0,ζ⟩) 1 2) ((YY w (mf p)).setRow w.heap.size #[mf p,.nilIface]):=by
 refine JH _ _ 0 2 _ (mf p) #[.nilIface,.nilIface] ?_ ?_ rfl (by omega) (by simp)
 ·rw[gj _ _ _ (by simp;omega),gj _ _ _ (by simp)]
  exact aaT w _
 ·rw[sb _ _ _ _ (by simp)]
  rfl
def abm(w:υ)(p q:c9):(qF #[263,263] 263 #[.slice (γ ⟨w.heap.size,0,ζ⟩) 1 2,.slice (γ ⟨w.heap.size+1+1+1,0,ζ⟩) 1 1]).run θ ((Ot w (mf p)).alloc (.cells #[mf q] 38))=.ok (.slice (γ ⟨w.heap.size,0,ζ⟩) 2 2) (((Ot w (mf p)).alloc (.cells #[mf q] 38)).setRow w.heap.size #[mf p,mf q]):=by
 refine JH _ _ 1 2 _ (mf q) #[mf p,.nilIface] ?_ ?_ rfl (by omega) (by simp)
 ·rw[gj _ _ _ (by simp;omega),gj _ _ _ (by simp;omega),gj _ _ _ (by simp)]
  exact aaT w _
 ·rw[sb _ _ _ _ (by simp)]
  rfl
def aa7(s:O)(p q:c9)(w:υ)(b:w.cell? ⟨s,0,ζ⟩=γ (mf p))(c:w.cell? ⟨s,1,ζ⟩=γ (mf q)):aH θ 243 #[.slice (γ ⟨s,0,ζ⟩) 2 2] w λe w'=>e=.returned (.iface 264 (.pointer (γ ⟨w.heap.size+1,0,ζ⟩)))/\w'=Ov w (mf p) (mf q):=by
 have d:=r_;have f:=mS2;have g:=abl w p;have h:=abm w p q;have a:s<w.heap.size:=kT b;have i:((w.alloc (.cells #[.nilIface,.nilIface] 38)).alloc (.cells #[.slice (γ ⟨w.heap.size,0,ζ⟩) 0 2] 266)).cell? ⟨s,0,ζ⟩=γ (mf p):=by rw[fu _ _ _ (by simp;omega),fu _ _ _ a];exact b
 have j:(Ot w (mf p)).cell? ⟨s,1,ζ⟩=γ (mf q):=by rw[fu _ _ _ (by simp;omega),fu _ _ _ (by simp;omega),fu _ _ _ a];exact c
 go_enter P2,Qa
 go_wp2
 refine oM 3 ?_
 iterate 3
  rw[oL]
  go_wp2
 refine oM 3 ?_
 iterate 3
  rw[oL]
  go_wp2
 go_ret
 exact⟨rfl,rfl⟩
def Vi(w:υ)(p:c9):n9 (.iface 264 (.pointer (γ ⟨w.heap.size+1,0,ζ⟩))) (Di w (mf p)):=by
 refine .inr ⟨_,⟨w.heap.size,0,ζ⟩,p,1,1,rfl,by omega,?_,?_⟩
 ·rw[fu _ _ _ (by simp),sb _ _ _ _ (by simp)]
  rfl
 ·rw[fu _ _ _ (by simp;omega),fu _ _ _ (by simp),sb _ _ _ _ (by simp)]
  rfl
def aiO(w:υ)(p q:c9):n9 (.iface 264 (.pointer (γ ⟨w.heap.size+1,0,ζ⟩))) (Ov w (mf p) (mf q)):=by
 refine .inr ⟨_,⟨w.heap.size,0,ζ⟩,p,2,2,rfl,by omega,?_,?_⟩
 ·rw[fu _ _ _ (by simp),fu _ _ _ (by simp),sb _ _ _ _ (by simp)]
  rfl
 ·rw[fu _ _ _ (by simp;omega),fu _ _ _ (by simp;omega),fu _ _ _ (by simp),sb _ _ _ _ (by simp)]
  rfl
def asE(w:υ)(x y:τ):Below w.heap.size w (Ov w x y):=((((tO _ w).alloc (aR _) _).alloc (by simp) _).alloc (by simp;omega) _).alloc (by simp;omega) _
def aiJ{a b:Z}{c:κ}(w:υ)(d:aD a 6 240=η)(f:aD b 6 240=ε):aH θ 201 #[.int .i64 a,.int .i64 b,.bool c] w λe w'=>∃v,e=.returned (.tuple #[.int .i64 0,v])/\n9 v w'/\Below w.heap.size w w':=by
 have g:=λw=>FB (n:=a) w d
 have i:=λw=>FC (n:=b) w f
 have l:=r_;have j:=aa8 (w.heap.size+1) ⟨w.heap.size,0,ζ⟩ ((w.alloc (.cells #[.int .i64 a] 244)).alloc (.cells #[mf ⟨w.heap.size,0,ζ⟩,.nilIface] 38)) (by simp) (by simp);clear d f
 go_enter H4,P'
 go_wp2_with fail
 go_at_call 244
 refine(g _).mono ?_;rintro e w' ⟨rfl,k⟩;subst w'
 go_wp2_with fail
 go_at_call 244
 refine(i _).mono ?_;rintro e w' ⟨rfl,k⟩;subst w'
 go_wp2_with fail
 go_at_call 243
 refine j.mono ?_;rintro e w' ⟨rfl,rfl⟩
 go_wp2_with fail
 go_ret2
 refine⟨.iface 264 (.pointer (γ ⟨w.heap.size+1+1+1,0,ζ⟩)),rfl,?_,(((tO _ w).alloc (aR _) _).alloc (by simp) _).trans ((Ou _ _).mono (by simp;omega))⟩;have h:=Vi ((w.alloc (.cells #[.int .i64 a] 244)).alloc (.cells #[mf ⟨w.heap.size,0,ζ⟩,.nilIface] 38)) ⟨w.heap.size,0,ζ⟩;simpa using h
def aiK{a b:Z}{c:κ}(w:υ)(d:aD a 6 240=ε)(f:aD b 6 240=η):aH θ 201 #[.int .i64 a,.int .i64 b,.bool c] w λe w'=>∃v,e=.returned (.tuple #[.int .i64 0,v])/\n9 v w'/\Below w.heap.size w w':=by
 have g:=λw=>FC (n:=a) w d
 have i:=λw=>FB (n:=b) w f
 have l:=r_;have j:=aa9 (w.heap.size+1) ⟨w.heap.size,0,ζ⟩ ((w.alloc (.cells #[.int .i64 b] 244)).alloc (.cells #[.nilIface,mf ⟨w.heap.size,0,ζ⟩] 38)) (by simp) (by simp);clear d f
 go_enter H4,P'
 go_wp2_with fail
 go_at_call 244
 refine(g _).mono ?_;rintro e w' ⟨rfl,k⟩;subst w'
 go_wp2_with fail
 go_at_call 244
 refine(i _).mono ?_;rintro e w' ⟨rfl,k⟩;subst w'
 go_wp2_with fail
 go_at_call 243
 refine j.mono ?_;rintro e w' ⟨rfl,rfl⟩
 go_wp2_with fail
 go_ret2
 refine⟨.iface 264 (.pointer (γ ⟨w.heap.size+1+1+1,0,ζ⟩)),rfl,?_,(((tO _ w).alloc (aR _) _).alloc (by simp) _).trans ((Ou _ _).mono (by simp;omega))⟩;have h:=Vi ((w.alloc (.cells #[.int .i64 b] 244)).alloc (.cells #[.nilIface,mf ⟨w.heap.size,0,ζ⟩] 38)) ⟨w.heap.size,0,ζ⟩;simpa using h
def aiI{a b:Z}{c:κ}(w:υ)(d:aD a 6 240=η)(f:aD b 6 240=η):aH θ 201 #[.int .i64 a,.int .i64 b,.bool c] w λe w'=>∃v,e=.returned (.tuple #[.int .i64 0,v])/\n9 v w'/\Below w.heap.size w w':=by
 have g:=λw=>FB (n:=a) w d
 have i:=λw=>FB (n:=b) w f
 have l:=r_;have j:=aa7 (w.heap.size+1+1) ⟨w.heap.size,0,ζ⟩ ⟨w.heap.size+1,0,ζ⟩ (((w.alloc (.cells #[.int .i64 a] 244)).alloc (.cells #[.int .i64 b] 244)).alloc (.cells #[mf ⟨w.heap.size,0,ζ⟩,mf ⟨w.heap.size+1,0,ζ⟩] 38)) (by rw[sb _ _ _ _ (by simp)];rfl) (by rw[sb _ _ _ _ (by simp)];rfl);clear d f
 go_enter H4,P'
 go_wp2_with fail
 go_at_call 244
 refine(g _).mono ?_;rintro e w' ⟨rfl,k⟩;subst w'
 go_wp2_with fail
 go_at_call 244
 refine(i _).mono ?_;rintro e w' ⟨rfl,k⟩;subst w'
 go_wp2_with fail
 go_at_call 243
 refine j.mono ?_;rintro e w' ⟨rfl,rfl⟩
 go_wp2_with fail
 go_ret2
 refine⟨.iface 264 (.pointer (γ ⟨w.heap.size+1+1+1+1,0,ζ⟩)),rfl,?_,((((tO _ w).alloc (aR _) _).alloc (by simp) _).alloc (by simp;omega) _).trans ((asE _ _ _).mono (by simp;omega))⟩;have h:=aiO (((w.alloc (.cells #[.int .i64 a] 244)).alloc (.cells #[.int .i64 b] 244)).alloc (.cells #[mf ⟨w.heap.size,0,ζ⟩,mf ⟨w.heap.size+1,0,ζ⟩] 38)) ⟨w.heap.size,0,ζ⟩ ⟨w.heap.size+1,0,ζ⟩;simpa using h
def aiH{a b:Z}(w:υ)(c:aD a 6 240=ε)(d:aD b 6 240=ε)(j:b>=a):aH θ 201 #[.int .i64 a,.int .i64 b,.bool ε] w λe w'=>∃v,e=.returned (.tuple #[.int .i64 0,v])/\n9 v w'/\Below w.heap.size w w':=by
 have f:=λw=>FC (n:=a) w c
 have g:=λw=>FC (n:=b) w d
 have k:=r_;have h:=aa_ w.heap.size (w.alloc (.cells #[.nilIface,.nilIface] 38)) (by simp) (by simp);clear c d
 go_enter H4,P'
 go_wp2_with fail
 go_at_call 244
 refine(f _).mono ?_;rintro e w' ⟨rfl,i⟩;subst w'
 go_wp2_with fail
 go_at_call 244
 refine(g _).mono ?_;rintro e w' ⟨rfl,i⟩;subst w'
 go_wp2_with fail
 go_at_call 243
 refine h.mono ?_;rintro e w' ⟨rfl,rfl⟩
 go_wp2_with fail
 go_ret2
 exact⟨_,rfl,.inl ⟨_,rfl⟩,((tO _ w).alloc (aR _) _).alloc (by simp) _⟩
def jn(a b:Z)(c:κ):κ:=aD a 6 240&&(aD b 6 240&& !(c&&ο (b>=a)))
def aiL{a b:Z}{c:κ}(w:υ)(h:jn a b c=η):aH θ 201 #[.int .i64 a,.int .i64 b,.bool c] w λe w'=>∃v,e=.returned (.tuple #[.int .i64 0,v])/\n9 v w'/\Below w.heap.size w w':=by
 cases f:aD a 6 240 with
 |false=>
  cases d:aD b 6 240 with
  |false=>exact aiI w f d
  |true=>exact aiJ w f d
 |true=>
  cases d:aD b 6 240 with
  |false=>exact aiK w f d
  |true=>
   cases c with
   |false=>rw[jn,f,d]at h;cases h
   |true=>
    have g:ο (b>=a)=ε:=by
     cases i:ο (b>=a)with
     |true=>rfl
     |false=>rw[jn,f,d,i]at h;cases h
    exact aiH w f d (aL g)
abbrev BI:Ex->E O:=cx [0,1] [0] [4]
def amU(a b:Z):a0 θ g0 100 K (a4 0 PQ) (aw 0 17 ((BI .normal).zip [.v (ι a),.v (ι b)])) [] (cJ 17 BI 0)=bif b != (0:Z)then Ω [!ο (b=(0:Z))] (ao.out .normal [vI b,vI (mK a b)] [])else ao.out (Ex.exit 0) [vI a] []:=by kernel_rfl
noncomputable abbrev LP(a b c:Z):O->χ Sum:=bJ 0 (bD 17 (BI .normal) 0 [.v (ι a),.v (ι b)] [] (λd=>d .normal (aw 0 17 [(0,.v (ι c))]) []))
def aq2(a b c:Z):ad θ g0 (LP a b c) 100 PQ [.v (ι a),.v (ι b)] [] (af 0)=Ω [cw ([vI a,vI b]=[vI a,vI b]/\ab [] [])] (rO [vI (if aj .i64 ((0:Z) -c)>c then aj .i64 ((0:Z) -c)else c)] []):=by kernel_rfl
def gv:O->Z->Z->Z
 |0,a,_=>a
 |n+1,a,b=>if b=0 then a else gv n b (a.tmod b)
def aoR(a b:Z):cp θ 0 (.block 0 (.loop (a4 0 PQ))) (bD 17 (BI .normal) 0 [.v (ι a),.v (ι b)] [] (λd=>d .normal (aw 0 17 [(0,.v (ι (gv (b.natAbs+1) a b)))]) [])):=by
 refine Bv bt (n:=100) (m:=0) (lv:=BI) (σ:=O×Z×Z) (λs=>[.v (ι s.2.1),.v (ι s.2.2)]) (λ_=>[]) (λs=>s.2.2.natAbs<s.1/\gv s.1 s.2.1 s.2.2=gv (b.natAbs+1) a b) (λs=>s.1) (b.natAbs+1,a,b) (λ_=>K) (du rfl rfl rfl) (aR _) ⟨ft _,rfl⟩ λd Q g s h=>⟨cT _ _ _,?_⟩
 obtain⟨n,x,y⟩:=s;obtain⟨f,e⟩:=h;rw[amU];cases n with
 |zero=>exact aO f (cN _)
 |succ n=>
  refine ay (λc=>?_) λc=>?_
  ·have c:y≠0:=by simpa using c
   have e:gv n y (x.tmod y)=gv (b.natAbs+1) a b:=by
    rw[<-e];show _=if y=0 then x else gv n y (x.tmod y)
    rw[bi c]
   have f:y.natAbs<n+1:=f;have k:(x.tmod y).natAbs<y.natAbs:=by rw[ZL];exact r7 _ (by omega)
   exact ag (by simp[aJ,c]) (Φ ⟨(n,y,x.tmod y),⟨⟨by show(x.tmod y).natAbs<n;omega,e⟩,ft _⟩,rfl,.nil⟩)
  ·have c:y=0:=by simpa using c
   have e:x=gv (b.natAbs+1) a b:=by
    rw[<-e];show _=if y=0 then x else gv n y (x.tmod y)
    rw[aP c]
   refine Φ ⟨_,.nil,?_⟩;rw[aP rfl];rw[<-e]at g;exact g
def mh(a b:Z):Z:=if aj a7 (0-gv (b.natAbs+1) a b)>gv (b.natAbs+1) a b then aj a7 (0-gv (b.natAbs+1) a b)else gv (b.natAbs+1) a b
def zU:E SA->χ FR
 |[.v (.int .i64 a),.v (.int .i64 b)]=>γ {val:=.v (ι (mh a b))}
 |_=>ζ
def MJ:au θ 91 (am [.val,.val] zU):=by
 refine bY bt func91 rfl λd e c f=>?_
 unfold zU at c;split at c
 ·rename_i a b
  cases c;refine⟨[],LP a b (gv (b.natAbs+1) a b),100,.nil,cz (by kernel_rfl) (aoR a b),?_⟩;show aC (ad θ g0 (LP a b (gv (b.natAbs+1) a b)) 100 PQ [.v (ι a),.v (ι b)] [] (af 0)) _
  rw[aq2];exact ag (by rw[F];exact⟨cg ⟨rfl,.nil⟩,rfl⟩) (Φ ⟨_,rfl,rfl,.nil⟩)
 ·cases c
def SM:∀(n:O)(a b:Z),b.natAbs<n->(gv n a b).natAbs=zE a.natAbs b.natAbs
 |0,_,_,h=>aO h (cN _)
 |n+1,a,b,h=>by
  unfold gv;split
  ·rename_i c
   subst c;simp
  ·rename_i c
   have e:(a.tmod b).natAbs=a.natAbs%b.natAbs:=ZL _ _;have d:a.natAbs%b.natAbs<b.natAbs:=r7 _ (by omega);rw[SM n b (a.tmod b) (by omega),e,Nat.gcd_comm a.natAbs,Nat.gcd_rec b.natAbs a.natAbs,Nat.gcd_comm]
def FA{a b:Z}(e: -1000000000000<=a/\a<=1000000000000)(f: -1000000000000<=b/\b<=1000000000000):mh a b=(zE a.natAbs b.natAbs:Z):=by
 have h:=SM (b.natAbs+1) a b (ft _);have c:zE a.natAbs b.natAbs<=1000000000000:=by
  by_cases d:a.natAbs=0
  ·rw[d,Nat.gcd_zero_left]
   omega
  ·exact cD (Nat.gcd_le_left _ (by omega)) (by omega)
 unfold mh;rw[bR (by omega)];split<;>omega
def arq(s r:Z):ad θ g0 K 100 f171 [.v (ι s),.v (ι r)] [] (af 0)=rO [AV.agg [vI s,vI r,vI 0,vI 0,vI 0,vI 0,vI 0,vI 0,vI 0]] []:=by kernel_rfl
def I8:E SA->χ FR
 |[.v (.int .i64 s),.v (.int .i64 r)]=>γ {val:=.agg [.v (ι s),.v (ι r),.v (ι 0),.v (ι 0),.v (ι 0),.v (ι 0),.v (ι 0),.v (ι 0),.v (ι 0)]}
 |_=>ζ
def akO:au θ 171 (am [.val,.val] I8):=by
 refine bY bt func171 rfl λb c a d=>?_
 unfold I8 at a;split at a
 ·rename_i s r
  cases a;refine⟨[],K,100,.nil,dq _,?_⟩;show aC (ad θ g0 K 100 f171 [.v (ι s),.v (ι r)] [] (af 0)) _
  rw[arq];exact Φ ⟨_,rfl,rfl,.nil⟩
 ·cases a
def QD(gf:Z->Z->Z):E SA->χ FR
 |[.v (.int .i64 a),.v (.int .i64 b)]=>γ {val:=.v (ι (gf a b))}
 |_=>ζ
def NR{P:aF}{f:bq}{mds:E Md}{a y:E SA->χ FR}(h:∀sas b,y sas=γ b->∃j,a sas=γ j/\j.val=b.val/\j.new=b.new/\j.put=b.put/\(aJ b.ap=ε->aJ j.ap=ε))(hs:au P f (am mds a)):au P f (am mds y):=by
 refine⟨hs.1,λk H g X A l w c B C D p G m n=>?_⟩;unfold am at c;split at c
 case h_2=>cases c
 rename_i i q;split at c
 case h_2=>cases c
 rename_i b I;obtain⟨j,e,L,M,N,Q⟩:=h _ _ I;split at c
 case h_2=>cases c
 rename_i R r;cases s:((!n5 mds||iZ ((d_ mds i).filterMap id))&&b.new.all lh&&ai (bI mds (i.map (·.sa)) b.put).length (bK mds (i.map (·.sa))).length)with
 |false=>rw[s]at c;cases c
 |true=>
 rw[s]at c;simp only[aZ,ar]at c;subst c;have o:aJ (i.flatMap (·.ob))=ε/\aJ b.ap=ε:=by simpa[aJ,gC]using B
 have t:am mds a k H g=γ {val:=R,rd:=(d_ mds i).filterMap id,put:=fI (d_ mds i) (bI mds (i.map (·.sa)) b.put),new:=b.new,ap:=i.flatMap (·.ob)++j.ap}:=by unfold am;rw[q];simp only[e];rw[L,M,N,r];simp only[s];rfl
 refine(hs.2 k H g _ A l w t (by simpa[aJ,gC]using And.intro o.1 (Q o.2)) C D p G m (n.call λx z=>by first|exact z|cases z)).mono ?_;rintro e w' ⟨v,u,rfl,d⟩;exact⟨v,u,rfl,d.le,d.b6,d.val,d.put,d.new,d.os,d.tape,d.output,d.size,d.block,d.fresh,d.apart⟩
def Jj(t:E Wh->E Wh)(u:E Wh->κ):E SA->χ FR
 |[.row 2 g]=>match g 0,g 1 with
  |[.int .i64 a,.int .i64 b,.int .i64 c,.int .i64 d,.int .i64 e,.int .i64 f,.int .i64 h,.int .i64 i,.int .i64 j],[.int .i64 k,.int .i64 l,.int .i64 m,.int .i64 n,.int .i64 o,.int .i64 p,.int .i64 q,.int .i64 r,.int .i64 s]=>γ {val:=.Ψ [.own 0 (t [⟨a,⟨b,c,d,e,f,h,i,j⟩⟩,⟨k,⟨l,m,n,o,p,q,r,s⟩⟩]).length,.v (.bool (u [⟨a,⟨b,c,d,e,f,h,i,j⟩⟩,⟨k,⟨l,m,n,o,p,q,r,s⟩⟩]))],new:=[.row ε (t [⟨a,⟨b,c,d,e,f,h,i,j⟩⟩,⟨k,⟨l,m,n,o,p,q,r,s⟩⟩]).length 9 (J (Y (t [⟨a,⟨b,c,d,e,f,h,i,j⟩⟩,⟨k,⟨l,m,n,o,p,q,r,s⟩⟩]))) 112]}
  |_,_=>ζ
 |_=>ζ
def alh:au θ 96 (am bP (Jj bv bg)):=by
 have h:=Gz;rw[<-Ek]at h;refine NR (λf C a=>?_) h;unfold Jj at a;split at a
 ·rename_i g
  split at a
  ·rename_i i k l m n o p q r s t u v w x y z A b c
   cases a;have d:V (ξ g) 2=[⟨i,⟨k,l,m,n,o,p,q,r⟩⟩,⟨s,⟨t,u,v,w,x,y,z,A⟩⟩]:=by
    show[bm (ξ g 0),bm (ξ g 1)]=_
    unfold bm ξ;rw[b,c];rfl
   refine⟨_,rfl,by simp only[d],by simp only[d],rfl,?_⟩
   ·have B:ak 2 g=ε:=bX.2 λj e=>by
     have e:j<2:=by simpa using e
     rcases(by omega:j=0\/j=1)with rfl|rfl
     ·rw[b];rfl
     ·rw[c];rfl
    intro _;simp only[F,ah,aa];exact⟨B,by decide⟩
  ·cases a
 ·cases a
def K2(gf:Z->Z->Z)(b:E Wh->E Wh)(a:E Wh->κ):aE:=ext (ext (ext m4 91 (am [.val,.val] (QD gf))) 171 (am [.val,.val] I8)) 96 (am bP (Jj b a))
def arz(gf:Z->Z->Z)(h:E Wh->E Wh)(f:E Wh->κ)(a b:Z)(c:κ)(d:Z):let e:=(0:Z);let j:=[AV.Ψ [AV.own 0 0,vB η]];let k:=[AB.row ε 0 9 (λ_=>[]) 112];let g:= !ο (gf a b=e);let n:=(aj .i64 (eU b (gf a b)));let o:=(aj .i64 (a+b));let l:=[Wh.mk n (Cy.mk o e e e e e e e),Wh.mk (aj .i64 (eU o (gf a b))) (Cy.mk (aj .i64 (e-d)) e e e e e e e)];let m:=[Wh.mk n (Cy.mk (aj .i64 (a-b)) e e e e e e e),Wh.mk (aj .i64 (eU (aj .i64 (b-a)) (gf a b))) (Cy.mk d e e e e e e e)];let p:=(b_ (h m));let i:=(b_ (h l));let q:=(bif !aD d (-300:Z) (300:Z)then rO j k else bif c then Ω [g,g] (rO [AV.Ψ [AV.own 0 p,AV.v (.bool (f m))]] [AB.row ε p 9 (J (Y (h m))) 112])else Ω [g,g] (rO [AV.Ψ [AV.own 0 i,AV.v (.bool (f l))]] [AB.row ε i 9 (J (Y (h l))) 112]));ad θ (K2 gf h f) K 100 f98 [.v (ι a),.v (ι b),.v (.bool c),.v (ι d)] [] (af 0)
 =bif !aD a (6:Z) (240:Z)then rO j k else bif !aD b (6:Z) (240:Z)then rO j k else bif c then bif ο (b>=a)then rO j k else Ω [g] q else Ω [g] q:=by intros;kernel_rfl
def I_(rd:Z->Z->κ->Z->E Wh)(e:Z->Z->κ->Z->κ):E SA->χ FR
 |[.v (.int .i64 a),.v (.int .i64 b),.v (.bool c),.v (.int .i64 d)]=>γ {val:=.Ψ [.own 0 (rd a b c d).length,.v (.bool (e a b c d))],new:=[.row ε (rd a b c d).length 9 (J (Y (rd a b c d))) 112]}
 |_=>ζ
def kg(a b:Z)(c:κ)(d:Z):κ:=aD a 6 240&&(aD b 6 240&&(!(c&&ο (b>=a))&&aD d (-300) 300))
def pi(a b:Z)(c:κ)(d:Z):E Wh:=bif c then[⟨aj a7 (eU b (mh a b)),⟨aj a7 (a-b),0,0,0,0,0,0,0⟩⟩,⟨aj a7 (eU (aj a7 (b-a)) (mh a b)),⟨d,0,0,0,0,0,0,0⟩⟩]else[⟨aj a7 (eU b (mh a b)),⟨aj a7 (a+b),0,0,0,0,0,0,0⟩⟩,⟨aj a7 (eU (aj a7 (a+b)) (mh a b)),⟨aj a7 (0-d),0,0,0,0,0,0,0⟩⟩]
def gy(a b:Z)(c:κ)(d:Z):E Wh:=bif kg a b c d then bv (pi a b c d)else[]
def fJ(a b:Z)(c:κ)(d:Z):κ:=kg a b c d&&bg (pi a b c d)
def aga:aK θ (K2 mh bv bg):=by
 refine az (az (az p0 ?_) akO) alh;have e:QD mh=zU:=by funext l;rfl
 rw[e];exact MJ
def SN{a b:Z}(c:aD a 6 240=ε)(d:aD b 6 240=ε):mh a b≠0:=by have c:=b9.1 c;have d:=b9.1 d;rw[FA (by omega) (by omega)];have:0<zE a.natAbs b.natAbs:=Nat.gcd_pos_of_pos_left _ (by omega);omega
def Nj{a b:Z}{c:κ}{d:Z}(h:kg a b c d=η):gy a b c d=[]/\fJ a b c d=η:=⟨by rw[gy,h];rfl,by rw[fJ,h];rfl⟩
def yK{a b:Z}{c:κ}{d:Z}(h:kg a b c d=ε):gy a b c d=bv (pi a b c d)/\fJ a b c d=bg (pi a b c d):=⟨by rw[gy,h];rfl,by rw[fJ,h,dD]⟩
def akV:au θ 98 (am [.val,.val,.val,.val] (I_ gy fJ)):=by
 refine bY aga func98 rfl λp s l t=>?_
 unfold I_ at l;split at l
 ·rename_i a b c d
  cases l;refine⟨[],K,100,.nil,dq _,?_⟩;show aC (ad θ (K2 mh bv bg) K 100 f98 [.v (ι a),.v (ι b),.v (.bool c),.v (ι d)] [] (af 0)) _
  rw[arz];have e:kg a b c d=η->aC (.out .ret [.Ψ [.own 0 0,.v (.bool η)]] [.row ε 0 9 (λ_=>[]) 112]) (dV (bI [.val,.val,.val,.val] [.v (ι a),.v (ι b),.v (.bool c),.v (ι d)] []) {val:=.Ψ [.own 0 (gy a b c d).length,.v (.bool (fJ a b c d))],new:=[.row ε (gy a b c d).length 9 (J (Y (gy a b c d))) 112]}):=by intro h;rw[(Nj h).1,(Nj h).2];exact Φ ⟨_,rfl,rfl,.cons (Ξ.row λj q=>aO q (cN _)) .nil⟩
  have i:∀M:E Wh,kg a b c d=ε->pi a b c d=M->aC (.out .ret [.Ψ [.own 0 (bv M).length,.v (.bool (bg M))]] [.row ε (bv M).length 9 (J (Y (bv M))) 112]) (dV (bI [.val,.val,.val,.val] [.v (ι a),.v (ι b),.v (.bool c),.v (ι d)] []) {val:=.Ψ [.own 0 (gy a b c d).length,.v (.bool (fJ a b c d))],new:=[.row ε (gy a b c d).length 9 (J (Y (gy a b c d))) 112]}):=by rintro M h rfl;rw[(yK h).1,(yK h).2];exact Φ ⟨_,rfl,rfl,ab.refl _⟩
  cases f:aD a 6 240 with
  |false=>exact eS rfl (e (by rw[kg,f];rfl))
  |true=>
  refine cL rfl ?_;cases g:aD b 6 240 with
  |false=>exact eS rfl (e (by rw[kg,f,g];rfl))
  |true=>
  refine cL rfl ?_;have r:ο (mh a b=0)=η:=eJ (SN f g);rw[r];cases c with
  |true=>
   refine eS rfl ?_;cases o:ο (b>=a)with
   |true=>exact eS rfl (e (by rw[kg,f,g,o];rfl))
   |false=>
   refine cL rfl (ag rfl ?_);cases k:aD d (-300) 300 with
   |false=>exact eS rfl (e (by rw[kg,f,g,o,k];rfl))
   |true=>exact cL rfl (eS rfl (ag rfl (i _ (by rw[kg,f,g,o,k];rfl) rfl)))
  |false=>
   refine cL rfl (ag rfl ?_);cases k:aD d (-300) 300 with
   |false=>exact eS rfl (e (by rw[kg,f,g,k];rfl))
   |true=>exact cL rfl (cL rfl (ag rfl (i _ (by rw[kg,f,g,k];rfl) rfl)))
 ·cases l
def fe(a b:Z):Z:=(zE a.natAbs b.natAbs:Z)
def uk(gf:Z->Z->Z):E SA->χ FR
 |[.v (.int .i64 a),.v (.int .i64 b)]=>γ {val:=.v (ι (gf a b)),ap:=[aD a (-1000000000000) 1000000000000,aD b (-1000000000000) 1000000000000]}
 |_=>ζ
def akm:au θ 91 (am [.val,.val] (uk fe)):=by
 refine⟨MJ.1,λh H f Q u i w c y z A p B j k=>?_⟩;unfold am at c;split at c
 case h_2=>cases c
 rename_i g q;split at c
 case h_2=>cases c
 rename_i C n;unfold uk at n;split at n
 case h_2=>cases n
 rename_i a b l;cases n;have D:=c;simp only[ls]at c;cases o:((!n5 [Md.val,Md.val]||iZ ((d_ [Md.val,Md.val] g).filterMap id))&&([]:E AB).all lh&&ai (bI [Md.val,Md.val] (g.map (·.sa)) []).length (bK [Md.val,Md.val] (g.map (·.sa))).length)with
 |false=>rw[o]at c;cases c
 |true=>
 rw[o]at c;simp only[aZ,ar]at c;subst c;have m:aJ (g.flatMap (·.ob))=ε/\aJ [aD a (-1000000000000) 1000000000000,aD b (-1000000000000) 1000000000000]=ε:=by simpa[aJ,gC]using y
 have r:=m.2;simp only[F]at r;have G:=b9.1 r.1;have I:=b9.1 r.2.1;have s:am [.val,.val] zU h H f=γ {val:=.v (ι (fe a b)),rd:=(d_ [Md.val,Md.val] g).filterMap id,put:=fI (d_ [Md.val,Md.val] g) (bI [Md.val,Md.val] (g.map (·.sa)) []),new:=[],ap:=g.flatMap (·.ob)++[]}:=by unfold am;rw[q];simp only[l,zU,ls,FA G I];rw[l]at o;simp only[o];rfl
 refine(MJ.2 h H f _ u i w s (by simpa[aJ,gC]using m.1) z A p B j (k.call λx l=>by first|exact l|cases l)).mono ?_;rintro e S ⟨v,t,rfl,d⟩;exact⟨v,t,rfl,d.le,d.b6,d.val,d.put,d.new,d.os,d.tape,d.output,d.size,d.block,d.fresh,d.apart⟩
abbrev BJ:Ex->E O:=cx [0,1] [0] [4]
def amV(a b:Z):a0 θ g0 100 K (a4 0 Pz) (aw 0 15 ((BJ .normal).zip [.v (ι a),.v (ι b)])) [] (cJ 15 BJ 0)=bif b != (0:Z)then Ω [!ο (b=(0:Z))] (ao.out .normal [vI b,vI (mK a b)] [])else ao.out (Ex.exit 0) [vI a] []:=by kernel_rfl
noncomputable abbrev LQ(a b c:Z):O->χ Sum:=bJ 0 (bD 15 (BJ .normal) 0 [.v (ι a),.v (ι b)] [] (λd=>d .normal (aw 0 15 [(0,.v (ι c))]) []))
def aq3(a b c:Z):ad θ g0 (LQ a b c) 100 Pz [.v (ι a),.v (ι b)] [] (af 0)=Ω [cw ([vI a,vI b]=[vI a,vI b]/\ab [] [])] (rO [vI (if aj .i64 ((0:Z) -c)>c then aj .i64 ((0:Z) -c)else c)] []):=by kernel_rfl
def aoS(a b:Z):cp θ 0 (.block 0 (.loop (a4 0 Pz))) (bD 15 (BJ .normal) 0 [.v (ι a),.v (ι b)] [] (λd=>d .normal (aw 0 15 [(0,.v (ι (gv (b.natAbs+1) a b)))]) [])):=by
 refine Bv bt (n:=100) (m:=0) (lv:=BJ) (σ:=O×Z×Z) (λs=>[.v (ι s.2.1),.v (ι s.2.2)]) (λ_=>[]) (λs=>s.2.2.natAbs<s.1/\gv s.1 s.2.1 s.2.2=gv (b.natAbs+1) a b) (λs=>s.1) (b.natAbs+1,a,b) (λ_=>K) (du rfl rfl rfl) (aR _) ⟨ft _,rfl⟩ λd Q g s h=>⟨cT _ _ _,?_⟩
 obtain⟨n,x,y⟩:=s;obtain⟨f,e⟩:=h;rw[amV];cases n with
 |zero=>exact aO f (cN _)
 |succ n=>
  refine ay (λc=>?_) λc=>?_
  ·have c:y≠0:=by simpa using c
   have e:gv n y (x.tmod y)=gv (b.natAbs+1) a b:=by
    rw[<-e];show _=if y=0 then x else gv n y (x.tmod y)
    rw[bi c]
   have f:y.natAbs<n+1:=f;have k:(x.tmod y).natAbs<y.natAbs:=by rw[ZL];exact r7 _ (by omega)
   exact ag (by simp[aJ,c]) (Φ ⟨(n,y,x.tmod y),⟨⟨by show(x.tmod y).natAbs<n;omega,e⟩,ft _⟩,rfl,.nil⟩)
  ·have c:y=0:=by simpa using c
   have e:x=gv (b.natAbs+1) a b:=by
    rw[<-e];show _=if y=0 then x else gv n y (x.tmod y)
    rw[aP c]
   refine Φ ⟨_,.nil,?_⟩;rw[aP rfl];rw[<-e]at g;exact g
def VQ:au θ 142 (am [.val,.val] (uk fe)):=by
 refine bY bt func142 rfl λf i c d=>?_
 unfold uk at c;split at c
 ·rename_i a b
  cases c;simp only[F]at d;obtain⟨g,h,_⟩:=d;have e:=FA (b9.1 g) (b9.1 h);refine⟨[],LQ a b (gv (b.natAbs+1) a b),100,.nil,cz (by kernel_rfl) (aoS a b),?_⟩;show aC (ad θ g0 (LQ a b (gv (b.natAbs+1) a b)) 100 Pz [.v (ι a),.v (ι b)] [] (af 0)) _
  rw[aq3];refine ag (by rw[F];exact⟨cg ⟨rfl,.nil⟩,rfl⟩) (Φ ⟨_,rfl,?_,.nil⟩);show[AV.v (ι (mh a b))]=[AV.v (ι (fe a b))]
  rw[e];rfl
 ·cases c
def Ba(gf:Z->Z->Z):aE:=ext (ext g0 142 (am [.val,.val] (uk gf))) 91 (am [.val,.val] (uk gf))
def uT(yI:E Wh->κ)(tI:E Wh->E Wh):aE:=ext (ext g0 139 (rS bP (Er yI tI))) 89 (am bP (pL yI tI))
noncomputable abbrev Kf:cA:=f77
noncomputable abbrev Kg:cA:=f44
abbrev p5(m:O)(f:ω)(k:O)(g:ω):E AB:=[.row η m 9 (J f) 112,.row η k 9 (J g) 112]
abbrev p6(m:O)(f:ω)(k:O)(g:ω):E AB:=[.row η m 9 (J f) 112,.row ε k 9 (J g) 112]
abbrev j4(m:O)(f:ω):E AB:=[.row η m 9 (J f) 112]
abbrev BN:Ex->E O:=cx [5,15,16,17] [5] [2]
abbrev CX(k:O)(x:Z)(i:O):E AV:=[.v (ι x),.sl 1 9 0 0 k (γ k),.v (ι k),.v (ι i)]
def am5(gf:Z->Z->Z)(m:O)(f:ω)(k:O)(g:ω)(x:Z)(i:O):let a:=(↑i:Z);let c:=AB.row η m 9 (J f) 112;let d:=(g (0+a5 a) 0);let e:=(-1000000000000:Z);let h:=(1000000000000:Z);let b:=(↑k:Z);a0 θ (Ba gf) 100 K (a4 0 Kf) (aw 0 27 ((BN .normal).zip (CX k x i))) (p5 m f k g) (cJ 27 BN 1)
 =bif ο (a<b)then Ω [ο (a<b),ο (0+a5 a<k),aD x e h,aD d e h] (ao.out .normal [vI (gf x d),AV.sl 1 9 0 0 k (γ k),vI b,vI (aj .i64 (a+(1:Z)))] [c,AB.row η k 9 (J g) 112])else ao.out (Ex.exit 0) [vI x] [c]:=by intros;kernel_rfl
noncomputable abbrev ahM(m:O)(f:ω)(k:O)(g:ω)(x:Z):O->χ Sum:=bJ 0 (bD 27 (BN .normal) 1 (CX k 0 0) (p5 m f k g) (λa=>a .normal (aw 0 27 [(5,.v (ι x))]) (j4 m f)))
def ars(yI:E Wh->κ)(tI:E Wh->E Wh)(m:O)(f:ω)(k:O)(g:ω)(x:Z):let b:=(V (ξ λq=>J f (0+q)) m);let a:=(b_ (tI b));let c:=AB.row η m 9 (J f) 112;ad θ (uT yI tI) (ahM m f k g x) 100 Kf [.sl 0 9 0 0 m ζ] (j4 m f) (af 1)
 =Ω [Θ (0+m) m,ak m λq=>J f (0+q),ο (m<=274877906944)] (bif !yI b then rO [vI (-1:Z)] [c]else Ω [cw ([vI 0,AV.sl 1 9 0 0 a (γ a),vI (↑a:Z),vI 0]=CX k (0:Z) 0/\ab [c,AB.row η a 9 (J (Y (tI b))) 112] (p5 m f k g))] (rO [vI x] [c])):=by intros;kernel_rfl
abbrev BO:Ex->E O:=cx [3,5,6] [5] [2]
abbrev CY(k:O)(x:Z)(i:O):E AV:=[.own 1 k,.v (ι x),.v (ι i)]
def am6(gf:Z->Z->Z)(m:O)(f:ω)(k:O)(g:ω)(x:Z)(i:O):let a:=(↑i:Z);let b:=AB.row η m 9 (J f) 112;let c:=(-1000000000000:Z);let d:=(1000000000000:Z);let e:=(g (a5 a) 0);a0 θ (Ba gf) 100 K (a4 0 Kg) (aw 0 28 ((BO .normal).zip (CY k x i))) (p6 m f k g) (cJ 28 BO 1)
 =bif ο (a<(↑k:Z))then Ω [ο (a<(↑k:Z)),ο (a5 a<k),aD x c d,aD e c d] (ao.out .normal [AV.own 1 k,vI (gf x e),vI (aj .i64 (a+(1:Z)))] [b,AB.row ε k 9 (J g) 112])else ao.out (Ex.exit 0) [vI x] [b]:=by intros;kernel_rfl
noncomputable abbrev ahN(m:O)(f:ω)(k:O)(g:ω)(x:Z):O->χ Sum:=bJ 0 (bD 28 (BO .normal) 1 (CY k 0 0) (p6 m f k g) (λa=>a .normal (aw 0 28 [(5,.v (ι x))]) (j4 m f)))
def art(yI:E Wh->κ)(tI:E Wh->E Wh)(m:O)(f:ω)(k:O)(g:ω)(x:Z):let a:=(V (ξ λq=>J f (0+q)) m);let b:=AB.row η m 9 (J f) 112;let c:=(b_ (tI a));ad θ (uT yI tI) (ahN m f k g x) 100 Kg [.sl 0 9 0 0 m ζ] (j4 m f) (af 1)
 =Ω [Θ (0+m) m,ak m λq=>J f (0+q),ο (m<=274877906944)] (bif !yI a then rO [vI (-1:Z)] [b]else Ω [cw ([AV.own 1 c,vI 0,vI 0]=CY k (0:Z) 0/\ab [b,AB.row ε c 9 (J (Y (tI a))) 112] (p6 m f k g))] (rO [vI x] [b])):=by intros;kernel_rfl
noncomputable abbrev Ki:cA:=f76
noncomputable abbrev Kj:cA:=f43
abbrev BP:Ex->E O:=cx [3,5,15,16,17] [5] [2]
abbrev CZ(k:O)(x:Z)(i:O):E AV:=[.sl 1 9 0 0 k (γ k),.v (ι x),.sl 1 9 0 0 k (γ k),.v (ι k),.v (ι i)]
def am7(gf:Z->Z->Z)(m:O)(f:ω)(k:O)(g:ω)(x:Z)(i:O):let a:=(↑i:Z);let b:=(↑k:Z);let c:=AB.row η m 9 (J f) 112;let d:=AV.sl 1 9 0 0 k (γ k);let e:=(-1000000000000:Z);let h:=(1000000000000:Z);let j:=(aj .i64 (g (0+a5 a) 0-g 0 0));a0 θ (Ba gf) 100 K (a4 0 Ki) (aw 0 32 ((BP .normal).zip (CZ k x i))) (p5 m f k g) (cJ 32 BP 1)
 =bif ο (a<b)then Ω [ο (a<b),ο (0+a5 a<k),ο ((0:Z)<b),ο (0<k),aD x e h,aD j e h] (ao.out .normal [d,vI (gf x j),d,vI b,vI (aj .i64 (a+(1:Z)))] [c,AB.row η k 9 (J g) 112])else ao.out (Ex.exit 0) [vI x] [c]:=by intros;kernel_rfl
noncomputable abbrev ahO(m:O)(f:ω)(k:O)(g:ω)(x:Z):O->χ Sum:=bJ 0 (bD 32 (BP .normal) 1 (CZ k 0 0) (p5 m f k g) (λa=>a .normal (aw 0 32 [(5,.v (ι x))]) (j4 m f)))
def arv(yI:E Wh->κ)(tI:E Wh->E Wh)(m:O)(f:ω)(k:O)(g:ω)(x:Z):let b:=(V (ξ λq=>J f (0+q)) m);let c:=AB.row η m 9 (J f) 112;let a:=(b_ (tI b));let d:=AV.sl 1 9 0 0 a (γ a);ad θ (uT yI tI) (ahO m f k g x) 100 Ki [.sl 0 9 0 0 m ζ] (j4 m f) (af 1)
 =Ω [Θ (0+m) m,ak m λq=>J f (0+q),ο (m<=274877906944)] (bif !yI b then rO [vI (-1:Z)] [c]else Ω [cw ([d,vI 0,d,vI (↑a:Z),vI 0]=CZ k (0:Z) 0/\ab [c,AB.row η a 9 (J (Y (tI b))) 112] (p5 m f k g))] (rO [vI x] [c])):=by intros;kernel_rfl
abbrev BQ:Ex->E O:=cx [3,5,6] [5] [2]
abbrev vO(k:O)(x:Z)(i:O):E AV:=[.own 1 k,.v (ι x),.v (ι ((i:Z)+1))]
def am8(gf:Z->Z->Z)(m:O)(f:ω)(k:O)(g:ω)(x:Z)(i:O):let b:=(↑i:Z);let a:=(1:Z);let d:=AB.row η m 9 (J f) 112;let e:=(-1000000000000:Z);let c:=(↑k:Z);let h:=(1000000000000:Z);let j:=(aj .i64 (g (a5 (b+a)) 0-g 0 0));a0 θ (Ba gf) 100 K (a4 0 Kj) (aw 0 33 ((BQ .normal).zip (vO k x i))) (p6 m f k g) (cJ 33 BQ 1)
 =bif ο (b+a<c)then Ω [ο (b+a<c),ο (a5 (b+a)<k),ο ((0:Z)<c),ο (0<k),aD x e h,aD j e h] (ao.out .normal [AV.own 1 k,vI (gf x j),vI (aj .i64 (b+a+a))] [d,AB.row ε k 9 (J g) 112])else ao.out (Ex.exit 0) [vI x] [d]:=by intros;kernel_rfl
noncomputable abbrev ahP(m:O)(f:ω)(k:O)(g:ω)(x:Z):O->χ Sum:=bJ 0 (bD 33 (BQ .normal) 1 (vO k 0 0) (p6 m f k g) (λa=>a .normal (aw 0 33 [(5,.v (ι x))]) (j4 m f)))
def arw(yI:E Wh->κ)(tI:E Wh->E Wh)(m:O)(f:ω)(k:O)(g:ω)(x:Z):let a:=(V (ξ λq=>J f (0+q)) m);let b:=AB.row η m 9 (J f) 112;let c:=(b_ (tI a));ad θ (uT yI tI) (ahP m f k g x) 100 Kj [.sl 0 9 0 0 m ζ] (j4 m f) (af 1)
 =Ω [Θ (0+m) m,ak m λq=>J f (0+q),ο (m<=274877906944)] (bif !yI a then rO [vI (-1:Z)] [b]else Ω [cw ([AV.own 1 c,vI 0,vI 1]=vO k (0:Z) 0/\ab [b,AB.row ε c 9 (J (Y (tI a))) 112] (p6 m f k g))] (rO [vI x] [b])):=by intros;kernel_rfl
end
end Go.Proofs.YtlmbkhplhkdhlaaGreatDoor
